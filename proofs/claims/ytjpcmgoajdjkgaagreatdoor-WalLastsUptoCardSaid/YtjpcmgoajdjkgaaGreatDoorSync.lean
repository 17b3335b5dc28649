/- A disk's Sync and Truncate. -/
import Derived.Test.YtjpcmgoajdjkgaaGreatDoorThere
set_option linter.all false
namespace Go.Proofs.YtjpcmgoajdjkgaaGreatDoor
open Go.RowKit

theorem file_len {D : DiskM} (h : D.Fits) {f : FileM} (hf : f ∈ D.files) : f.b.length ≤ 1073741824 := by
  obtain ⟨h1, h2, h3, _⟩ := h
  have := le_sumLen hf
  omega

theorem heap_setCell_ne {w : World} {b i : Nat} {v : Value} {x : Nat} {o : Obj} (h : w.heap[x]? = some o) (hx : x ≠ b) : (w.setCell ⟨b, i, none⟩ v).heap[x]? = some o :=
  (Below.heap_setCell w ⟨b, i, none⟩ v x hx).trans h

set_option maxRecDepth 100000 in
set_option maxHeartbeats 400000 in
theorem sync_c (n bd : Nat) (D : DiskM) (s : List UInt8) (hm : s.length ≤ 4611686018427387904) (w : World) (hD : DiskR n w bd D) :
    Calls Tryz.prog 62 #[.pointer (some ⟨bd, 0, none⟩), .string ⟨s.toArray⟩] w fun e w' =>
      e = .returned (.int .i64 (D.sync s).2) ∧ DiskR n w' bd (D.sync s).1 ∧ Turn n [some 78, some 85] w w' := by
  have hb0 := bnew w (.cells #[.string ⟨s.toArray⟩] 9)
  have hTh := there_c n bd D s hm w.heap.size 0 1 _ (hD.below hb0) (fun W hW => by
    have h1 := hW.block w.heap.size _ (heap_alloc_new w _) (.inr (by simp [tagOf]))
    rw [Joins.cell_of_block h1 0]; rfl)
  have HT := Lib.hid hTh; clear hTh hD
  have HB := Lib.hid hb0; clear hb0
  obtain ⟨RD, hrd⟩ : ∃ R, D.sync s = R := ⟨_, rfl⟩
  rw [hrd]
  unfold DiskM.sync at hrd
  go_enter Tryz.func62, Tryz.ntmps62
  go_wp2_with fail
  refine HT.out.mono ?_
  rintro e W ⟨hT, ⟨k, hk, hk0, rfl, hR⟩ | ⟨h0, hn, rfl, hR⟩ | ⟨h0, bm, clock, pv, xs, x, hX, hx, rfl⟩⟩
  · rw [if_pos (by rw [hk]; exact hk0)] at hrd
    have hrd2 : RD.2 = k := by rw [← hrd]; exact hk
    have hrd1 : RD.1 = (D.step (dnameB s)).1 := by rw [← hrd]
    have HQ := Lib.hid (And.intro hT hR); clear hT hR hk hrd
    have HR2 := Lib.hid (And.intro hrd1 hrd2); clear hrd1 hrd2
    go_wp2
    go_ret
    rw [HR2.out.1, HR2.out.2]
    exact ⟨rfl, HQ.out.2, ((Turn.of_below HB.out).trans HQ.out.1).mono (Nat.le_refl _) (by simp)⟩
  · rw [if_neg (by rw [h0]; simp), hn] at hrd
    subst hrd
    have HQ := Lib.hid (And.intro hT hR); clear hT hR h0 hn
    go_wp2
    go_ret
    exact ⟨rfl, HQ.out.2, ((Turn.of_below HB.out).trans HQ.out.1).mono (Nat.le_refl _) (by simp)⟩
  · obtain ⟨e1, e2, e3⟩ := entAt_some hx
    have e4 : fileAt D.files s = some x.f := by rw [← (step_keeps D (dnameB s)).1, ← hX.same]; exact e1
    rw [if_neg (by rw [h0]; simp), e4] at hrd
    subst hrd
    obtain ⟨hxn, v, hb, hv⟩ := hX.files.each x e2
    have c0 := Joins.cell_of_block hb 0
    have c1 := Joins.cell_of_block hb 1
    have f1 := Joins.unfrozen_of_block hb 1
    simp at c0 c1
    have hv0 := hv
    obtain ⟨A, cap, rfl, hc, hcm, _⟩ := hv
    have HQ := Lib.hid (And.intro hT (And.intro hX (And.intro hv0 (And.intro hb (And.intro hxn (And.intro e2 e4)))))); clear hT hX h0 e1 e3 hv0 hb e4 hx e2 hxn
    go_wp2
    go_ret
    obtain ⟨hT, hX, hv0, hb, hxn, e2, e4⟩ := HQ.out
    have hk := step_keeps D (dnameB s)
    have hfit : ({ (D.step (dnameB s)).1 with files := setFile (D.step (dnameB s)).1.files { x.f with safe := x.f.b.length } } : DiskM).Fits :=
      set_fits hX.fits (f := x.f) (by rw [hk.1]; have := (fileAt_mem e4).2; simp only; rw [this]; exact e4) (Nat.le_refl _) (by
          have := hX.fits.2.2.1
          simp only; omega)
    have hv2 : Bs 5 (W.setCell ⟨x.blk, 1, none⟩ (.int .i64 (x.f.b.length : Int))) (.slice A x.f.b.length cap) x.f.b :=
      hv0.keeps fun b o hb' ht => heap_setCell_ne hb' (fun e => by subst e; rw [hb] at hb'; cases hb'; revert ht; simp [tagOf])
    have hX2 := hX.turnFile (w' := W.setCell ⟨x.blk, 1, none⟩ (.int .i64 (x.f.b.length : Int))) e2 { x.f with safe := x.f.b.length } rfl (by rw [Joins.block_setCell hb]; rfl) hv2 (fun b o hb' hne => heap_setCell_ne hb' hne) hfit
    rw [hk.1] at hX2
    refine ⟨rfl, ⟨bm, clock, pv, _, hX2⟩, ?_⟩
    exact (((Turn.of_below HB.out).trans hT).mono (Nat.le_refl _) (by simp)).setCell hb hxn (by simp) _ _
end Go.Proofs.YtjpcmgoajdjkgaaGreatDoor
