/- A disk's Truncate. -/
import Derived.Test.YtnljhabpcoiihaaGreatDoorThere
import Derived.Test.YtnljhabpcoiihaaGreatDoorNext
import Derived.Test.YtnljhabpcoiihaaGreatDoorBoot
set_option linter.all false
namespace Go.Proofs.YtnljhabpcoiihaaGreatDoor
open Go.RowKit

def DiskM.trunc (D : DiskM) (s : List UInt8) (n : Int) : DiskM × Int :=
  if (D.step (dnameB s)).2 ≠ 0 then D.step (dnameB s)
  else match fileAt D.files s with
    | none => ((D.step (dnameB s)).1, 33)
    | some f => if n < 0 ∨ (f.b.length : Int) < n then ((D.step (dnameB s)).1, 1)
      else ({ (D.step (dnameB s)).1 with files := setFile D.files { f with b := f.b.take n.toNat, safe := n.toNat } }, 0)

set_option maxRecDepth 100000 in
set_option maxHeartbeats 400000 in
theorem trunc_c (n bd : Nat) (D : DiskM) (s : List UInt8) (hm : s.length ≤ 4611686018427387904) (k : Int) (w : World) (hD : DiskR n w bd D) :
    Calls Tryz.prog 109 #[.pointer (some ⟨bd, 0, none⟩), .string ⟨s.toArray⟩, .int .i64 k] w fun e w' =>
      e = .returned (.int .i64 (D.trunc s k).2) ∧ DiskR n w' bd (D.trunc s k).1 ∧ Turn n [some 86, some 91] w w' := by
  have hb0 := bnew w (.cells #[.string ⟨s.toArray⟩] 9)
  have hTh := there_c n bd D s hm w.heap.size 0 1 _ (hD.below hb0) (fun W hW => by
    have h1 := hW.block w.heap.size _ (heap_alloc_new w _) (.inr (by simp [tagOf]))
    rw [Joins.cell_of_block h1 0]; rfl)
  have HT := Lib.hid hTh; clear hTh hD
  have HB := Lib.hid hb0; clear hb0
  obtain ⟨RD, hrd⟩ : ∃ R, D.trunc s k = R := ⟨_, rfl⟩
  rw [hrd]
  unfold DiskM.trunc at hrd
  go_enter Tryz.func109, Tryz.ntmps109
  go_wp2_with fail
  refine HT.out.mono ?_
  rintro e W ⟨hT, ⟨q, hq, hq0, rfl, hR⟩ | ⟨h0, hn, rfl, hR⟩ | ⟨h0, bm, clock, pv, xs, x, hX, hx, rfl⟩⟩
  · rw [if_pos (by rw [hq]; exact hq0)] at hrd
    have hrd2 : RD.2 = q := by rw [← hrd]; exact hq
    have hrd1 : RD.1 = (D.step (dnameB s)).1 := by rw [← hrd]
    have HQ := Lib.hid (And.intro hT hR); clear hT hR hq hrd
    have HR2 := Lib.hid (And.intro hrd1 hrd2); clear hrd1 hrd2
    go_wp2
    go_ret
    rw [HR2.out.1, HR2.out.2]
    exact ⟨rfl, HQ.out.2, ((Turn.of_below HB.out).trans HQ.out.1).mono (Nat.le_refl _) (by simp)⟩
  · rw [if_neg (by rw [h0]; simp), hn] at hrd
    subst hrd
    have HQ := Lib.hid (And.intro hT hR); clear hT hR h0 hn
    go_wp2
    go_ret
    exact ⟨rfl, HQ.out.2, ((Turn.of_below HB.out).trans HQ.out.1).mono (Nat.le_refl _) (by simp)⟩
  · obtain ⟨e1, e2, e3⟩ := entAt_some hx
    have e4 : fileAt D.files s = some x.f := by rw [← (step_keeps D (dnameB s)).1, ← hX.same]; exact e1
    rw [if_neg (by rw [h0]; simp), e4] at hrd
    simp only at hrd
    obtain ⟨hxn, v, hb, hv⟩ := hX.files.each x e2
    have c0 := Joins.cell_of_block hb 0
    have c1 := Joins.cell_of_block hb 1
    simp at c0 c1
    have hv0 := hv
    obtain ⟨A, cap, rfl, hc, hcm, _⟩ := hv
    have hflen := file_len hX.fits (f := x.f) (by rw [← hX.same]; exact List.mem_map_of_mem e2)
    have HQ := Lib.hid (And.intro hT (And.intro hX (And.intro hv0 (And.intro hb (And.intro hxn (And.intro e2 (And.intro e4 hflen))))))); clear hT hX h0 e1 e3 hv0 hb e4 hx e2 hxn hflen
    by_cases hk0 : k < 0
    · rw [if_pos (.inl hk0)] at hrd
      have HR := Lib.hid hrd; clear hrd
      go_wp2
      go_ret
      rw [← HR.out]
      exact ⟨rfl, ⟨bm, clock, pv, xs, HQ.out.2.1⟩, ((Turn.of_below HB.out).trans HQ.out.1).mono (Nat.le_refl _) (by simp)⟩
    by_cases hk1 : (x.f.b.length : Int) < k
    · rw [if_pos (.inr hk1)] at hrd
      have HR := Lib.hid hrd; clear hrd
      go_wp2
      go_ret
      rw [← HR.out]
      exact ⟨rfl, ⟨bm, clock, pv, xs, HQ.out.2.1⟩, ((Turn.of_below HB.out).trans HQ.out.1).mono (Nat.le_refl _) (by simp)⟩
    rw [if_neg (by omega)] at hrd
    have HR := Lib.hid hrd; clear hrd
    obtain ⟨m, rfl⟩ : ∃ m : Nat, k = (m : Int) := ⟨k.toNat, by omega⟩
    have hml : m ≤ x.f.b.length := by omega
    obtain ⟨i0, hi0, hz0, hz1, hz2⟩ := info8
    have hsl := fun w => run_slice_to (P := Tryz.prog) w 29 5 i0 1 Tryz.underlying29 hi0 hz1 A x.f.b.length cap .i64 (m : Int) m rfl (by omega)
    have hlt : (x.f.b.take m).length = m := by rw [List.length_take]; omega
    have hrd1 : Rd 0 W A (bytesV (x.f.b.take m)) := by
      have := HQ.out.2.2.1.toR.rd.take m
      unfold bytesV at this ⊢
      rw [List.map_take]; exact this
    have hcl := clone_c A m cap (x.f.b.take m) hlt.symm W (by have := HQ.out.2.2.2.2.2.2.2; omega) hrd1
    have HC := Lib.hid (And.intro hcl hlt); clear hcl hlt hrd1
    go_wp2_with (go_at_call 130; refine HC.out.1.mono ?_; rintro e W2 ⟨v2, rfl, hown, hb2⟩; obtain ⟨A2, c2, rfl, _, _, _⟩ := own_slice hown; have hn2 := (hb2.block _ (heap_lt HQ.out.2.2.2.1)).trans HQ.out.2.2.2.1; have d0 := Joins.cell_of_block hn2 0; have d1 := Joins.cell_of_block hn2 1; have g0 := Joins.unfrozen_of_block hn2 0; have g1 := Joins.unfrozen_of_block hn2 1; simp at d0 d1; have HO := Lib.hid (And.intro hown (And.intro hb2 hn2)); clear hown hb2 hn2)
    go_ret
    obtain ⟨hT, hX, hv0, hb, hxn, e2, e4, hflen⟩ := HQ.out
    obtain ⟨hown, hb2, hn2⟩ := HO.out
    have hlt := HC.out.2
    have hk := step_keeps D (dnameB s)
    rw [← HR.out]
    obtain ⟨V, hV⟩ : ∃ V : Value, Value.slice A2 (x.f.b.take m).length c2 = V := ⟨_, rfl⟩
    have hh3 : ((W2.setCell ⟨x.blk, 0, none⟩ V).setCell ⟨x.blk, 1, none⟩ (.int .i64 (m : Int))).heap[x.blk]? = some (.cells #[V, .int .i64 (m : Int)] 91 (0, 0)) := by
      rw [Joins.block_setCell (Joins.block_setCell hn2 _)]; rfl
    have hk3 : ∀ (b : Nat) (o : Obj), W.heap[b]? = some o → b ≠ x.blk → ((W2.setCell ⟨x.blk, 0, none⟩ V).setCell ⟨x.blk, 1, none⟩ (.int .i64 (m : Int))).heap[b]? = some o :=
      fun b o hb' hne => heap_setCell_ne (heap_setCell_ne ((hb2.block b (heap_lt hb')).trans hb') hne) hne
    have hv3 : Bs 5 ((W2.setCell ⟨x.blk, 0, none⟩ V).setCell ⟨x.blk, 1, none⟩ (.int .i64 (m : Int))) V (x.f.b.take m) := by
      have h0 := Bs.of_own hown
      rw [hV] at h0
      exact h0.keeps fun b o hb' ht => heap_setCell_ne (heap_setCell_ne hb' (fun e => by subst e; rw [hn2] at hb'; cases hb'; revert ht; simp [tagOf])) (fun e => by subst e; rw [hn2] at hb'; cases hb'; revert ht; simp [tagOf])
    have hfit : ({ (D.step (dnameB s)).1 with files := setFile (D.step (dnameB s)).1.files { x.f with b := x.f.b.take m, safe := m } } : DiskM).Fits :=
      set_fits hX.fits (f := x.f) (by rw [hk.1]; have := (fileAt_mem e4).2; simp only; rw [this]; exact e4) (by simp only [hlt]; exact Nat.le_refl _) (by
          have := hX.fits.2.2.1
          simp only [hlt]; omega)
    have hX2 := hX.turnFile e2 { x.f with b := x.f.b.take m, safe := m } rfl hh3 hv3 hk3 hfit
    rw [hk.1] at hX2
    have hT3 := ((((Turn.of_below HB.out).trans hT).mono (Nat.le_refl n) (T' := [some 86, some 91]) (by simp)).bel hb2).setCell hn2 hxn (by simp) 0 V
    have hT4 := hT3.setCell (Joins.block_setCell hn2 V) hxn (by simp) 1 (.int .i64 (m : Int))
    first
      | exact ⟨rfl, ⟨bm, clock, pv, _, hX2⟩, hT4⟩
      | (rw [← hV] at hX2 hT4; exact ⟨rfl, ⟨bm, clock, pv, _, hX2⟩, hT4⟩)
      | (rw [← hV, hlt] at hX2 hT4; exact ⟨rfl, ⟨bm, clock, pv, _, hX2⟩, hT4⟩)
end Go.Proofs.YtnljhabpcoiihaaGreatDoor
