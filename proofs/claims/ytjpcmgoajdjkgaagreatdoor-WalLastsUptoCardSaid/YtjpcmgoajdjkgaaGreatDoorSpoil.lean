/- A disk's Spoil. -/
import Derived.Test.YtjpcmgoajdjkgaaGreatDoorSync
import Derived.Test.YtjpcmgoajdjkgaaGreatDoorNext
import Derived.Test.YtjpcmgoajdjkgaaGreatDoorInvS
import Derived.Laws.BitsAll
set_option linter.all false
namespace Go.Proofs.YtjpcmgoajdjkgaaGreatDoor
open Go.RowKit

theorem xor_u8 (a x : UInt8) : bits .xor .u8 (a.toNat : Int) (x.toNat : Int) = ((a ^^^ x).toNat : Int) := by
  have ha := a.toNat_lt
  have hx := x.toNat_lt
  rw [u8_xor_nat _ _ (by omega) (by omega), UInt8.toNat_xor]

set_option maxRecDepth 100000 in
set_option maxHeartbeats 400000 in
theorem spoil_c (n bd : Nat) (D : DiskM) (s : List UInt8) (hm : s.length ≤ 4611686018427387904) (k : Int) (x : UInt8) (w : World) (hD : DiskR n w bd D) (hn : n ≤ w.heap.size) :
    Calls Tryz.prog 32 #[.pointer (some ⟨bd, 0, none⟩), .string ⟨s.toArray⟩, .int .i64 k, .int .u8 (x.toNat : Int)] w fun e w' =>
      e = .returned (.int .i64 (D.spoil s k x).2) ∧ DiskR n w' bd (D.spoil s k x).1 ∧ Turn n [some 85] w w' := by
  obtain ⟨bm, clock, pv, xs, hX⟩ := hD
  obtain ⟨RD, hrd⟩ : ∃ R, D.spoil s k x = R := ⟨_, rfl⟩
  rw [hrd]
  unfold DiskM.spoil at hrd
  have c1 := Joins.cell_of_block hX.at_ 1
  have hl := look_file und_files und_string zero_file xs hX.files.at_ s
  simp at c1
  have HX := Lib.hid (And.intro hX hn); clear hX hn
  cases he : entAt xs s with
  | none =>
    rw [he] at hl
    simp at hl
    have e1 : fileAt D.files s = none := by rw [← HX.out.1.same]; exact entAt_none he
    rw [e1] at hrd
    have HR := Lib.hid hrd; clear hrd e1 he
    go_enter Tryz.func32, Tryz.ntmps32
    go_wp2
    go_ret
    rw [← HR.out]
    exact ⟨rfl, ⟨bm, clock, pv, xs, HX.out.1⟩, Turn.refl _ _ _⟩
  | some y =>
    rw [he] at hl
    simp at hl
    obtain ⟨e1, e2, e3⟩ := entAt_some he
    have e4 : fileAt D.files s = some y.f := by rw [← HX.out.1.same]; exact e1
    rw [e4] at hrd
    simp only at hrd
    obtain ⟨hxn, v, hb, hv⟩ := HX.out.1.files.each y e2
    have d0 := Joins.cell_of_block hb 0
    have d1 := Joins.cell_of_block hb 1
    have f0 := Joins.unfrozen_of_block hb 0
    simp at d0 d1
    have hv0 := hv
    obtain ⟨A, cap, rfl, hc, hcm, _⟩ := hv
    have hflen := file_len HX.out.1.fits (f := y.f) (by rw [← HX.out.1.same]; exact List.mem_map_of_mem e2)
    have HQ := Lib.hid (And.intro hv0 (And.intro hb (And.intro hxn (And.intro e2 (And.intro e4 hflen))))); clear e1 e3 hv0 hb e4 he e2 hxn hflen
    by_cases hk0 : k < 0
    · rw [if_pos (.inl hk0)] at hrd
      have HR := Lib.hid hrd; clear hrd
      go_enter Tryz.func32, Tryz.ntmps32
      go_wp2
      go_ret
      rw [← HR.out]
      exact ⟨rfl, ⟨bm, clock, pv, xs, HX.out.1⟩, Turn.refl _ _ _⟩
    by_cases hk1 : (y.f.b.length : Int) ≤ k
    · rw [if_pos (.inr hk1)] at hrd
      have HR := Lib.hid hrd; clear hrd
      go_enter Tryz.func32, Tryz.ntmps32
      go_wp2
      go_ret
      rw [← HR.out]
      exact ⟨rfl, ⟨bm, clock, pv, xs, HX.out.1⟩, Turn.refl _ _ _⟩
    rw [if_neg (by omega)] at hrd
    have HR := Lib.hid hrd; clear hrd
    obtain ⟨m, rfl⟩ : ∃ m : Nat, k = (m : Int) := ⟨k.toNat, by omega⟩
    have hml : m < y.f.b.length := by omega
    have hcl := clone_c A y.f.b.length cap y.f.b rfl w (by have := HQ.out.2.2.2.2.2; omega) HQ.out.1.toR.rd
    have HC := Lib.hid hcl; clear hcl
    go_enter Tryz.func32, Tryz.ntmps32
    go_wp2_with fail
    refine HC.out.mono ?_
    rintro e W2 ⟨v2, rfl, hown, hb2⟩
    have hn2 := (hb2.block _ (heap_lt HQ.out.2.1)).trans HQ.out.2.1
    have hown0 := hown
    obtain ⟨hll, ⟨rfl, hz⟩ | ⟨g, cap2, cur, rfl, hg, hh, hnc, hcm2, hcs, htk⟩⟩ := hown
    · omega
    have hgx : g ≠ y.blk := fun e => by have := heap_lt HQ.out.2.1; omega
    have g0 := Joins.unfrozen_of_block hn2 0
    have k0 := Joins.cell_of_block hn2 0
    simp at k0
    have gm : W2.cell? ⟨g, m, none⟩ = some (.int .u8 (y.f.b[m].toNat : Int)) := by
      rw [Joins.cell_of_block hh m]
      have := bytesV_get y.f.b m hml
      rw [← htk, List.getElem?_take_of_lt (by omega)] at this
      rw [← Array.getElem?_toList]; exact this
    have gf := Joins.unfrozen_of_block hh m
    have hh2 : ∀ V, (W2.setCell ⟨y.blk, 0, none⟩ V).heap[g]? = some (.cells cur 5 (0, 0)) := fun V => heap_setCell_ne hh hgx
    have gm2 : ∀ V, (W2.setCell ⟨y.blk, 0, none⟩ V).cell? ⟨g, m, none⟩ = some (.int .u8 (y.f.b[m].toNat : Int)) := fun V => by
      rw [Joins.cell_of_block (hh2 V) m, ← Joins.cell_of_block hh m]; exact gm
    have gf2 : ∀ V, (W2.setCell ⟨y.blk, 0, none⟩ V).frozen? ⟨g, m, none⟩ = false := fun V => Joins.unfrozen_of_block (hh2 V) m
    have dn : ∀ V, (W2.setCell ⟨y.blk, 0, none⟩ V).cell? ⟨y.blk, 0, none⟩ = some V := fun V => by
      rw [Joins.cell_of_block (Joins.block_setCell hn2 V)]; simp
    have hx8 := xor_u8 y.f.b[m] x
    have HO := Lib.hid (And.intro hown0 (And.intro hb2 (And.intro hn2 (And.intro hh (And.intro hcs (And.intro htk hg)))))); clear hown0 hb2 hn2 hh hcs htk hh2
    go_wp2_with fail
    go_ret
    obtain ⟨hown0, hb2, hn2, hh, hcs, htk, hg⟩ := HO.out
    obtain ⟨hv0, hb, hxn, e2, e4, hflen⟩ := HQ.out
    have hgd : y.f.b.getD m 0 = y.f.b[m] := by simp [List.getD, hml]
    rw [← HR.out]
    simp only [Int.toNat_natCast, hgd]
    obtain ⟨V, hV⟩ : ∃ V : Value, Value.slice (some ⟨g, 0, none⟩) y.f.b.length cap2 = V := ⟨_, rfl⟩
    rw [hV]
    have hz : ((y.f.b[m].toNat ^^^ x.toNat : Nat) : Int) = ((y.f.b[m] ^^^ x).toNat : Int) := by rw [UInt8.toNat_xor]
    rw [hz]
    generalize hzz : y.f.b[m] ^^^ x = z
    have hh3 : (W2.setCell ⟨y.blk, 0, none⟩ V).heap[g]? = some (.cells cur 5 (0, 0)) := heap_setCell_ne hh hgx
    have hfin : ((W2.setCell ⟨y.blk, 0, none⟩ V).setCell ⟨g, m, none⟩ (.int .u8 (z.toNat : Int))).heap[y.blk]? = some (.cells #[V, .int .i64 (y.f.safe : Int)] 85 (0, 0)) := by
      refine heap_setCell_ne ?_ (Ne.symm hgx)
      rw [Joins.block_setCell hn2]; rfl
    have hbs : Bs 5 ((W2.setCell ⟨y.blk, 0, none⟩ V).setCell ⟨g, m, none⟩ (.int .u8 (z.toNat : Int))) V (y.f.b.set m z) := by
      refine ⟨some ⟨g, 0, none⟩, cap2, by rw [← hV, List.length_set], by rw [List.length_set]; exact hnc, hcm2, .inr ⟨g, 0, _, _, rfl, Joins.block_setCell hh3 _, fun k hk => ?_⟩⟩
      rw [List.length_set] at hk
      rw [Nat.zero_add]
      have hb0 : (bytesV (y.f.b.set m z))[k]? = ((bytesV y.f.b).set m (.int .u8 (z.toNat : Int)))[k]? := by
        unfold bytesV; rw [List.map_set]
      rw [hb0, ← htk, ← Array.getElem?_toList]
      simp only [Array.toList_setIfInBounds]
      rw [List.getElem?_set, List.getElem?_set, List.length_take]
      by_cases hmk : m = k
      · subst hmk
        rw [if_pos rfl, if_pos rfl, if_pos (by simp; omega), if_pos (by simp; omega)]
      · rw [if_neg hmk, if_neg hmk, List.getElem?_take_of_lt (by omega)]
    have hkk : ∀ (b : Nat) (o : Obj), w.heap[b]? = some o → b ≠ y.blk → ((W2.setCell ⟨y.blk, 0, none⟩ V).setCell ⟨g, m, none⟩ (.int .u8 (z.toNat : Int))).heap[b]? = some o := fun b o hbo hne => by
      have hlt := heap_lt hbo
      exact heap_setCell_ne (heap_setCell_ne ((hb2.block b hlt).trans hbo) hne) (by omega)
    have hfit := set_fits HX.out.1.fits (f := y.f) (f' := { y.f with b := y.f.b.set m z }) (by have := (fileAt_mem e4).2; simp only; rw [this]; exact e4) (by
        have := (HX.out.1.fits.2.2.2.2.2 y.f (by rw [← HX.out.1.same]; exact List.mem_map_of_mem e2)).1
        simp only [List.length_set]; exact this) (by
        have := HX.out.1.fits.2.2.1
        simp only [List.length_set]; omega)
    have hX2 := HX.out.1.turnFile e2 { y.f with b := y.f.b.set m z } rfl hfin hbs hkk hfit
    refine ⟨rfl, ⟨bm, clock, pv, _, hX2⟩, ?_⟩
    have hs2 := hb2.size
    refine ⟨hb2.os, hb2.tape, hb2.output, by simp [World.setCell]; exact hs2, fun b o hbo hc => hkk b o hbo ?_⟩
    rintro rfl
    rw [hb] at hbo; cases hbo
    rcases hc with hc | hc
    · omega
    · exact hc (by simp [tagOf])
end Go.Proofs.YtjpcmgoajdjkgaaGreatDoor
