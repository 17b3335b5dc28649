/- The reference's disk: Read. -/
import Derived.Test.YtjpcmgoajdjkgaaGreatDoorRDsk
import Derived.Test.YtjpcmgoajdjkgaaGreatDoorRefF
set_option linter.all false
namespace Go.Proofs.YtjpcmgoajdjkgaaGreatDoor
open Go.RowKit

set_option maxRecDepth 100000 in
set_option maxHeartbeats 800000 in
theorem rread_c (n rd : Nat) (room N : Int) (lv : Value) (es : List (FileM × Value)) (hes : es.length ≤ 1048576) (hel : ∀ x ∈ es, x.1.b.length ≤ 1073741824) (s : List UInt8) (hm : s.length ≤ 4611686018427387904) (w : World) (hX : RdX n w rd room N lv es) :
    Calls Tryz.prog 58 #[.pointer (some ⟨rd, 0, none⟩), .string ⟨s.toArray⟩] w fun e w' =>
      (∃ N', RdX n w' rd room N' lv es) ∧ Turn n [some 81] w w' ∧
      ((dnameB s = false ∧ e = .returned (.tuple #[.slice none 0 0, .int .i64 1])) ∨ (dnameB s = true ∧ (∀ x ∈ es, x.1.name ≠ s) ∧ e = .returned (.tuple #[.slice none 0 0, .int .i64 33])) ∨
        (dnameB s = true ∧ ∃ (i : Nat) (x : FileM × Value) (v : Value), FirstAt es s i ∧ es[i]? = some x ∧ e = .returned (.tuple #[v, .int .i64 0]) ∧ Bs 5 w' v x.1.b)) := by
  have hst := rthere_c n rd room N lv es hes s hm w hX
  obtain ⟨A, cap, rfl, _, _, _⟩ := own_slice hX.row
  obtain ⟨NB, hNB⟩ : ∃ b, dnameB s = b := ⟨_, rfl⟩
  rw [hNB] at hst ⊢
  have HS := Lib.hid (And.intro hst hel); clear hst hX hNB hel
  go_enter Tryz.func58, Tryz.ntmps58
  go_wp2_with fail
  refine HS.out.1.mono ?_
  rintro e w1 ⟨⟨N1, hX1⟩, hT1, ⟨h0, rfl⟩ | ⟨h0, h1, rfl⟩ | ⟨h0, i, hF, rfl⟩⟩
  · have H1 := Lib.hid (And.intro hX1 (And.intro hT1 h0)); clear hX1 hT1 h0
    go_wp2
    go_ret2
    exact ⟨⟨_, H1.out.1⟩, H1.out.2.1, .inl ⟨H1.out.2.2, rfl⟩⟩
  · have H1 := Lib.hid (And.intro hX1 (And.intro hT1 (And.intro h0 h1))); clear hX1 hT1 h0 h1
    go_wp2
    go_ret2
    exact ⟨⟨_, H1.out.1⟩, H1.out.2.1, .inr (.inl ⟨H1.out.2.2.1, H1.out.2.2.2, rfl⟩)⟩
  · obtain ⟨hi, hn1, hn2⟩ := hF
    have c3 := Joins.cell_of_block hX1.at_ 3
    simp at c3
    obtain ⟨b, o, hb, hcell⟩ := (Rd.of_own hX1.row).addr (by rw [rfCells_length]; omega)
    obtain ⟨-, g1, -⟩ := rfCells_get es i hi
    have q1 := (hcell (i * 3 + 1) (by rw [rfCells_length]; omega)).trans g1
    rw [← Nat.add_assoc] at q1
    have hbs := hX1.each es[i] (List.getElem_mem hi)
    obtain ⟨x, hx⟩ : ∃ x, es[i] = x := ⟨_, rfl⟩
    have hxl := HS.out.2 es[i] (List.getElem_mem hi)
    rw [hx] at q1 hbs hxl
    obtain ⟨fm, v⟩ := x
    simp only at q1 hbs hxl
    obtain ⟨Ab, cb, rfl, hrb⟩ : ∃ A c, v = .slice A fm.b.length c ∧ Rd 0 w1 A (bytesV fm.b) := by
      obtain ⟨A, c, h1, _, h2⟩ := hbs.toR
      exact ⟨A, c, h1, h2⟩
    have H1 := Lib.hid (And.intro hX1 (And.intro hT1 (And.intro h0 (And.intro (show FirstAt es s i from ⟨hi, hn1, hn2⟩) (And.intro (show es[i]? = some (fm, .slice Ab fm.b.length cb) by rw [List.getElem?_eq_getElem hi, hx]) hrb)))))
    clear hX1 hT1 h0 hn1 hn2 hcell g1 hbs hx hrb
    subst hb
    have c3a := ((bnew w1 (.cells #[] 5)).cell (p := ⟨rd, 3, none⟩) (cell_lt c3)).trans c3
    have q1a := ((bnew w1 (.cells #[] 5)).cell (p := ⟨b, o + i * 3 + 1, none⟩) (cell_lt q1)).trans q1
    go_wp2_with (at_builtin; refine wpList_bytes rfl _ _ rfl w1.heap.size _ [] rfl 0 rfl (own_nil w1) 0 Ab fm.b.length cb fm.b rfl rfl (H1.out.2.2.2.2.2.alloc _) (by simp; omega) (by simp) ?_)
    intro v2 w2 hown2 hb2
    have hb2' : Below w1.heap.size w1 w2 := (bnew w1 _).trans hb2
    obtain ⟨A2, c2, rfl, -, -, -⟩ := own_slice hown2
    have H2 := Lib.hid (And.intro hown2 hb2'); clear hown2 hb2 hb2'
    go_wp2
    go_ret2
    refine ⟨⟨_, H1.out.1.below H2.out.2⟩, H1.out.2.1.bel H2.out.2, .inr (.inr ⟨H1.out.2.2.1, i, _, _, H1.out.2.2.2.1, H1.out.2.2.2.2.1, rfl, ?_⟩)⟩
    exact Bs.of_own (base := w1.heap.size) (by simpa using H2.out.1)
end Go.Proofs.YtjpcmgoajdjkgaaGreatDoor
