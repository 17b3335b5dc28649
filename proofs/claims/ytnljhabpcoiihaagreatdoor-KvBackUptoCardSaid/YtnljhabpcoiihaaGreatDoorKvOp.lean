/- Arguments, opened: slices of changes, slices of rows of bytes with their bulk. -/
import Derived.Test.YtnljhabpcoiihaaGreatDoorOpenL
import Derived.Test.YtnljhabpcoiihaaGreatDoorKvR
import Derived.Deep.Strs
set_option linter.all false
namespace Go.Proofs.YtnljhabpcoiihaaGreatDoor
open Go.RowKit Go.Deep
section
variable {H : Type} {enc : TypeId × Value → H} {W : World} {spare : Nat → Bool} {held : Bool} {fuel : Nat} {cs : List Value} {x : DataW H × List MemPlace}
theorem one_of : ∀ (cs : List Value), cs.length = 1 → ∃ a, cs = [a]
  | [a], _ => ⟨a, rfl⟩
theorem three_of : ∀ (cs : List Value), cs.length = 3 → ∃ a b c, cs = [a, b, c]
  | [a, b, c], _ => ⟨a, b, c, rfl⟩
theorem cells_by : Tryz.prog.cellsOf 29 = 1 := by kernel_rfl
theorem cells_bl : Tryz.prog.cellsOf 4 = 1 := by kernel_rfl
/-- a slice of changes -/
theorem open_chs (h : DataW.trod enc Tryz.prog W 0 spare held fuel 43 cs = some x) : ∃ A cap, ∃ l : List ChE, cs = [.slice A l.length cap] ∧ l.length ≤ cap ∧ Rd 0 W A (chCells l) ∧ ChEach W l ∧ l.length ≤ Rows.uptoBulk x.1 ∧
    (∀ e ∈ l, e.1.key.length ≤ Rows.uptoBulk x.1 ∧ e.1.val.length ≤ Rows.uptoBulk x.1) ∧ (∀ e ∈ l, Bn W.heap.size W e.2.1 e.1.key ∧ Bn W.heap.size W e.2.2 e.1.val) := by
  obtain ⟨A, len, cap, rfl, hl, _, hx⟩ := open_row Tryz.underlying43 (k := 3) (by kernel_rfl) (by decide) h
  rcases hx with rfl | ⟨b, o, rfl, D, Pl, n, rest, hx, hel⟩
  · exact ⟨A, cap, [], rfl, Nat.zero_le _, Rd.nil _ _ _, (fun e he => by simp at he), Nat.zero_le _, (fun e he => by simp at he), (fun e he => by simp at he)⟩
  · obtain ⟨l, hll, hp⟩ := choose_list (P := fun i (c : ChE) => (W.cell? ⟨b, o + i * 3, none⟩ = some c.2.1 ∧ W.cell? ⟨b, o + i * 3 + 1, none⟩ = some c.2.2 ∧ W.cell? ⟨b, o + i * 3 + 2, none⟩ = some (.bool c.1.gone)) ∧
        (BytesR 0 W c.2.1 c.1.key ∧ BytesR 0 W c.2.2 c.1.val) ∧ (Bn W.heap.size W c.2.1 c.1.key ∧ Bn W.heap.size W c.2.2 c.1.val) ∧ c.1.key.length ≤ Rows.uptoBulk (D i) ∧ c.1.val.length ≤ Rows.uptoBulk (D i)) len (fun i hi => by
      obtain ⟨cs', h1, h2, h3⟩ := hel i hi
      obtain ⟨y0, y1, y2, m, hD, _, h4, h5, h6⟩ := trod_struct3 Tryz.underlying53 h3
      obtain ⟨c0, c1, c2, rfl⟩ := three_of cs' h1
      rw [cells_by] at h4 h5
      rw [cells_bl] at h6
      obtain ⟨A0, cap0, l0, e0, hc0, hr0, hb0⟩ := open_bytes h4
      obtain ⟨A1, cap1, l1, e1, hc1, hr1, hb1⟩ := open_bytes h5
      obtain ⟨g, e2, _⟩ := DataW.trod_bool Tryz.underlying4 h6
      have hm0 := cap_le Tryz.underlying29 (e0 ▸ h4)
      have hm1 := cap_le Tryz.underlying29 (e1 ▸ h5)
      have e0' : c0 = .slice A0 l0.length cap0 := (List.cons.inj e0).1
      have e1' : c1 = .slice A1 l1.length cap1 := (List.cons.inj e1).1
      have e2' : c2 = .bool g := (List.cons.inj e2).1
      have g0 := h2 0 (by omega)
      have g1 := h2 1 (by omega)
      have g2 := h2 2 (by omega)
      rw [e0', e1', e2'] at g0 g1 g2
      have hDi : D i = .agg [y0.1, y1.1, y2.1] := by have := congrArg Prod.fst hD; simpa using this
      refine ⟨(⟨l0, l1, g⟩, .slice A0 l0.length cap0, .slice A1 l1.length cap1), ⟨g0, g1, g2⟩, ⟨⟨A0, cap0, rfl, hc0, hr0⟩, ⟨A1, cap1, rfl, hc1, hr1⟩⟩, ⟨bn_of_rd hr0 hc0 hm0, bn_of_rd hr1 hc1 hm1⟩, ?_, ?_⟩
      · rw [hDi]; simp only [Rows.uptoBulk, Rows.uptoBulkAll]; omega
      · rw [hDi]; simp only [Rows.uptoBulk, Rows.uptoBulkAll]; omega)
    have hbk : ∀ e ∈ l, e.1.key.length ≤ Rows.uptoBulk x.1 ∧ e.1.val.length ≤ Rows.uptoBulk x.1 := fun e he => by
      obtain ⟨i, hi, rfl⟩ := List.getElem_of_mem he
      obtain ⟨h1, h2⟩ := (hp i hi).2.2.2
      have h3 := bulk_range (D := D) len i (by omega)
      rw [hx]
      simp only [Rows.uptoBulk]
      omega
    refine ⟨some ⟨b, o, none⟩, cap, l, by rw [hll], by omega, Or.inr ⟨b, o, Nat.zero_le _, rfl, fun k hk => ?_⟩, fun e he => ?_, by rw [hx, hll]; exact bulk_len len, hbk, fun e he => ?_⟩
    · rw [chCells_length] at hk
      have hkl : k / 3 < l.length := by omega
      obtain ⟨p0, p1, p2⟩ := (hp (k / 3) hkl).1
      obtain ⟨g0, g1, g2⟩ := chCells_get l (k / 3) hkl
      have hm : k % 3 = 0 ∨ k % 3 = 1 ∨ k % 3 = 2 := by omega
      rcases hm with hm | hm | hm
      · have hk2 : k / 3 * 3 = k := by omega
        rw [hk2] at p0 g0
        rw [p0, g0]
      · have hk2 : k / 3 * 3 + 1 = k := by omega
        rw [Nat.add_assoc, hk2] at p1
        rw [hk2] at g1
        rw [p1, g1]
      · have hk2 : k / 3 * 3 + 2 = k := by omega
        rw [Nat.add_assoc, hk2] at p2
        rw [hk2] at g2
        rw [p2, g2]
    · obtain ⟨i, hi, rfl⟩ := List.getElem_of_mem he
      exact (hp i hi).2.1
    · obtain ⟨i, hi, rfl⟩ := List.getElem_of_mem he
      exact (hp i hi).2.2.1
end
end Go.Proofs.YtnljhabpcoiihaaGreatDoor
