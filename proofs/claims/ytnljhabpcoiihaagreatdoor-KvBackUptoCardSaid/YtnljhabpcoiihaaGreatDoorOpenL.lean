/- Arguments, opened: a slice of rows of bytes. Arguments, opened: slices of bools, of ints, of faults. -/
import Derived.Test.YtnljhabpcoiihaaGreatDoorOpenG
import Derived.Test.YtnljhabpcoiihaaGreatDoorLApp
import Derived.Test.YtnljhabpcoiihaaGreatDoorPlan
import Derived.ChangeSame
set_option linter.all false
namespace Go.Proofs.YtnljhabpcoiihaaGreatDoor
open Go.RowKit Go.Deep
section
variable {H : Type} {enc : TypeId × Value → H} {W : World} {spare : Nat → Bool} {held : Bool} {fuel : Nat} {cs : List Value} {x : DataW H × List MemPlace}

theorem bn_of_rd {A : Option Addr} {cap : Nat} {l : List UInt8} (h : Rd 0 W A (bytesV l)) (hc : l.length ≤ cap) (hm : cap ≤ maxLen) : Bn W.heap.size W (.slice A l.length cap) l := by
  refine ⟨A, cap, rfl, hc, hm, ?_⟩
  rcases h with h | ⟨b, o, _, rfl, h⟩
  · exact .inl (by simpa [bytesV] using h)
  · by_cases h0 : l = []
    · exact .inl h0
    right
    have hl : 0 < (bytesV l).length := by rw [bytesV_length]; exact List.length_pos_iff.2 h0
    have h1 := h 0 hl
    rw [Nat.add_zero, List.getElem?_eq_getElem hl] at h1
    have hlt := cell_lt h1
    have hcell : ∃ c t f, W.heap[b]? = some (.cells c t f) := by
      have h1' := h1
      unfold World.cell? at h1'
      split at h1'
      · rename_i c t f hh
        exact ⟨c, t, f, hh⟩
      · cases h1'
    obtain ⟨c, t, f, hh⟩ := hcell
    refine ⟨b, o, c, t, f, rfl, hh, .inl hlt, fun k hk => ?_⟩
    rw [← h k (by rw [bytesV_length]; exact hk), Joins.cell_of_block hh]

theorem cap_le {t e : TypeId} (ht : Tryz.prog.underlying t = some (.slice e)) {A : Option Addr} {len cap : Nat} (h : DataW.trod enc Tryz.prog W 0 spare held fuel t [.slice A len cap] = some x) : cap ≤ maxLen := by
  rcases open_slice ht h with ⟨h1, _⟩ | ⟨a, len', cap', m, n, D, Pl, h1, _, _, hm, _⟩
  · simp only [List.cons.injEq, Value.slice.injEq, and_true] at h1
    rw [h1.2.2]; exact Nat.zero_le _
  · simp only [List.cons.injEq, Value.slice.injEq, and_true] at h1
    rw [h1.2.2]; exact hm

/-- a slice of rows of bytes -/
theorem open_lists (h : DataW.trod enc Tryz.prog W 0 spare held fuel 22 cs = some x) : ∃ A cap, ∃ (vs : List Value) (ls : List (List UInt8)), cs = [.slice A ls.length cap] ∧ vs.length = ls.length ∧ Rd 0 W A vs ∧
    (∀ (k : Nat) (v : Value) (l : List UInt8), vs[k]? = some v → ls[k]? = some l → Bn W.heap.size W v l) ∧ ls.length ≤ Rows.uptoBulk x.1 := by
  obtain ⟨A, len, cap, rfl, hl, _, hx⟩ := open_row Tryz.underlying22 (k := 1) (by kernel_rfl) (by decide) h
  rcases hx with rfl | ⟨b, o, rfl, D, Pl, n, rest, hx, hel⟩
  · exact ⟨A, cap, [], [], rfl, rfl, Rd.nil _ _ _, fun k v l hv _ => by simp at hv, Nat.zero_le _⟩
  · obtain ⟨l, hll, hp⟩ := choose_list (P := fun i (c : Value × List UInt8) => W.cell? ⟨b, o + i, none⟩ = some c.1 ∧ Bn W.heap.size W c.1 c.2) len (fun i hi => by
      obtain ⟨cs', h1, h2, h3⟩ := hel i hi
      obtain ⟨A', cap', l', rfl, hc', hr', _⟩ := open_bytes h3
      refine ⟨(.slice A' l'.length cap', l'), ?_, bn_of_rd hr' hc' (cap_le Tryz.underlying29 h3)⟩
      have := h2 0 (by omega)
      simpa using this)
    refine ⟨some ⟨b, o, none⟩, cap, l.map (·.1), l.map (·.2), by rw [List.length_map, hll], by simp, Or.inr ⟨b, o, Nat.zero_le _, rfl, fun k hk => ?_⟩, fun k v y hv hy => ?_, ?_⟩
    · rw [List.length_map] at hk
      rw [(hp k hk).1, List.getElem?_map, List.getElem?_eq_getElem hk]; rfl
    · rw [List.getElem?_map] at hv hy
      cases hk : l[k]? with
      | none => rw [hk] at hv; cases hv
      | some c =>
        rw [hk] at hv hy
        cases hv; cases hy
        obtain ⟨hk', e⟩ := List.getElem?_eq_some_iff.1 hk
        rw [← e]
        exact (hp k hk').2
    · rw [hx, List.length_map, hll]
      by_cases h0 : len = 0
      · omega
      · have := bulk_range (D := D) len 0 (by omega)
        have h1 : 1 ≤ Rows.uptoBulk (D 0) := by
          cases D 0 with
          | lit l => cases l <;> simp [Rows.uptoBulk]
          | _ => simp [Rows.uptoBulk]
        simp only [Rows.uptoBulk]
        omega
end
end Go.Proofs.YtnljhabpcoiihaaGreatDoor
set_option linter.all false
namespace Go.Proofs.YtnljhabpcoiihaaGreatDoor
open Go.RowKit Go.Deep
section
variable {H : Type} {enc : TypeId × Value → H} {W : World} {spare : Nat → Bool} {held : Bool} {fuel : Nat} {cs : List Value} {x : DataW H × List MemPlace}

theorem bulk_len {D : Nat → DataW H} {rest : List (DataW H)} (len : Nat) : len ≤ Rows.uptoBulk (.slice ((List.range len).map D) rest) := by
  by_cases h0 : len = 0
  · omega
  · have := bulk_range (D := D) len 0 (by omega)
    have h1 : 1 ≤ Rows.uptoBulk (D 0) := by
      cases D 0 with
      | lit l => cases l <;> simp [Rows.uptoBulk]
      | _ => simp [Rows.uptoBulk]
    simp only [Rows.uptoBulk]
    omega
/-- a row of values of one cell -/
theorem open_ones {α : Type} (f : α → Value) {t e : TypeId} (ht : Tryz.prog.underlying t = some (.slice e)) (hk : Tryz.prog.cellsOf e = 1)
    (he : ∀ {n : Nat} {cs : List Value} {y : DataW H × List MemPlace}, DataW.trod enc Tryz.prog W 0 spare held n e cs = some y → ∃ a, cs = [f a])
    (h : DataW.trod enc Tryz.prog W 0 spare held fuel t cs = some x) : ∃ A cap, ∃ l : List α, cs = [.slice A l.length cap] ∧ Rd 0 W A (l.map f) ∧ l.length ≤ Rows.uptoBulk x.1 := by
  obtain ⟨A, len, cap, rfl, hl, _, hx⟩ := open_row ht (k := 1) hk (by decide) h
  rcases hx with rfl | ⟨b, o, rfl, D, Pl, n, rest, hx, hel⟩
  · exact ⟨A, cap, [], rfl, Rd.nil _ _ _, Nat.zero_le _⟩
  · obtain ⟨l, hll, hp⟩ := choose_list (P := fun i (c : α) => W.cell? ⟨b, o + i, none⟩ = some (f c)) len (fun i hi => by
      obtain ⟨cs', h1, h2, h3⟩ := hel i hi
      obtain ⟨c, h4⟩ := he h3
      refine ⟨c, ?_⟩
      have := h2 0 (by omega)
      rw [h4] at this
      simpa using this)
    refine ⟨some ⟨b, o, none⟩, cap, l, by rw [hll], Or.inr ⟨b, o, Nat.zero_le _, rfl, fun k hk => ?_⟩, ?_⟩
    · rw [List.length_map] at hk
      rw [hp k hk, List.getElem?_map, List.getElem?_eq_getElem hk]; rfl
    · rw [hx, hll]; exact bulk_len len
theorem open_bls (h : DataW.trod enc Tryz.prog W 0 spare held fuel 62 cs = some x) : ∃ A cap, ∃ l : List Bool, cs = [.slice A l.length cap] ∧ Rd 0 W A (l.map Value.bool) ∧ l.length ≤ Rows.uptoBulk x.1 :=
  open_ones Value.bool Tryz.underlying62 (by kernel_rfl) (fun h => by obtain ⟨b, h, _⟩ := DataW.trod_bool Tryz.underlying4 h; exact ⟨b, h⟩) h
theorem open_its (h : DataW.trod enc Tryz.prog W 0 spare held fuel 64 cs = some x) : ∃ A cap, ∃ l : List Int, cs = [.slice A l.length cap] ∧ Rd 0 W A (l.map (Value.int .i64)) ∧ l.length ≤ Rows.uptoBulk x.1 :=
  open_ones (Value.int .i64) Tryz.underlying64 (by kernel_rfl) (fun h => by obtain ⟨b, h, _⟩ := DataW.trod_int Tryz.underlying3 h; exact ⟨b, h⟩) h
theorem two_of : ∀ (cs : List Value), cs.length = 2 → ∃ a b, cs = [a, b]
  | [a, b], _ => ⟨a, b, rfl⟩
theorem cells_int : Tryz.prog.cellsOf 3 = 1 := by kernel_rfl
theorem open_flts (h : DataW.trod enc Tryz.prog W 0 spare held fuel 63 cs = some x) : ∃ A cap, ∃ l : List (Int × Int), cs = [.slice A l.length cap] ∧ Rd 0 W A (fltV l) ∧ l.length ≤ Rows.uptoBulk x.1 := by
  obtain ⟨A, len, cap, rfl, hl, _, hx⟩ := open_row Tryz.underlying63 (k := 2) (by kernel_rfl) (by decide) h
  rcases hx with rfl | ⟨b, o, rfl, D, Pl, n, rest, hx, hel⟩
  · exact ⟨A, cap, [], rfl, Rd.nil _ _ _, Nat.zero_le _⟩
  · obtain ⟨l, hll, hp⟩ := choose_list (P := fun i (c : Int × Int) => W.cell? ⟨b, o + i * 2, none⟩ = some (.int .i64 c.1) ∧ W.cell? ⟨b, o + i * 2 + 1, none⟩ = some (.int .i64 c.2)) len (fun i hi => by
      obtain ⟨cs', h1, h2, h3⟩ := hel i hi
      obtain ⟨y0, y1, m, _, _, h4, h5⟩ := Go.ChangeShapes.trod_struct2 Tryz.underlying134 h3
      obtain ⟨a0, e0, _⟩ := DataW.trod_int Tryz.underlying3 h4
      obtain ⟨a1, e1, _⟩ := DataW.trod_int Tryz.underlying3 h5
      obtain ⟨c0, c1, rfl⟩ := two_of cs' h1
      rw [cells_int] at e0 e1
      have e0' : c0 = .int .i64 a0 := (List.cons.inj e0).1
      have e1' : c1 = .int .i64 a1 := (List.cons.inj e1).1
      have g0 := h2 0 (by omega)
      have g1 := h2 1 (by omega)
      rw [e0', e1'] at g0 g1
      exact ⟨(a0, a1), g0, g1⟩)
    refine ⟨some ⟨b, o, none⟩, cap, l, by rw [hll], Or.inr ⟨b, o, Nat.zero_le _, rfl, fun k hk => ?_⟩, ?_⟩
    · rw [fltV_length] at hk
      have hkl : k / 2 < l.length := by omega
      obtain ⟨p0, p1⟩ := hp (k / 2) hkl
      obtain ⟨g0, g1⟩ := fltV_get l (k / 2) hkl
      rcases Nat.mod_two_eq_zero_or_one k with hm | hm
      · have hk2 : k / 2 * 2 = k := by omega
        rw [hk2] at p0 g0
        rw [p0, g0]
      · have hk2 : k / 2 * 2 + 1 = k := by omega
        rw [Nat.add_assoc, hk2] at p1
        rw [hk2] at g1
        rw [p1, g1]
    · rw [hx, hll]; exact bulk_len len
end
end Go.Proofs.YtnljhabpcoiihaaGreatDoor
