/- Arguments, opened: a slice of rows of bytes. -/
import Derived.Test.YtjpcmgoajdjkgaaGreatDoorOpenG
import Derived.Test.YtjpcmgoajdjkgaaGreatDoorLApp
set_option linter.all false
namespace Go.Proofs.YtjpcmgoajdjkgaaGreatDoor
open Go.RowKit Go.Deep
section
variable {H : Type} {enc : TypeId × Value → H} {W : World} {spare : Nat → Bool} {held : Bool} {fuel : Nat} {cs : List Value} {x : DataW H × List MemPlace}

theorem bn_of_rd {A : Option Addr} {cap : Nat} {l : List UInt8} (h : Rd 0 W A (bytesV l)) (hc : l.length ≤ cap) (hm : cap ≤ maxLen) : Bn W.heap.size W (.slice A l.length cap) l := by
  refine ⟨A, cap, rfl, hc, hm, ?_⟩
  rcases h with h | ⟨b, o, _, rfl, h⟩
  · exact .inl (by simpa [bytesV] using h)
  · by_cases h0 : l = []
    · exact .inl h0
    right
    have hl : 0 < (bytesV l).length := by rw [bytesV_length]; exact List.length_pos_iff.2 h0
    have h1 := h 0 hl
    rw [Nat.add_zero, List.getElem?_eq_getElem hl] at h1
    have hlt := cell_lt h1
    have hcell : ∃ c t f, W.heap[b]? = some (.cells c t f) := by
      have h1' := h1
      unfold World.cell? at h1'
      split at h1'
      · rename_i c t f hh
        exact ⟨c, t, f, hh⟩
      · cases h1'
    obtain ⟨c, t, f, hh⟩ := hcell
    refine ⟨b, o, c, t, f, rfl, hh, .inl hlt, fun k hk => ?_⟩
    rw [← h k (by rw [bytesV_length]; exact hk), Joins.cell_of_block hh]

theorem cap_le {t e : TypeId} (ht : Tryz.prog.underlying t = some (.slice e)) {A : Option Addr} {len cap : Nat} (h : DataW.trod enc Tryz.prog W 0 spare held fuel t [.slice A len cap] = some x) : cap ≤ maxLen := by
  rcases open_slice ht h with ⟨h1, _⟩ | ⟨a, len', cap', m, n, D, Pl, h1, _, _, hm, _⟩
  · simp only [List.cons.injEq, Value.slice.injEq, and_true] at h1
    rw [h1.2.2]; exact Nat.zero_le _
  · simp only [List.cons.injEq, Value.slice.injEq, and_true] at h1
    rw [h1.2.2]; exact hm

/-- a slice of rows of bytes -/
theorem open_lists (h : DataW.trod enc Tryz.prog W 0 spare held fuel 35 cs = some x) : ∃ A cap, ∃ (vs : List Value) (ls : List (List UInt8)), cs = [.slice A ls.length cap] ∧ vs.length = ls.length ∧ Rd 0 W A vs ∧
    (∀ (k : Nat) (v : Value) (l : List UInt8), vs[k]? = some v → ls[k]? = some l → Bn W.heap.size W v l) ∧ ls.length ≤ Rows.uptoBulk x.1 := by
  obtain ⟨A, len, cap, rfl, hl, _, hx⟩ := open_row Tryz.underlying35 (k := 1) (by kernel_rfl) (by decide) h
  rcases hx with rfl | ⟨b, o, rfl, D, Pl, n, rest, hx, hel⟩
  · exact ⟨A, cap, [], [], rfl, rfl, Rd.nil _ _ _, fun k v l hv _ => by simp at hv, Nat.zero_le _⟩
  · obtain ⟨l, hll, hp⟩ := choose_list (P := fun i (c : Value × List UInt8) => W.cell? ⟨b, o + i, none⟩ = some c.1 ∧ Bn W.heap.size W c.1 c.2) len (fun i hi => by
      obtain ⟨cs', h1, h2, h3⟩ := hel i hi
      obtain ⟨A', cap', l', rfl, hc', hr', _⟩ := open_bytes h3
      refine ⟨(.slice A' l'.length cap', l'), ?_, bn_of_rd hr' hc' (cap_le Tryz.underlying22 h3)⟩
      have := h2 0 (by omega)
      simpa using this)
    refine ⟨some ⟨b, o, none⟩, cap, l.map (·.1), l.map (·.2), by rw [List.length_map, hll], by simp, Or.inr ⟨b, o, Nat.zero_le _, rfl, fun k hk => ?_⟩, fun k v y hv hy => ?_, ?_⟩
    · rw [List.length_map] at hk
      rw [(hp k hk).1, List.getElem?_map, List.getElem?_eq_getElem hk]; rfl
    · rw [List.getElem?_map] at hv hy
      cases hk : l[k]? with
      | none => rw [hk] at hv; cases hv
      | some c =>
        rw [hk] at hv hy
        cases hv; cases hy
        obtain ⟨hk', e⟩ := List.getElem?_eq_some_iff.1 hk
        rw [← e]
        exact (hp k hk').2
    · rw [hx, List.length_map, hll]
      by_cases h0 : len = 0
      · omega
      · have := bulk_range (D := D) len 0 (by omega)
        have h1 : 1 ≤ Rows.uptoBulk (D 0) := by
          cases D 0 with
          | lit l => cases l <;> simp [Rows.uptoBulk]
          | _ => simp [Rows.uptoBulk]
        simp only [Rows.uptoBulk]
        omega
end
end Go.Proofs.YtjpcmgoajdjkgaaGreatDoor
