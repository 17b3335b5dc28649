/- Arguments, opened: a row of bytes, a slice, a choice for each index. -/
import Derived.Test.YtnljhabpcoiihaaGreatDoorBase
import Derived.Test.YtnljhabpcoiihaaGreatDoorRows
import Derived.OpenShut
import Derived.Deep.Slices
set_option linter.all false
namespace Go.Proofs.YtnljhabpcoiihaaGreatDoor
open Go.RowKit Go.Deep
section
variable {H : Type} {enc : TypeId × Value → H} {W : World} {spare : Nat → Bool} {held : Bool} {fuel : Nat} {cs : List Value} {x : DataW H × List MemPlace}

theorem cells_at {w : World} {base : Nat} {a : Addr} {n : Nat} {cs : List Value} (h : w.cells? base a n = some cs) : cs.length = n ∧ ∀ i, i < n → w.cell? (a.add i) = cs[i]? := by
  unfold World.cells? at h
  split at h
  · exact ⟨by simpa using mapM_some_length h, fun i hi => mapM_some_get h i i (by simp [hi])⟩
  · cases h

/-- one choice for each index -/
theorem choose_list {α : Type} {P : Nat → α → Prop} : ∀ (n : Nat), (∀ i, i < n → ∃ a, P i a) → ∃ l : List α, l.length = n ∧ ∀ i (h : i < l.length), P i l[i]
  | 0, _ => ⟨[], rfl, fun i h => by simp at h⟩
  | n + 1, h => by
    obtain ⟨l, hl, hp⟩ := choose_list n (fun i hi => h i (by omega))
    obtain ⟨a, ha⟩ := h n (by omega)
    refine ⟨l ++ [a], by simp [hl], fun i hi => ?_⟩
    by_cases h' : i < l.length
    · rw [List.getElem_append_left h']; exact hp i h'
    · have : i = l.length := by simp at hi; omega
      subst this
      rw [List.getElem_append_right (by omega)]
      simpa [hl] using ha

theorem open_u8 (h : DataW.trod enc Tryz.prog W 0 spare held fuel 5 cs = some x) : ∃ c : UInt8, cs = [.int .u8 (c.toNat : Int)] ∧ x = (.lit (.int .u8 (c.toNat : Int)), []) := by
  obtain ⟨n, rfl, rfl, hw⟩ := DataW.trod_int Tryz.underlying5 h
  have hb := bounds_u8 hw
  refine ⟨UInt8.ofNat n.toNat, ?_, ?_⟩
  · congr 2; simp [UInt8.toNat_ofNat']; omega
  · congr 3; simp [UInt8.toNat_ofNat']; omega

theorem bytesV_of : ∀ (n : Nat) (cs : List Value), cs.length = n → (∀ i (h : i < cs.length), ∃ c : UInt8, cs[i] = .int .u8 (c.toNat : Int)) → ∃ l : List UInt8, l.length = n ∧ cs = bytesV l := by
  intro n cs hn h
  obtain ⟨l, hl, hp⟩ := choose_list (P := fun i (c : UInt8) => cs[i]? = some (.int .u8 (c.toNat : Int))) n (fun i hi => by
    obtain ⟨c, hc⟩ := h i (by omega)
    exact ⟨c, by rw [List.getElem?_eq_getElem (by omega), hc]⟩)
  refine ⟨l, hl, List.ext_getElem? fun i => ?_⟩
  by_cases hi : i < n
  · rw [hp i (by omega), bytesV_get l i (by omega)]
  · rw [List.getElem?_eq_none (by omega), List.getElem?_eq_none (by rw [bytesV_length]; omega)]

/-- an array of bytes -/
theorem open_arr {t : TypeId} {n : Nat} (ht : Tryz.prog.underlying t = some (.array n 5)) (hc : Tryz.prog.cellsOf t = n) (hu : Tryz.prog.cellsOf 5 = 1) (h : DataW.trod enc Tryz.prog W 0 spare held fuel t cs = some x) : ∃ l : List UInt8, l.length = n ∧ cs = bytesV l := by
  obtain ⟨xs, m, _, _, hlen, hxs, hel⟩ := DataW.trod_array ht h
  rw [hc] at hlen
  refine bytesV_of n cs hlen fun i hi => ?_
  have h1 := hel i (by omega)
  rw [List.getElem?_eq_getElem (by omega), hu, Nat.mul_one] at h1
  obtain ⟨c, h2, _⟩ := open_u8 h1
  refine ⟨c, ?_⟩
  have : ((cs.drop i).take 1)[0]? = some (.int .u8 (c.toNat : Int)) := by rw [h2]; rfl
  rw [List.getElem?_take, if_pos (by omega), List.getElem?_drop, Nat.add_zero, List.getElem?_eq_getElem hi] at this
  injection this

theorem spotless {w : World} {a : Addr} {v : Value} (h : w.cell? a = some v) : a.spot = none := by
  unfold World.cell? at h
  split at h
  · split at h
    · cases h
    · rename_i hs; simpa using hs
  · cases h

/-- a slice whose elements are one cell each -/
theorem open_row {t e : TypeId} (ht : Tryz.prog.underlying t = some (.slice e)) {k : Nat} (hk : Tryz.prog.cellsOf e = k) (hk0 : 0 < k) (h : DataW.trod enc Tryz.prog W 0 spare held fuel t cs = some x) :
    ∃ A len cap, cs = [.slice A len cap] ∧ len ≤ cap ∧ (A = none → len = 0) ∧ (len = 0 ∨ ∃ b o, A = some ⟨b, o, none⟩ ∧
      ∃ (D : Nat → DataW H) (Pl : Nat → List MemPlace) (n : Nat) (rest : List (DataW H)), x.1 = .slice ((List.range len).map D) rest ∧ ∀ i, i < len → ∃ cs', cs'.length = k ∧ (∀ j, j < k → W.cell? ⟨b, o + i * k + j, none⟩ = cs'[j]?) ∧ DataW.trod enc Tryz.prog W 0 spare held n e cs' = some (D i, Pl i)) := by
  rcases open_slice ht h with ⟨rfl, rfl⟩ | ⟨a, len, cap, m, n, D, Pl, rfl, _, hl, _, hm, rfl, hel⟩
  · exact ⟨none, 0, 0, rfl, Nat.le_refl _, fun _ => rfl, .inl rfl⟩
  · refine ⟨some a, len, cap, rfl, hl, (fun h => by cases h), ?_⟩
    by_cases h0 : len = 0
    · exact .inl h0
    right
    have hlm : len ≤ m := by subst hm; split <;> omega
    obtain ⟨c0, hc0, _⟩ := hel 0 (by omega)
    obtain ⟨hl0, hg0⟩ := cells_at hc0
    have := hg0 0 (by omega)
    rw [Nat.zero_mul] at this
    simp only [Addr.add, if_true] at this
    rw [List.getElem?_eq_getElem (by omega)] at this
    have hsp := spotless this
    obtain ⟨b, o, s⟩ := a
    simp only at hsp
    subst hsp
    refine ⟨b, o, rfl, D, Pl, n, _, rfl, fun i hi => ?_⟩
    obtain ⟨c1, hc1, ht1⟩ := hel i (by omega)
    obtain ⟨hl1, hg1⟩ := cells_at hc1
    rw [hk] at hl1 hg1
    refine ⟨c1, hl1, fun j hj => ?_, ht1⟩
    rw [← hg1 j hj]
    have e1 : ∀ p q, (⟨b, p, none⟩ : Addr).add q = ⟨b, p + q, none⟩ := fun p q => by unfold Addr.add; split <;> simp_all
    rw [e1, e1]

theorem bulk_range {D : Nat → DataW H} : ∀ (len i : Nat), i < len → Rows.uptoBulk (D i) + len ≤ Rows.uptoBulkAll ((List.range len).map D) + 1
  | 0, i, h => by omega
  | len + 1, i, h => by
    have hap : ∀ (l r : List (DataW H)), Rows.uptoBulkAll (l ++ r) = Rows.uptoBulkAll l + Rows.uptoBulkAll r := by
      intro l r
      induction l with
      | nil => simp [Rows.uptoBulkAll]
      | cons x l ih => simp only [List.cons_append, Rows.uptoBulkAll, ih]; omega
    have h1 : ∀ d : DataW H, 1 ≤ Rows.uptoBulk d := by
      intro d
      cases d with
      | lit l => cases l <;> simp [Rows.uptoBulk]
      | _ => simp [Rows.uptoBulk]
    rw [List.range_succ, List.map_append, hap]
    simp only [List.map_cons, List.map_nil, Rows.uptoBulkAll]
    by_cases hi : i < len
    · have := bulk_range (D := D) len i hi
      have := h1 (D len)
      omega
    · obtain rfl : i = len := by omega
      have : ∀ n, n ≤ Rows.uptoBulkAll ((List.range n).map D) := by
        intro n
        induction n with
        | zero => simp
        | succ n ih =>
          rw [List.range_succ, List.map_append, hap]
          have := h1 (D n)
          simp only [List.map_cons, List.map_nil, Rows.uptoBulkAll]
          omega
      have := this i
      omega

/-- a row of bytes -/
theorem open_bytes (h : DataW.trod enc Tryz.prog W 0 spare held fuel 29 cs = some x) : ∃ A cap, ∃ l : List UInt8, cs = [.slice A l.length cap] ∧ l.length ≤ cap ∧ Rd 0 W A (bytesV l) ∧ l.length ≤ Rows.uptoBulk x.1 := by
  obtain ⟨A, len, cap, rfl, hl, _, hx⟩ := open_row Tryz.underlying29 (k := 1) (by kernel_rfl) (by decide) h
  rcases hx with rfl | ⟨b, o, rfl, D, Pl, n, rest, hx, hel⟩
  · exact ⟨A, cap, [], rfl, hl, Rd.nil _ _ _, Nat.zero_le _⟩
  · obtain ⟨l, hll, hp⟩ := choose_list (P := fun i (c : UInt8) => W.cell? ⟨b, o + i, none⟩ = some (.int .u8 (c.toNat : Int))) len (fun i hi => by
      obtain ⟨cs', h1, h2, h3⟩ := hel i hi
      obtain ⟨c, h4, _⟩ := open_u8 h3
      refine ⟨c, ?_⟩
      have := h2 0 (by omega)
      rw [h4] at this
      simpa using this)
    refine ⟨some ⟨b, o, none⟩, cap, l, by rw [hll], by omega, Or.inr ⟨b, o, Nat.zero_le _, rfl, fun k hk => ?_⟩, ?_⟩
    · rw [bytesV_length] at hk
      rw [hp k hk, bytesV_get l k hk]
    · rw [hx]
      by_cases h0 : len = 0
      · omega
      · have := bulk_range (D := D) len 0 (by omega)
        have h1 : 1 ≤ Rows.uptoBulk (D 0) := by
          cases D 0 with
          | lit l => cases l <;> simp [Rows.uptoBulk]
          | _ => simp [Rows.uptoBulk]
        simp only [Rows.uptoBulk]
        omega
end
end Go.Proofs.YtnljhabpcoiihaaGreatDoor
