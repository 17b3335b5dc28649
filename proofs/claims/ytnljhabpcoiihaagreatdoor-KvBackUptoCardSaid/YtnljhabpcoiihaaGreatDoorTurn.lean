/- Words for memory that is written: which blocks a call may turn (those from a bound on, of these types), and bytes that lie in blocks of bytes. -/
import Derived.Test.YtnljhabpcoiihaaGreatDoorBase
import Derived.Maps.OwnSet
import Derived.Maps.RangeWalk
set_option linter.all false
namespace Go.Proofs.YtnljhabpcoiihaaGreatDoor
open Go.RowKit

/-- the type of a block of cells; none: it is no block of cells (a map) -/
def tagOf : Obj → Option TypeId
  | .cells _ e _ => some e
  | _ => none

/-- w' is w, but for new blocks, and for blocks from n on that are of one of the types T -/
structure Turn (n : Nat) (T : List (Option TypeId)) (w w' : World) : Prop where
  os : w'.os = w.os
  tape : w'.tape = w.tape
  output : w'.output = w.output
  size : w.heap.size ≤ w'.heap.size
  block : ∀ b o, w.heap[b]? = some o → (b < n ∨ tagOf o ∉ T) → w'.heap[b]? = some o

section
variable {n : Nat} {T : List (Option TypeId)} {a w w' : World}

theorem Turn.refl (n : Nat) (T : List (Option TypeId)) (w : World) : Turn n T w w := ⟨rfl, rfl, rfl, Nat.le_refl _, fun _ _ h _ => h⟩
theorem Turn.trans (h : Turn n T a w) (k : Turn n T w w') : Turn n T a w' :=
  ⟨k.os.trans h.os, k.tape.trans h.tape, k.output.trans h.output, Nat.le_trans h.size k.size, fun b o hb hc => k.block b o (h.block b o hb hc) hc⟩
theorem Turn.mono (h : Turn n T w w') {n' : Nat} {T' : List (Option TypeId)} (hn : n' ≤ n) (hT : ∀ t ∈ T, t ∈ T') : Turn n' T' w w' :=
  ⟨h.os, h.tape, h.output, h.size, fun b o hb hc => h.block b o hb (hc.imp (fun x => by omega) (fun x y => x (hT _ y)))⟩
theorem heap_lt {w : World} {b : Nat} {o : Obj} (h : w.heap[b]? = some o) : b < w.heap.size := by
  rcases Nat.lt_or_ge b w.heap.size with hlt | hge
  · exact hlt
  · rw [Array.getElem?_eq_none hge] at h; cases h
theorem Turn.of_below (h : Below w.heap.size w w') : Turn n T w w' :=
  ⟨h.os, h.tape, h.output, h.size, fun b o hb _ => (h.block b (heap_lt hb)).trans hb⟩
theorem Turn.below (h : Turn n T w w') (hn : n ≤ w.heap.size) : Below n w w' :=
  ⟨h.os, h.tape, h.output, h.size, fun k hk => by
    have hk' : k < w.heap.size := by omega
    rw [Array.getElem?_eq_getElem hk']
    exact h.block k _ (Array.getElem?_eq_getElem hk') (.inl hk)⟩
theorem Turn.below_all (h : Turn n [] w w') : Below w.heap.size w w' := ⟨h.os, h.tape, h.output, h.size, fun k hk => by
    rw [Array.getElem?_eq_getElem hk]
    exact h.block k _ (Array.getElem?_eq_getElem hk) (.inr (by simp))⟩

theorem Turn.alloc (h : Turn n T a w) (o : Obj) : Turn n T a (w.alloc o) := h.trans (Turn.of_below (bnew w o))
theorem Turn.drew (h : Turn n T a w) : Turn n T a w.drew := ⟨h.os, h.tape, h.output, h.size, h.block⟩
theorem Turn.drewN (h : Turn n T a w) (k : Nat) : Turn n T a (w.drewN k) := ⟨h.os, h.tape, h.output, h.size, h.block⟩
theorem Turn.bel (h : Turn n T a w) (k : Below w.heap.size w w') : Turn n T a w' := h.trans (Turn.of_below k)

theorem Turn.setCell (h : Turn n T a w) {b : Nat} {c : Array Value} {e : TypeId} {f : Nat × Nat} (hb : w.heap[b]? = some (.cells c e f)) (hn : n ≤ b) (hT : some e ∈ T) (o : Nat) (v : Value) :
    Turn n T a (w.setCell ⟨b, o, none⟩ v) := h.trans
  ⟨rfl, rfl, rfl, by simp [World.setCell], fun x ob hx hc => by
    by_cases hxb : x = b
    · subst hxb
      rw [hb] at hx; cases hx
      rcases hc with hc | hc
      · omega
      · exact absurd hT hc
    · exact (Below.heap_setCell w ⟨b, o, none⟩ v x hxb).trans hx⟩

theorem Turn.setBlock (h : Turn n T a w) {b : Nat} {o : Obj} (hb : w.heap[b]? = some o) (hn : n ≤ b) (hT : tagOf o ∈ T) (o' : Obj) :
    Turn n T a (Go.ChangeMaps.setBlock w b o') := h.trans
  ⟨rfl, rfl, rfl, by simp [Go.ChangeMaps.setBlock], fun x ob hx hc => by
    by_cases hxb : x = b
    · subst hxb
      rw [hb] at hx; cases hx
      rcases hc with hc | hc
      · omega
      · exact absurd hT hc
    · simp only [Go.ChangeMaps.setBlock]
      rw [Array.getElem?_setIfInBounds_ne (by omega)]
      exact hx⟩

theorem Turn.grown (h : Turn n T a w) {row : Option Nat} (hg : w.grownBy w' row) (hr : ∀ r, row = some r → n ≤ r ∧ ∀ o, w.heap[r]? = some o → tagOf o ∈ T) : Turn n T a w' := h.trans
  ⟨hg.os, hg.tape, hg.output, hg.size, fun b o hb hc => by
    by_cases hrow : some b = row
    · obtain ⟨h1, h2⟩ := hr b hrow.symm
      rcases hc with hc | hc
      · omega
      · exact absurd (h2 _ hb) hc
    · exact (hg.block b (heap_lt hb) hrow).trans hb⟩
end

/-- all maps but one are as they were -/
def MapK (m : Nat) (w w' : World) : Prop := ∀ (x : Nat) (o : Obj), w.heap[x]? = some o → tagOf o = none → x ≠ m → w'.heap[x]? = some o
theorem MapK.trans {m : Nat} {a w w' : World} (h : MapK m a w) (k : MapK m w w') : MapK m a w' := fun x o hx ht hne => k x o (h x o hx ht hne) ht hne
theorem MapK.of_turn {m n : Nat} {T : List (Option TypeId)} {w w' : World} (h : Turn n T w w') (hT : none ∉ T) : MapK m w w' := fun x o hx ht _ => h.block x o hx (.inr (by rw [ht]; exact hT))
theorem MapK.of_below {m : Nat} {w w' : World} (h : Below w.heap.size w w') : MapK m w w' := fun x o hx _ _ => (h.block x (heap_lt hx)).trans hx

/-- a slice value reads as these bytes, which lie in a block of bytes -/
def Bs (t8 : TypeId) (w : World) (v : Value) (l : List UInt8) : Prop :=
  ∃ A cap, v = .slice A l.length cap ∧ l.length ≤ cap ∧ cap ≤ maxLen ∧ (l = [] ∨ ∃ b o c f, A = some ⟨b, o, none⟩ ∧ w.heap[b]? = some (.cells c t8 f) ∧ ∀ k, k < l.length → c[o + k]? = (bytesV l)[k]?)

section
variable {t8 : TypeId} {w w' : World} {v : Value} {l : List UInt8}

theorem Bs.turn (h : Bs t8 w v l) {n : Nat} {T : List (Option TypeId)} (ht : Turn n T w w') (hT : some t8 ∉ T) : Bs t8 w' v l := by
  obtain ⟨A, cap, rfl, hc, hm, hl | ⟨b, o, c, f, rfl, hb, hk⟩⟩ := h
  · exact ⟨A, cap, rfl, hc, hm, .inl hl⟩
  · exact ⟨_, cap, rfl, hc, hm, .inr ⟨b, o, c, f, rfl, ht.block b _ hb (.inr hT), hk⟩⟩
theorem Bs.below (h : Bs t8 w v l) (hb : Below w.heap.size w w') : Bs t8 w' v l := h.turn (n := 0) (T := []) (Turn.of_below hb) (by simp)
theorem Bs.nil (t8 : TypeId) (w : World) : Bs t8 w (.slice none 0 0) [] := ⟨none, 0, rfl, Nat.le_refl _, by simp, .inl rfl⟩
theorem Bs.toR (h : Bs t8 w v l) : BytesR 0 w v l := by
  obtain ⟨A, cap, rfl, hc, hm, hl | ⟨b, o, c, f, rfl, hb, hk⟩⟩ := h
  · subst hl; exact ⟨A, cap, rfl, hc, Rd.nil _ _ _⟩
  · refine ⟨_, cap, rfl, hc, .inr ⟨b, o, Nat.zero_le _, rfl, fun k hk' => ?_⟩⟩
    rw [bytesV_length] at hk'
    simp only [World.cell?, hb]
    exact hk k hk'
theorem Bs.of_own {base : Nat} (h : w.ownsRow base t8 1 v l.length (bytesV l)) : Bs t8 w v l := by
  obtain ⟨hl, ⟨rfl, hz⟩ | ⟨g, cap, cur, rfl, hg, hh, hn, hc, hs, ht⟩⟩ := h
  · have : l = [] := List.eq_nil_of_length_eq_zero hz
    subst this; exact Bs.nil _ _
  · refine ⟨_, cap, rfl, hn, hc, .inr ⟨g, 0, cur, _, rfl, hh, fun k hk => ?_⟩⟩
    rw [← ht, List.getElem?_take, Nat.zero_add]
    simp [hk]
end
end Go.Proofs.YtnljhabpcoiihaaGreatDoor
