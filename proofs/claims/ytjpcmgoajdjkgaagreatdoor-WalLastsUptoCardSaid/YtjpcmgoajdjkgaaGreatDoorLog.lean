/- A log: what it is (LogX), End, First, last, Sync, Get. -/
import Derived.Test.YtjpcmgoajdjkgaaGreatDoorNums
set_option linter.all false
namespace Go.Proofs.YtjpcmgoajdjkgaaGreatDoor
open Go.RowKit

structure PartM where
  frm : Int
  many : Nat
  size : Nat
  deriving DecidableEq
structure LogM where
  name : List UInt8
  most : Int
  parts : List PartM
  recs : List (List UInt8)
  first : Int
  dirty : Bool
  deriving DecidableEq

def PartM.cells (p : PartM) : List Value := [.int .i64 p.frm, .int .i64 (p.many : Int), .int .i64 (p.size : Int)]
def partCells (l : List PartM) : List Value := l.flatMap PartM.cells
theorem partCells_length (l : List PartM) : (partCells l).length = l.length * 3 := by
  induction l with
  | nil => rfl
  | cons p r ih => simp only [partCells, List.flatMap_cons, List.length_append, List.length_cons] at ih ⊢; rw [ih]; simp [PartM.cells]; omega

/-- a log, written out: its block, its parts, its records' slices -/
structure LogX (n : Nat) (w : World) (bl bd : Nat) (pv rv : Value) (vs : List Value) (G : LogM) : Prop where
  le : n ≤ bl
  at_ : w.heap[bl]? = some (.cells #[.pointer (some ⟨bd, 0, none⟩), .string ⟨G.name.toArray⟩, .int .i64 G.most, pv, rv, .int .i64 G.first, .bool G.dirty] 93 (0, 0))
  parts : w.ownsRow n 106 3 pv G.parts.length (partCells G.parts)
  recs : w.ownsRow n 22 1 rv G.recs.length vs
  each : ∀ (k : Nat) (v : Value) (l : List UInt8), vs[k]? = some v → G.recs[k]? = some l → Bs 5 w v l
  few : G.recs.length ≤ 1099511627776 ∧ G.parts.length ≤ 1099511627776
  fst : 0 ≤ G.first ∧ G.first ≤ 1000000000
  nm : G.name.length ≤ 16
def LogR (n : Nat) (w : World) (bl bd : Nat) (G : LogM) : Prop := ∃ pv rv vs, LogX n w bl bd pv rv vs G

theorem LogX.vlen {n : Nat} {w : World} {bl bd : Nat} {pv rv : Value} {vs : List Value} {G : LogM} (h : LogX n w bl bd pv rv vs G) : vs.length = G.recs.length := by
  have := h.recs.1; omega
/-- the blocks that a log lies in, and the bytes, are as they were -/
def KeepsL (w w' : World) : Prop := ∀ (b : Nat) (o : Obj), w.heap[b]? = some o → (tagOf o = some 93 ∨ tagOf o = some 106 ∨ tagOf o = some 22 ∨ tagOf o = some 5) → w'.heap[b]? = some o
theorem own_keeps {w w' : World} {base n : Nat} {e : TypeId} {size : Nat} {v : Value} {xs : List Value} (h : w.ownsRow base e size v n xs) (hk : ∀ (b : Nat) (o : Obj), w.heap[b]? = some o → tagOf o = some e → w'.heap[b]? = some o) : w'.ownsRow base e size v n xs := by
  obtain ⟨hl, h | ⟨g, cap, cur, hv, hg, hh, r⟩⟩ := h
  · exact ⟨hl, .inl h⟩
  · exact ⟨hl, .inr ⟨g, cap, cur, hv, hg, hk g _ hh rfl, r⟩⟩
theorem LogX.keeps {n : Nat} {w w' : World} {bl bd : Nat} {pv rv : Value} {vs : List Value} {G : LogM} (h : LogX n w bl bd pv rv vs G) (hk : KeepsL w w') : LogX n w' bl bd pv rv vs G :=
  ⟨h.le, hk _ _ h.at_ (.inl rfl), own_keeps h.parts fun b o hb ht => hk b o hb (.inr (.inl ht)), own_keeps h.recs fun b o hb ht => hk b o hb (.inr (.inr (.inl ht))),
    fun k v l hv hl => (h.each k v l hv hl).keeps fun b o hb ht => hk b o hb (.inr (.inr (.inr ht))), h.few, h.fst, h.nm⟩
theorem KeepsL.of_turn {n : Nat} {T : List (Option TypeId)} {w w' : World} (h : Turn n T w w') (h0 : some 93 ∉ T) (h1 : some 106 ∉ T) (h2 : some 22 ∉ T) (h3 : some 5 ∉ T) : KeepsL w w' :=
  fun b o hb ht => h.block b o hb (.inr (by rcases ht with ht | ht | ht | ht <;> rw [ht] <;> assumption))
theorem KeepsL.of_below {w w' : World} (h : Below w.heap.size w w') : KeepsL w w' := fun b o hb _ => (h.block b (heap_lt hb)).trans hb
theorem LogX.below {n : Nat} {w w' : World} {bl bd : Nat} {pv rv : Value} {vs : List Value} {G : LogM} (h : LogX n w bl bd pv rv vs G) (hb : Below w.heap.size w w') : LogX n w' bl bd pv rv vs G := h.keeps (KeepsL.of_below hb)
theorem LogR.keeps {n : Nat} {w w' : World} {bl bd : Nat} {G : LogM} (h : LogR n w bl bd G) (hk : KeepsL w w') : LogR n w' bl bd G := by
  obtain ⟨pv, rv, vs, h⟩ := h; exact ⟨pv, rv, vs, h.keeps hk⟩
theorem LogR.below {n : Nat} {w w' : World} {bl bd : Nat} {G : LogM} (h : LogR n w bl bd G) (hb : Below w.heap.size w w') : LogR n w' bl bd G := h.keeps (KeepsL.of_below hb)

def LogM.fin (G : LogM) : Int := G.first + G.recs.length

set_option maxRecDepth 100000 in
set_option maxHeartbeats 400000 in
theorem end_c (n bl bd : Nat) (G : LogM) (w : World) (hL : LogR n w bl bd G) :
    Calls Tryz.prog 37 #[.pointer (some ⟨bl, 0, none⟩)] w fun e w' => e = .returned (.int .i64 G.fin) ∧ ∃ q, w' = w.drewN q := by
  obtain ⟨pv, rv, vs, hX⟩ := hL
  have c4 := Joins.cell_of_block hX.at_ 4
  have c5 := Joins.cell_of_block hX.at_ 5
  obtain ⟨A, cap, rfl, _, _, _⟩ := own_slice hX.recs
  have hw : wrap64 (G.first + (G.recs.length : Int)) = G.first + G.recs.length := by have := hX.few; have := hX.fst; unfold wrap64; omega
  unfold LogM.fin
  have HX := Lib.hid hX; clear hX
  simp at c4 c5
  obtain ⟨F, hF⟩ : ∃ F, G.first = F := ⟨_, rfl⟩
  obtain ⟨R, hR⟩ : ∃ R, G.recs.length = R := ⟨_, rfl⟩
  rw [hF, hR] at hw
  rw [hF] at c5
  rw [hR] at c4
  rw [hF, hR]
  clear hF hR
  have c4' : w.drew.cell? ⟨bl, 4, none⟩ = some (.slice A R cap) := c4
  have c5' : w.drew.cell? ⟨bl, 5, none⟩ = some (.int .i64 F) := c5
  go_enter Tryz.func37, Tryz.ntmps37
  go_wp2_with fail
  go_region
  go_wp2_with fail
  go_ret
  exact ⟨by rw [hw]; rfl, 1, rfl⟩
set_option maxRecDepth 100000 in
set_option maxHeartbeats 400000 in
theorem first_c (n bl bd : Nat) (G : LogM) (w : World) (hL : LogR n w bl bd G) :
    Calls Tryz.prog 36 #[.pointer (some ⟨bl, 0, none⟩)] w fun e w' => e = .returned (.int .i64 G.first) ∧ w' = w := by
  obtain ⟨pv, rv, vs, hX⟩ := hL
  have c5 := Joins.cell_of_block hX.at_ 5
  have HX := Lib.hid hX; clear hX
  simp at c5
  go_enter Tryz.func36, Tryz.ntmps36
  go_wp2
  go_ret
  exact ⟨rfl, rfl⟩

set_option maxRecDepth 100000 in
set_option maxHeartbeats 400000 in
theorem last_none (n bl bd : Nat) (G : LogM) (w : World) (hL : LogR n w bl bd G) (h0 : G.parts = []) :
    Calls Tryz.prog 61 #[.pointer (some ⟨bl, 0, none⟩)] w fun e w' => e = .returned (.tuple #[.pointer none, .bool false]) ∧ w' = w := by
  obtain ⟨pv, rv, vs, hX⟩ := hL
  have c3 := Joins.cell_of_block hX.at_ 3
  obtain ⟨A, cap, rfl, _, _, _⟩ := own_slice hX.parts
  rw [h0] at c3
  have HX := Lib.hid hX; clear hX
  simp at c3
  go_enter Tryz.func61, Tryz.ntmps61
  go_wp2
  go_ret2
  exact ⟨rfl, rfl⟩

set_option maxRecDepth 100000 in
set_option maxHeartbeats 400000 in
theorem last_some (n bl bd : Nat) (G : LogM) (g cap : Nat) (rv : Value) (vs : List Value) (m : Nat) (w : World) (hX : LogX n w bl bd (.slice (some ⟨g, 0, none⟩) (m + 1) cap) rv vs G) :
    Calls Tryz.prog 61 #[.pointer (some ⟨bl, 0, none⟩)] w fun e w' => e = .returned (.tuple #[.pointer (some ⟨g, m * 3, none⟩), .bool true]) ∧ ∃ q, w' = w.drewN q := by
  have c3 := Joins.cell_of_block hX.at_ 3
  have hm : m < 1099511627777 := by
    have h1 := hX.few.2
    have h2 := hX.parts.1
    rw [partCells_length] at h2
    obtain ⟨_, _, hh, _⟩ := own_slice hX.parts
    injection hh with _ h3 _
    omega
  simp at c3
  have c3' : w.drew.cell? ⟨bl, 3, none⟩ = some (.slice (some ⟨g, 0, none⟩) (m + 1) cap) := c3
  have hadd : (⟨g, 0, none⟩ : Addr).add (m * 3) = ⟨g, m * 3, none⟩ := by unfold Addr.add; split <;> simp_all
  have HX := Lib.hid hX; clear hX
  go_enter Tryz.func61, Tryz.ntmps61
  go_wp2_with fail
  go_region
  go_wp2_with fail
  go_ret2
  exact ⟨by simp, 1, rfl⟩
end Go.Proofs.YtjpcmgoajdjkgaaGreatDoor
