/- A log's parts and records: one more, the last one anew. -/
import Derived.Test.YtnljhabpcoiihaaGreatDoorLoadI
set_option linter.all false
namespace Go.Proofs.YtnljhabpcoiihaaGreatDoor
open Go.RowKit

section
variable {n bl bd : Nat} {w : World} {pv rv : Value} {vs : List Value} {G : LogM}

theorem own_ne {base m : Nat} {e : TypeId} {size : Nat} {v : Value} {xs : List Value} (h : w.ownsRow base e size v m xs) {b : Nat} {o : Obj} (hb : w.heap[b]? = some o) (ht : tagOf o ≠ some e) : v.ownBlock ≠ some b := by
  intro he
  rcases h.2 with ⟨h1, _⟩ | ⟨g, cap, cur, h1, _, hh, _⟩
  · rw [h1] at he; simp [Value.ownBlock] at he
  · rw [h1] at he
    simp only [Value.ownBlock, Option.some.injEq] at he
    subst he; rw [hb] at hh; cases hh; exact ht rfl

theorem LogX.setLast {g cap : Nat} {init : List PartM} {p : PartM} (h : LogX n w bl bd (.slice (some ⟨g, 0, none⟩) (init.length + 1) cap) rv vs G) (hp : G.parts = init ++ [p]) (q : PartM) :
    LogX n (((w.setCell ⟨g, init.length * 3, none⟩ (.int .i64 q.frm)).setCell ⟨g, init.length * 3 + 1, none⟩ (.int .i64 (q.many : Int))).setCell ⟨g, init.length * 3 + 2, none⟩ (.int .i64 (q.size : Int))) bl bd (.slice (some ⟨g, 0, none⟩) (init.length + 1) cap) rv vs { G with parts := init ++ [q] } ∧
    (∀ (b : Nat) (o : Obj), w.heap[b]? = some o → b ≠ g → (((w.setCell ⟨g, init.length * 3, none⟩ (.int .i64 q.frm)).setCell ⟨g, init.length * 3 + 1, none⟩ (.int .i64 (q.many : Int))).setCell ⟨g, init.length * 3 + 2, none⟩ (.int .i64 (q.size : Int))).heap[b]? = some o) ∧ n ≤ g ∧ ∃ cur, w.heap[g]? = some (.cells cur 159 (0, 0)) := by
  obtain ⟨_, hng, cur, hbc, hcm, hcs, hcl, hct, _, _, _⟩ := h.part hp
  have hk : ∀ (b : Nat) (o : Obj), w.heap[b]? = some o → b ≠ g → (((w.setCell ⟨g, init.length * 3, none⟩ (.int .i64 q.frm)).setCell ⟨g, init.length * 3 + 1, none⟩ (.int .i64 (q.many : Int))).setCell ⟨g, init.length * 3 + 2, none⟩ (.int .i64 (q.size : Int))).heap[b]? = some o :=
    fun b o hb hne => heap_setCell_ne' (heap_setCell_ne' (heap_setCell_ne' hb hne) hne) hne
  have hkt : ∀ (b : Nat) (o : Obj), w.heap[b]? = some o → tagOf o ≠ some 159 → b ≠ g := fun b o hb ht => by rintro rfl; rw [hbc] at hb; cases hb; exact ht rfl
  refine ⟨⟨h.le, hk _ _ h.at_ (hkt _ _ h.at_ (by simp [tagOf])), ?_, own_keeps h.recs fun b o hb ht => hk b o hb (hkt b o hb (by rw [ht]; simp)),
    fun k v l hv hl => (h.each k v l hv hl).keeps fun b o hb ht => hk b o hb (hkt b o hb (by rw [ht]; simp)), ?_, h.fst, h.nm⟩, hk, hng, cur, hbc⟩
  · have h1 := Joins.block_setCell hbc (i := init.length * 3) (.int .i64 q.frm)
    have h2 := Joins.block_setCell h1 (i := init.length * 3 + 1) (.int .i64 (q.many : Int))
    have h3 := Joins.block_setCell h2 (i := init.length * 3 + 2) (.int .i64 (q.size : Int))
    have hcur : cur.toList = partCells init ++ (p.cells ++ cur.toList.drop ((init.length + 1) * 3)) := by
      rw [← List.append_assoc, ← hct, List.take_append_drop]
    refine ⟨by simp [partCells_length], .inr ⟨g, cap, _, by simp, hng, h3, by simpa using hcl, hcm, by simp [hcs], ?_⟩⟩
    simp only [Array.toList_setIfInBounds, List.length_append, List.length_singleton]
    rw [hcur, partCells_append]
    have hpl := partCells_length init
    have e1 : (init.length + 1) * 3 = (partCells init).length + 3 := by rw [hpl]; omega
    rw [e1]
    have hs : ∀ (j : Nat) (v : Value) (R : List Value), (partCells init ++ R).set (init.length * 3 + j) v = partCells init ++ R.set j v := by
      intro j v R
      rw [List.set_append, if_neg (by omega)]
      congr 2
      omega
    have hs0 := hs 0
    rw [Nat.add_zero] at hs0
    rw [hs0, hs 1, hs 2, List.take_append, List.take_of_length_le (by omega)]
    simp [PartM.cells, partCells]
  · have := h.few
    rw [hp] at this
    simpa using this

theorem LogX.addPart {W' W2 : World} {pv' : Value} {q : PartM} (h : LogX n w bl bd pv rv vs G)
    (hown' : W2.ownsRow n 159 3 pv' (G.parts.length + 1) (partCells G.parts ++ q.cells)) (hg : W'.grownBy W2 pv.ownBlock) (hw : ∀ k, k < w.heap.size → W'.heap[k]? = w.heap[k]?) (hv' : pv'.ownBlock = pv.ownBlock ∨ pv'.ownBlock = some (w.heap.size + 1))
    (hfew : G.parts.length + 1 ≤ 1099511627776) :
    LogX n (W2.setCell ⟨bl, 3, none⟩ pv') bl bd pv' rv vs { G with parts := G.parts ++ [q] } ∧
      (∀ (b : Nat) (o : Obj), w.heap[b]? = some o → b ≠ bl → pv.ownBlock ≠ some b → (W2.setCell ⟨bl, 3, none⟩ pv').heap[b]? = some o) ∧ W2.heap[bl]? = w.heap[bl]? := by
  have hk1 : ∀ (b : Nat) (o : Obj), w.heap[b]? = some o → pv.ownBlock ≠ some b → W2.heap[b]? = some o := fun b o hb hne => grown_at hg hne hb hw
  have hk : ∀ (b : Nat) (o : Obj), w.heap[b]? = some o → b ≠ bl → pv.ownBlock ≠ some b → (W2.setCell ⟨bl, 3, none⟩ pv').heap[b]? = some o := fun b o hb h1 h2 => heap_setCell_ne' (hk1 b o hb h2) h1
  have hat := h.at_
  have hbl := heap_lt hat
  have hat2 := hk1 _ _ hat (own_ne h.parts hat (by simp [tagOf]))
  refine ⟨⟨h.le, ?_, ?_, ?_, ?_, ⟨h.few.1, by simpa using hfew⟩, h.fst, h.nm⟩, hk, hat2.trans hat.symm⟩
  · rw [Joins.block_setCell hat2]; rfl
  · simp only [List.length_append, List.length_singleton]
    rw [partCells_append, show partCells [q] = q.cells from by simp [partCells]]
    refine own_keep hown' fun b o hb hv _ => heap_setCell_ne' hb ?_
    rintro rfl
    rcases hv' with hv' | hv'
    · exact own_ne h.parts hat (by simp [tagOf]) (hv'.symm.trans hv)
    · rw [hv] at hv'; cases hv'; omega
  · refine own_keeps h.recs fun b o hb ht => hk b o hb ?_ (own_ne h.parts hb (by rw [ht]; simp))
    rintro rfl; rw [hat] at hb; cases hb; simp [tagOf] at ht
  · intro j v l hv hl
    refine (h.each j v l hv hl).keeps fun b o hb ht => hk b o hb ?_ (own_ne h.parts hb (by rw [ht]; simp))
    rintro rfl; rw [hat] at hb; cases hb; simp [tagOf] at ht

theorem LogX.addRec {W' W2 : World} {rv' v : Value} {b : List UInt8} (h : LogX n w bl bd pv rv vs G)
    (hown' : W2.ownsRow n 29 1 rv' (G.recs.length + 1) (vs ++ [v])) (hg : W'.grownBy W2 rv.ownBlock) (hw : ∀ k, k < w.heap.size → W'.heap[k]? = w.heap[k]?) (hv' : rv'.ownBlock = rv.ownBlock ∨ rv'.ownBlock = some (w.heap.size + 1))
    (hb : Bs 5 w v b) (hfew : G.recs.length + 1 ≤ 1099511627776) :
    LogX n (W2.setCell ⟨bl, 4, none⟩ rv') bl bd pv rv' (vs ++ [v]) { G with recs := G.recs ++ [b] } ∧
      (∀ (b : Nat) (o : Obj), w.heap[b]? = some o → b ≠ bl → rv.ownBlock ≠ some b → (W2.setCell ⟨bl, 4, none⟩ rv').heap[b]? = some o) ∧ W2.heap[bl]? = w.heap[bl]? := by
  have hk1 : ∀ (b : Nat) (o : Obj), w.heap[b]? = some o → rv.ownBlock ≠ some b → W2.heap[b]? = some o := fun b o hb hne => grown_at hg hne hb hw
  have hk : ∀ (b : Nat) (o : Obj), w.heap[b]? = some o → b ≠ bl → rv.ownBlock ≠ some b → (W2.setCell ⟨bl, 4, none⟩ rv').heap[b]? = some o := fun b o hb h1 h2 => heap_setCell_ne' (hk1 b o hb h2) h1
  have hat := h.at_
  have hbl := heap_lt hat
  have hat2 := hk1 _ _ hat (own_ne h.recs hat (by simp [tagOf]))
  have hbs : ∀ {v : Value} {l : List UInt8}, Bs 5 w v l → Bs 5 (W2.setCell ⟨bl, 4, none⟩ rv') v l := fun hh =>
    hh.keeps fun b o hb ht => hk b o hb (by rintro rfl; rw [hat] at hb; cases hb; simp [tagOf] at ht) (own_ne h.recs hb (by rw [ht]; simp))
  refine ⟨⟨h.le, ?_, ?_, ?_, ?_, ⟨by simpa using hfew, h.few.2⟩, h.fst, h.nm⟩, hk, hat2.trans hat.symm⟩
  · rw [Joins.block_setCell hat2]; rfl
  · refine own_keeps h.parts fun b o hb ht => hk b o hb ?_ (own_ne h.recs hb (by rw [ht]; simp))
    rintro rfl; rw [hat] at hb; cases hb; simp [tagOf] at ht
  · simp only [List.length_append, List.length_singleton]
    refine own_keep hown' fun b o hb hv _ => heap_setCell_ne' hb ?_
    rintro rfl
    rcases hv' with hv' | hv'
    · exact own_ne h.recs hat (by simp [tagOf]) (hv'.symm.trans hv)
    · rw [hv] at hv'; cases hv'; omega
  · intro j v' l hv hl
    have hvl := h.vlen
    by_cases hj : j < vs.length
    · rw [List.getElem?_append_left hj] at hv
      simp only at hl
      rw [List.getElem?_append_left (by omega)] at hl
      exact hbs (h.each j v' l hv hl)
    · rw [List.getElem?_append_right (by omega)] at hv
      simp only at hl
      rw [List.getElem?_append_right (by omega), ← hvl] at hl
      obtain ⟨t, ht⟩ : ∃ t, j - vs.length = t := ⟨_, rfl⟩
      rw [ht] at hv hl
      cases t with
      | zero => simp at hv hl; subst hv hl; exact hbs hb
      | succ t => simp at hv
end
end Go.Proofs.YtnljhabpcoiihaaGreatDoor
