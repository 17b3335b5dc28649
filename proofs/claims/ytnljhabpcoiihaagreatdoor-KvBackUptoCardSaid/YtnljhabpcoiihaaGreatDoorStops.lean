/- A range over a function at the wide fence, the iterator writing cells of its own, the rounds free to leave the loop (a return, a break): the law. -/
import Derived.Test.YtnljhabpcoiihaaGreatDoorBase
import Derived.RangeFuncNested
import Derived.RangeFuncBound
import Derived.RangeFuncCalls
import Derived.RangeFuncLeaves
import Derived.OwnWalkIn
import Derived.TacticsInMore
import Derived.LoopNIn
import Derived.LoopIn
set_option linter.all false
namespace Go.Proofs.YtnljhabpcoiihaaGreatDoor
open Go.RowKit
/-- an iterator's word: whatever caller's invariants J, Jx (that abide what Ab says the iterator does), with rounds that go on (and keep what Kp says) or leave, it comes to an end: all has come (Fin), or a round has left (FinX) -/
def Stops {α : Type} (P : Program) (m : Nat) (w : World) (gf : Nat) (lb : Array Value) (enc : α → Array Value) (N : Nat) (Px : α → World → World → Prop) (Ab Kp : World → World → Prop) (Fin FinX : List α → Prop) : Prop :=
  ∀ (l : Nat) (J Jx : List α → World → Prop) (W : World), Below w.heap.size w W → w.heap.size + 2 ≤ W.heap.size →
    (∀ acc W1 W2, J acc W1 → Ab W1 W2 → J acc W2) → (∀ acc W1 W2, Jx acc W1 → Ab W1 W2 → Jx acc W2) →
    (∀ acc x W0 W1, acc.length < N → J acc W0 → Ab W0 W1 → w.heap.size + 2 ≤ W0.heap.size → Px x W0 W1 → YieldAt Fence.wide (m - 1) P l (enc x) W1 fun e W' =>
      (e = .returned (.bool true) ∧ J (acc ++ [x]) W' ∧ Kp W1 W' ∧ W1.heap.size ≤ W'.heap.size) ∨ (e = .returned (.bool false) ∧ Jx (acc ++ [x]) W')) →
    J [] W →
    CallsIn Fence.wide m P gf (#[.func (.yield l) #[] #[]] ++ lb) W fun e W' => (∃ v, e = .returned v) ∧ ((∃ xs, Fin xs ∧ J xs W') ∨ (∃ xs, FinX xs ∧ Jx xs W'))

/-- how a round ends -/
def RoundPost {α : Type} (w : World) (rec : Loop) (I : List α → World → Prop) (Ix : Code → List α → World → Prop) (Kp : World → World → Prop) (xs : List α) (W : World) : Exit → Act → World → Prop
  | .normal, _, W3 => W3.heap[w.heap.size + 1]? = some (.loop { rec with state := .busy }) ∧ W3.heap[w.heap.size]? = some (.deferred (some [])) ∧ I xs W3 ∧ Kp W W3 ∧ W.heap.size ≤ W3.heap.size
  | .ret, _, W3 => W3.heap[w.heap.size + 1]? = some (.loop { rec with state := .busy }) ∧ W3.heap[w.heap.size]? = some (.deferred (some [])) ∧ Ix .ret xs W3
  | .exit id, _, W3 => W3.heap[w.heap.size + 1]? = some (.loop { rec with state := .busy }) ∧ W3.heap[w.heap.size]? = some (.deferred (some [])) ∧ Ix (.exit id) xs W3
  | _, _, _ => False

theorem range_stops {α : Type} {P : Program} {m : Nat} {g : Operand} {ps : Array Tmp} {assign body : Code} {Q : Exit → Act → World → Prop} {a : Act} {w : World} {gf : Nat} {lb : Array Value}
    (hg : a.eval g = .func (.func gf) #[] lb) (eg : ∀ args w, (callFunc gf args).run P w = .ok (.enter gf args) w)
    {enc : α → Array Value} {N : Nat} {Px : α → World → World → Prop} {Ab Kp : World → World → Prop} {Fin FinX : List α → Prop}
    (hps : ∀ x, (enc x).size = ps.size) (hiter : Stops P (m - 1) w gf lb enc N Px Ab Kp Fin FinX)
    (hAb0 : ∀ W, Below w.heap.size w W → Ab w W) (hAbk : ∀ (W1 W2 : World) (k : Nat) (o : Obj), Ab W1 W2 → w.heap.size ≤ k → k < w.heap.size + 2 → W1.heap[k]? = some o → o.isCells = false → W2.heap[k]? = some o)
    (hAbs : ∀ W1 W2 : World, Ab W1 W2 → W1.heap.size ≤ W2.heap.size)
    (hKt : ∀ {A B C : World}, Kp A B → Kp B C → Kp A C) (hKput : ∀ (W : World) (k : Nat) (o o' : Obj), w.heap.size ≤ k → k < w.heap.size + 2 → W.heap[k]? = some o → o.isCells = false → Kp W (W.putObj k o'))
    (I : List α → World → Prop) (Ix : Code → List α → World → Prop) (h0 : I [] w)
    (hIA : ∀ acc W1 W2, I acc W1 → Ab W1 W2 → I acc W2) (hIxA : ∀ c acc W1 W2, Ix c acc W1 → Ab W1 W2 → Ix c acc W2)
    (hIput : ∀ acc (W : World) (k : Nat) (o o' : Obj), I acc W → w.heap.size ≤ k → k < w.heap.size + 2 → W.heap[k]? = some o → o.isCells = false → I acc (W.putObj k o'))
    (hIxput : ∀ c acc (W : World) (k : Nat) (o o' : Obj), Ix c acc W → w.heap.size ≤ k → k < w.heap.size + 2 → W.heap[k]? = some o → o.isCells = false → Ix c acc (W.putObj k o'))
    (hround : ∀ (rec : Loop) (pre : List α) (x : α) (W0 W : World), pre.length < N → W.heap[w.heap.size + 1]? = some (.loop rec) → W.heap[w.heap.size]? = some (.deferred (some [])) → I pre W0 → Ab W0 W → w.heap.size + 2 ≤ W0.heap.size → Px x W0 W →
      assign.wpIn (Fence.wide.inRound (w.heap.size + 1)) (m - 1 - 1) P (Exit.then (fun a₁ W1 => W1.heap[w.heap.size + 1]? = some (.loop rec) ∧
          body.wpIn (Fence.wide.inRound (w.heap.size + 1)) (m - 1 - 1) P (RoundPost w rec I Ix Kp (pre ++ [x]) W) a₁ (W1.putObj (w.heap.size + 1) (.loop { rec with state := .busy }))) (fun _ _ _ => False))
        { tmps := (ps.zip (enc x)).foldl (fun t (p, v) => t.setIfInBounds p v) a.tmps, defers := [] } W)
    (hdone : ∀ (xs : List α) (W : World), Fin xs → I xs W → W.heap[w.heap.size]? = some (.deferred (some [])) → Q .normal { a with defers := { target := .collected w.heap.size, args := #[] } :: a.defers } W)
    (hstop : ∀ (c : Code) (xs : List α) (W : World), FinX xs → Ix c xs W → W.heap[w.heap.size]? = some (.deferred (some [])) → c.wpIn Fence.wide m P Q { a with defers := { target := .collected w.heap.size, args := #[] } :: a.defers } W) :
    (Code.rangeFunc g ps assign body).wpIn Fence.wide m P Q a w := by
  refine wpIn_rangeFunc ?_
  intro fn hfn
  obtain ⟨rec, hrec⟩ : ∃ rec : LoopState → Option Code → Loop, rec = fun st pe => { state := st, pending := pe, fn, tmps := a.tmps, params := ps, assign, body, defers := w.heap.size } := ⟨_, rfl⟩
  obtain ⟨W1, hW1⟩ : ∃ W1, (w.alloc (.deferred (some []))).alloc (.loop (rec .ready none)) = W1 := ⟨_, rfl⟩
  have hL1 : W1.heap[w.heap.size + 1]? = some (.loop (rec .ready none)) := by
    rw [← hW1]; have := World.alloc_heap_new (w.alloc (.deferred (some []))) (.loop (rec .ready none)); rwa [World.size_alloc] at this
  have hK1 : W1.heap[w.heap.size]? = some (.deferred (some [])) := by
    rw [← hW1]; exact (Below.heap_alloc _ _ _ (by simp)).trans (World.alloc_heap_new w _)
  have hb1 : Below w.heap.size w W1 := by rw [← hW1]; exact bnew2 _ _ _
  have hI1 : I [] W1 := hIA _ _ _ h0 (hAb0 _ hb1)
  have hs1 : w.heap.size + 2 ≤ W1.heap.size := by rw [← hW1]; simp
  refine ⟨w.heap.size + 1, [{ target := .collected w.heap.size, args := #[] }], W1, { target := .fn (.func gf) lb, args := #[.func (.yield (w.heap.size + 1)) #[] #[]] }, W1, gf,
    #[.func (.yield (w.heap.size + 1)) #[] #[]] ++ lb, W1, ?_, ?_, ?_, ?_, (fun h => by cases h), ?_⟩
  · rw [← hW1, hrec]; exact run_enterLoop_outer _ _ _ _ _
  · simp only [resolve, hg]
    simp [go_sem]
  · intro f' _; trivial
  · simp [invoke, go_sem, eg]
  · refine (hiter (w.heap.size + 1)
      (fun pre W => I pre W ∧ W.heap[w.heap.size + 1]? = some (.loop (rec .ready none)) ∧ W.heap[w.heap.size]? = some (.deferred (some [])))
      (fun pre W => ∃ c, Ix c pre W ∧ W.heap[w.heap.size + 1]? = some (.loop (rec .done (some c))) ∧ W.heap[w.heap.size]? = some (.deferred (some [])))
      W1 hb1 hs1 ?_ ?_ ?_ ⟨hI1, hL1, hK1⟩).mono ?_
    · rintro acc Wa Wb ⟨hi, hl, hk⟩ hb
      exact ⟨hIA _ _ _ hi hb, hAbk _ _ _ _ hb (by omega) (by omega) hl rfl, hAbk _ _ _ _ hb (by omega) (by omega) hk rfl⟩
    · rintro acc Wa Wb ⟨c, hi, hl, hk⟩ hb
      exact ⟨c, hIxA _ _ _ _ hi hb, hAbk _ _ _ _ hb (by omega) (by omega) hl rfl, hAbk _ _ _ _ hb (by omega) (by omega) hk rfl⟩
    · rintro pre x W0 W hlen ⟨hi, hl0, hk0⟩ hbW hsz0 hpx
      have hl := hAbk _ _ _ _ hbW (by omega) (by omega) hl0 rfl
      have hk := hAbk _ _ _ _ hbW (by omega) (by omega) hk0 rfl
      have hsz : w.heap.size + 2 ≤ W.heap.size := Nat.le_trans hsz0 (hAbs _ _ hbW)
      have hlt : w.heap.size + 1 < W.heap.size := (Array.getElem?_eq_some_iff.1 hl).1
      have hy := run_yield (P := P) (args := enc x) hl (by rw [hrec]; exact hps x)
      rw [hrec] at hy
      refine ⟨fn, _, assign, body, hy, roundIn_of_wpIn hfn ?_⟩
      refine wpIn_mono (hround (rec .ready none) pre x W0 W hlen hl hk hi hbW hsz0 hpx) ?_
      rintro e a₁ Wa h
      cases e with
      | normal =>
        obtain ⟨hla, hbody⟩ := h
        refine ⟨_, run_beginRound hla (by rw [hrec]), ?_⟩
        refine wpIn_mono hbody ?_
        rintro e a3 W3 hp
        cases e with
        | normal =>
          obtain ⟨hl3, hk3, hi3, hkp, hsz3⟩ := hp
          have hend := run_endRound (P := P) none hl3
          refine ⟨_, _, hend, .inl ⟨rfl, ⟨?_, ?_, ?_⟩, ?_, ?_⟩⟩
          · exact hIput _ _ _ _ _ hi3 (by omega) (by omega) hl3 rfl
          · have : (W3.putObj (w.heap.size + 1) (.loop { { rec .ready none with state := .busy } with state := .ready, pending := none })).heap[w.heap.size + 1]? = _ := World.putObj_heap_same (Array.getElem?_eq_some_iff.1 hl3).1
            rw [hrec] at this ⊢
            exact this
          · exact (World.putObj_heap_other (by omega)).trans hk3
          · exact hKt hkp (hKput _ _ _ _ (by omega) (by omega) hl3 rfl)
          · simpa using hsz3
        | ret =>
          obtain ⟨hl3, hk3, hi3⟩ := hp
          have hend := run_endRound (P := P) (some .ret) hl3
          refine ⟨_, _, hend, .inr ⟨rfl, .ret, ?_, ?_, ?_⟩⟩
          · exact hIxput _ _ _ _ _ _ hi3 (by omega) (by omega) hl3 rfl
          · have : (W3.putObj (w.heap.size + 1) (.loop { { rec .ready none with state := .busy } with state := .done, pending := some .ret })).heap[w.heap.size + 1]? = _ := World.putObj_heap_same (Array.getElem?_eq_some_iff.1 hl3).1
            rw [hrec] at this ⊢
            exact this
          · exact (World.putObj_heap_other (by omega)).trans hk3
        | exit id =>
          obtain ⟨hl3, hk3, hi3⟩ := hp
          have hend := run_endRound (P := P) (some (.exit id)) hl3
          refine ⟨_, _, hend, .inr ⟨rfl, .exit id, ?_, ?_, ?_⟩⟩
          · exact hIxput _ _ _ _ _ _ hi3 (by omega) (by omega) hl3 rfl
          · have : (W3.putObj (w.heap.size + 1) (.loop { { rec .ready none with state := .busy } with state := .done, pending := some (.exit id) })).heap[w.heap.size + 1]? = _ := World.putObj_heap_same (Array.getElem?_eq_some_iff.1 hl3).1
            rw [hrec] at this ⊢
            exact this
          · exact (World.putObj_heap_other (by omega)).trans hk3
        | goto t => exact hp.elim
        | panic ch => exact hp.elim
        | outgrown => exact hp.elim
      | exit id => exact h.elim
      | goto t => exact h.elim
      | ret => exact h.elim
      | panic ch => exact h.elim
      | outgrown => exact h.elim
    · rintro e W2 ⟨⟨v, rfl⟩, ⟨xs, hF, hi, hl, hk⟩ | ⟨xs, hF, c, hi, hl, hk⟩⟩
      · refine ⟨none, _, by have := run_endLoop (P := P) hl (by rw [hrec]; simp); rw [hrec] at this; exact this, ?_⟩
        exact hdone xs _ hF (hIput _ _ _ _ _ hi (by omega) (by omega) hl rfl) ((World.putObj_heap_other (by omega)).trans hk)
      · refine ⟨some c, _, by have := run_endLoop (P := P) hl (by rw [hrec]; simp); rw [hrec] at this; exact this, ?_⟩
        exact hstop c xs _ hF (hIxput _ _ _ _ _ _ hi (by omega) (by omega) hl rfl) ((World.putObj_heap_other (by omega)).trans hk)
end Go.Proofs.YtnljhabpcoiihaaGreatDoor
