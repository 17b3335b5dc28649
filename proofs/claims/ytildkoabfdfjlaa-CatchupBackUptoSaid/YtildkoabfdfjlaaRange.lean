/- A range over a function whose rounds all go on, at the wide fence: the law, with the iterator free to raise a panic. -/
import Derived.Test.YtildkoabfdfjlaaBase
import Derived.RangeFuncNested
import Derived.RangeFuncBound
import Derived.RangeFuncCalls
import Derived.RangeFuncLeaves
import Derived.OwnWalkIn
import Derived.TacticsInMore
import Derived.LoopNIn
import Derived.LoopIn
set_option linter.all false
namespace Go.Proofs.Ytildkoabfdfjlaa
open Go.RowKit
/-- an iterator's word: whatever caller's invariant J (that abides new memory), with rounds that go on and keep what Kp says, it comes to an end that 'Fin' or 'Err' tells, J holding of what has come -/
def Iterates {α : Type} (P : Program) (m : Nat) (w : World) (gf : Nat) (lb : Array Value) (enc : α → Array Value) (N : Nat) (Px : α → World → World → Prop) (Kp : World → World → Prop) (Fin : List α → Prop) (Err : List PanicEntry → Prop) : Prop :=
  ∀ (l : Nat) (J : List α → World → Prop) (W : World), Below w.heap.size w W → w.heap.size + 2 ≤ W.heap.size →
    (∀ acc W1 W2, J acc W1 → Below W1.heap.size W1 W2 → J acc W2) →
    (∀ acc x W0 W1, acc.length < N → J acc W0 → Below W0.heap.size W0 W1 → w.heap.size + 2 ≤ W0.heap.size → Px x W0 W1 → YieldAt Fence.wide (m - 1) P l (enc x) W1 fun e W' => e = .returned (.bool true) ∧ J (acc ++ [x]) W' ∧ Kp W1 W' ∧ W1.heap.size ≤ W'.heap.size) →
    J [] W →
    CallsIn Fence.wide m P gf (#[.func (.yield l) #[] #[]] ++ lb) W fun e W' => (∃ v xs, e = .returned v ∧ Fin xs ∧ J xs W') ∨ (∃ ch xs, e = .panicked ch ∧ Err ch ∧ J xs W')

theorem range_all {α : Type} {P : Program} {m : Nat} {g : Operand} {ps : Array Tmp} {assign body : Code} {Q : Exit → Act → World → Prop} {a : Act} {w : World} {gf : Nat} {lb : Array Value}
    (hg : a.eval g = .func (.func gf) #[] lb) (eg : ∀ args w, (callFunc gf args).run P w = .ok (.enter gf args) w)
    {enc : α → Array Value} {N : Nat} {Px : α → World → World → Prop} {Kp : World → World → Prop} {Fin : List α → Prop} {Err : List PanicEntry → Prop}
    (hps : ∀ x, (enc x).size = ps.size) (hiter : Iterates P (m - 1) w gf lb enc N Px Kp Fin Err)
    (hKt : ∀ {A B C : World}, Kp A B → Kp B C → Kp A C) (hKput : ∀ (W : World) (k : Nat) (o : Obj), w.heap.size ≤ k → Kp W (W.putObj k o))
    (I : List α → World → Prop) (h0 : I [] w)
    (hIB : ∀ acc W1 W2, I acc W1 → Below W1.heap.size W1 W2 → I acc W2)
    (hIput : ∀ acc (W : World) (k : Nat) (o o' : Obj), I acc W → w.heap.size ≤ k → k < w.heap.size + 2 → W.heap[k]? = some o → o.isCells = false → I acc (W.putObj k o'))
    (hround : ∀ (rec : Loop) (pre : List α) (x : α) (W0 W : World), pre.length < N → W.heap[w.heap.size + 1]? = some (.loop rec) → W.heap[w.heap.size]? = some (.deferred (some [])) → I pre W0 → Below W0.heap.size W0 W → w.heap.size + 2 ≤ W0.heap.size → Px x W0 W →
      assign.wpIn (Fence.wide.inRound (w.heap.size + 1)) (m - 1 - 1) P (Exit.then (fun a₁ W1 => W1.heap[w.heap.size + 1]? = some (.loop rec) ∧
          body.wpIn (Fence.wide.inRound (w.heap.size + 1)) (m - 1 - 1) P (fun e _ W3 => e = .normal ∧ W3.heap[w.heap.size + 1]? = some (.loop { rec with state := .busy }) ∧ W3.heap[w.heap.size]? = some (.deferred (some [])) ∧
            I (pre ++ [x]) W3 ∧ Kp W W3 ∧ W.heap.size ≤ W3.heap.size) a₁ (W1.putObj (w.heap.size + 1) (.loop { rec with state := .busy }))) (fun _ _ _ => False))
        { tmps := (ps.zip (enc x)).foldl (fun t (p, v) => t.setIfInBounds p v) a.tmps, defers := [] } W)
    (hdone : ∀ (xs : List α) (W : World), Fin xs → I xs W → W.heap[w.heap.size]? = some (.deferred (some [])) → Q .normal { a with defers := { target := .collected w.heap.size, args := #[] } :: a.defers } W)
    (herr : ∀ (ch : List PanicEntry) (xs : List α) (W : World), Err ch → I xs W → W.heap[w.heap.size]? = some (.deferred (some [])) → Q (.panic ch) { a with defers := { target := .collected w.heap.size, args := #[] } :: a.defers } W) :
    (Code.rangeFunc g ps assign body).wpIn Fence.wide m P Q a w := by
  refine wpIn_rangeFunc ?_
  intro fn hfn
  obtain ⟨rec, hrec⟩ : ∃ rec : LoopState → Option Code → Loop, rec = fun st pe => { state := st, pending := pe, fn, tmps := a.tmps, params := ps, assign, body, defers := w.heap.size } := ⟨_, rfl⟩
  obtain ⟨W1, hW1⟩ : ∃ W1, (w.alloc (.deferred (some []))).alloc (.loop (rec .ready none)) = W1 := ⟨_, rfl⟩
  have hL1 : W1.heap[w.heap.size + 1]? = some (.loop (rec .ready none)) := by
    rw [← hW1]; have := World.alloc_heap_new (w.alloc (.deferred (some []))) (.loop (rec .ready none)); rwa [World.size_alloc] at this
  have hK1 : W1.heap[w.heap.size]? = some (.deferred (some [])) := by
    rw [← hW1]; exact (Below.heap_alloc _ _ _ (by simp)).trans (World.alloc_heap_new w _)
  have hb1 : Below w.heap.size w W1 := by rw [← hW1]; exact bnew2 _ _ _
  have hI1 : I [] W1 := hIB _ _ _ h0 hb1
  have hs1 : w.heap.size + 2 ≤ W1.heap.size := by rw [← hW1]; simp
  refine ⟨w.heap.size + 1, [{ target := .collected w.heap.size, args := #[] }], W1, { target := .fn (.func gf) lb, args := #[.func (.yield (w.heap.size + 1)) #[] #[]] }, W1, gf,
    #[.func (.yield (w.heap.size + 1)) #[] #[]] ++ lb, W1, ?_, ?_, ?_, ?_, (fun h => by cases h), ?_⟩
  · rw [← hW1, hrec]; exact run_enterLoop_outer _ _ _ _ _
  · simp only [resolve, hg]
    simp [go_sem]
  · intro f' _; trivial
  · simp [invoke, go_sem, eg]
  · refine (hiter (w.heap.size + 1)
      (fun pre W => I pre W ∧ W.heap[w.heap.size + 1]? = some (.loop (rec .ready none)) ∧ W.heap[w.heap.size]? = some (.deferred (some [])))
      W1 hb1 hs1 ?_ ?_ ⟨hI1, hL1, hK1⟩).mono ?_
    · rintro acc Wa Wb ⟨hi, hl, hk⟩ hb
      exact ⟨hIB _ _ _ hi hb, (hb.block _ (Array.getElem?_eq_some_iff.1 hl).1).trans hl, (hb.block _ (Array.getElem?_eq_some_iff.1 hk).1).trans hk⟩
    · rintro pre x W0 W hlen ⟨hi, hl0, hk0⟩ hbW hsz0 hpx
      have hl := (hbW.block _ (Array.getElem?_eq_some_iff.1 hl0).1).trans hl0
      have hk := (hbW.block _ (Array.getElem?_eq_some_iff.1 hk0).1).trans hk0
      have hsz : w.heap.size + 2 ≤ W.heap.size := Nat.le_trans hsz0 hbW.size
      have hlt : w.heap.size + 1 < W.heap.size := (Array.getElem?_eq_some_iff.1 hl).1
      have hy := run_yield (P := P) (args := enc x) hl (by rw [hrec]; exact hps x)
      rw [hrec] at hy
      refine ⟨fn, _, assign, body, hy, roundIn_of_wpIn hfn ?_⟩
      refine wpIn_mono (hround (rec .ready none) pre x W0 W hlen hl hk hi hbW hsz0 hpx) ?_
      rintro e a₁ Wa h
      cases e with
      | normal =>
        obtain ⟨hla, hbody⟩ := h
        refine ⟨_, run_beginRound hla (by rw [hrec]), ?_⟩
        refine wpIn_mono hbody ?_
        rintro e a3 W3 ⟨rfl, hl3, hk3, hi3, hkp, hsz3⟩
        have hend := run_endRound (P := P) none hl3
        refine ⟨_, _, hend, rfl, ⟨?_, ?_, ?_⟩, ?_, ?_⟩
        · exact hIput _ _ _ _ _ hi3 (by omega) (by omega) hl3 rfl
        · have : (W3.putObj (w.heap.size + 1) (.loop { { rec .ready none with state := .busy } with state := .ready, pending := none })).heap[w.heap.size + 1]? = _ := World.putObj_heap_same (Array.getElem?_eq_some_iff.1 hl3).1
          rw [hrec] at this ⊢
          exact this
        · exact (World.putObj_heap_other (by omega)).trans hk3
        · exact hKt hkp (hKput _ _ _ (by omega))
        · simpa using hsz3
      | exit id => exact h.elim
      | goto t => exact h.elim
      | ret => exact h.elim
      | panic ch => exact h.elim
      | outgrown => exact h.elim
    · rintro e W2 (⟨v, xs, rfl, hF, hi, hl, hk⟩ | ⟨ch, xs, rfl, hE, hi, hl, hk⟩)
      · refine ⟨none, _, by have := run_endLoop (P := P) hl (by rw [hrec]; simp); rw [hrec] at this; exact this, ?_⟩
        exact hdone xs _ hF (hIput _ _ _ _ _ hi (by omega) (by omega) hl rfl) ((World.putObj_heap_other (by omega)).trans hk)
      · exact herr ch xs _ hE hi hk
end Go.Proofs.Ytildkoabfdfjlaa
