/- wal's 'frames' and the iterator that it makes. -/
import Derived.Test.YtnljhabpcoiihaaGreatDoorStops
import Derived.Test.YtnljhabpcoiihaaGreatDoorNext
set_option linter.all false
namespace Go.Proofs.YtnljhabpcoiihaaGreatDoor
open Go.RowKit
open Wal (nextB)

/-- what 'frames' hands to a round: a record, where it ends, the error; the value -/
abbrev FrI := List UInt8 × Nat × Nat × Value
def frKey (x : FrI) : List UInt8 × Nat × Nat := (x.1, x.2.1, x.2.2.1)
def encF (x : FrI) : Array Value := #[x.2.2.2, .int .i64 (x.2.2.1 : Int)]
def PxF (x : FrI) (_ W : World) : Prop := Bs 5 W x.2.2.2 x.1 ∧ x.1.length ≤ 1073741824
def AbF (Bb : Nat) (W W' : World) : Prop := W.grownBy W' (some Bb) ∧ ∀ o, W.heap[Bb]? = some o → ∃ o', W'.heap[Bb]? = some o' ∧ tagOf o' = tagOf o
def KpF (Bb : Nat) (W W' : World) : Prop := ∀ (b : Nat) (o : Obj), W.heap[b]? = some o → (b = Bb ∨ tagOf o = some 5) → W'.heap[b]? = some o

/-- all that 'frames' hands on, plain -/
def seqF : Nat → List UInt8 → List (List UInt8 × Nat × Nat)
  | 0, _ => []
  | f + 1, l => if l = [] then [] else
    if (nextB l).2.2 = 0 then ((nextB l).1.getD [], (nextB l).2.1, (nextB l).2.2) :: seqF f (l.drop (nextB l).2.1)
    else [((nextB l).1.getD [], (nextB l).2.1, (nextB l).2.2)]
def FinF (l : List UInt8) (xs : List FrI) : Prop := xs.map frKey = seqF (l.length + 1) l
def FinXF (l : List UInt8) (xs : List FrI) : Prop := xs.map frKey <+: seqF (l.length + 1) l

theorem next_ok {l : List UInt8} (h : (nextB l).2.2 = 0) : 12 ≤ (nextB l).2.1 ∧ (nextB l).2.1 ≤ l.length ∧ (nextB l).2.1 = 12 + ((nextB l).1.getD []).length := by
  unfold nextB at h ⊢
  split at h
  · simp at h
  split at h
  · simp at h
  split at h
  · simp at h
  split at h
  · simp at h
  · rename_i h1 h2 h3 h4
    rw [if_neg h1, if_neg h2, if_neg h3, if_neg h4]
    simp only [Option.getD_some, List.length_take, List.length_drop]
    omega

theorem next_le (l : List UInt8) : ((nextB l).1.getD []).length ≤ l.length := by
  unfold nextB
  split
  · simp
  split
  · simp
  split
  · simp
  split
  · simp
  · simp only [Option.getD_some, List.length_take, List.length_drop]; omega

theorem heap_setCell_ne' {w : World} {b i : Nat} {v : Value} {x : Nat} {o : Obj} (h : w.heap[x]? = some o) (hx : x ≠ b) : (w.setCell ⟨b, i, none⟩ v).heap[x]? = some o :=
  (Below.heap_setCell w ⟨b, i, none⟩ v x hx).trans h
theorem Bs.from {w : World} {A : Option Addr} {cap : Nat} {l : List UInt8} (h : Bs 5 w (.slice A l.length cap) l) {k : Nat} (hk : k ≤ l.length) :
    Bs 5 w (.slice (fromAddr 1 A cap k) (l.drop k).length (cap - k)) (l.drop k) := by
  obtain ⟨A', cap', hA, hc, hm, hl⟩ := h
  injection hA with h1 h2 h3
  subst h1 h3
  refine ⟨_, _, rfl, by rw [List.length_drop]; omega, by omega, ?_⟩
  rcases hl with rfl | ⟨b, o, c, f, rfl, hb, hk'⟩
  · left; simp
  · by_cases hd : l.length ≤ k
    · left; exact List.drop_eq_nil_of_le hd
    · right
      refine ⟨b, o + k, c, f, ?_, hb, fun j hj => ?_⟩
      · unfold fromAddr
        rw [if_neg (by omega)]
        unfold Addr.add
        by_cases h0 : k * 1 = 0
        · have : k = 0 := by omega
          subst this; rfl
        · have h1 : ¬ k = 0 := by omega
          simp [h1]
      · rw [List.length_drop] at hj
        rw [Nat.add_assoc, hk' (k + j) (by omega)]
        unfold bytesV
        rw [List.map_drop, List.getElem?_drop]

def lenCell (W : World) (Bb : Nat) : Nat := match W.cell? ⟨Bb, 0, none⟩ with | some (.slice _ n _) => n | _ => 0

set_option maxRecDepth 100000 in
set_option maxHeartbeats 400000 in
theorem frames_c (A : Option Addr) (n cap : Nat) (w : World) :
    Calls Tryz.prog 108 #[.slice A n cap] w fun e w' => e = .returned (.func (.func 131) #[] #[.pointer (some ⟨w.heap.size, 0, none⟩)]) ∧ w' = w.alloc (.cells #[.slice A n cap] 29) := by
  have hmf : ∀ (fn : Fn) (first cap : Array Value) (w : World), (Instr.makeFunc fn first cap).run Tryz.prog w = .ok (.func fn first cap) w := fun _ _ _ _ => rfl
  go_enter Tryz.func108, Tryz.ntmps108
  go_wp2
  go_ret
  exact ⟨rfl, rfl⟩

set_option maxRecDepth 100000 in
set_option maxHeartbeats 800000 in
theorem frames_iter (m : Nat) (w0 : World) (Bb : Nat) (A : Option Addr) (cap : Nat) (l : List UInt8) (hb : w0.heap[Bb]? = some (.cells #[.slice A l.length cap] 29 (0, 0))) (hr : Bs 5 w0 (.slice A l.length cap) l) (hl : l.length ≤ 1073741824) :
    Stops Tryz.prog m w0 131 #[.pointer (some ⟨Bb, 0, none⟩)] encF (l.length + 1) PxF (AbF Bb) (KpF Bb) (FinF l) (FinXF l) := by
  intro lp J Jx W hBW hsz hJA hJxA hY hJ0
  have HJ := Lib.hid (And.intro hJA hJxA); clear hJA hJxA
  have HY := Lib.hid hY; clear hY
  obtain ⟨i0, hi0, hz0, hz1, hz2⟩ := info8
  refine callsIn_of_wp Tryz.func131 rfl trivial ?_ rfl
  simp only [Tryz.ntmps131, List.size_toArray, List.length_cons, List.length_nil, Nat.reduceAdd, Nat.reduceSub, Array.replicate_succ, Array.replicate_zero, List.push_toArray, List.append_toArray, List.nil_append, List.cons_append]
  gi_wp2
  go_outline
  gi_loopw [5] (fun _ wr => ∃ (A' : Option Addr) (cap' : Nat) (l' : List UInt8) (acc : List FrI) (fuel : Nat), wr.heap[Bb]? = some (.cells #[.slice A' l'.length cap'] 29 (0, 0)) ∧ Bs 5 wr (.slice A' l'.length cap') l' ∧
      w0.heap.size + 2 ≤ wr.heap.size ∧ J acc wr ∧ acc.length + l'.length ≤ l.length ∧ acc.map frKey ++ seqF fuel l' = seqF (l.length + 1) l ∧ l'.length < fuel) (fun _ wr => lenCell wr Bb)
  case atStart =>
    exact ⟨A, cap, l, [], l.length + 1, (hBW.block _ (heap_lt hb)).trans hb, hr.below hBW, hsz, hJ0, by simp, by simp, by omega⟩
  case round =>
    obtain ⟨A', cap', l', acc, fuel, hb', hr', hsz', hJ, hlen, heq, hfu⟩ := hrel
    have c0 := Joins.cell_of_block hb' 0
    have f0 := Joins.unfrozen_of_block hb' 0
    simp at c0
    have hml : lenCell wr Bb = l'.length := by unfold lenCell; rw [c0]
    have HE := Lib.hid (And.intro hb' (And.intro hr' (And.intro hsz' (And.intro hJ (And.intro hlen (And.intro heq (And.intro hfu hml)))))))
    clear hb' hr' hsz' hJ hlen heq hfu hml
    obtain ⟨f, hf⟩ : ∃ f, fuel = f + 1 := ⟨fuel - 1, by have := HE.out.2.2.2.2.2.2.1; omega⟩
    by_cases hl0 : l' = []
    · subst hl0
      gi_wp2
      go_end0
      refine ⟨⟨_, rfl⟩, .inl ⟨acc, ?_, HE.out.2.2.2.1⟩⟩
      unfold FinF
      rw [← HE.out.2.2.2.2.2.1, hf]
      simp [seqF]
    · have hpos : 0 < l'.length := List.length_pos_iff.2 hl0
      have hle : l'.length ≤ l.length := by have := HE.out.2.2.2.2.1; omega
      have hle2 : l'.length ≤ 1073741824 := by omega
      have hrr := HE.out.2.1.toR
      obtain ⟨A'', cap'', hAA, hcc, hrd⟩ := hrr
      injection hAA with hA1 hA2 hA3
      subst hA1 hA3
      have hnx := next_c A' l'.length cap' l' rfl (by omega) hcc wr hrd
      have hseq : seqF fuel l' = if (nextB l').2.2 = 0 then ((nextB l').1.getD [], (nextB l').2.1, (nextB l').2.2) :: seqF f (l'.drop (nextB l').2.1) else [((nextB l').1.getD [], (nextB l').2.1, (nextB l').2.2)] := by
        rw [hf, seqF, if_neg hl0]
      have hok := next_ok (l := l')
      have hXl := next_le l'
      obtain ⟨X, hX⟩ : ∃ X, (nextB l').1.getD [] = X := ⟨_, rfl⟩
      obtain ⟨k, hk⟩ : ∃ k, (nextB l').2.1 = k := ⟨_, rfl⟩
      obtain ⟨er, her⟩ : ∃ k, (nextB l').2.2 = k := ⟨_, rfl⟩
      rw [hX, hk, her] at hseq hok
      rw [hX, hk, her] at hnx
      rw [hX] at hXl
      have HN := Lib.hid (And.intro hnx (And.intro hseq hok)); clear hnx hseq hok hX hk her hrd
      gi_wp2_with fail
      refine ⟨trivial, (fun h => by cases h), ?_⟩
      refine (callsIn_wide.2 HN.out.1).mono ?_
      rintro e W1 ⟨v, rfl, hbs, hb1⟩
      have hAb1 : AbF Bb wr W1 := ⟨⟨hb1.os, hb1.tape, hb1.output, hb1.size, fun q hq _ => hb1.block q hq⟩, fun o ho => ⟨o, (hb1.block _ (heap_lt ho)).trans ho, rfl⟩⟩
      obtain ⟨fn, tmps, assign, body, hy, hRnd⟩ := HY.out acc (X, k, er, v) wr W1 (by have := HE.out.2.2.2.2.1; omega) HE.out.2.2.2.1 hAb1 HE.out.2.2.1 ⟨hbs, by simp only; omega⟩
      dsimp only [encF] at hy
      have HW1 := Lib.hid (And.intro hbs (And.intro hb1 hAb1)); clear hbs hb1 hAb1 c0 f0
      gi_wp2_with fail
      refine ⟨(fun h => by cases h), ?_⟩
      refine hRnd.mono ?_
      rintro e W2 (⟨rfl, hJ2, hKp2, hsz2⟩ | ⟨rfl, hJx2⟩)
      · have HW2 := Lib.hid (And.intro hJ2 (And.intro hKp2 hsz2)); clear hJ2 hKp2 hsz2
        by_cases he0 : er = 0
        · subst he0
          have k12 := (HN.out.2.2 rfl).1
          have kl := (HN.out.2.2 rfl).2.1
          have hb2 := HW2.out.2.1 Bb _ ((HW1.out.2.1.block _ (heap_lt HE.out.1)).trans HE.out.1) (.inl rfl)
          have c0 := Joins.cell_of_block hb2 0
          have f0 := Joins.unfrozen_of_block hb2 0
          simp at c0
          have hsl := fun w => run_slice_from (P := Tryz.prog) w 29 5 i0 1 Tryz.underlying29 hi0 hz1 A' l'.length cap' .i64 (k : Int) k rfl kl
          have HB2 := Lib.hid hb2; clear hb2
          gi_wp2_with fail
          obtain ⟨q1, q2, q3, q4, q5, q6, q7, q8⟩ := HE.out
          have hBb := heap_lt HB2.out
          have hb3 : (W2.setCell ⟨Bb, 0, none⟩ (.slice (fromAddr 1 A' cap' k) (l'.length - k) (cap' - k))).heap[Bb]? = some (.cells #[.slice (fromAddr 1 A' cap' k) (l'.drop k).length (cap' - k)] 29 (0, 0)) := by
            rw [Joins.block_setCell HB2.out, List.length_drop]; rfl
          have hv2 : Bs 5 W2 (.slice A' l'.length cap') l' := (q2.below HW1.out.2.1).keeps fun b o hb' ht => HW2.out.2.1 b o hb' (.inr ht)
          have hv3 : Bs 5 (W2.setCell ⟨Bb, 0, none⟩ (.slice (fromAddr 1 A' cap' k) (l'.length - k) (cap' - k))) (.slice (fromAddr 1 A' cap' k) (l'.drop k).length (cap' - k)) (l'.drop k) :=
            (hv2.from kl).keeps fun b o hb' ht => heap_setCell_ne' hb' (fun e => by subst e; rw [HB2.out] at hb'; cases hb'; revert ht; simp [tagOf])
          have hg3 : AbF Bb W2 (W2.setCell ⟨Bb, 0, none⟩ (.slice (fromAddr 1 A' cap' k) (l'.length - k) (cap' - k))) :=
            ⟨⟨rfl, rfl, rfl, by simp [World.setCell], fun q hq hne => Below.heap_setCell W2 ⟨Bb, 0, none⟩ _ q (fun e => hne (by rw [e]))⟩, fun o ho => ⟨_, hb3, by rw [HB2.out] at ho; cases ho; rfl⟩⟩
          refine ⟨⟨_, _, l'.drop k, acc ++ [(X, k, 0, v)], f, hb3, hv3, ?_, HJ.out.1 _ _ _ HW2.out.1 hg3, ?_, ?_, ?_⟩, ?_⟩
          · have := HW2.out.2.2; have := HW1.out.2.1.size; simp [World.setCell]; omega
          · simp only [List.length_append, List.length_drop, List.length_singleton]; omega
          · have := HN.out.2.1
            simp only [if_true] at this
            rw [this] at q6
            rw [List.map_append, ← q6]
            simp [frKey]
          · rw [List.length_drop]; omega
          · have : lenCell (W2.setCell ⟨Bb, 0, none⟩ (.slice (fromAddr 1 A' cap' k) (l'.length - k) (cap' - k))) Bb = (l'.drop k).length := by
              unfold lenCell
              rw [Joins.cell_of_block hb3 0]
              simp
            rw [this, q8, List.length_drop]; omega
        · have he0' : ¬ (er : Int) = 0 := by omega
          gi_wp2_with fail
          refine bodyPost_ret_by (results_none rfl _ _ _) rfl ?_
          refine ⟨⟨_, rfl⟩, .inl ⟨acc ++ [(X, k, er, v)], ?_, HW2.out.1⟩⟩
          have q6 := HE.out.2.2.2.2.2.1
          have := HN.out.2.1
          rw [if_neg he0] at this
          rw [this] at q6
          unfold FinF
          rw [List.map_append, ← q6]
          simp [frKey]
      · gi_wp2_with fail
        refine bodyPost_ret_by (results_none rfl _ _ _) rfl ?_
        refine ⟨⟨_, rfl⟩, .inr ⟨acc ++ [(X, k, er, v)], ?_, hJx2⟩⟩
        have q6 := HE.out.2.2.2.2.2.1
        have h2 := HN.out.2.1
        unfold FinXF
        rw [← q6, h2, List.map_append]
        refine (List.prefix_append_right_inj _).2 ?_
        split
        · rename_i h0; simp [frKey]
        · simp [frKey]
end Go.Proofs.YtnljhabpcoiihaaGreatDoor
