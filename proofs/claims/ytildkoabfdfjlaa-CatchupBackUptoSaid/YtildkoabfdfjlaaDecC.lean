/- chain.DecodeCommit. -/
import Derived.Test.YtildkoabfdfjlaaDecB
import Derived.Deep.RegionLaw
set_option linter.all false
namespace Go.Proofs.Ytildkoabfdfjlaa
open Go.RowKit
open Rlp (It)

/-- what DecodeCommit gives: a commit (zero where there is an error), and the error -/
def DecCPost (w : World) (r : Except Int ComN) (e : Ending) (w' : World) : Prop :=
  ∃ A cap, e = .returned (.tuple #[.agg (comV (comOf r).height (comOf r).round (comOf r).block (.slice A (comOf r).votes.length cap)).toArray, .int .i64 (errOf r)]) ∧
    Rd w.heap.size w' A (votsV (comOf r).votes) ∧ Below w.heap.size w w'

def zc : Array Value := (comV 0 0 (List.replicate 32 0) (.slice none 0 0)).toArray
theorem zc_size : zc.size = 35 := by decide +kernel
theorem DecCPost.no {w w' : World} {k : Int} (h : Below w.heap.size w w') : DecCPost w (.error k) (.returned (.tuple #[.agg zc, .int .i64 k])) w' :=
  ⟨none, 0, rfl, Rd.nil _ _ _, h⟩

theorem gen_world {P : Program} {f : FuncId} {args : Array Value} {w : World} {K : Ending → World → Prop} (h : ∀ W, W = w → Calls P f args W K) : Calls P f args w K := h w rfl

theorem load_commit {W : World} {b : Nat} {cur : Array Value} {t : TypeId} {f : Nat × Nat} (h : W.heap[b]? = some (.cells cur t f)) (hs : cur.size = 35) : (loadVar 30 ⟨b, 0, none⟩).run Try.prog W = .ok (.agg cur) W := by
  have := run_loadVar_mid (P := Try.prog) W b 0 30 cur.toList _ (fun j u hj => by rw [Nat.zero_add]; exact cell_of_heap h (by simpa using hj)) Try.underlying30 rfl (by rw [Array.length_toList, hs]; kernel_rfl)
  simpa using this

/-- where DecodeCommit stands: its two result variables, the commit so far, and the cursor -/
structure SC (w : World) (n mm R : Nat) (W : World) (its : List It) (cur : Array Value) : Prop where
  be : Below w.heap.size w W
  b : W.heap[w.heap.size]? = some (.cells zc 30 (0, 0))
  e : W.heap[w.heap.size + 1]? = some (.cells #[.int .i64 0] 32 (0, 0))
  g : W.heap[w.heap.size + 2]? = some (.cells cur 30 (0, 0))
  cu : Cur n mm W R its
  hn : w.heap.size + 3 ≤ n
  hR : n ≤ R
theorem SC.lt {w : World} {n mm R : Nat} {W : World} {its : List It} {cur : Array Value} (h : SC w n mm R W its cur) : R < W.heap.size ∧ w.heap.size + 2 < R := ⟨h.cu.lt, by have := h.hn; have := h.hR; omega⟩
theorem SC.move {w : World} {n mm R : Nat} {W W' : World} {its its' : List It} {cur : Array Value} (h : SC w n mm R W its cur) (hc : Cur n mm W' R its') (hm : Moves R W W') : SC w n mm R W' its' cur := by
  have hl := h.lt
  have hb : ∀ k, k ≤ w.heap.size + 2 → W'.heap[k]? = W.heap[k]? := fun k hk => hm.block k (by omega) (by intro e; injection e; omega)
  exact ⟨h.be.trans (hm.below (by omega) hl.1), (hb _ (by omega)).trans h.b, (hb _ (by omega)).trans h.e, (hb _ (by omega)).trans h.g, hc, h.hn, h.hR⟩
theorem SC.set {w : World} {n mm R : Nat} {W : World} {its : List It} {cur : Array Value} (h : SC w n mm R W its cur) (o : Nat) (v : Value) : SC w n mm R (W.setCell ⟨w.heap.size + 2, o, none⟩ v) its (cur.setIfInBounds o v) := by
  have hl := h.lt
  have hn := h.hn
  exact ⟨h.be.setCell (p := ⟨w.heap.size + 2, o, none⟩) (by simp) _, (heap_setCell_other _ (by dsimp only; omega)).trans h.b, (heap_setCell_other _ (by dsimp only; omega)).trans h.e, heap_setCell_row h.g,
    h.cu.keep (heap_setCell_other _ (by dsimp only; omega)) (fun k h1 _ => heap_setCell_other _ (by dsimp only; omega)), hn, h.hR⟩
theorem SC.into {w : World} {n mm R : Nat} {W W' : World} {its its' : List It} {cur c' : Array Value} {e : Ending} (h : SC w n mm R W its cur) (hp : IntoPost n mm W R (w.heap.size + 2) its' c' 30 e W') : SC w n mm R W' its' c' := by
  have hl := h.lt
  have hb : ∀ k, k ≤ w.heap.size + 1 → W'.heap[k]? = W.heap[k]? := fun k hk => hp.2.2.1.block k (by omega) (by omega) (by omega)
  exact ⟨h.be.trans (hp.2.2.1.below (by omega) (by omega) (by omega)), (hb _ (by omega)).trans h.b, (hb _ (by omega)).trans h.e, hp.2.2.2, hp.2.1, h.hn, h.hR⟩
theorem SC.below {w : World} {n mm R : Nat} {W W' : World} {its : List It} {cur : Array Value} (h : SC w n mm R W its cur) (hb : Below W.heap.size W W') : SC w n mm R W' its cur :=
  h.move (h.cu.below hb) (Moves.of_below hb)
/-- what is known when a panic comes -/
structure SE (w W : World) : Prop where
  be : Below w.heap.size w W
  b : W.heap[w.heap.size]? = some (.cells zc 30 (0, 0))
  e : W.heap[w.heap.size + 1]? = some (.cells #[.int .i64 0] 32 (0, 0))
theorem SC.no {w : World} {n mm R : Nat} {W W' : World} {its : List It} {cur : Array Value} (h : SC w n mm R W its cur) (hm : Moves R W W') : SE w W' := by
  have hl := h.lt
  have hb : ∀ k, k ≤ w.heap.size + 2 → W'.heap[k]? = W.heap[k]? := fun k hk => hm.block k (by omega) (by intro e; injection e; omega)
  exact ⟨h.be.trans (hm.below (by omega) hl.1), (hb _ (by omega)).trans h.b, (hb _ (by omega)).trans h.e⟩
theorem SC.here {w : World} {n mm R : Nat} {W : World} {its : List It} {cur : Array Value} (h : SC w n mm R W its cur) : SE w W := ⟨h.be, h.b, h.e⟩
theorem SE.below {w W W' : World} (h : SE w W) (hb : Below W.heap.size W W') : SE w W' :=
  ⟨bstep h.be hb, (hb.block _ (Array.getElem?_eq_some_iff.1 h.b).1).trans h.b, (hb.block _ (Array.getElem?_eq_some_iff.1 h.e).1).trans h.e⟩

/-- a panic of chain's, caught by DecodeCommit -/
theorem decC_caught {fn : Func} {tmps : Array Value} {w W : World} {k : Int} {r : Except Int ComN} (hfn : fn.results = #[.cell 2 30, .cell 3 32]) (h2 : tmps.getD 2 undef = .pointer (some ⟨w.heap.size, 0, none⟩)) (h3 : tmps.getD 3 undef = .pointer (some ⟨w.heap.size + 1, 0, none⟩))
    (hr : r = .error k) (h : SE w W) :
    Leaves Try.prog fn tmps (DecCPost w r) [{ target := .fn (.func 35) #[], args := #[.pointer (some ⟨w.heap.size + 1, 0, none⟩)] }] (.panicking (wrg k)) W := by
  subst hr
  have hs1 : (W.setCell ⟨w.heap.size + 1, 0, none⟩ (.int .i64 k)).heap[w.heap.size]? = some (.cells zc 30 (0, 0)) := (heap_setCell_other _ (by dsimp only; omega)).trans h.b
  have hs2 : (W.setCell ⟨w.heap.size + 1, 0, none⟩ (.int .i64 k)).heap[w.heap.size + 1]? = some (.cells #[.int .i64 k] 32 (0, 0)) := heap_setCell_row h.e
  refine fin_caught (x := 0) (cell_of_heap h.e rfl) (by unfold World.frozen?; rw [h.e]; rfl) (results_2cells hfn h2 h3 (load_commit hs1 zc_size) (load_errno _ _ _ (cell_of_heap hs2 rfl))) ?_
  exact DecCPost.no (h.be.setCell (p := ⟨w.heap.size + 1, 0, none⟩) (by simp) _)

/-- between two rounds of the loop over the votes -/
structure VI (w : World) (n mm R R2 N : Nat) (cur : Array Value) (r4 rest : List It) (vs : List Vot) (v : Value) (W : World) : Prop where
  s : SC w n mm R W r4 (cur.setIfInBounds 34 v)
  c2 : Cur n mm W R2 rest
  own : W.ownsRow N 94 100 v vs.length (votsV (vs.map Vot.toI))
  sz : N ≤ W.heap.size
  r : R < R2
  r2 : R2 < N
theorem SC.far {w : World} {n mm R R2 : Nat} {W W' : World} {its : List It} {cur : Array Value} (h : SC w n mm R W its cur) (hr : R < R2) (hm : Moves R2 W W') : SC w n mm R W' its cur := by
  have hl := h.lt
  have hmm := h.cu.le
  have hb : ∀ k, k ≤ R → W'.heap[k]? = W.heap[k]? := fun k hk => hm.block k (by omega) (by intro e; injection e; omega)
  refine ⟨h.be.trans ⟨hm.os, hm.tape, hm.output, hm.size, fun k hk => hb k (by omega)⟩, (hb _ (by omega)).trans h.b, (hb _ (by omega)).trans h.e, (hb _ (by omega)).trans h.g, h.cu.keep (hb _ (Nat.le_refl _)) (fun k _ hk => hb k (by omega)), h.hn, h.hR⟩
theorem SC.low {w : World} {n mm R m : Nat} {W W' : World} {its : List It} {cur : Array Value} (h : SC w n mm R W its cur) (hr : R < m) (hb0 : Below m W W') : SC w n mm R W' its cur := by
  have hl := h.lt
  have hmm := h.cu.le
  have hb : ∀ k, k ≤ R → W'.heap[k]? = W.heap[k]? := fun k hk => hb0.block k (by omega)
  exact ⟨h.be.trans (hb0.mono (by omega)), (hb _ (by omega)).trans h.b, (hb _ (by omega)).trans h.e, (hb _ (by omega)).trans h.g, h.cu.keep (hb _ (Nat.le_refl _)) (fun k _ hk => hb k (by omega)), h.hn, h.hR⟩
theorem SC.cell34 {w : World} {n mm R : Nat} {W : World} {its : List It} {cur : Array Value} {v : Value} (h : SC w n mm R W its (cur.setIfInBounds 34 v)) (hs : cur.size = 35) : W.cell? ⟨w.heap.size + 2, 34, none⟩ = some v ∧ W.frozen? ⟨w.heap.size + 2, 34, none⟩ = false :=
  ⟨cell_of_heap h.g (by rw [Array.getElem?_setIfInBounds_self, if_pos (by omega)]), by unfold World.frozen?; rw [h.g]; rfl⟩

theorem bnew' {n : Nat} (w : World) (o : Obj) (h : n ≤ w.heap.size) : Below n w (w.alloc o) := (bnew w o).mono h
theorem Below13 {w : World} {n mm R R2 N : Nat} {cur : Array Value} {r4 rest : List It} {vs : List Vot} {v : Value} {wr w10 w12 w13 : World} {o : Obj} (h : VI w n mm R R2 N cur r4 rest vs v wr) (hM : Moves R2 wr w10) (hB : Below w10.heap.size w10 w12) (hg : (w12.alloc o).grownBy w13 v.ownBlock) : Below N w12 w13 :=
  ⟨hg.os, hg.tape, hg.output, by have := hg.size; simp at this; omega, fun k hk => (hg.block k (by have := h.sz; have := hM.size; have := hB.size; simp; omega) (fun e => by have := (h.own.lt k e.symm).1; omega)).trans (Below.heap_alloc _ _ _ (by have := h.sz; have := hM.size; have := hB.size; omega))⟩
theorem vote_info : (Try.prog.info? 94).map (fun i => (i.zero, i.size, i.bytes)) = some (some (.agg Try.zeroCells94), 100, 128) := by kernel_rfl

def caughtAt (w : World) : List Deferred := [{ target := .fn (.func 35) #[], args := #[.pointer (some ⟨w.heap.size + 1, 0, none⟩)] }]
/-- behind a round's region -/
def VPost (w : World) (N : Act → World → Prop) : Exit → Act → World → Prop
  | .normal, a, W => N a W
  | .panic c, a, W => c = wrg 11 ∧ a.tmps.getD 2 undef = .pointer (some ⟨w.heap.size, 0, none⟩) ∧ a.tmps.getD 3 undef = .pointer (some ⟨w.heap.size + 1, 0, none⟩) ∧ a.defers = caughtAt w ∧ SE w W
  | _, _, _ => False
/-- behind a round's region that raises no panic -/
def VOnly (N : Act → World → Prop) : Exit → Act → World → Prop
  | .normal, a, W => N a W
  | _, _, _ => False
theorem VPost.put {w : World} {N : Act → World → Prop} (d : Nat) (h2 : d ≠ 2) (h3 : d ≠ 3) (v : Value) (c : List PanicEntry) (a : Act) (W : World) (h : VPost w N (.panic c) (a.put (some d) v) W) : VPost w N (.panic c) a W := by
  obtain ⟨h0, h4, h5, h6, h7⟩ := h
  refine ⟨h0, ?_, ?_, h6, h7⟩
  · rw [← h4]; simp only [Act.put, Array.getD_eq_getD_getElem?]; rw [Array.getElem?_setIfInBounds_ne h2]
  · rw [← h5]; simp only [Act.put, Array.getD_eq_getD_getElem?]; rw [Array.getElem?_setIfInBounds_ne h3]

theorem com_fin (cur : Array Value) (hs : cur.size = 35) (h r v : Value) (b : List UInt8) (hb : b.length = 32) :
    (lay ((cur.setIfInBounds 0 h).setIfInBounds 1 r) 2 b).setIfInBounds 34 v = (h :: r :: (bytesV b ++ [v])).toArray := by
  have z1 : ((cur.setIfInBounds 0 h).setIfInBounds 1 r).size = 35 := by simpa using hs
  have z2 : (lay ((cur.setIfInBounds 0 h).setIfInBounds 1 r) 2 b).size = 35 := by rw [lay_sz (by omega)]; exact z1
  have hbb := bytesV_length b
  apply Array.ext_getElem?
  intro i
  rw [show (h :: r :: (bytesV b ++ [v])).toArray[i]? = (h :: r :: (bytesV b ++ [v]))[i]? from List.getElem?_toArray ..]
  by_cases h35 : 35 ≤ i
  · rw [Array.getElem?_eq_none (by simp [z2]; omega), List.getElem?_eq_none (by simp [hbb, hb]; omega)]
  by_cases h34 : i = 34
  · subst h34
    rw [Array.getElem?_setIfInBounds_self, if_pos (by omega), List.getElem?_cons_succ, List.getElem?_cons_succ, List.getElem?_append_right (by omega), hbb, hb]; rfl
  rw [Array.getElem?_setIfInBounds_ne (by omega)]
  by_cases h2 : 2 ≤ i
  · rw [lay_in (by omega) h2 (by omega)]
    obtain ⟨j, rfl⟩ : ∃ j, i = j + 2 := ⟨i - 2, by omega⟩
    rw [show j + 2 = j + 1 + 1 by omega, List.getElem?_cons_succ, List.getElem?_cons_succ, List.getElem?_append_left (by omega)]
    congr 1
  rw [lay_get (by omega) (by omega)]
  match i, h2 with
  | 0, _ => simp [Array.getElem?_setIfInBounds, hs]
  | 1, _ => simp [Array.getElem?_setIfInBounds, hs]
  | i + 2, h => omega
theorem vot_cells (v : Vot) : votCells v = v.toI.cells := rfl
theorem vot_len {its : List It} {v : Vot} (h : rdVote its = some v) : (votCells v).length = 100 := VotI.len (rdVote_inv h).2.1

/-- the cells of one element, laid over a zero row of its size -/
theorem fill_one (cs z : Array Value) (hz : z.size = cs.size) : Instr.fill (fun i => some (i * cs.size, cs.size)) z [(0, .agg cs)] = some cs := by
  have key : ∀ (l : List Value) (o : Nat) (c : Array Value), o + l.length = c.size → (l.zipIdx o).foldl (fun (c : Array Value) (p : Value × Nat) => c.setIfInBounds (0 + p.2) p.1) c = (c.toList.take o ++ l).toArray := by
    intro l
    induction l with
    | nil => intro o c h; simp at h ⊢; rw [List.take_of_length_le (by simp; omega)]
    | cons x l ih =>
      intro o c h
      simp only [List.zipIdx_cons, List.foldl_cons, Nat.zero_add]
      have := ih (o + 1) (c.setIfInBounds o x) (by simp at h ⊢; omega)
      simp only [Nat.zero_add] at this
      rw [this]
      have e2 : (c.toList.set o x).take (o + 1) = c.toList.take o ++ [x] := by
        have hlt : o < (c.toList.set o x).length := by rw [List.length_set, Array.length_toList]; simp only [List.length_cons] at h; omega
        rw [List.take_succ_eq_append_getElem hlt, List.getElem_set_self]
        congr 1
        apply List.ext_getElem?
        intro i
        rw [List.getElem?_take, List.getElem?_take]
        split
        · rw [List.getElem?_set_ne (by omega)]
        · rfl
      rw [Array.toList_setIfInBounds, e2]
      simp
  have h0 := key cs.toList 0 z (by simp [hz])
  simp only [Instr.fill, Value.cells, Nat.zero_mul, Nat.zero_add]
  rw [if_neg (by simp; omega)]
  simp only [List.take_zero, List.nil_append] at h0
  have e : z.size = z.size := rfl
  have h1 : Array.foldl (fun (c : Array Value) (p : Value × Nat) => c.setIfInBounds p.2 p.1) z cs.zipIdx = cs := by
    rw [← Array.foldl_toList]
    simp only [Nat.zero_add] at h0
    simpa using h0
  simpa using h1
theorem run_buildSlice_one {P : Program} (w : World) (t e : TypeId) (i : TypeInfo) (z cs : Array Value) (k : Nat) (hk : cs.size = k) (ht : P.underlying t = some (.slice e)) (hi : P.info? e = some i) (hs : i.size = k) (hz : i.zero = some (.agg z)) (hzs : z.size = k) (h0 : 0 < k) (hb : k ≤ 16777216) :
    (Instr.buildSlice t 1 #[(0, .agg cs)]).run P w = .ok (.slice (some ⟨w.heap.size, 0, none⟩) 1 1) (w.alloc (.cells cs e)) := by
  subst hk
  have hrange : (Array.range (1 * cs.size)).map (fun j => z[j % z.size]!) = z := by
    apply Array.ext (by simp [hzs])
    intro j h1 h2
    simp at h1
    simp [hzs, Nat.mod_eq_of_lt h1, getElem!_pos z j (by omega)]
  have hf := fill_one cs z hzs
  simp only [Instr.buildSlice, Sem.run_bind, run_underlying ht, Result.andThen_ok, sizeOf, typeInfo, run_program, hi, Sem.run_pure, hs]
  rw [if_neg (by omega), if_neg (by omega)]
  simp only [zeroValue, typeInfo, Sem.run_bind, run_program, Result.andThen_ok, hi, Sem.run_pure, hz, Value.cells, hrange, hf]
  rfl

theorem step_build1 {P : Program} {ops : Array Oper} {o : Oper} {a : Act} {w w' : World} {K : Act → World → Prop} {Q : Exit → Act → World → Prop} {E : Prop} (hgd : o.guard = none) (x : Operand) (t : TypeId) (ho : o.op = .buildSlice t 1 #[(0, x)])
    (cs : Array Value) (hx : a.eval x = .agg cs) {v : Value} (hrun : (Instr.buildSlice t 1 #[(0, .agg cs)]).run P w = .ok v w') (h : K (a.put o.dst v) w') : if Region.wanted o (yielded ops a.tmps) = true then Oper.wp P o a w K Q else E := by
  have hw : Region.wanted o (yielded ops a.tmps) = true := by simp [Region.wanted, hgd]
  rw [if_pos hw]
  unfold Oper.wp execOp
  simp only [ho, List.map_toArray, List.map_cons, List.map_nil, hx, Sem.run_bind, hrun, Result.andThen_ok, Sem.run_pure]
  exact h
theorem VI.step {w : World} {n mm R R2 N : Nat} {cur : Array Value} {r4 l' : List It} {x : It} {vs : List Vot} {vt : Vot} {v : Value} {wr w10 w12 w13 : World} {o : Obj} {g' cap' : Nat} (h : VI w n mm R R2 N cur r4 (x :: l') vs v wr) (hs : cur.size = 35)
    (hC : Cur n mm w10 R2 l') (hM : Moves R2 wr w10) (hB : Below w10.heap.size w10 w12)
    (hown : w13.ownsRow N 94 100 (.slice (some ⟨g', 0, none⟩) (vs.length + 1) cap') (vs.length + 1) (votsV (vs.map Vot.toI) ++ votCells vt)) (hgrow : (w12.alloc o).grownBy w13 v.ownBlock) :
    VI w n mm R R2 N cur r4 l' (vs ++ [vt]) (.slice (some ⟨g', 0, none⟩) (vs.length + 1) cap') (w13.setCell ⟨w.heap.size + 2, 34, none⟩ (.slice (some ⟨g', 0, none⟩) (vs.length + 1) cap')) := by
  have hvb : ∀ k, v.ownBlock = some k → N ≤ k := fun k hk => (h.own.lt k hk).1
  have h10 := h.s.far h.r hM
  have hl := h.s.lt
  have hr := h.r
  have hr2 := h.r2
  have hsz := h.sz
  have hM1 := hM.size
  have hB1 := hB.size
  have hg1 := hgrow.size
  simp only [World.size_alloc] at hg1
  have hk : ∀ k, k < N → w13.heap[k]? = w10.heap[k]? := fun k hk => (hgrow.block k (by simp; omega) (fun e => by have := hvb k e.symm; omega)).trans ((Below.heap_alloc _ _ _ (by omega)).trans (hB.block k (by omega)))
  have h13 : SC w n mm R w13 r4 (cur.setIfInBounds 34 v) := h10.low (m := N) (by omega) ⟨hgrow.os.trans hB.os, hgrow.tape.trans hB.tape, hgrow.output.trans hB.output, by omega, fun k h1 => hk k h1⟩
  have hset := h13.set 34 (.slice (some ⟨g', 0, none⟩) (vs.length + 1) cap')
  have e34 : (cur.setIfInBounds 34 v).setIfInBounds 34 (.slice (some ⟨g', 0, none⟩) (vs.length + 1) cap') = cur.setIfInBounds 34 (.slice (some ⟨g', 0, none⟩) (vs.length + 1) cap') := by simp
  rw [e34] at hset
  refine ⟨hset, ?_, ?_, by simp; omega, hr, hr2⟩
  · have := hC.le
    exact hC.keep ((heap_setCell_other _ (by dsimp only; omega)).trans (hk _ hr2)) (fun k h1 h2 => (heap_setCell_other _ (by have := h.s.hn; dsimp only; omega)).trans (hk k (by omega)))
  · have := ownsRow_setCell_below hown (a := ⟨w.heap.size + 2, 34, none⟩) (by dsimp only; omega) (.slice (some ⟨g', 0, none⟩) (vs.length + 1) cap')
    rw [List.length_append, List.map_append]
    have e : votsV (vs.map Vot.toI ++ [vt].map Vot.toI) = votsV (vs.map Vot.toI) ++ votCells vt := by simp [votsV, vot_cells]
    rw [e]
    exact this

set_option maxRecDepth 100000 in
set_option maxHeartbeats 1000000 in
theorem decCommit_c (l : List UInt8) (A : Option Addr) (n0 cap : Nat) (hn : n0 = l.length) (hc : n0 ≤ cap) (w : World) (hrd : Rd 0 w A (bytesV l)) :
    Calls Try.prog 21 #[.slice A n0 cap] w (DecCPost w (decCom l)) := by
  have HO : Hid (∀ W, Below w.heap.size w W → Calls Try.prog 36 #[.slice A n0 cap] W (OpnPost W (opn l))) := fun W hW => copened_c l A n0 cap hn hc W (hrd.below hW)
  have HE0 : Hid (∀ W, ((w.alloc (.cells zc 30)).alloc (.cells #[.int .i64 0] 32)).alloc (.cells zc 30) = W → (Below w.heap.size w W ∧ W.heap.size = w.heap.size + 3) ∧
      W.heap[w.heap.size]? = some (.cells zc 30 (0, 0)) ∧ W.heap[w.heap.size + 1]? = some (.cells #[.int .i64 0] 32 (0, 0)) ∧ W.heap[w.heap.size + 2]? = some (.cells zc 30 (0, 0))) := by
    rintro W rfl
    refine ⟨⟨(bnew2 _ _ _).alloc (by simp; omega) _, by simp⟩, ?_, ?_, ?_⟩
    · rw [Below.heap_alloc _ _ _ (by simp; omega), Below.heap_alloc _ _ _ (by simp)]; exact World.alloc_heap_new _ _
    · rw [Below.heap_alloc _ _ _ (by simp)]
      have := World.alloc_heap_new (w.alloc (.cells zc 30)) (.cells #[.int .i64 0] 32)
      rwa [World.size_alloc] at this
    · have := World.alloc_heap_new ((w.alloc (.cells zc 30)).alloc (.cells #[.int .i64 0] 32)) (.cells zc 30)
      rwa [World.size_alloc, World.size_alloc] at this
  clear hrd hn hc
  go_enter_defers Try.func21, Try.ntmps21
  go_wp2_with fail
  refine gen_world fun W0 hW0 => ?_
  have HW0 := Lib.hid (HE0.out W0 (by rw [hW0]; rfl))
  clear hW0 HE0
  refine (HO.out W0 HW0.out.1.1).mono ?_
  have S0 : SE w W0 := ⟨HW0.out.1.1, HW0.out.2.1, HW0.out.2.2.1⟩
  have HS0 := Lib.hid S0; clear S0
  cases ho : opn l with
  | error k =>
    rintro e w1 ⟨rfl, hB1⟩
    exact decC_caught Try.results21 rfl rfl (by unfold decCom; rw [ho]) (HS0.out.below hB1)
  | ok its =>
    rintro e w1 ⟨R, mm, rfl, hR, hC, hB1⟩
    obtain ⟨n, hn⟩ : ∃ n, W0.heap.size = n := ⟨_, rfl⟩
    rw [hn] at hR hC
    have S1 : SC w n mm R w1 its zc := ⟨bstep HW0.out.1.1 hB1, (HS0.out.below hB1).b, (HS0.out.below hB1).e, (hB1.block _ (by have := HW0.out.1.2; omega)).trans HW0.out.2.2.2, hC, by have := HW0.out.1.2; omega, hR⟩
    have HS1 := Lib.hid S1; clear S1 hR hC hB1 HW0 HS0 hn
    go_wp2_with fail
    refine (rnumber_c n mm w1 R its HS1.out.cu).mono ?_
    cases hh : rdNumber its with
    | none =>
      rintro e w2 ⟨rfl, hM⟩
      exact decC_caught Try.results21 rfl rfl (by unfold decCom; rw [ho]; simp only [rdCom, hh]) (HS1.out.no hM)
    | some p =>
      obtain ⟨h, r1⟩ := p
      rintro e w2 ⟨rfl, hC, hM⟩
      have HS2 := Lib.hid (HS1.out.move hC hM); clear HS1 hC hM
      go_wp2_with fail
      refine (rint_c n mm w2 R r1 2147483647 (by decide) HS2.out.cu).mono ?_
      cases hr : rdInt 2147483647 r1 with
      | none =>
        rintro e w3 ⟨rfl, hM⟩
        exact decC_caught Try.results21 rfl rfl (by unfold decCom; rw [ho]; simp only [rdCom, hh, hr]) (HS2.out.no hM)
      | some p =>
        obtain ⟨rd, r2⟩ := p
        rintro e w3 ⟨rfl, hC, hM⟩
        have HS3 := Lib.hid (HS2.out.move hC hM); clear HS2 hC hM
        have y0 : w3.cell? ⟨w.heap.size + 2, 0, none⟩ = some (.int .u64 0) := cell_of_heap HS3.out.g rfl
        have y1 : w3.cell? ⟨w.heap.size + 2, 1, none⟩ = some (.int .i64 0) := cell_of_heap HS3.out.g rfl
        have f0 : w3.frozen? ⟨w.heap.size + 2, 0, none⟩ = false := by unfold World.frozen?; rw [HS3.out.g]; rfl
        have f1 : w3.frozen? ⟨w.heap.size + 2, 1, none⟩ = false := by unfold World.frozen?; rw [HS3.out.g]; rfl
        go_wp2_with fail
        have S4 := (HS3.out.set 0 (.int .u64 (h : Int))).set 1 (.int .i64 (rd : Int))
        obtain ⟨W4, hW4⟩ : ∃ W, (w3.setCell ⟨w.heap.size + 2, 0, none⟩ (.int .u64 (h : Int))).setCell ⟨w.heap.size + 2, 1, none⟩ (.int .i64 (rd : Int)) = W := ⟨_, rfl⟩
        rw [hW4] at S4 ⊢
        obtain ⟨cur4, hcur4⟩ : ∃ c, (zc.setIfInBounds 0 (.int .u64 (h : Int))).setIfInBounds 1 (.int .i64 (rd : Int)) = c := ⟨_, rfl⟩
        rw [hcur4] at S4
        have hcs4 : cur4.size = 35 := by rw [← hcur4]; simpa using zc_size
        have HS4 := Lib.hid S4
        clear hW4 y0 y1 f0 f1 HS3 S4
        have hl4 := HS4.out.lt
        refine (rinto_c n mm W4 R r2 32 (by decide) HS4.out.cu (w.heap.size + 2) 2 32 cur4 30 HS4.out.g (by omega) (by omega) (Or.inl (by have := HS4.out.hn; omega))).mono ?_
        unfold IntoRes
        cases hb : rdInto 32 r2 with
        | none =>
          rintro e w5 ⟨rfl, hM⟩
          exact decC_caught Try.results21 rfl rfl (by unfold decCom; rw [ho]; simp only [rdCom, hh, hr, hb]) (HS4.out.no hM)
        | some p =>
          obtain ⟨bv, r3⟩ := p
          rintro e w5 hI
          have S5 := HS4.out.into hI
          obtain ⟨rfl, _⟩ := hI
          have hbl : bv.length = 32 := rdInto_len hb
          have hcs5 : (lay cur4 2 bv).size = 35 := by rw [lay_size (by omega)]; exact hcs4
          obtain ⟨cur5, hcur5⟩ : ∃ c, lay cur4 2 bv = c := ⟨_, rfl⟩
          rw [hcur5] at S5 hcs5
          have HS5 := Lib.hid S5; clear S5 HS4 hl4
          go_wp2_with fail
          cases r3 with
          | nil =>
            refine (next_no n mm w5 R HS5.out.cu).mono ?_
            rintro e w6 ⟨rfl, hM⟩
            exact decC_caught Try.results21 rfl rfl (by unfold decCom; rw [ho]; simp only [rdCom, hh, hr, hb]) (HS5.out.no hM)
          | cons x r4 =>
            refine (next_yes n mm w5 R x r4 HS5.out.cu).mono ?_
            rintro e w6 ⟨fx, A1, k1, cp1, B1, m1, d1, rfl, hL, hC, hM⟩
            have HS6 := Lib.hid (HS5.out.move hC hM); clear HS5 hC hM
            have HL := Lib.hid hL; clear hL
            go_wp2_with fail
            cases x with
            | str sx =>
              refine (list_no sx n _ _ _ w6 HL.out.here).mono ?_
              rintro e w7 ⟨rfl, hB⟩
              exact decC_caught Try.results21 rfl rfl (by unfold decCom; rw [ho]; simp only [rdCom, hh, hr, hb]) (HS6.out.no (Moves.of_below hB))
            | list vl =>
              refine (list_yes vl n mm _ _ _ w6 (by have := HS6.out.lt; have := HS6.out.cu.le; omega) HL.out).mono ?_
              rintro e w7 ⟨R2, rfl, hR2, hC2, hB⟩
              have HS7 := Lib.hid (And.intro (HS6.out.below hB) (And.intro hC2 (show R < R2 by have := HS6.out.lt; omega))); clear hR2 hC2 hB HS6 HL
              have HN := Lib.hid (And.intro ho (And.intro hh (And.intro hr hb))); clear ho hh hr hb
              have h34 : cur5[34]? = some (.slice none 0 0) := by
                rw [← hcur5, lay_get (by omega) (by omega), ← hcur4, Array.getElem?_setIfInBounds_ne (by decide), Array.getElem?_setIfInBounds_ne (by decide)]; rfl
              have H5 := Lib.hid (And.intro hcs5 (And.intro h34 (And.intro hcur5 (And.intro hcur4 hbl)))); clear hcs5 h34 hcur5 hcur4 hcs4 hbl
              go_wp2_with fail
              go_loopw [22] (fun _ wr => ∃ (rest : List It) (vs : List Vot) (v : Value), Hid (VI w n mm R R2 w7.heap.size cur5 r4 rest vs v wr) ∧ Hid (rdVotes vl = (rdVotes rest).map (vs ++ ·)) ∧ Hid (vs.length + rest.length ≤ 1000000)) (fun _ wr => leftAt R2 wr)
              case atStart =>
                refine ⟨vl, [], .slice none 0 0, ⟨?_, HS7.out.2.1, World.ownsRow_nil _ _ _ _, Nat.le_refl _, HS7.out.2.2, HS7.out.2.1.lt⟩, ?_, ?_⟩
                · rw [setSame H5.out.2.1]; exact HS7.out.1
                · show rdVotes vl = _; simp
                · have := opn_big HN.out.1 (.list vl) (by
                    have h3 := rdInto_mem HN.out.2.2.2 (.list vl) (by simp)
                    exact rdNumber_mem HN.out.2.1 _ (rdInt_mem HN.out.2.2.1 _ h3)) vl rfl
                  show _ ≤ _
                  simpa using this
              case round =>
                obtain ⟨rest, vs, v, HI, HEQ, HLN⟩ := hrel
                cases rest with
                | nil =>
                  obtain ⟨A2, cap2, cs2, hh, _⟩ := HI.out.c2
                  have z0 : wr.cell? ⟨R2, 0, none⟩ = some (.slice A2 0 cap2) := by simp [World.cell?, hh]
                  clear hh
                  have hvl : rdVotes vl = some vs := by rw [HEQ.out]; simp [rdVotes]
                  have HVS := Lib.hid hvl; clear hvl
                  go_wp2_with fail
                  cases r4 with
                  | cons x r5 =>
                    refine (end_no n mm wr R x r5 HI.out.s.cu).mono ?_
                    rintro e w8 ⟨rfl, rfl⟩
                    exact decC_caught Try.results21 rfl rfl (by unfold decCom; rw [HN.out.1]; simp only [rdCom, HN.out.2.1, HN.out.2.2.1, HN.out.2.2.2]) HI.out.s.here
                  | nil =>
                    refine (end_yes n mm wr R HI.out.s.cu).mono ?_
                    rintro e w8 ⟨rfl, rfl⟩
                    obtain ⟨Av, cpv, rfl, hcv, _, _⟩ := own_slice HI.out.own
                    obtain ⟨F, hF⟩ : ∃ F, (comV (h : Int) (rd : Int) bv (.slice Av vs.length cpv)) = F := ⟨_, rfl⟩
                    have hFl : F.length = 35 := by rw [← hF]; simp [comV, bytesV_length, H5.out.2.2.2.2]
                    have hF1 := comV_one (h : Int) (rd : Int) bv Av vs.length cpv
                    rw [hF] at hF1
                    have hfin : cur5.setIfInBounds 34 (.slice Av vs.length cpv) = F.toArray := by
                      rw [← hF, ← H5.out.2.2.1, ← H5.out.2.2.2.1]
                      exact com_fin zc zc_size _ _ _ bv H5.out.2.2.2.2
                    have S8 := HI.out.s
                    rw [hfin] at S8
                    have hrg : w8.rangeAt (w.heap.size + 2) 0 F := fun j u hj => by rw [Nat.zero_add]; exact cell_of_heap S8.g (by simpa using hj)
                    have hth : w8.there w.heap.size 0 F.toArray.size := fun j hj => by
                      rw [Nat.zero_add]
                      exact ⟨by rw [cell_of_heap S8.b (Array.getElem?_eq_getElem (by rw [zc_size]; simp [hFl] at hj; exact hj))]; rfl, by unfold World.frozen?; rw [S8.b]; simp⟩
                    have hrow : w8.setCells w.heap.size 0 F.toArray.toList = w8.setRow w.heap.size F.toArray := by
                      have := setCells_row (l := F) S8.b (by rw [zc_size, hFl])
                      simpa using this
                    have x0 : (w8.setRow w.heap.size F.toArray).cell? ⟨w.heap.size + 1, 0, none⟩ = some (.int .i64 0) := cell_of_heap ((heap_setRow_other _ (by omega)).trans S8.e) rfl
                    have x1 : (w8.setRow w.heap.size F.toArray).frozen? ⟨w.heap.size + 1, 0, none⟩ = false := by unfold World.frozen?; rw [(heap_setRow_other _ (by omega)).trans S8.e]; rfl
                    have h1c := all_oneCell_toArray hF1
                    have HZ1 := Lib.hid (And.intro hrg (And.intro hth (And.intro hrow (And.intro h1c hFl)))); clear hrg hth hrow h1c hF1
                    have HS8 := Lib.hid (And.intro S8 (And.intro HI.out.own (And.intro hF HI.out.s.hn))); clear S8 hfin hF
                    obtain ⟨W9, hW9⟩ : ∃ W, w8.setRow w.heap.size F.toArray = W := ⟨_, rfl⟩
                    rw [hW9] at HZ1 x0 x1
                    have HW9 := Lib.hid hW9; clear hW9 z0 hFl
                    go_wp2_with (first
                      | (refine wpList_load_mid rfl 30 _ rfl (w.heap.size + 2) 0 rfl F _ HZ1.out.1 Try.underlying30 rfl (by rw [HZ1.out.2.2.2.2]; kernel_rfl) ?_)
                      | (refine wpList_store_mid rfl 30 _ _ rfl w.heap.size 0 F.toArray rfl (by simp [Act.eval, Act.put]) HZ1.out.2.1 (by rw [List.size_toArray, HZ1.out.2.2.2.2]; kernel_rfl) HZ1.out.2.2.2.1 ?_; rw [HZ1.out.2.2.1]))
                    have hb4 : W9.heap[w.heap.size]? = some (.cells F.toArray 30 (0, 0)) := by rw [← HW9.out]; exact heap_setRow_same HS8.out.1.b
                    have he4 : W9.heap[w.heap.size + 1]? = some (.cells #[.int .i64 0] 32 (0, 0)) := by rw [← HW9.out]; exact (heap_setRow_other _ (by omega)).trans HS8.out.1.e
                    have hbe : Below w.heap.size w W9 := by rw [← HW9.out]; exact below_setRow _ HS8.out.1.be (Nat.le_refl _)
                    refine fin_idle (v := .tuple #[.agg F.toArray, .int .i64 0]) (results_2cells Try.results21 rfl rfl (load_commit ((heap_setCell_other _ (by dsimp only; omega)).trans hb4) (by rw [List.size_toArray]; exact HZ1.out.2.2.2.2)) (load_errno _ _ _ (cell_of_heap (heap_setCell_row he4) rfl))) ?_
                    have hd : decCom l = .ok ⟨h, rd, bv, vs⟩ := by
                      unfold decCom; rw [HN.out.1]
                      simp only [rdCom, HN.out.2.1, HN.out.2.2.1, HN.out.2.2.2, HVS.out]; rfl
                    rw [hd]
                    have hl8 := HS8.out.1.lt
                    have hlow : ∀ k, w.heap.size + 3 ≤ k → k < w8.heap.size → (W9.setCell ⟨w.heap.size + 1, 0, none⟩ (.int .i64 0)).heap[k]? = w8.heap[k]? := by
                      intro k h1 h2
                      rw [heap_setCell_other _ (by dsimp only; omega), ← HW9.out, heap_setRow_other _ (by omega)]
                    refine ⟨Av, cpv, ?_, ?_, hbe.setCell (p := ⟨w.heap.size + 1, 0, none⟩) (by simp) _⟩
                    · rw [← HS8.out.2.2.1]
                      simp [comOf, ComN.toI, errOf]
                    · have hrd := (Rd.of_own HS8.out.2.1).mono (n' := w.heap.size + 3) (by have := HI.out.r2; have := HI.out.r; omega)
                      exact (hrd.blocks hlow).mono (by omega)
                | cons x l' =>
                  obtain ⟨q, hq⟩ : ∃ q, q = l'.length := ⟨_, rfl⟩
                  obtain ⟨A2, cap2, cs2, hh, _⟩ := HI.out.c2
                  rw [List.length_cons, ← hq] at hh
                  have z0 : wr.cell? ⟨R2, 0, none⟩ = some (.slice A2 (q + 1) cap2) := by simp [World.cell?, hh]
                  have hd : decide ((0 : Int) < (q : Int) + 1) = true := by rw [decide_eq_true_iff]; omega
                  have hd2 : (0 : Int) < (q : Int) + 1 := by omega
                  have HQ := Lib.hid hq
                  clear hh hq
                  obtain ⟨xr, _⟩ := HI.out.s.cell34 H5.out.1
                  have hnone : ∀ (hv : rdVotes (x :: l') = none), decCom l = .error 11 := fun hv => by
                    have h6 : rdVotes vl = none := by rw [HEQ.out, hv]; rfl
                    unfold decCom; rw [HN.out.1]
                    simp only [rdCom, HN.out.2.1, HN.out.2.2.1, HN.out.2.2.2]
                    cases r4 <;> simp [h6]
                  have HNO := Lib.hid hnone; clear hnone
                  go_wp2_with fail
                  cases x with
                  | str sx =>
                    refine wp_mono (Q := VPost w (fun _ _ => False)) ?_ ?_
                    · refine wp_region_any (by kernel_rfl) ?_
                      (try (change wpAny _ _ _ _ _ _ _ (World.drew _)))
                      refine wpAny_take (i := 0) (v := ?_) rfl (by kernel_rfl) (by kernel_rfl) (by kernel_rfl) (VPost.put 28 (by decide) (by decide) _) (Or.inl ⟨by rfl, ?_⟩) ?_
                      rotate_left
                      · intro w; go_simp; (try with_reducible rfl)
                      refine wpAny_take (i := 2) (v := ?_) rfl (by kernel_rfl) (by kernel_rfl) (by kernel_rfl) (VPost.put 30 (by decide) (by decide) _) (Or.inl ⟨by rfl, ?_⟩) ?_
                      rotate_left
                      · intro w; go_simp; (try with_reducible rfl)
                      refine wpAny_ready (rs := [1, 3]) (by kernel_rfl) (by simp) ?_
                      refine (AllReady.cons rfl (fun K hK => ?_) (AllReady.cons rfl (fun K hK => ?_) AllReady.nil))
                      · go_simp
                        refine hK _ _ ?_
                        clear hK K
                        refine wpAny_ready (rs := [3]) (by kernel_rfl) (by simp) ?_
                        refine (AllReady.cons rfl (fun K hK => ?_) AllReady.nil)
                        · go_simp
                          refine (next_yes n mm _ R2 (.str sx) l' (HI.out.c2.below ((Below.refl _ wr).drew))).mono ?_
                          rintro e w10 ⟨fy, A5, k5, cp5, B5, m5, d5, rfl, hL, hC10, hM10⟩
                          have hM0 : Moves R2 wr w10 := (Moves.of_below ((Below.refl _ wr).drew)).trans hM10
                          have S10 := HI.out.s.far HI.out.r hM0
                          obtain ⟨x10, _⟩ := S10.cell34 H5.out.1
                          have HL10 := Lib.hid hL
                          have HS10 := Lib.hid (And.intro S10 (And.intro hC10 hM0)); clear hL hC10 hM10 hM0 S10
                          refine hK _ _ ?_
                          clear hK K
                          refine wpAny_ready (rs := [4]) (by kernel_rfl) (by simp) ?_
                          refine (AllReady.cons rfl (fun K hK => ?_) AllReady.nil)
                          · go_simp
                            refine (list_no sx n _ _ _ w10 HL10.out.here).mono ?_
                            rintro e w11 ⟨rfl, hB11⟩
                            exact ⟨rfl, rfl, rfl, rfl, HS10.out.1.here.below hB11⟩
                      · go_simp
                        refine (next_yes n mm _ R2 (.str sx) l' (HI.out.c2.below ((Below.refl _ wr).drew))).mono ?_
                        rintro e w10 ⟨fy, A5, k5, cp5, B5, m5, d5, rfl, hL, hC10, hM10⟩
                        have hM0 : Moves R2 wr w10 := (Moves.of_below ((Below.refl _ wr).drew)).trans hM10
                        have S10 := HI.out.s.far HI.out.r hM0
                        obtain ⟨x10, _⟩ := S10.cell34 H5.out.1
                        have HL10 := Lib.hid hL
                        have HS10 := Lib.hid (And.intro S10 (And.intro hC10 hM0)); clear hL hC10 hM10 hM0 S10
                        refine hK _ _ ?_
                        clear hK K
                        refine wpAny_ready (rs := [1, 4]) (by kernel_rfl) (by simp) ?_
                        refine (AllReady.cons rfl (fun K hK => ?_) (AllReady.cons rfl (fun K hK => ?_) AllReady.nil))
                        · go_simp
                          refine hK _ _ ?_
                          clear hK K
                          refine wpAny_ready (rs := [4]) (by kernel_rfl) (by simp) ?_
                          refine (AllReady.cons rfl (fun K hK => ?_) AllReady.nil)
                          · go_simp
                            refine (list_no sx n _ _ _ w10 HL10.out.here).mono ?_
                            rintro e w11 ⟨rfl, hB11⟩
                            exact ⟨rfl, rfl, rfl, rfl, HS10.out.1.here.below hB11⟩
                        · go_simp
                          refine (list_no sx n _ _ _ w10 HL10.out.here).mono ?_
                          rintro e w11 ⟨rfl, hB11⟩
                          exact ⟨rfl, rfl, rfl, rfl, HS10.out.1.here.below hB11⟩
                    · rintro e a' W' hP
                      cases e with
                      | normal => exact hP.elim
                      | panic c =>
                        obtain ⟨rfl, h1, h2, h3, h4⟩ := hP
                        show Leaves _ _ _ _ a'.defers _ _
                        rw [h3]
                        exact decC_caught Try.results21 h1 h2 (HNO.out rfl) h4
                      | _ => exact hP.elim
                  | list sl =>
                    cases hv : rdVote sl with
                    | none =>
                      have HV := Lib.hid hv; clear hv
                      refine wp_mono (Q := VPost w (fun _ _ => False)) ?_ ?_
                      · refine wp_region_any (by kernel_rfl) ?_
                        (try (change wpAny _ _ _ _ _ _ _ (World.drew _)))
                        refine wpAny_take (i := 0) (v := ?_) rfl (by kernel_rfl) (by kernel_rfl) (by kernel_rfl) (VPost.put 28 (by decide) (by decide) _) (Or.inl ⟨by rfl, ?_⟩) ?_
                        rotate_left
                        · intro w; go_simp; (try with_reducible rfl)
                        refine wpAny_take (i := 2) (v := ?_) rfl (by kernel_rfl) (by kernel_rfl) (by kernel_rfl) (VPost.put 30 (by decide) (by decide) _) (Or.inl ⟨by rfl, ?_⟩) ?_
                        rotate_left
                        · intro w; go_simp; (try with_reducible rfl)
                        refine wpAny_ready (rs := [1, 3]) (by kernel_rfl) (by simp) ?_
                        refine (AllReady.cons rfl (fun K hK => ?_) (AllReady.cons rfl (fun K hK => ?_) AllReady.nil))
                        · go_simp
                          refine hK _ _ ?_
                          clear hK K
                          refine wpAny_ready (rs := [3]) (by kernel_rfl) (by simp) ?_
                          refine (AllReady.cons rfl (fun K hK => ?_) AllReady.nil)
                          · go_simp
                            refine (next_yes n mm _ R2 (.list sl) l' (HI.out.c2.below ((Below.refl _ wr).drew))).mono ?_
                            rintro e w10 ⟨fy, A5, k5, cp5, B5, m5, d5, rfl, hL, hC10, hM10⟩
                            have hM0 : Moves R2 wr w10 := (Moves.of_below ((Below.refl _ wr).drew)).trans hM10
                            have S10 := HI.out.s.far HI.out.r hM0
                            obtain ⟨x10, _⟩ := S10.cell34 H5.out.1
                            have HL10 := Lib.hid hL
                            have HS10 := Lib.hid (And.intro S10 (And.intro hC10 hM0)); clear hL hC10 hM10 hM0 S10
                            refine hK _ _ ?_
                            clear hK K
                            refine wpAny_ready (rs := [4]) (by kernel_rfl) (by simp) ?_
                            refine (AllReady.cons rfl (fun K hK => ?_) AllReady.nil)
                            · go_simp
                              refine (list_yes sl n mm _ _ _ w10 (by have := HS10.out.1.lt; have := HS10.out.1.cu.le; omega) HL10.out).mono ?_
                              rintro e w11 ⟨R3, rfl, hR3, hC3, hB11⟩
                              have S11 := HS10.out.1.below hB11
                              obtain ⟨x11, _⟩ := S11.cell34 H5.out.1
                              have HS11 := Lib.hid (And.intro S11 (And.intro hR3 (And.intro hC3 hB11))); clear S11 hR3 hC3 hB11
                              refine hK _ _ ?_
                              clear hK K
                              refine wpAny_ready (rs := [5]) (by kernel_rfl) (by simp) ?_
                              refine (AllReady.cons rfl (fun K hK => ?_) AllReady.nil)
                              · go_simp
                                refine (rvote_c n mm w10.heap.size w11 R3 sl HS11.out.2.1 HS11.out.2.2.1).mono ?_
                                intro e w12 hP
                                unfold VotPost at hP
                                rw [HV.out] at hP
                                obtain ⟨rfl, hB12⟩ := hP
                                exact ⟨rfl, rfl, rfl, rfl, (HS11.out.1.low (by have := HS10.out.1.lt; omega) hB12).here⟩
                        · go_simp
                          refine (next_yes n mm _ R2 (.list sl) l' (HI.out.c2.below ((Below.refl _ wr).drew))).mono ?_
                          rintro e w10 ⟨fy, A5, k5, cp5, B5, m5, d5, rfl, hL, hC10, hM10⟩
                          have hM0 : Moves R2 wr w10 := (Moves.of_below ((Below.refl _ wr).drew)).trans hM10
                          have S10 := HI.out.s.far HI.out.r hM0
                          obtain ⟨x10, _⟩ := S10.cell34 H5.out.1
                          have HL10 := Lib.hid hL
                          have HS10 := Lib.hid (And.intro S10 (And.intro hC10 hM0)); clear hL hC10 hM10 hM0 S10
                          refine hK _ _ ?_
                          clear hK K
                          refine wpAny_ready (rs := [1, 4]) (by kernel_rfl) (by simp) ?_
                          refine (AllReady.cons rfl (fun K hK => ?_) (AllReady.cons rfl (fun K hK => ?_) AllReady.nil))
                          · go_simp
                            refine hK _ _ ?_
                            clear hK K
                            refine wpAny_ready (rs := [4]) (by kernel_rfl) (by simp) ?_
                            refine (AllReady.cons rfl (fun K hK => ?_) AllReady.nil)
                            · go_simp
                              refine (list_yes sl n mm _ _ _ w10 (by have := HS10.out.1.lt; have := HS10.out.1.cu.le; omega) HL10.out).mono ?_
                              rintro e w11 ⟨R3, rfl, hR3, hC3, hB11⟩
                              have S11 := HS10.out.1.below hB11
                              obtain ⟨x11, _⟩ := S11.cell34 H5.out.1
                              have HS11 := Lib.hid (And.intro S11 (And.intro hR3 (And.intro hC3 hB11))); clear S11 hR3 hC3 hB11
                              refine hK _ _ ?_
                              clear hK K
                              refine wpAny_ready (rs := [5]) (by kernel_rfl) (by simp) ?_
                              refine (AllReady.cons rfl (fun K hK => ?_) AllReady.nil)
                              · go_simp
                                refine (rvote_c n mm w10.heap.size w11 R3 sl HS11.out.2.1 HS11.out.2.2.1).mono ?_
                                intro e w12 hP
                                unfold VotPost at hP
                                rw [HV.out] at hP
                                obtain ⟨rfl, hB12⟩ := hP
                                exact ⟨rfl, rfl, rfl, rfl, (HS11.out.1.low (by have := HS10.out.1.lt; omega) hB12).here⟩
                          · go_simp
                            refine (list_yes sl n mm _ _ _ w10 (by have := HS10.out.1.lt; have := HS10.out.1.cu.le; omega) HL10.out).mono ?_
                            rintro e w11 ⟨R3, rfl, hR3, hC3, hB11⟩
                            have S11 := HS10.out.1.below hB11
                            obtain ⟨x11, _⟩ := S11.cell34 H5.out.1
                            have HS11 := Lib.hid (And.intro S11 (And.intro hR3 (And.intro hC3 hB11))); clear S11 hR3 hC3 hB11
                            refine hK _ _ ?_
                            clear hK K
                            refine wpAny_ready (rs := [1, 5]) (by kernel_rfl) (by simp) ?_
                            refine (AllReady.cons rfl (fun K hK => ?_) (AllReady.cons rfl (fun K hK => ?_) AllReady.nil))
                            · go_simp
                              refine hK _ _ ?_
                              clear hK K
                              refine wpAny_ready (rs := [5]) (by kernel_rfl) (by simp) ?_
                              refine (AllReady.cons rfl (fun K hK => ?_) AllReady.nil)
                              · go_simp
                                refine (rvote_c n mm w10.heap.size w11 R3 sl HS11.out.2.1 HS11.out.2.2.1).mono ?_
                                intro e w12 hP
                                unfold VotPost at hP
                                rw [HV.out] at hP
                                obtain ⟨rfl, hB12⟩ := hP
                                exact ⟨rfl, rfl, rfl, rfl, (HS11.out.1.low (by have := HS10.out.1.lt; omega) hB12).here⟩
                            · go_simp
                              refine (rvote_c n mm w10.heap.size w11 R3 sl HS11.out.2.1 HS11.out.2.2.1).mono ?_
                              intro e w12 hP
                              unfold VotPost at hP
                              rw [HV.out] at hP
                              obtain ⟨rfl, hB12⟩ := hP
                              exact ⟨rfl, rfl, rfl, rfl, (HS11.out.1.low (by have := HS10.out.1.lt; omega) hB12).here⟩
                      · rintro e a' W' hP
                        cases e with
                        | normal => exact hP.elim
                        | panic c =>
                          obtain ⟨rfl, h1, h2, h3, h4⟩ := hP
                          show Leaves _ _ _ _ a'.defers _ _
                          rw [h3]
                          exact decC_caught Try.results21 h1 h2 (HNO.out (by simp only [rdVotes]; rw [HV.out])) h4
                        | _ => exact hP.elim
                    | some vt =>
                      have HVL := Lib.hid (vot_len hv)
                      have HV := Lib.hid hv; clear hv
                      have Hvb : Hid (∀ k, k < w7.heap.size → v.ownBlock = none ∨ v.ownBlock ≠ some k) := fun k hk => by
                        cases hb : v.ownBlock with
                        | none => exact .inl rfl
                        | some j => right; intro e; injection e with e; have := (HI.out.own.lt j hb).1; omega
                      obtain ⟨iV, hiV, hzV0, hzV1, hzV2⟩ := info_parts vote_info
                      obtain ⟨Av, cpv, rfl, _, _, _⟩ := own_slice HI.out.own
                      refine wp_mono (Q := VOnly (fun a' W' => ∃ u28 u29 u30 u31 u32 u33 u34 u35 u36 v', a' = { tmps := #[.slice A n0 cap, undef, .pointer (some ⟨w.heap.size, 0, none⟩), .pointer (some ⟨w.heap.size + 1, 0, none⟩), .pointer (some ⟨w.heap.size + 1 + 1, 0, none⟩), .pointer (some ⟨R, 0, none⟩), .pointer (some ⟨R2, 0, none⟩), .slice A n0 cap, .pointer (some ⟨R, 0, none⟩), .pointer (some ⟨R, 0, none⟩), .int .u64 (h : Int), .pointer (some ⟨R, 0, none⟩), .int .i64 (rd : Int), .pointer (some ⟨w.heap.size + 1 + 1, 0, none⟩), .pointer (some ⟨w.heap.size + 1 + 1, 1, none⟩), .pointer (some ⟨R, 0, none⟩), .pointer (some ⟨w.heap.size + 1 + 1, 2, none⟩), .slice (some ⟨w.heap.size + 1 + 1, 2, none⟩) 32 32, .tuple #[], .pointer (some ⟨R, 0, none⟩), .agg #[.bool fx, .slice A1 k1 cp1, .slice B1 m1 d1], .pointer (some ⟨R2, 0, none⟩), .pointer (some ⟨R2, 0, none⟩), .pointer (some ⟨R2, 0, none⟩), .pointer (some ⟨R2, 0, none⟩), .slice A2 (q + 1) cap2, .int .i64 ((q : Int) + 1), .bool true, u28, u29, u30, u31, u32, u33, u34, u35, u36, undef, undef, undef], defers := caughtAt w } ∧ Hid (VI w n mm R R2 w7.heap.size cur5 r4 l' (vs ++ [vt]) v' W'))) ?_ ?_
                      · refine wp_region_any (by kernel_rfl) ?_
                        (try (change wpAny _ _ _ _ _ _ _ (World.drew _)))
                        refine wpAny_take (i := 0) (v := ?_) rfl (by kernel_rfl) (by kernel_rfl) (by kernel_rfl) (fun _ _ _ h => h) (Or.inl ⟨by rfl, ?_⟩) ?_
                        rotate_left
                        · intro w; go_simp; (try with_reducible rfl)
                        refine wpAny_take (i := 2) (v := ?_) rfl (by kernel_rfl) (by kernel_rfl) (by kernel_rfl) (fun _ _ _ h => h) (Or.inl ⟨by rfl, ?_⟩) ?_
                        rotate_left
                        · intro w; go_simp; (try with_reducible rfl)
                        refine wpAny_ready (rs := [1, 3]) (by kernel_rfl) (by simp) ?_
                        refine (AllReady.cons rfl (fun K hK => ?_) (AllReady.cons rfl (fun K hK => ?_) AllReady.nil))
                        · go_simp
                          refine hK _ _ ?_
                          clear hK K
                          refine wpAny_ready (rs := [3]) (by kernel_rfl) (by simp) ?_
                          refine (AllReady.cons rfl (fun K hK => ?_) AllReady.nil)
                          · go_simp
                            refine (next_yes n mm _ R2 (.list sl) l' (HI.out.c2.below ((Below.refl _ wr).drew))).mono ?_
                            rintro e w10 ⟨fy, A5, k5, cp5, B5, m5, d5, rfl, hL, hC10, hM10⟩
                            have hM0 : Moves R2 wr w10 := (Moves.of_below ((Below.refl _ wr).drew)).trans hM10
                            have S10 := HI.out.s.far HI.out.r hM0
                            obtain ⟨x10, _⟩ := S10.cell34 H5.out.1
                            have HL10 := Lib.hid hL
                            have HS10 := Lib.hid (And.intro S10 (And.intro hC10 hM0)); clear hL hC10 hM10 hM0 S10
                            refine hK _ _ ?_
                            clear hK K
                            refine wpAny_ready (rs := [4]) (by kernel_rfl) (by simp) ?_
                            refine (AllReady.cons rfl (fun K hK => ?_) AllReady.nil)
                            · go_simp
                              refine (list_yes sl n mm _ _ _ w10 (by have := HS10.out.1.lt; have := HS10.out.1.cu.le; omega) HL10.out).mono ?_
                              rintro e w11 ⟨R3, rfl, hR3, hC3, hB11⟩
                              have S11 := HS10.out.1.below hB11
                              obtain ⟨x11, _⟩ := S11.cell34 H5.out.1
                              have HS11 := Lib.hid (And.intro S11 (And.intro hR3 (And.intro hC3 hB11))); clear S11 hR3 hC3 hB11
                              refine hK _ _ ?_
                              clear hK K
                              refine wpAny_ready (rs := [5]) (by kernel_rfl) (by simp) ?_
                              refine (AllReady.cons rfl (fun K hK => ?_) AllReady.nil)
                              · go_simp
                                refine (rvote_c n mm w10.heap.size w11 R3 sl HS11.out.2.1 HS11.out.2.2.1).mono ?_
                                intro e w12 hP
                                unfold VotPost at hP
                                rw [HV.out] at hP
                                obtain ⟨rfl, hB12⟩ := hP
                                have S12 := HS11.out.1.low (by have := HS10.out.1.lt; omega) hB12
                                obtain ⟨x12, _⟩ := S12.cell34 H5.out.1
                                obtain ⟨xb, _⟩ := (S12.below (bnew w12 (.cells (votCells vt).toArray 94))).cell34 H5.out.1
                                have hbs := run_buildSlice_one (P := Try.prog) w12 28 94 iV Try.zeroCells94 (votCells vt).toArray 100 (by rw [List.size_toArray, HVL.out]) Try.underlying28 hiV hzV1 hzV0 (by kernel_rfl) (by decide) (by decide)
                                have hBB : Below w10.heap.size w10 w12 := HS11.out.2.2.2.trans hB12
                                have HS12 := Lib.hid (And.intro S12 hBB); clear S12 hB12 hBB
                                refine hK _ _ ?_
                                clear hK K
                                refine wpAny_ready (rs := [6]) (by kernel_rfl) (by simp) ?_
                                refine (AllReady.cons rfl (fun K hK => ?_) AllReady.nil)
                                · refine step_build1 rfl (.tmp 33) 28 rfl (votCells vt).toArray (by simp [Act.eval, Act.put]) hbs ?_
                                  refine hK _ _ ?_
                                  clear hK K
                                  refine wpAny_ready (rs := [7]) (by kernel_rfl) (by simp) ?_
                                  refine (AllReady.cons rfl (fun K hK => ?_) AllReady.nil)
                                  · refine step_append_lies _ rfl (.tmp 29) (.tmp 34) 28 rfl w7.heap.size 94 iV _ 100 128 Try.underlying28 hiV hzV0 hzV1 hzV2 rfl (by decide) (.slice Av vs.length cpv) vs.length (votsV (vs.map Vot.toI)) (by simp [Act.eval, Act.put]) (own_below (HI.out.own.kept HS10.out.2.2 (Hvb.out R2 HI.out.r2)) (HS12.out.2.trans (bnew' w12 _ HS12.out.2.size))) ⟨w12.heap.size, 0, none⟩ 1 1 (votCells vt) (by simp [Act.eval, Act.put]) (by rw [HVL.out]) (by intro j u hj; rw [Addr.add_mid, Nat.zero_add]; exact cell_of_heap (World.alloc_heap_new w12 _) (by simpa using hj)) (votCells_one vt) (by decide) (by have := HLN.out; unfold maxLen; simp at this; omega) (by have := HLN.out; simp at this; omega) (by have := HI.out.sz; have := HS10.out.2.2.size; have := HS12.out.2.size; simp; omega) _ rfl ?_
                                    intro g' cap' w13 hown13 hgrow13 hat13 hlt13
                                    have hst := Lib.hid (VI.step HI.out H5.out.1 HS10.out.2.1 HS10.out.2.2 HS12.out.2 hown13 hgrow13)
                                    have S13 := HS12.out.1.low (m := w7.heap.size) (by have := HI.out.r; have := HI.out.r2; omega) (Below13 HI.out HS10.out.2.2 HS12.out.2 hgrow13)
                                    obtain ⟨x13, f13⟩ := S13.cell34 H5.out.1
                                    clear hown13 hgrow13 hat13 hlt13 S13
                                    refine hK _ _ ?_
                                    clear hK K
                                    refine wpAny_take (i := 8) (v := ?_) rfl (by kernel_rfl) (by kernel_rfl) (by kernel_rfl) (fun _ _ _ h => h) (Or.inl ⟨by rfl, ?_⟩) ?_
                                    rotate_left
                                    · intro w; go_simp; (try with_reducible rfl)
                                    refine wpAny_ready (rs := [9]) (by kernel_rfl) (by simp) ?_
                                    refine (AllReady.cons rfl (fun K hK => ?_) AllReady.nil)
                                    · go_simp
                                      refine hK _ _ ?_
                                      clear hK K
                                      refine wpAny_done (by kernel_rfl) ?_ _
                                      exact ⟨_, _, _, _, _, _, _, _, _, _, rfl, hst⟩
                        · go_simp
                          refine (next_yes n mm _ R2 (.list sl) l' (HI.out.c2.below ((Below.refl _ wr).drew))).mono ?_
                          rintro e w10 ⟨fy, A5, k5, cp5, B5, m5, d5, rfl, hL, hC10, hM10⟩
                          have hM0 : Moves R2 wr w10 := (Moves.of_below ((Below.refl _ wr).drew)).trans hM10
                          have S10 := HI.out.s.far HI.out.r hM0
                          obtain ⟨x10, _⟩ := S10.cell34 H5.out.1
                          have HL10 := Lib.hid hL
                          have HS10 := Lib.hid (And.intro S10 (And.intro hC10 hM0)); clear hL hC10 hM10 hM0 S10
                          refine hK _ _ ?_
                          clear hK K
                          refine wpAny_ready (rs := [1, 4]) (by kernel_rfl) (by simp) ?_
                          refine (AllReady.cons rfl (fun K hK => ?_) (AllReady.cons rfl (fun K hK => ?_) AllReady.nil))
                          · go_simp
                            refine hK _ _ ?_
                            clear hK K
                            refine wpAny_ready (rs := [4]) (by kernel_rfl) (by simp) ?_
                            refine (AllReady.cons rfl (fun K hK => ?_) AllReady.nil)
                            · go_simp
                              refine (list_yes sl n mm _ _ _ w10 (by have := HS10.out.1.lt; have := HS10.out.1.cu.le; omega) HL10.out).mono ?_
                              rintro e w11 ⟨R3, rfl, hR3, hC3, hB11⟩
                              have S11 := HS10.out.1.below hB11
                              obtain ⟨x11, _⟩ := S11.cell34 H5.out.1
                              have HS11 := Lib.hid (And.intro S11 (And.intro hR3 (And.intro hC3 hB11))); clear S11 hR3 hC3 hB11
                              refine hK _ _ ?_
                              clear hK K
                              refine wpAny_ready (rs := [5]) (by kernel_rfl) (by simp) ?_
                              refine (AllReady.cons rfl (fun K hK => ?_) AllReady.nil)
                              · go_simp
                                refine (rvote_c n mm w10.heap.size w11 R3 sl HS11.out.2.1 HS11.out.2.2.1).mono ?_
                                intro e w12 hP
                                unfold VotPost at hP
                                rw [HV.out] at hP
                                obtain ⟨rfl, hB12⟩ := hP
                                have S12 := HS11.out.1.low (by have := HS10.out.1.lt; omega) hB12
                                obtain ⟨x12, _⟩ := S12.cell34 H5.out.1
                                obtain ⟨xb, _⟩ := (S12.below (bnew w12 (.cells (votCells vt).toArray 94))).cell34 H5.out.1
                                have hbs := run_buildSlice_one (P := Try.prog) w12 28 94 iV Try.zeroCells94 (votCells vt).toArray 100 (by rw [List.size_toArray, HVL.out]) Try.underlying28 hiV hzV1 hzV0 (by kernel_rfl) (by decide) (by decide)
                                have hBB : Below w10.heap.size w10 w12 := HS11.out.2.2.2.trans hB12
                                have HS12 := Lib.hid (And.intro S12 hBB); clear S12 hB12 hBB
                                refine hK _ _ ?_
                                clear hK K
                                refine wpAny_ready (rs := [6]) (by kernel_rfl) (by simp) ?_
                                refine (AllReady.cons rfl (fun K hK => ?_) AllReady.nil)
                                · refine step_build1 rfl (.tmp 33) 28 rfl (votCells vt).toArray (by simp [Act.eval, Act.put]) hbs ?_
                                  refine hK _ _ ?_
                                  clear hK K
                                  refine wpAny_ready (rs := [7]) (by kernel_rfl) (by simp) ?_
                                  refine (AllReady.cons rfl (fun K hK => ?_) AllReady.nil)
                                  · refine step_append_lies _ rfl (.tmp 29) (.tmp 34) 28 rfl w7.heap.size 94 iV _ 100 128 Try.underlying28 hiV hzV0 hzV1 hzV2 rfl (by decide) (.slice Av vs.length cpv) vs.length (votsV (vs.map Vot.toI)) (by simp [Act.eval, Act.put]) (own_below (HI.out.own.kept HS10.out.2.2 (Hvb.out R2 HI.out.r2)) (HS12.out.2.trans (bnew' w12 _ HS12.out.2.size))) ⟨w12.heap.size, 0, none⟩ 1 1 (votCells vt) (by simp [Act.eval, Act.put]) (by rw [HVL.out]) (by intro j u hj; rw [Addr.add_mid, Nat.zero_add]; exact cell_of_heap (World.alloc_heap_new w12 _) (by simpa using hj)) (votCells_one vt) (by decide) (by have := HLN.out; unfold maxLen; simp at this; omega) (by have := HLN.out; simp at this; omega) (by have := HI.out.sz; have := HS10.out.2.2.size; have := HS12.out.2.size; simp; omega) _ rfl ?_
                                    intro g' cap' w13 hown13 hgrow13 hat13 hlt13
                                    have hst := Lib.hid (VI.step HI.out H5.out.1 HS10.out.2.1 HS10.out.2.2 HS12.out.2 hown13 hgrow13)
                                    have S13 := HS12.out.1.low (m := w7.heap.size) (by have := HI.out.r; have := HI.out.r2; omega) (Below13 HI.out HS10.out.2.2 HS12.out.2 hgrow13)
                                    obtain ⟨x13, f13⟩ := S13.cell34 H5.out.1
                                    clear hown13 hgrow13 hat13 hlt13 S13
                                    refine hK _ _ ?_
                                    clear hK K
                                    refine wpAny_take (i := 8) (v := ?_) rfl (by kernel_rfl) (by kernel_rfl) (by kernel_rfl) (fun _ _ _ h => h) (Or.inl ⟨by rfl, ?_⟩) ?_
                                    rotate_left
                                    · intro w; go_simp; (try with_reducible rfl)
                                    refine wpAny_ready (rs := [9]) (by kernel_rfl) (by simp) ?_
                                    refine (AllReady.cons rfl (fun K hK => ?_) AllReady.nil)
                                    · go_simp
                                      refine hK _ _ ?_
                                      clear hK K
                                      refine wpAny_done (by kernel_rfl) ?_ _
                                      exact ⟨_, _, _, _, _, _, _, _, _, _, rfl, hst⟩
                          · go_simp
                            refine (list_yes sl n mm _ _ _ w10 (by have := HS10.out.1.lt; have := HS10.out.1.cu.le; omega) HL10.out).mono ?_
                            rintro e w11 ⟨R3, rfl, hR3, hC3, hB11⟩
                            have S11 := HS10.out.1.below hB11
                            obtain ⟨x11, _⟩ := S11.cell34 H5.out.1
                            have HS11 := Lib.hid (And.intro S11 (And.intro hR3 (And.intro hC3 hB11))); clear S11 hR3 hC3 hB11
                            refine hK _ _ ?_
                            clear hK K
                            refine wpAny_ready (rs := [1, 5]) (by kernel_rfl) (by simp) ?_
                            refine (AllReady.cons rfl (fun K hK => ?_) (AllReady.cons rfl (fun K hK => ?_) AllReady.nil))
                            · go_simp
                              refine hK _ _ ?_
                              clear hK K
                              refine wpAny_ready (rs := [5]) (by kernel_rfl) (by simp) ?_
                              refine (AllReady.cons rfl (fun K hK => ?_) AllReady.nil)
                              · go_simp
                                refine (rvote_c n mm w10.heap.size w11 R3 sl HS11.out.2.1 HS11.out.2.2.1).mono ?_
                                intro e w12 hP
                                unfold VotPost at hP
                                rw [HV.out] at hP
                                obtain ⟨rfl, hB12⟩ := hP
                                have S12 := HS11.out.1.low (by have := HS10.out.1.lt; omega) hB12
                                obtain ⟨x12, _⟩ := S12.cell34 H5.out.1
                                obtain ⟨xb, _⟩ := (S12.below (bnew w12 (.cells (votCells vt).toArray 94))).cell34 H5.out.1
                                have hbs := run_buildSlice_one (P := Try.prog) w12 28 94 iV Try.zeroCells94 (votCells vt).toArray 100 (by rw [List.size_toArray, HVL.out]) Try.underlying28 hiV hzV1 hzV0 (by kernel_rfl) (by decide) (by decide)
                                have hBB : Below w10.heap.size w10 w12 := HS11.out.2.2.2.trans hB12
                                have HS12 := Lib.hid (And.intro S12 hBB); clear S12 hB12 hBB
                                refine hK _ _ ?_
                                clear hK K
                                refine wpAny_ready (rs := [6]) (by kernel_rfl) (by simp) ?_
                                refine (AllReady.cons rfl (fun K hK => ?_) AllReady.nil)
                                · refine step_build1 rfl (.tmp 33) 28 rfl (votCells vt).toArray (by simp [Act.eval, Act.put]) hbs ?_
                                  refine hK _ _ ?_
                                  clear hK K
                                  refine wpAny_ready (rs := [7]) (by kernel_rfl) (by simp) ?_
                                  refine (AllReady.cons rfl (fun K hK => ?_) AllReady.nil)
                                  · refine step_append_lies _ rfl (.tmp 29) (.tmp 34) 28 rfl w7.heap.size 94 iV _ 100 128 Try.underlying28 hiV hzV0 hzV1 hzV2 rfl (by decide) (.slice Av vs.length cpv) vs.length (votsV (vs.map Vot.toI)) (by simp [Act.eval, Act.put]) (own_below (HI.out.own.kept HS10.out.2.2 (Hvb.out R2 HI.out.r2)) (HS12.out.2.trans (bnew' w12 _ HS12.out.2.size))) ⟨w12.heap.size, 0, none⟩ 1 1 (votCells vt) (by simp [Act.eval, Act.put]) (by rw [HVL.out]) (by intro j u hj; rw [Addr.add_mid, Nat.zero_add]; exact cell_of_heap (World.alloc_heap_new w12 _) (by simpa using hj)) (votCells_one vt) (by decide) (by have := HLN.out; unfold maxLen; simp at this; omega) (by have := HLN.out; simp at this; omega) (by have := HI.out.sz; have := HS10.out.2.2.size; have := HS12.out.2.size; simp; omega) _ rfl ?_
                                    intro g' cap' w13 hown13 hgrow13 hat13 hlt13
                                    have hst := Lib.hid (VI.step HI.out H5.out.1 HS10.out.2.1 HS10.out.2.2 HS12.out.2 hown13 hgrow13)
                                    have S13 := HS12.out.1.low (m := w7.heap.size) (by have := HI.out.r; have := HI.out.r2; omega) (Below13 HI.out HS10.out.2.2 HS12.out.2 hgrow13)
                                    obtain ⟨x13, f13⟩ := S13.cell34 H5.out.1
                                    clear hown13 hgrow13 hat13 hlt13 S13
                                    refine hK _ _ ?_
                                    clear hK K
                                    refine wpAny_take (i := 8) (v := ?_) rfl (by kernel_rfl) (by kernel_rfl) (by kernel_rfl) (fun _ _ _ h => h) (Or.inl ⟨by rfl, ?_⟩) ?_
                                    rotate_left
                                    · intro w; go_simp; (try with_reducible rfl)
                                    refine wpAny_ready (rs := [9]) (by kernel_rfl) (by simp) ?_
                                    refine (AllReady.cons rfl (fun K hK => ?_) AllReady.nil)
                                    · go_simp
                                      refine hK _ _ ?_
                                      clear hK K
                                      refine wpAny_done (by kernel_rfl) ?_ _
                                      exact ⟨_, _, _, _, _, _, _, _, _, _, rfl, hst⟩
                            · go_simp
                              refine (rvote_c n mm w10.heap.size w11 R3 sl HS11.out.2.1 HS11.out.2.2.1).mono ?_
                              intro e w12 hP
                              unfold VotPost at hP
                              rw [HV.out] at hP
                              obtain ⟨rfl, hB12⟩ := hP
                              have S12 := HS11.out.1.low (by have := HS10.out.1.lt; omega) hB12
                              obtain ⟨x12, _⟩ := S12.cell34 H5.out.1
                              obtain ⟨xb, _⟩ := (S12.below (bnew w12 (.cells (votCells vt).toArray 94))).cell34 H5.out.1
                              have hbs := run_buildSlice_one (P := Try.prog) w12 28 94 iV Try.zeroCells94 (votCells vt).toArray 100 (by rw [List.size_toArray, HVL.out]) Try.underlying28 hiV hzV1 hzV0 (by kernel_rfl) (by decide) (by decide)
                              have hBB : Below w10.heap.size w10 w12 := HS11.out.2.2.2.trans hB12
                              have HS12 := Lib.hid (And.intro S12 hBB); clear S12 hB12 hBB
                              refine hK _ _ ?_
                              clear hK K
                              refine wpAny_ready (rs := [1, 6]) (by kernel_rfl) (by simp) ?_
                              refine (AllReady.cons rfl (fun K hK => ?_) (AllReady.cons rfl (fun K hK => ?_) AllReady.nil))
                              · go_simp
                                refine hK _ _ ?_
                                clear hK K
                                refine wpAny_ready (rs := [6]) (by kernel_rfl) (by simp) ?_
                                refine (AllReady.cons rfl (fun K hK => ?_) AllReady.nil)
                                · refine step_build1 rfl (.tmp 33) 28 rfl (votCells vt).toArray (by simp [Act.eval, Act.put]) hbs ?_
                                  refine hK _ _ ?_
                                  clear hK K
                                  refine wpAny_ready (rs := [7]) (by kernel_rfl) (by simp) ?_
                                  refine (AllReady.cons rfl (fun K hK => ?_) AllReady.nil)
                                  · refine step_append_lies _ rfl (.tmp 29) (.tmp 34) 28 rfl w7.heap.size 94 iV _ 100 128 Try.underlying28 hiV hzV0 hzV1 hzV2 rfl (by decide) (.slice Av vs.length cpv) vs.length (votsV (vs.map Vot.toI)) (by simp [Act.eval, Act.put]) (own_below (HI.out.own.kept HS10.out.2.2 (Hvb.out R2 HI.out.r2)) (HS12.out.2.trans (bnew' w12 _ HS12.out.2.size))) ⟨w12.heap.size, 0, none⟩ 1 1 (votCells vt) (by simp [Act.eval, Act.put]) (by rw [HVL.out]) (by intro j u hj; rw [Addr.add_mid, Nat.zero_add]; exact cell_of_heap (World.alloc_heap_new w12 _) (by simpa using hj)) (votCells_one vt) (by decide) (by have := HLN.out; unfold maxLen; simp at this; omega) (by have := HLN.out; simp at this; omega) (by have := HI.out.sz; have := HS10.out.2.2.size; have := HS12.out.2.size; simp; omega) _ rfl ?_
                                    intro g' cap' w13 hown13 hgrow13 hat13 hlt13
                                    have hst := Lib.hid (VI.step HI.out H5.out.1 HS10.out.2.1 HS10.out.2.2 HS12.out.2 hown13 hgrow13)
                                    have S13 := HS12.out.1.low (m := w7.heap.size) (by have := HI.out.r; have := HI.out.r2; omega) (Below13 HI.out HS10.out.2.2 HS12.out.2 hgrow13)
                                    obtain ⟨x13, f13⟩ := S13.cell34 H5.out.1
                                    clear hown13 hgrow13 hat13 hlt13 S13
                                    refine hK _ _ ?_
                                    clear hK K
                                    refine wpAny_take (i := 8) (v := ?_) rfl (by kernel_rfl) (by kernel_rfl) (by kernel_rfl) (fun _ _ _ h => h) (Or.inl ⟨by rfl, ?_⟩) ?_
                                    rotate_left
                                    · intro w; go_simp; (try with_reducible rfl)
                                    refine wpAny_ready (rs := [9]) (by kernel_rfl) (by simp) ?_
                                    refine (AllReady.cons rfl (fun K hK => ?_) AllReady.nil)
                                    · go_simp
                                      refine hK _ _ ?_
                                      clear hK K
                                      refine wpAny_done (by kernel_rfl) ?_ _
                                      exact ⟨_, _, _, _, _, _, _, _, _, _, rfl, hst⟩
                              · refine step_build1 rfl (.tmp 33) 28 rfl (votCells vt).toArray (by simp [Act.eval, Act.put]) hbs ?_
                                refine hK _ _ ?_
                                clear hK K
                                refine wpAny_ready (rs := [1]) (by kernel_rfl) (by simp) ?_
                                refine (AllReady.cons rfl (fun K hK => ?_) AllReady.nil)
                                · go_simp
                                  refine hK _ _ ?_
                                  clear hK K
                                  refine wpAny_ready (rs := [7]) (by kernel_rfl) (by simp) ?_
                                  refine (AllReady.cons rfl (fun K hK => ?_) AllReady.nil)
                                  · refine step_append_lies _ rfl (.tmp 29) (.tmp 34) 28 rfl w7.heap.size 94 iV _ 100 128 Try.underlying28 hiV hzV0 hzV1 hzV2 rfl (by decide) (.slice Av vs.length cpv) vs.length (votsV (vs.map Vot.toI)) (by simp [Act.eval, Act.put]) (own_below (HI.out.own.kept HS10.out.2.2 (Hvb.out R2 HI.out.r2)) (HS12.out.2.trans (bnew' w12 _ HS12.out.2.size))) ⟨w12.heap.size, 0, none⟩ 1 1 (votCells vt) (by simp [Act.eval, Act.put]) (by rw [HVL.out]) (by intro j u hj; rw [Addr.add_mid, Nat.zero_add]; exact cell_of_heap (World.alloc_heap_new w12 _) (by simpa using hj)) (votCells_one vt) (by decide) (by have := HLN.out; unfold maxLen; simp at this; omega) (by have := HLN.out; simp at this; omega) (by have := HI.out.sz; have := HS10.out.2.2.size; have := HS12.out.2.size; simp; omega) _ rfl ?_
                                    intro g' cap' w13 hown13 hgrow13 hat13 hlt13
                                    have hst := Lib.hid (VI.step HI.out H5.out.1 HS10.out.2.1 HS10.out.2.2 HS12.out.2 hown13 hgrow13)
                                    have S13 := HS12.out.1.low (m := w7.heap.size) (by have := HI.out.r; have := HI.out.r2; omega) (Below13 HI.out HS10.out.2.2 HS12.out.2 hgrow13)
                                    obtain ⟨x13, f13⟩ := S13.cell34 H5.out.1
                                    clear hown13 hgrow13 hat13 hlt13 S13
                                    refine hK _ _ ?_
                                    clear hK K
                                    refine wpAny_take (i := 8) (v := ?_) rfl (by kernel_rfl) (by kernel_rfl) (by kernel_rfl) (fun _ _ _ h => h) (Or.inl ⟨by rfl, ?_⟩) ?_
                                    rotate_left
                                    · intro w; go_simp; (try with_reducible rfl)
                                    refine wpAny_ready (rs := [9]) (by kernel_rfl) (by simp) ?_
                                    refine (AllReady.cons rfl (fun K hK => ?_) AllReady.nil)
                                    · go_simp
                                      refine hK _ _ ?_
                                      clear hK K
                                      refine wpAny_done (by kernel_rfl) ?_ _
                                      exact ⟨_, _, _, _, _, _, _, _, _, _, rfl, hst⟩
                      · rintro e a' W' hP
                        cases e with
                        | normal =>
                          obtain ⟨u28, u29, u30, u31, u32, u33, u34, u35, u36, v', rfl, hst⟩ := hP
                          clear hiV hzV0 hzV1 hzV2 xr z0 hd hd2
                          have heq : rdVotes vl = (rdVotes l').map ((vs ++ [vt]) ++ ·) := by
                            rw [HEQ.out]
                            simp only [rdVotes]
                            rw [HV.out]
                            simp [Option.map_map, Function.comp_def]
                          have HEQ2 := Lib.hid heq
                          have HLN2 : Hid ((vs ++ [vt]).length + l'.length ≤ 1000000) := by
                            have := HLN.out
                            show _ ≤ _
                            simp at this ⊢; omega
                          have HLF : Hid (leftAt R2 W' < leftAt R2 wr) := by
                            show _ < _
                            rw [leftAt_eq hst.out.c2, leftAt_eq HI.out.c2]; simp
                          clear heq
                          exact ⟨⟨_, _, _, _, _, _, _, _, _, _, _, _, _, _, _, ⟨l', vs ++ [vt], v', hst, HEQ2, HLN2⟩, rfl⟩, HLF.out⟩
                        | _ => exact hP.elim
end Go.Proofs.Ytildkoabfdfjlaa
