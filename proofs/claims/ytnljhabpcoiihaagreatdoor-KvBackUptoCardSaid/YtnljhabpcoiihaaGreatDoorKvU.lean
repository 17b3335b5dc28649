/- The store's 'changes' and the iterator that it makes. The store's Unbatch. -/
import Derived.Test.YtnljhabpcoiihaaGreatDoorStops
import Derived.Test.YtnljhabpcoiihaaGreatDoorKvC
import Derived.Test.YtnljhabpcoiihaaGreatDoorKvR
import Derived.Test.YtnljhabpcoiihaaGreatDoorLoadI
import Derived.Scope
import Derived.WalkMore
import Derived.Shelf.Abstract
set_option linter.all false
namespace Go.Proofs.YtnljhabpcoiihaaGreatDoor
open Go.RowKit

/-- what 'changes' hands to a round: a change, whether it is one, its two slices -/
abbrev ChI := ChM × Bool × Value × Value
def ciKey (x : ChI) : ChM × Bool := (x.1, x.2.1)
def encC (x : ChI) : Array Value := #[.agg #[x.2.2.1, x.2.2.2, .bool x.1.gone], .bool x.2.1]
def PxC (x : ChI) (_ W : World) : Prop := Bs 5 W x.2.2.1 x.1.key ∧ Bs 5 W x.2.2.2 x.1.val
def AbC (Bb : Nat) (W W' : World) : Prop := W.grownBy W' (some Bb) ∧ ∀ o, W.heap[Bb]? = some o → ∃ o', W'.heap[Bb]? = some o' ∧ tagOf o' = tagOf o
def KpC (n0 Bb : Nat) (W W' : World) : Prop := ∀ (b : Nat) (o : Obj), W.heap[b]? = some o → (b = Bb ∨ b < n0 ∨ tagOf o = some 5) → W'.heap[b]? = some o
def chZ : ChM := ⟨[], [], false⟩
/-- all that 'changes' hands on, plain -/
def seqC : Nat → List UInt8 → List (ChM × Bool)
  | 0, _ => []
  | f + 1, l => if l = [] then [] else match changeM l with
    | none => [(chZ, false)]
    | some (c, r) => (c, true) :: seqC f r
def FinC (l : List UInt8) (xs : List ChI) : Prop := xs.map ciKey = seqC (l.length + 1) l
def FinXC (l : List UInt8) (xs : List ChI) : Prop := xs.map ciKey <+: seqC (l.length + 1) l

set_option maxRecDepth 100000 in
set_option maxHeartbeats 400000 in
theorem changes_c (A : Option Addr) (n cap : Nat) (w : World) :
    Calls Tryz.prog 59 #[.slice A n cap] w fun e w' => e = .returned (.func (.func 92) #[] #[.pointer (some ⟨w.heap.size, 0, none⟩)]) ∧ w' = w.alloc (.cells #[.slice A n cap] 29) := by
  have hmf : ∀ (fn : Fn) (first cap : Array Value) (w : World), (Instr.makeFunc fn first cap).run Tryz.prog w = .ok (.func fn first cap) w := fun _ _ _ _ => rfl
  go_enter Tryz.func59, Tryz.ntmps59
  go_wp2
  go_ret
  exact ⟨rfl, rfl⟩

set_option maxRecDepth 100000 in
set_option maxHeartbeats 800000 in
theorem changes_iter (n0 m : Nat) (w0 : World) (Bb : Nat) (A : Option Addr) (cap : Nat) (l : List UInt8) (hb : w0.heap[Bb]? = some (.cells #[.slice A l.length cap] 29 (0, 0))) (hr : Bn n0 w0 (.slice A l.length cap) l) (hn0 : n0 ≤ Bb) (hl : l.length ≤ 1073741824) :
    Stops Tryz.prog m w0 92 #[.pointer (some ⟨Bb, 0, none⟩)] encC (l.length + 1) PxC (AbC Bb) (KpC n0 Bb) (FinC l) (FinXC l) := by
  intro lp J Jx W hBW hsz hJA hJxA hY hJ0
  have HJ := Lib.hid (And.intro hJA hJxA); clear hJA hJxA
  have HY := Lib.hid hY; clear hY
  obtain ⟨i0, hi0, hz0, hz1, hz2⟩ := info8
  refine callsIn_of_wp Tryz.func92 rfl trivial ?_ rfl
  simp only [Tryz.ntmps92, List.size_toArray, List.length_cons, List.length_nil, Nat.reduceAdd, Nat.reduceSub, Array.replicate_succ, Array.replicate_zero, List.push_toArray, List.append_toArray, List.nil_append, List.cons_append]
  gi_wp2
  gi_loopw [5] (fun _ wr => ∃ (A' : Option Addr) (cap' : Nat) (l' : List UInt8) (acc : List ChI) (fuel : Nat), wr.heap[Bb]? = some (.cells #[.slice A' l'.length cap'] 29 (0, 0)) ∧ Bn n0 wr (.slice A' l'.length cap') l' ∧
      w0.heap.size + 2 ≤ wr.heap.size ∧ J acc wr ∧ acc.length + l'.length ≤ l.length ∧ acc.map ciKey ++ seqC fuel l' = seqC (l.length + 1) l ∧ l'.length < fuel) (fun _ wr => lenCell wr Bb)
  case atStart =>
    exact ⟨A, cap, l, [], l.length + 1, (hBW.block _ (heap_lt hb)).trans hb, hr.below hBW, hsz, hJ0, by simp, by simp, by omega⟩
  case round =>
    obtain ⟨A', cap', l', acc, fuel, hb', hr', hsz', hJ, hlen, heq, hfu⟩ := hrel
    have c0 := Joins.cell_of_block hb' 0
    have f0 := Joins.unfrozen_of_block hb' 0
    simp at c0
    have hml : lenCell wr Bb = l'.length := by unfold lenCell; rw [c0]
    have HE := Lib.hid (And.intro hb' (And.intro hr' (And.intro hsz' (And.intro hJ (And.intro hlen (And.intro heq (And.intro hfu hml)))))))
    clear hb' hr' hsz' hJ hlen heq hfu hml
    obtain ⟨f, hf⟩ : ∃ f, fuel = f + 1 := ⟨fuel - 1, by have := HE.out.2.2.2.2.2.2.1; omega⟩
    by_cases hl0 : l' = []
    · subst hl0
      gi_wp2
      go_end0
      refine ⟨⟨_, rfl⟩, .inl ⟨acc, ?_, HE.out.2.2.2.1⟩⟩
      unfold FinC
      rw [← HE.out.2.2.2.2.2.1, hf]
      simp [seqC]
    · have hpos : 0 < l'.length := List.length_pos_iff.2 hl0
      have hle : l'.length ≤ l.length := by have := HE.out.2.2.2.2.1; omega
      have hle2 : l'.length ≤ 1073741824 := by omega
      have hnx := change_c n0 A' l'.length cap' l' rfl (by omega) wr HE.out.2.1 (by have := HE.out.2.2.1; have := heap_lt hb; omega)
      have hsh := fun c r => change_shorter (b := l') (c := c) (r := r)
      have hseq : seqC fuel l' = match changeM l' with
          | none => [(chZ, false)]
          | some (c, r) => (c, true) :: seqC f r := by rw [hf, seqC, if_neg hl0]
      obtain ⟨R, hR⟩ : ∃ R, changeM l' = R := ⟨_, rfl⟩
      rw [hR] at hnx hseq hsh
      have HN := Lib.hid (And.intro hnx (And.intro hseq hsh)); clear hnx hseq hsh hR
      gi_wp2_with fail
      refine ⟨trivial, (fun h => by cases h), ?_⟩
      refine (callsIn_wide.2 HN.out.1).mono ?_
      rintro e W1 ⟨hb1, hpost⟩
      cases R with
      | none =>
        subst hpost
        have hb2 := bstep hb1 (bnew W1 (.cells #[.slice none 0 0, .slice none 0 0, .bool false] 87))
        have hAb1 : AbC Bb wr (W1.alloc (.cells #[.slice none 0 0, .slice none 0 0, .bool false] 87)) := ⟨⟨hb2.os, hb2.tape, hb2.output, hb2.size, fun q hq _ => hb2.block q hq⟩, fun o ho => ⟨o, (hb2.block _ (heap_lt ho)).trans ho, rfl⟩⟩
        obtain ⟨fn, tmps, assign, body, hy, hRnd⟩ := HY.out acc (chZ, false, .slice none 0 0, .slice none 0 0) wr _ (by have := HE.out.2.2.2.2.1; omega) HE.out.2.2.2.1 hAb1 HE.out.2.2.1 ⟨Bs.nil _ _, Bs.nil _ _⟩
        dsimp only [encC, chZ] at hy
        clear hb1 hb2 hAb1 c0 f0
        gi_wp2_with fail
        refine ⟨(fun h => by cases h), ?_⟩
        refine hRnd.mono ?_
        have hE : acc.map ciKey ++ [(chZ, false)] = seqC (l.length + 1) l := by
          have q6 := HE.out.2.2.2.2.2.1
          rw [HN.out.2.1] at q6
          exact q6
        have HEE := Lib.hid hE; clear hE
        rintro e W2 (⟨rfl, hJ2, hKp2, hsz2⟩ | ⟨rfl, hJx2⟩)
        · have HJ2 := Lib.hid hJ2; clear hJ2 hKp2 hsz2
          gi_wp2_with fail
          refine bodyPost_ret_by (results_none rfl _ _ _) rfl ?_
          refine ⟨⟨_, rfl⟩, .inl ⟨acc ++ [(chZ, false, .slice none 0 0, .slice none 0 0)], ?_, HJ2.out⟩⟩
          unfold FinC
          rw [List.map_append, ← HEE.out]
          rfl
        · have HJ2 := Lib.hid hJx2; clear hJx2
          gi_wp2_with fail
          refine bodyPost_ret_by (results_none rfl _ _ _) rfl ?_
          refine ⟨⟨_, rfl⟩, .inr ⟨acc ++ [(chZ, false, .slice none 0 0, .slice none 0 0)], ?_, HJ2.out⟩⟩
          unfold FinXC
          rw [List.map_append, ← HEE.out]
          exact List.prefix_refl _
      | some p =>
        obtain ⟨c, r⟩ := p
        obtain ⟨kv, vv, A1, cp1, rfl, hk1, hv1, hr1⟩ := hpost
        have hsh := HN.out.2.2 c r rfl
        obtain ⟨K1, kc1, hkv, -⟩ := id hk1
        obtain ⟨K2, kc2, hvv, -⟩ := id hv1
        subst hkv hvv
        have hb2 := bstep hb1 (bnew W1 (.cells #[.slice K1 c.key.length kc1, .slice K2 c.val.length kc2, .bool c.gone] 87))
        have hAb1 : AbC Bb wr (W1.alloc (.cells #[.slice K1 c.key.length kc1, .slice K2 c.val.length kc2, .bool c.gone] 87)) := ⟨⟨hb2.os, hb2.tape, hb2.output, hb2.size, fun q hq _ => hb2.block q hq⟩, fun o ho => ⟨o, (hb2.block _ (heap_lt ho)).trans ho, rfl⟩⟩
        obtain ⟨fn, tmps, assign, body, hy, hRnd⟩ := HY.out acc (c, true, .slice K1 c.key.length kc1, .slice K2 c.val.length kc2) wr _ (by have := HE.out.2.2.2.2.1; omega) HE.out.2.2.2.1 hAb1 HE.out.2.2.1 ⟨hk1.below (bnew _ _), hv1.below (bnew _ _)⟩
        dsimp only [encC] at hy
        have HW1 := Lib.hid (And.intro hb2 (hr1.below (bnew W1 (.cells #[.slice K1 c.key.length kc1, .slice K2 c.val.length kc2, .bool c.gone] 87)))); clear hb1 hb2 hAb1 c0 f0 hk1 hv1 hr1
        gi_wp2_with fail
        refine ⟨(fun h => by cases h), ?_⟩
        refine hRnd.mono ?_
        have HEE := Lib.hid (show acc.map ciKey ++ ((c, true) :: seqC f r) = seqC (l.length + 1) l by
          have q6 := HE.out.2.2.2.2.2.1
          rw [HN.out.2.1] at q6
          exact q6)
        rintro e W2 (⟨rfl, hJ2, hKp2, hsz2⟩ | ⟨rfl, hJx2⟩)
        · have hb3 := hKp2 Bb _ ((HW1.out.1.block _ (heap_lt HE.out.1)).trans HE.out.1) (.inl rfl)
          have HW2 := Lib.hid (And.intro hJ2 (And.intro hKp2 hsz2)); clear hJ2 hKp2 hsz2
          have c0 := Joins.cell_of_block hb3 0
          have f0 := Joins.unfrozen_of_block hb3 0
          simp at c0
          have HB2 := Lib.hid hb3; clear hb3
          gi_wp2_with fail
          obtain ⟨q1, q2, q3, q4, q5, q6, q7, q8⟩ := HE.out
          have hW3 : (W2.setCell ⟨Bb, 0, none⟩ (.slice A1 r.length cp1)).heap[Bb]? = some (.cells #[.slice A1 r.length cp1] 29 (0, 0)) := by
            rw [Joins.block_setCell HB2.out]; rfl
          have hv2 : Bn n0 W2 (.slice A1 r.length cp1) r := HW1.out.2.keepK fun b o hb ht => HW2.out.2.1 b o hb (.inr ht)
          have hv3 : Bn n0 (W2.setCell ⟨Bb, 0, none⟩ (.slice A1 r.length cp1)) (.slice A1 r.length cp1) r :=
            hv2.keepO hn0 (T := 29) (by decide) ⟨_, _, HB2.out⟩ fun b o hb hne => heap_setCell_ne' hb hne
          have hg3 : AbC Bb W2 (W2.setCell ⟨Bb, 0, none⟩ (.slice A1 r.length cp1)) :=
            ⟨⟨rfl, rfl, rfl, by simp [World.setCell], fun q hq hne => Below.heap_setCell W2 ⟨Bb, 0, none⟩ _ q (fun e => hne (by rw [e]))⟩, fun o ho => ⟨_, hW3, by rw [HB2.out] at ho; cases ho; rfl⟩⟩
          have hl3 : lenCell (W2.setCell ⟨Bb, 0, none⟩ (.slice A1 r.length cp1)) Bb = r.length := by
            unfold lenCell
            rw [Joins.cell_of_block hW3 0]
            simp
          refine ⟨⟨_, _, r, acc ++ [(c, true, .slice K1 c.key.length kc1, .slice K2 c.val.length kc2)], f, hW3, hv3, ?_, HJ.out.1 _ _ _ HW2.out.1 hg3, ?_, ?_, ?_⟩, ?_⟩
          · have h1 := HW2.out.2.2; have h2 := HW1.out.1.size; simp [World.setCell] at h1 h2 ⊢; omega
          · simp only [List.length_append, List.length_singleton]; omega
          · rw [List.map_append, ← HEE.out]
            simp [ciKey]
          · omega
          · rw [hl3, q8]; omega
        · have HJ2 := Lib.hid hJx2; clear hJx2
          gi_wp2_with fail
          refine bodyPost_ret_by (results_none rfl _ _ _) rfl ?_
          refine ⟨⟨_, rfl⟩, .inr ⟨acc ++ [(c, true, .slice K1 c.key.length kc1, .slice K2 c.val.length kc2)], ?_, HJ2.out⟩⟩
          unfold FinXC
          rw [List.map_append, ← HEE.out]
          exact (List.prefix_append_right_inj _).2 ⟨_, rfl⟩
end Go.Proofs.YtnljhabpcoiihaaGreatDoor
set_option linter.all false
namespace Go.Proofs.YtnljhabpcoiihaaGreatDoor
open Go.RowKit
open Go.Shelf
attribute [local go_sem] Oper.semAt_some

def cie (x : ChI) : ChE := (x.1, x.2.2.1, x.2.2.2)
/-- rows of changes whose bytes lie in blocks of bytes -/
def ChBs (w : World) (l : List ChE) : Prop := ∀ x ∈ l, Bs 5 w x.2.1 x.1.key ∧ Bs 5 w x.2.2 x.1.val
theorem ChBs.each {w : World} {l : List ChE} (h : ChBs w l) : ChEach w l := fun x hx => ⟨(h x hx).1.toR, (h x hx).2.toR⟩
theorem ChBs.keeps {w w' : World} {l : List ChE} (h : ChBs w l) (hk : ∀ (b : Nat) (o : Obj), w.heap[b]? = some o → tagOf o = some 5 → w'.heap[b]? = some o) : ChBs w' l :=
  fun x hx => ⟨(h x hx).1.keeps hk, (h x hx).2.keeps hk⟩

theorem seqC_all : ∀ (f : Nat) (l : List UInt8) (xs : List (ChM × Bool)), l.length < f → xs = seqC f l → (∀ x ∈ xs, x.2 = true) → unbF f l = some (xs.map (·.1))
  | f + 1, l, xs, hf, hx, ha => by
    subst hx
    unfold seqC at ha ⊢
    unfold unbF
    by_cases h0 : l = []
    · rw [if_pos h0, if_pos h0]; rfl
    · rw [if_neg h0] at ha ⊢
      rw [if_neg h0]
      cases hc : changeM l with
      | none => rw [hc] at ha; have := ha (chZ, false) (by simp); cases this
      | some p =>
        obtain ⟨c, r⟩ := p
        rw [hc] at ha
        have := change_shorter hc
        simp only at ha ⊢
        rw [seqC_all f r _ (by omega) rfl fun x hx => ha x (by simp [hx])]
        rfl
theorem seqC_bad : ∀ (f : Nat) (l : List UInt8) (pre : List (ChM × Bool)) (x : ChM × Bool), l.length < f → pre ++ [x] <+: seqC f l → (∀ y ∈ pre, y.2 = true) → x.2 = false → unbF f l = none
  | f + 1, l, pre, x, hf, hp, ha, hx => by
    unfold seqC at hp
    unfold unbF
    by_cases h0 : l = []
    · rw [if_pos h0] at hp
      have := hp.length_le
      simp at this
    · rw [if_neg h0] at hp
      rw [if_neg h0]
      cases hc : changeM l with
      | none => rfl
      | some p =>
        obtain ⟨c, r⟩ := p
        rw [hc] at hp
        have := change_shorter hc
        simp only at hp ⊢
        cases pre with
        | nil =>
          have h1 := List.prefix_cons_iff.1 hp
          rcases h1 with h1 | ⟨t, h1, _⟩
          · cases h1
          · simp only [List.nil_append, List.cons.injEq] at h1
            rw [h1.1] at hx; cases hx
        | cons y pre =>
          rw [List.cons_append, List.cons_prefix_cons] at hp
          rw [seqC_bad f r pre x (by omega) hp.2 (fun y hy => ha y (by simp [hy])) hx]
          rfl
theorem seqC_len : ∀ (f : Nat) (l : List UInt8), (seqC f l).length ≤ f
  | 0, l => by simp [seqC]
  | f + 1, l => by
    unfold seqC
    split
    · simp
    · split
      · simp
      · rename_i c r _
        have := seqC_len f r
        simp only [List.length_cons]; omega

section
variable {V0 W W' : World} {zz Bb : Nat} {acc : List ChI}
/-- Unbatch's loop: out's cell, the iterator's block; what has come -/
structure UbC (n0 : Nat) (V0 : World) (zz Bb : Nat) : Prop where
  n0 : n0 ≤ zz ∧ n0 ≤ Bb
  z : ∃ c, V0.heap[zz]? = some (.cells c 40 (0, 0))
  Bb : ∃ c, V0.heap[Bb]? = some (.cells c 29 (0, 0))
structure UbI (V0 : World) (zz Bb : Nat) (acc : List ChI) (W : World) : Prop where
  os : W.os = V0.os
  tape : W.tape = V0.tape
  output : W.output = V0.output
  size : V0.heap.size ≤ W.heap.size
  fr : ∀ (b : Nat) (o : Obj), V0.heap[b]? = some o → b ≠ zz → b ≠ Bb → W.heap[b]? = some o
  out : ∃ v, W.heap[zz]? = some (.cells #[v] 40 (0, 0)) ∧ W.ownsRow V0.heap.size 87 3 v (acc.map cie).length (chCells (acc.map cie))
  each : ChBs W (acc.map cie)
  bb : ∃ o, W.heap[Bb]? = some o ∧ tagOf o = some 29
theorem UbC.lt {n0 : Nat} (h : UbC n0 V0 zz Bb) : zz < V0.heap.size ∧ Bb < V0.heap.size ∧ zz ≠ Bb := by
  obtain ⟨_, ⟨_, h1⟩, ⟨_, h2⟩⟩ := h
  refine ⟨heap_lt h1, heap_lt h2, ?_⟩
  rintro rfl
  rw [h1] at h2; cases h2
theorem UbI.step {n0 : Nat} (h : UbI V0 zz Bb acc W) (hc : UbC n0 V0 zz Bb) (hk : Kp2 V0.heap.size Bb W W') : UbI V0 zz Bb acc W' := by
  have lt := hc.lt
  refine ⟨hk.os.trans h.os, hk.tape.trans h.tape, hk.output.trans h.output, Nat.le_trans h.size hk.size, fun b o hb h1 h2 => hk.block b o (h.fr b o hb h1 h2) h2 (.inl (heap_lt hb)), ?_, ?_, ?_⟩
  · obtain ⟨v, h1, h2⟩ := h.out
    refine ⟨v, hk.block _ _ h1 lt.2.2 (.inr rfl), own_keep h2 fun b o hb hv hcc => hk.block b o hb ?_ (.inr hcc)⟩
    rintro rfl
    obtain ⟨_, _, _, _, _, h5⟩ := own_slice h2
    rcases h5 with h5 | ⟨g, h5, h6, _⟩
    · rw [h5] at hv; cases hv
    · rw [h5] at hv; cases hv; omega
  · refine h.each.keeps fun b o hb ht => ?_
    refine hk.block b o hb ?_ (.inr (by cases o <;> simp_all [tagOf, Obj.isCells]))
    rintro rfl
    obtain ⟨o', h5, h6⟩ := h.bb
    rw [hb] at h5; cases h5
    rw [ht] at h6; simp at h6
  · obtain ⟨o, h1, h2⟩ := h.bb
    obtain ⟨o', h3, h4⟩ := hk.tag o h1
    exact ⟨o', h3, h4.trans h2⟩
theorem Kp2.of_abC {sz : Nat} (h : AbC Bb W W') : Kp2 sz Bb W W' :=
  ⟨h.1.os, h.1.tape, h.1.output, h.1.size, h.2, fun b o hb hne _ => (h.1.block b (heap_lt hb) (by simpa using hne)).trans hb⟩
theorem Kp2.of_putC {sz x : Nat} {o o' : Obj} (hx : W.heap[x]? = some o) (hn : o.isCells = false) (h : sz ≤ x) (hB : Bb < sz) : Kp2 sz Bb W (W.putObj x o') :=
  ⟨rfl, rfl, rfl, by simp, fun o ho => ⟨o, (World.putObj_heap_other (by omega)).trans ho, rfl⟩, fun b o'' hb _ hc => by
    refine (World.putObj_heap_other ?_).trans hb
    rintro rfl
    rw [hx] at hb; cases hb
    rcases hc with hc | hc
    · omega
    · rw [hn] at hc; cases hc⟩
def UbIn (V0 : World) (zz Bb : Nat) (acc : List ChI) (W : World) : Prop := UbI V0 zz Bb acc W ∧ ∀ y ∈ acc, y.2.1 = true
/-- a round has left: the two results stand in their cells -/
structure UbX (V0 : World) (z2 z3 zz Bb : Nat) (W : World) : Prop where
  os : W.os = V0.os
  tape : W.tape = V0.tape
  output : W.output = V0.output
  size : V0.heap.size ≤ W.heap.size
  fr : ∀ (b : Nat) (o : Obj), V0.heap[b]? = some o → b ≠ z2 → b ≠ z3 → b ≠ zz → b ≠ Bb → W.heap[b]? = some o
  r2 : W.heap[z2]? = some (.cells #[.slice none 0 0] 40 (0, 0))
  r3 : W.heap[z3]? = some (.cells #[.int .i64 34] 24 (0, 0))
  bb : ∃ o, W.heap[Bb]? = some o ∧ tagOf o = some 29
def UbIx (V0 : World) (z2 z3 zz Bb : Nat) : Code → List ChI → World → Prop
  | .ret, acc, W => ∃ pre x, acc = pre ++ [x] ∧ UbX V0 z2 z3 zz Bb W ∧ (∀ y ∈ pre, y.2.1 = true) ∧ x.2.1 = false
  | _, _, _ => False
theorem UbIx.step {z2 z3 : Nat} (h2 : z2 < V0.heap.size ∧ z3 < V0.heap.size ∧ z2 ≠ Bb ∧ z3 ≠ Bb) (hk : Kp2 V0.heap.size Bb W W') (c : Code) (h : UbIx V0 z2 z3 zz Bb c acc W) : UbIx V0 z2 z3 zz Bb c acc W' := by
  unfold UbIx at h ⊢
  split at h
  · obtain ⟨pre, x, rfl, h1, h3⟩ := h
    refine ⟨pre, x, rfl, ⟨hk.os.trans h1.os, hk.tape.trans h1.tape, hk.output.trans h1.output, Nat.le_trans h1.size hk.size, fun b o hb q1 q2 q3 q4 => hk.block b o (h1.fr b o hb q1 q2 q3 q4) q4 (.inl (heap_lt hb)), hk.block _ _ h1.r2 h2.2.2.1 (.inl h2.1), hk.block _ _ h1.r3 h2.2.2.2 (.inl h2.2.1), ?_⟩, h3⟩
    obtain ⟨o, h4, h5⟩ := h1.bb
    obtain ⟨o', h6, h7⟩ := hk.tag o h4
    exact ⟨o', h6, h7.trans h5⟩
  · exact h.elim

/-- Unbatch's loop -/
theorem unb_loop {n0 m z2 z3 : Nat} {g : Operand} {ps : Array Tmp} {assign body : Code} {Q : Exit → Act → World → Prop} {a : Act} {A : Option Addr} {cap : Nat} {l : List UInt8}
    (hg : a.eval g = .func (.func 92) #[] #[.pointer (some ⟨Bb, 0, none⟩)]) (hps : ps.size = 2)
    (hc : UbC n0 V0 zz Bb) (hz : z2 < V0.heap.size ∧ z3 < V0.heap.size ∧ z2 ≠ Bb ∧ z3 ≠ Bb) (hn0 : n0 ≤ V0.heap.size) (hB : V0.heap[Bb]? = some (.cells #[.slice A l.length cap] 29 (0, 0))) (hr : Bn n0 V0 (.slice A l.length cap) l) (hl : l.length ≤ 1073741824)
    (h0 : UbI V0 zz Bb [] V0)
    (hround : ∀ (rec : Loop) (pre : List ChI) (x : ChI) (W : World), pre.length ≤ l.length → W.heap[V0.heap.size + 1]? = some (.loop rec) → W.heap[V0.heap.size]? = some (.deferred (some [])) →
      UbI V0 zz Bb pre W → (∀ y ∈ pre, y.2.1 = true) → Bs 5 W x.2.2.1 x.1.key → Bs 5 W x.2.2.2 x.1.val →
      assign.wpIn (Fence.wide.inRound (V0.heap.size + 1)) (m - 1 - 1) Tryz.prog (Exit.then (fun a₁ W1 => W1.heap[V0.heap.size + 1]? = some (.loop rec) ∧
          body.wpIn (Fence.wide.inRound (V0.heap.size + 1)) (m - 1 - 1) Tryz.prog (RoundPost V0 rec (UbIn V0 zz Bb) (UbIx V0 z2 z3 zz Bb) (KpC n0 Bb) (pre ++ [x]) W) a₁ (W1.putObj (V0.heap.size + 1) (.loop { rec with state := .busy }))) (fun _ _ _ => False))
        { tmps := (ps.zip (encC x)).foldl (fun t (p, v) => t.setIfInBounds p v) a.tmps, defers := [] } W)
    (hend : ∀ (acc : List ChI) (W : World), UbI V0 zz Bb acc W → unbatchM l = some (acc.map (·.1)) → acc.length ≤ l.length + 1 →
      W.heap[V0.heap.size]? = some (.deferred (some [])) → Q .normal { a with defers := { target := .collected V0.heap.size, args := #[] } :: a.defers } W)
    (hret : ∀ (W : World), UbX V0 z2 z3 zz Bb W → unbatchM l = none →
      W.heap[V0.heap.size]? = some (.deferred (some [])) → Q .ret { a with defers := { target := .collected V0.heap.size, args := #[] } :: a.defers } W) :
    (Code.rangeFunc g ps assign body).wpIn Fence.wide m Tryz.prog Q a V0 := by
  have lt := hc.lt
  refine range_stops hg (enters_of Tryz.func92 (by kernel_rfl) rfl) (enc := encC) (fun x => by rw [hps]; rfl) (changes_iter n0 _ V0 Bb A cap l hB hr hc.n0.2 hl)
    (fun W hb => ⟨⟨hb.os, hb.tape, hb.output, hb.size, fun q hq _ => hb.block q hq⟩, fun o ho => ⟨o, (hb.block _ (heap_lt ho)).trans ho, rfl⟩⟩)
    (fun W1 W2 q o hA hq _ ho _ => (hA.1.block q (heap_lt ho) (by simp; omega)).trans ho)
    (fun W1 W2 hA => hA.1.size) (fun {X Y Z} h1 h2 q o ho hq => ?_) (fun W q o o' hq hq2 ho hoc b o'' hb hb2 => ?_)
    (UbIn V0 zz Bb) (UbIx V0 z2 z3 zz Bb) ⟨h0, by simp⟩
    (fun acc W1 W2 h hA => ⟨h.1.step hc (Kp2.of_abC hA), h.2⟩) (fun c acc W1 W2 h hA => UbIx.step hz (Kp2.of_abC hA) c h)
    (fun acc W q o o' h h1 h2 ho hoc => ⟨h.1.step hc (Kp2.of_putC ho hoc h1 lt.2.1), h.2⟩) (fun c acc W q o o' h h1 h2 ho hoc => UbIx.step hz (Kp2.of_putC ho hoc h1 lt.2.1) c h) ?_ ?_ ?_
  · exact h2 q o (h1 q o ho hq) hq
  · refine (World.putObj_heap_other ?_).trans hb
    rintro rfl
    rw [ho] at hb; cases hb
    rcases hb2 with hb2 | hb2 | hb2
    · have := lt.2.1; omega
    · omega
    · cases o <;> simp [tagOf, Obj.isCells] at hb2 hoc
  · intro rec pre x W0 W hpl hlp hdf hI hA hs hp
    exact hround rec pre x W (by omega) hlp hdf (hI.1.step hc (Kp2.of_abC hA)) hI.2 hp.1 hp.2
  · intro xs W hF hI hd
    unfold FinC at hF
    refine hend xs W hI.1 ?_ ?_ hd
    · unfold unbatchM
      rw [seqC_all _ l _ (by omega) hF (by intro x hx; obtain ⟨y, hy, rfl⟩ := List.mem_map.1 hx; exact hI.2 y hy), List.map_map]
      rfl
    · have := seqC_len (l.length + 1) l
      rw [← hF, List.length_map] at this
      exact this
  · intro c xs W hF hI hd
    unfold UbIx at hI
    split at hI
    · obtain ⟨pre, x, rfl, h1, h2, h3⟩ := hI
      refine wpIn_ret ?_
      refine hret W h1 ?_ hd
      unfold FinXC at hF
      rw [List.map_append] at hF
      exact seqC_bad _ l _ _ (by omega) hF (by intro x hx; obtain ⟨y, hy, rfl⟩ := List.mem_map.1 hx; exact h2 y hy) h3
    · exact hI.elim
end

theorem wpListIn_appk {F : Fence} {n : Nat} {P : Program} {w : World} {ops : Array Oper} {rest : List Oper} {o : Oper} {a : Act} {Q : Exit → Act → World → Prop} (hgd : o.guard = none) (s x : Operand) (t : TypeId)
    (ho : o.op = .call { callee := .builtin .append, args := #[s, x], argTypes := #[t, t] }) (v u : Value) (hs : a.eval s = v) (hx : a.eval x = u) {v' : Value} {w' : World}
    (hr : (Builtin.append_ #[t, t] o.type #[v, u]).run P w = .ok v' w') (h : True → wpListIn F n P ops Q rest (a.put o.dst v') w') : wpListIn F n P ops Q (o :: rest) a w :=
  wpListIn_step fun K hK => stepIn_append_run hgd s x t ho v u hs hx hr (hK _ _ (h trivial))
/-- a change is appended to a row of one's own (no order drawn) -/
theorem app_ch0 (W : World) (base : Nat) (v : Value) (n : Nat) (xs : List ChE) (hn : n = xs.length) (hown : W.ownsRow base 87 3 v n (chCells xs)) (hb : base ≤ W.heap.size) (hl : xs.length ≤ 8388608) (a b : Value) (g : Bool) (ha : a.oneCell' = true) (hbo : b.oneCell' = true) (c : ChM) (hg : c.gone = g) :
    ∃ v' W2, (Builtin.append_ #[40, 40] 40 #[v, .slice (some ⟨W.heap.size, 0, none⟩) 1 1]).run Tryz.prog (W.alloc (.cells #[a, b, .bool g] 87)) = .ok v' W2 ∧
      W2.ownsRow base 87 3 v' (n + 1) (chCells (xs ++ [(c, a, b)])) ∧ (W.alloc (.cells #[a, b, .bool g] 87)).grownBy W2 v.ownBlock ∧ (v'.ownBlock = v.ownBlock ∨ v'.ownBlock = some (W.heap.size + 1)) := by
  subst hn
  obtain ⟨iI, hiI, hz0, hz1, hz2⟩ := info_ch
  have hbn : Below W.heap.size W (W.alloc (.cells #[a, b, .bool g] 87)) := bnew W _
  have hown1 := own_below hown hbn
  obtain ⟨v', W2, happ, hown', hgrow', hblk'⟩ := run_append_rd (P := Tryz.prog) (W.alloc (.cells #[a, b, .bool g] 87)) base 40 40 87 iI _ 3 56 Tryz.underlying40 hiI hz0 hz1 hz2 rfl (by decide) v xs.length (chCells xs)
    hown1 0 (some ⟨W.heap.size, 0, none⟩) 1 1 [a, b, .bool g] rfl (rd_three W _ a b (.bool g)) (by
      intro u hu
      simp only [List.mem_cons, List.not_mem_nil, or_false] at hu
      rcases hu with rfl | rfl | rfl
      · exact ha
      · exact hbo
      · rfl) (by unfold maxLen; omega) (by omega) (by simp; omega) (fun h => by cases h)
  refine ⟨v', W2, happ, ?_, hgrow', hblk'.imp id (fun h => by rw [h]; simp)⟩
  rw [chCells_append]
  subst hg
  exact hown'

def UnbPost (w : World) (R : Option (List ChM)) (e : Ending) (w' : World) : Prop :=
  Below w.heap.size w w' ∧ match R with
  | some cs => ∃ v xs, e = .returned (.tuple #[v, .int .i64 0]) ∧ xs.map (·.1) = cs ∧ w'.ownsRow w.heap.size 87 3 v xs.length (chCells xs) ∧ ChBs w' xs
  | none => e = .returned (.tuple #[.slice none 0 0, .int .i64 34])

set_option maxRecDepth 100000 in
set_option maxHeartbeats 8000000 in
theorem unbatch_c (n0 : Nat) (A : Option Addr) (n cap : Nat) (l : List UInt8) (hn : n = l.length) (hm : n ≤ 1048576) (w : World) (hr : Bn n0 w (.slice A n cap) l) (hn0 : n0 ≤ w.heap.size) :
    Calls Tryz.prog 23 #[.slice A n cap] w (UnbPost w (unbatchM l)) := by
  obtain ⟨R, hR⟩ : ∃ R, unbatchM l = R := ⟨_, rfl⟩
  rw [hR]
  have HR := Lib.hid (And.intro hr (And.intro hn hR)); clear hr hn hR
  obtain ⟨w1, hw1⟩ : ∃ w1, ((w.alloc (.cells #[.slice none 0 0] 40)).alloc (.cells #[.int .i64 0] 24)).alloc (.cells #[.slice none 0 0] 40) = w1 := ⟨_, rfl⟩
  have hb1 : Below w.heap.size w w1 := by rw [← hw1]; exact (bnew2 _ _ _).alloc (by simp; omega) _
  have hsz1 : w1.heap.size = w.heap.size + 3 := by rw [← hw1]; simp
  have hB0 : w1.heap[w.heap.size]? = some (.cells #[.slice none 0 0] 40 (0, 0)) := by
    rw [← hw1]; exact (Below.heap_alloc _ _ _ (by simp; omega)).trans ((Below.heap_alloc _ _ _ (by simp)).trans (heap_alloc_new w _))
  have hB1 : w1.heap[w.heap.size + 1]? = some (.cells #[.int .i64 0] 24 (0, 0)) := by
    rw [← hw1]; refine (Below.heap_alloc _ _ _ (by simp)).trans ?_
    have := heap_alloc_new (w.alloc (.cells #[.slice none 0 0] 40)) (.cells #[.int .i64 0] 24)
    rwa [World.size_alloc] at this
  have hB2 : w1.heap[w.heap.size + 1 + 1]? = some (.cells #[.slice none 0 0] 40 (0, 0)) := by
    rw [← hw1]
    have := heap_alloc_new ((w.alloc (.cells #[.slice none 0 0] 40)).alloc (.cells #[.int .i64 0] 24)) (.cells #[.slice none 0 0] 40)
    simpa using this
  have H1 := Lib.hid (And.intro hb1 (And.intro hsz1 (And.intro hB0 (And.intro hB1 hB2)))); clear hb1 hsz1 hB0 hB1 hB2
  have HW1 := Lib.hid hw1
  refine calls_of_marks_p 100 Tryz.func23 rfl ?_
  simp only [Tryz.ntmps23, List.size_toArray, List.length_cons, List.length_nil, Nat.reduceAdd, Nat.reduceSub, Array.replicate_succ, Array.replicate_zero, List.push_toArray, List.append_toArray, List.nil_append, List.cons_append]
  go_wp2_with fail
  refine (changes_c A n cap _).mono ?_
  rintro e V0 ⟨rfl, hV0⟩
  clear hw1
  have hbV : Below w1.heap.size w1 V0 := by rw [hV0]; exact bnew _ _
  have hsV : V0.heap.size = w.heap.size + 4 := by rw [hV0]; simp [H1.out.2.1]
  have hBB : V0.heap[w1.heap.size]? = some (.cells #[.slice A n cap] 29 (0, 0)) := by rw [hV0]; exact heap_alloc_new _ _
  have hk1 : ∀ (b : Nat) (o : Obj), w1.heap[b]? = some o → V0.heap[b]? = some o := fun b o hb => (hbV.block b (heap_lt hb)).trans hb
  have hrV := (HR.out.1.below H1.out.1).below hbV
  have hU0 : UbI V0 (w.heap.size + 1 + 1) w1.heap.size [] V0 := ⟨rfl, rfl, rfl, Nat.le_refl _, fun b o hb _ _ => hb, ⟨_, hk1 _ _ H1.out.2.2.2.2, World.ownsRow_nil _ _ _ _⟩, (by intro x hx; simp at hx), ⟨_, hBB, rfl⟩⟩
  have hUC : UbC n0 V0 (w.heap.size + 1 + 1) w1.heap.size := ⟨⟨by omega, by have := H1.out.2.1; omega⟩, ⟨_, hk1 _ _ H1.out.2.2.2.2⟩, ⟨_, hBB⟩⟩
  have HV := Lib.hid (And.intro hbV (And.intro hsV (And.intro hBB (And.intro hk1 (And.intro hrV (And.intro hU0 hUC)))))); clear hbV hsV hBB hk1 hrV hU0 hUC hV0
  go_wp2_with fail
  obtain ⟨fu, -⟩ : ∃ fu : Nat, True := ⟨0, trivial⟩
  refine (wpIn_wide (n := fu)).1 ?_
  have hnl := HR.out.2.1
  subst hnl
  refine unb_loop (n0 := n0) (z2 := w.heap.size) (z3 := w.heap.size + 1) rfl rfl HV.out.2.2.2.2.2.2 ?_ (by have := HV.out.2.1; omega) HV.out.2.2.1 HV.out.2.2.2.2.1 (by omega) HV.out.2.2.2.2.2.1 ?_ ?_ ?_
  · have h1 := HV.out.2.1
    have h2 := H1.out.2.1
    omega
  · intro rec pre x W hpl hlp hdf hI hpre hbk hbv
    obtain ⟨X, is, kv, vv⟩ := x
    simp only at hbk hbv
    obtain ⟨K1, kc1, hkv, -⟩ := id hbk
    obtain ⟨K2, kc2, hvv, -⟩ := id hbv
    subst hkv hvv
    have hs1 := HV.out.2.1
    have hs2 := H1.out.2.1
    have hlt1 : V0.heap.size + 1 < W.heap.size := heap_lt hlp
    obtain ⟨WA, hWA⟩ : ∃ WA, W.alloc (.cells #[.slice K1 X.key.length kc1, .slice K2 X.val.length kc2, .bool X.gone] 87) = WA := ⟨_, rfl⟩
    have hbA : Below W.heap.size W WA := by rw [← hWA]; exact bnew _ _
    have hsA : WA.heap.size = W.heap.size + 1 := by rw [← hWA]; simp
    have hcA : WA.heap[W.heap.size]? = some (.cells #[.slice K1 X.key.length kc1, .slice K2 X.val.length kc2, .bool X.gone] 87 (0, 0)) := by rw [← hWA]; exact heap_alloc_new _ _
    have hkA : ∀ (b : Nat) (o : Obj), W.heap[b]? = some o → WA.heap[b]? = some o := fun b o hb => (hbA.block b (heap_lt hb)).trans hb
    obtain ⟨rec', hrec'⟩ : ∃ r' : Loop, r' = { rec with state := .busy } := ⟨_, rfl⟩
    obtain ⟨V, hV⟩ : ∃ V, WA.putObj (V0.heap.size + 1) (.loop rec') = V := ⟨_, rfl⟩
    have lt := HV.out.2.2.2.2.2.2.lt
    have hIA := hI.step HV.out.2.2.2.2.2.2 (Kp2.of_abC (Bb := w1.heap.size) ⟨⟨hbA.os, hbA.tape, hbA.output, hbA.size, fun q hq _ => hbA.block q hq⟩, fun o ho => ⟨o, hkA _ _ ho, rfl⟩⟩)
    have hIV : UbI V0 (w.heap.size + 1 + 1) w1.heap.size pre V := by
      rw [← hV]; exact hIA.step HV.out.2.2.2.2.2.2 (Kp2.of_putC (hkA _ _ hlp) rfl (by omega) lt.2.1)
    have hVh : ∀ (b : Nat) (o : Obj), W.heap[b]? = some o → b ≠ V0.heap.size + 1 → V.heap[b]? = some o := fun b o hb hne => by
      rw [← hV]; exact (World.putObj_heap_other hne).trans (hkA _ _ hb)
    have hVs : V.heap.size = W.heap.size + 1 := by rw [← hV]; simpa using hsA
    have hVl : V.heap[V0.heap.size + 1]? = some (.loop rec') := by rw [← hV]; exact World.putObj_heap_same (by omega)
    have hVd := hVh _ _ hdf (by omega)
    have hVc : V.heap[W.heap.size]? = some (.cells #[.slice K1 X.key.length kc1, .slice K2 X.val.length kc2, .bool X.gone] 87 (0, 0)) := by rw [← hV]; exact (World.putObj_heap_other (by omega)).trans hcA
    have hlA := hkA _ _ hlp
    obtain ⟨ov, hov, hown⟩ := hIV.out
    rw [List.length_map] at hown
    obtain ⟨Av, capv, hv, hv1, hv2, hv3⟩ := own_slice hown
    subst hv
    have h2V : V.heap[w.heap.size]? = some (.cells #[.slice none 0 0] 40 (0, 0)) := hIV.fr _ _ (HV.out.2.2.2.1 _ _ H1.out.2.2.1) (by omega) (by omega)
    have h3V : V.heap[w.heap.size + 1]? = some (.cells #[.int .i64 0] 24 (0, 0)) := hIV.fr _ _ (HV.out.2.2.2.1 _ _ H1.out.2.2.2.1) (by omega) (by omega)
    have p0 := Joins.cell_of_block hov 0
    have p0f := Joins.unfrozen_of_block hov 0
    have p2 := Joins.cell_of_block h2V 0
    have p2f := Joins.unfrozen_of_block h2V 0
    have p3 := Joins.cell_of_block h3V 0
    have p3f := Joins.unfrozen_of_block h3V 0
    have c0 := Joins.cell_of_block hVc 0
    have c1 := Joins.cell_of_block hVc 1
    have c2 := Joins.cell_of_block hVc 2
    simp at p0 p2 p3 c0 c1 c2
    have HRa := Lib.hid (And.intro hI (And.intro hpre (And.intro hbk (And.intro hbv (And.intro hlp hdf)))))
    have HRb := Lib.hid (And.intro hIV (And.intro hVh (And.intro hVs (And.intro hVl (And.intro hVd (And.intro hVc (And.intro hov hown)))))))
    have HRc := Lib.hid (And.intro h2V h3V)
    have HLA := Lib.hid hlA
    clear hI hpre hbk hbv hlp hdf hIV hVh hVs hVl hVd hVc hov hown h2V h3V hlA hbA hsA hcA hkA hIA hv1 hv2 hv3 hs1 hs2
    simp only [encC, List.zip_toArray, List.zip_cons_cons, List.zip_nil_left, List.zip_nil_right, List.foldl_toArray, List.size_toArray, List.length_cons, List.length_nil, List.foldl_cons, List.foldl_nil, List.setIfInBounds_toArray, List.set_cons_succ, List.set_cons_zero, Nat.reduceAdd]
    gi_wp2
    refine ⟨HLA.out, ?_⟩
    rw [← hrec', hV]
    clear hV hWA
    refine wpIn_block ?_
    cases is with
    | false =>
      gi_wp2_with fail
      have hk5 : ∀ (b : Nat) (o : Obj), V.heap[b]? = some o → b ≠ w.heap.size → b ≠ w.heap.size + 1 → ((V.setCell ⟨w.heap.size, 0, none⟩ (.slice none 0 0)).setCell ⟨w.heap.size + 1, 0, none⟩ (.int .i64 34)).heap[b]? = some o :=
        fun b o hb h1 h2 => heap_setCell_ne' (heap_setCell_ne' hb h1) h2
      have hI := HRb.out.1
      have hs1 := HV.out.2.1
      have hs2 := H1.out.2.1
      refine ⟨by rw [← hrec']; exact hk5 _ _ HRb.out.2.2.2.1 (by omega) (by omega), hk5 _ _ HRb.out.2.2.2.2.1 (by omega) (by omega), pre, _, rfl, ⟨hI.os, hI.tape, hI.output, by simpa [World.setCell] using hI.size, fun b o hb h1 h2 h3 h4 => hk5 b o (hI.fr b o hb h3 h4) h1 h2, ?_, ?_, ?_⟩, HRa.out.2.1, rfl⟩
      · exact heap_setCell_ne' (by rw [Joins.block_setCell HRc.out.1]; rfl) (by omega)
      · rw [Joins.block_setCell (heap_setCell_ne' HRc.out.2 (by omega))]; rfl
      · obtain ⟨o, h1, h2⟩ := hI.bb
        exact ⟨o, hk5 _ _ h1 (by omega) (by omega), h2⟩
    | true =>
      obtain ⟨v', W2, happ, hown2, hgr2, hbl2⟩ := app_ch0 V V0.heap.size _ pre.length (pre.map cie) (by simp) HRb.out.2.2.2.2.2.2.2 HRb.out.1.size (by rw [List.length_map]; omega) (.slice K1 X.key.length kc1) (.slice K2 X.val.length kc2) X.gone rfl rfl X rfl
      obtain ⟨Av2, capv2, hv2, -, -, -⟩ := own_slice hown2
      subst hv2
      have hnb : (Value.slice Av pre.length capv).ownBlock ≠ some (w.heap.size + 1 + 1) := by
        obtain ⟨_, _, _, _, _, h5⟩ := own_slice HRb.out.2.2.2.2.2.2.2
        rcases h5 with h5 | ⟨g, h5, h6, _⟩
        · rw [h5]; simp
        · rw [h5]; intro he; cases he; have := lt.1; omega
      have hov2 : W2.heap[w.heap.size + 1 + 1]? = some (.cells #[.slice Av pre.length capv] 40 (0, 0)) :=
        (hgr2.block _ (by have := heap_lt HRb.out.2.2.2.2.2.2.1; simp; omega) (Ne.symm hnb)).trans ((Below.heap_alloc _ _ _ (heap_lt HRb.out.2.2.2.2.2.2.1)).trans HRb.out.2.2.2.2.2.2.1)
      have q0 := Joins.cell_of_block hov2 0
      have q0f := Joins.unfrozen_of_block hov2 0
      simp at q0
      have HAP := Lib.hid happ
      have HAQ := Lib.hid (And.intro hown2 (And.intro hgr2 (And.intro hbl2 (And.intro hov2 hnb)))); clear happ hown2 hgr2 hbl2 hov2 hnb
      gi_wp2_with (gi_at_builtin; refine wpListIn_appk (by rfl) _ _ _ (by rfl) _ _ (by rfl) (by rfl) HAP.out ?_)
      have hI := HRb.out.1
      obtain ⟨hown2, hgr2, hbl2, hov2, hnb⟩ := HAQ.out
      have hs1 := HV.out.2.1
      have hs2 := H1.out.2.1
      have hown := HRb.out.2.2.2.2.2.2.2
      have hvb : ∀ (b : Nat) (o : Obj), V.heap[b]? = some o → tagOf o ≠ some 87 → (Value.slice Av pre.length capv).ownBlock ≠ some b := by
        intro b o hb ht he
        rcases hown.2 with ⟨h1, _⟩ | ⟨g, cap2, cur, h1, _, hh, _⟩
        · rw [h1] at he; simp [Value.ownBlock] at he
        · rw [h1] at he
          simp only [Value.ownBlock, Option.some.injEq] at he
          subst he; rw [hb] at hh; cases hh; exact ht rfl
      have hvl : ∀ (b : Nat), b < V0.heap.size → (Value.slice Av pre.length capv).ownBlock ≠ some b := by
        intro b hb he
        obtain ⟨_, _, _, _, _, h5⟩ := own_slice hown
        rcases h5 with h5 | ⟨g, h5, h6, _⟩
        · rw [h5] at he; cases he
        · rw [h5] at he; cases he; omega
      have hk6 : ∀ (b : Nat) (o : Obj), V.heap[b]? = some o → b ≠ w.heap.size + 1 + 1 → (Value.slice Av pre.length capv).ownBlock ≠ some b → (W2.setCell ⟨w.heap.size + 1 + 1, 0, none⟩ (.slice Av2 (pre.length + 1) capv2)).heap[b]? = some o := fun b o hb h1 h2 =>
        heap_setCell_ne' ((hgr2.block b (by have := heap_lt hb; simp; omega) (Ne.symm h2)).trans ((Below.heap_alloc _ _ _ (heap_lt hb)).trans hb)) h1
      have hb8 : ∀ {v : Value} {l : List UInt8}, Bs 5 V v l → Bs 5 (W2.setCell ⟨w.heap.size + 1 + 1, 0, none⟩ (.slice Av2 (pre.length + 1) capv2)) v l := fun h => h.keeps fun b o hb ht =>
        hk6 b o hb (by rintro rfl; rw [HRb.out.2.2.2.2.2.2.1] at hb; cases hb; simp [tagOf] at ht) (hvb b o hb (by rw [ht]; simp))
      have hbW : ∀ {v : Value} {l : List UInt8}, Bs 5 W v l → Bs 5 V v l := fun h => h.keeps fun b o hb ht =>
        HRb.out.2.1 b o hb (by rintro rfl; rw [HRa.out.2.2.2.2.1] at hb; cases hb; simp [tagOf] at ht)
      have hgs := hgr2.size
      refine ⟨by rw [← hrec']; exact hk6 _ _ HRb.out.2.2.2.1 (by omega) (hvb _ _ HRb.out.2.2.2.1 (by simp [tagOf])), hk6 _ _ HRb.out.2.2.2.2.1 (by omega) (hvb _ _ HRb.out.2.2.2.2.1 (by simp [tagOf])), ⟨⟨hgr2.os.trans hI.os, hgr2.tape.trans hI.tape, hgr2.output.trans hI.output, ?_, ?_, ?_, ?_, ?_⟩, ?_⟩, ?_, ?_⟩
      · have := hI.size; simp [World.setCell] at hgs ⊢; omega
      · intro b o hb h1 h2
        exact hk6 b o (hI.fr b o hb h1 h2) h1 (hvl b (heap_lt hb))
      · refine ⟨_, by rw [Joins.block_setCell hov2]; rfl, ?_⟩
        rw [show ((pre ++ [(X, true, Value.slice K1 X.key.length kc1, Value.slice K2 X.val.length kc2)]).map cie).length = pre.length + 1 by simp, List.map_append]
        refine own_keep hown2 fun b o hb hv hcc => heap_setCell_ne' hb ?_
        rintro rfl
        rcases hbl2 with h | h
        · exact hnb (h.symm.trans hv)
        · rw [hv] at h; simp only [Option.some.injEq] at h; have := hI.size; omega
      · intro y hy
        rw [List.map_append] at hy
        rcases List.mem_append.1 hy with hy | hy
        · obtain ⟨h1, h2⟩ := hI.each y hy
          exact ⟨hb8 h1, hb8 h2⟩
        · cases List.mem_singleton.1 hy
          exact ⟨hb8 (hbW HRa.out.2.2.1), hb8 (hbW HRa.out.2.2.2.1)⟩
      · obtain ⟨o, h1, h2⟩ := hI.bb
        exact ⟨o, hk6 _ _ h1 (by omega) (hvl _ (by omega)), h2⟩
      · intro y hy
        rcases List.mem_append.1 hy with hy | hy
        · exact HRa.out.2.1 y hy
        · cases List.mem_singleton.1 hy; rfl
      · intro b o hb hc
        have hbV : V.heap[b]? = some o := HRb.out.2.1 b o hb (by
          rintro rfl; rw [HRa.out.2.2.2.2.1] at hb; cases hb
          rcases hc with hc | hc | hc
          · omega
          · omega
          · simp [tagOf] at hc)
        rcases hc with hc | hc | hc
        · exact hk6 b o hbV (by omega) (hvl b (by omega))
        · exact hk6 b o hbV (by omega) (hvl b (by omega))
        · exact hk6 b o hbV (by rintro rfl; rw [HRb.out.2.2.2.2.2.2.1] at hbV; cases hbV; simp [tagOf] at hc) (hvb b o hbV (by rw [hc]; simp))
      · have := HRb.out.2.2.1; simp [World.setCell] at hgs ⊢; omega
  · intro acc W hI hun hal hd
    simp only [Exit.inBlock, Exit.then]
    obtain ⟨ov, hov, hown⟩ := hI.out
    have hs1 := HV.out.2.1
    have hs2 := H1.out.2.1
    have h2V : W.heap[w.heap.size]? = some (.cells #[.slice none 0 0] 40 (0, 0)) := hI.fr _ _ (HV.out.2.2.2.1 _ _ H1.out.2.2.1) (by omega) (by omega)
    have h3V : W.heap[w.heap.size + 1]? = some (.cells #[.int .i64 0] 24 (0, 0)) := hI.fr _ _ (HV.out.2.2.2.1 _ _ H1.out.2.2.2.1) (by omega) (by omega)
    rw [List.length_map] at hown
    obtain ⟨Av, capv, hv, hv1, hv2, hv3⟩ := own_slice hown
    subst hv
    have p0 := Joins.cell_of_block hov 0
    have p2 := Joins.cell_of_block h2V 0
    have p2f := Joins.unfrozen_of_block h2V 0
    have p3 := Joins.cell_of_block h3V 0
    have p3f := Joins.unfrozen_of_block h3V 0
    simp at p0 p2 p3
    have HE := Lib.hid (And.intro hI (And.intro hun (And.intro hd (And.intro hov (And.intro hown (And.intro h2V h3V))))))
    clear hI hun hal hd hov hown h2V h3V hv1 hv2 hv3 hs1 hs2
    go_wp2_with fail
    have hI := HE.out.1
    have hs1 := HV.out.2.1
    have hs2 := H1.out.2.1
    have hk5 : ∀ (b : Nat) (o : Obj), W.heap[b]? = some o → b ≠ w.heap.size → b ≠ w.heap.size + 1 → b ≠ V0.heap.size → (((W.setCell ⟨w.heap.size, 0, none⟩ (.slice Av acc.length capv)).setCell ⟨w.heap.size + 1, 0, none⟩ (.int .i64 0)).putObj V0.heap.size (.deferred none)).heap[b]? = some o :=
      fun b o hb h1 h2 h3 => (World.putObj_heap_other h3).trans (heap_setCell_ne' (heap_setCell_ne' hb h1) h2)
    have hd5 : ((W.setCell ⟨w.heap.size, 0, none⟩ (.slice Av acc.length capv)).setCell ⟨w.heap.size + 1, 0, none⟩ (.int .i64 0)).heap[V0.heap.size]? = some (.deferred (some [])) :=
      heap_setCell_ne' (heap_setCell_ne' HE.out.2.2.1 (by omega)) (by omega)
    have y2 := Joins.cell_of_block ((World.putObj_heap_other (o := .deferred none) (show w.heap.size ≠ V0.heap.size by omega)).trans (heap_setCell_ne' (b := w.heap.size + 1) (i := 0) (v := .int .i64 0) (Joins.block_setCell (i := 0) HE.out.2.2.2.2.2.1 (.slice Av acc.length capv)) (show w.heap.size ≠ w.heap.size + 1 by omega))) 0
    have y3 := Joins.cell_of_block ((World.putObj_heap_other (o := .deferred none) (show w.heap.size + 1 ≠ V0.heap.size by omega)).trans (Joins.block_setCell (i := 0) (heap_setCell_ne' (b := w.heap.size) (i := 0) (v := .slice Av acc.length capv) HE.out.2.2.2.2.2.2 (show w.heap.size + 1 ≠ w.heap.size by omega)) (.int .i64 0))) 0
    simp at y2 y3
    refine marks_ret1 (v := .tuple #[.slice Av acc.length capv, .int .i64 0]) hd5 (by simp [results, Tryz.results23, go_sem, y2, y3]) rfl ?_
    have hRR := HR.out.2.2
    rw [HE.out.2.1] at hRR
    subst hRR
    have hb0 := (H1.out.1.trans (HV.out.1.mono H1.out.1.size))
    have hown := HE.out.2.2.2.2.1
    refine ⟨⟨hI.os.trans hb0.os, hI.tape.trans hb0.tape, hI.output.trans hb0.output, by have := hI.size; have := hb0.size; simp [World.setCell]; omega, fun b hb => ?_⟩, _, acc.map cie, rfl, ?_, ?_, ?_⟩
    · have h4 : b < V0.heap.size := by omega
      rw [← hb0.block b hb, Array.getElem?_eq_getElem h4]
      exact hk5 b _ (hI.fr b _ (Array.getElem?_eq_getElem h4) (by omega) (by omega)) (by omega) (by omega) (by omega)
    · rw [List.map_map]; rfl
    · have hown2 : W.ownsRow w.heap.size 87 3 (.slice Av acc.length capv) (acc.map cie).length (chCells (acc.map cie)) := own_base (by rw [List.length_map]; exact hown) (by omega)
      refine own_keep hown2 fun b o hb hv hcc => hk5 b o hb ?_ ?_ ?_
      · rintro rfl
        obtain ⟨_, _, _, _, _, h5⟩ := own_slice hown
        rcases h5 with h5 | ⟨g, h5, h6, _⟩
        · rw [h5] at hv; cases hv
        · rw [h5] at hv; cases hv; omega
      · rintro rfl
        obtain ⟨_, _, _, _, _, h5⟩ := own_slice hown
        rcases h5 with h5 | ⟨g, h5, h6, _⟩
        · rw [h5] at hv; cases hv
        · rw [h5] at hv; cases hv; omega
      · rintro rfl; rw [HE.out.2.2.1] at hb; cases hb; cases hcc
    · refine hI.each.keeps fun b o hb ht => hk5 b o hb ?_ ?_ ?_
      · rintro rfl; rw [HE.out.2.2.2.2.2.1] at hb; cases hb; simp [tagOf] at ht
      · rintro rfl; rw [HE.out.2.2.2.2.2.2] at hb; cases hb; simp [tagOf] at ht
      · rintro rfl; rw [HE.out.2.2.1] at hb; cases hb; simp [tagOf] at ht
  · intro W hX hun hd
    simp only [Exit.inBlock, Exit.then]
    have hs1 := HV.out.2.1
    have hs2 := H1.out.2.1
    have y2 := Joins.cell_of_block ((World.putObj_heap_other (o := .deferred none) (show w.heap.size ≠ V0.heap.size by omega)).trans hX.r2) 0
    have y3 := Joins.cell_of_block ((World.putObj_heap_other (o := .deferred none) (show w.heap.size + 1 ≠ V0.heap.size by omega)).trans hX.r3) 0
    simp at y2 y3
    refine marks_ret1 (v := .tuple #[.slice none 0 0, .int .i64 34]) hd (by simp [results, Tryz.results23, go_sem, y2, y3]) rfl ?_
    have hRR := HR.out.2.2
    rw [hun] at hRR
    subst hRR
    have hb0 := (H1.out.1.trans (HV.out.1.mono H1.out.1.size))
    refine ⟨⟨hX.os.trans hb0.os, hX.tape.trans hb0.tape, hX.output.trans hb0.output, by have := hX.size; have := hb0.size; simp; omega, fun b hb => ?_⟩, rfl⟩
    rw [World.putObj_heap_other (by omega), ← hb0.block b hb]
    have h4 : b < V0.heap.size := by omega
    rw [Array.getElem?_eq_getElem h4]
    exact hX.fr b _ (Array.getElem?_eq_getElem h4) (by omega) (by omega) (by omega) (by omega)
end Go.Proofs.YtnljhabpcoiihaaGreatDoor
