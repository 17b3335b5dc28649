/- A disk's Arm: some plan is there behind it (which one, is not said). -/
import Derived.Test.YtjpcmgoajdjkgaaGreatDoorPlan
import Derived.Test.YtjpcmgoajdjkgaaGreatDoorApp
import Derived.Deep.RegionWith
set_option linter.all false
namespace Go.Proofs.YtjpcmgoajdjkgaaGreatDoor
open Go.RowKit
open Go.MapKept (IsKey Stamped run_checkKey run_findKey)

theorem map_modify_of {α β : Type} (g : α → β) (f : α → α) (y : β) (h : ∀ x, g (f x) = y) : ∀ (l : List α) (i : Nat), (l.modify i f).map g = (l.map g).modify i fun _ => y
  | [], i => by cases i <;> rfl
  | x :: r, 0 => by simp [List.modify, h]
  | x :: r, i + 1 => by simp [map_modify_of g f y h r i]
theorem modify_id_of {α β : Type} (g : α → β) (f : α → α) (h : ∀ x, g (f x) = g x) : ∀ (l : List α) (i : Nat), (l.modify i f).map g = l.map g
  | [], i => by cases i <;> rfl
  | x :: r, 0 => by simp [List.modify, h]
  | x :: r, i + 1 => by simp [modify_id_of g f h r i]

/-- a map of numbers to numbers -/
structure IntMap (es : Array MapEntry) (clock : Nat) (l : List (Int × Int)) : Prop where
  kv : es.toList.map (fun x => (x.key, x.val)) = l.map (fun p => (Value.int .i64 p.1, Value.int .i64 p.2))
  lt : ∀ x ∈ es.toList, x.born < clock
  nd : (es.toList.map (·.born)).Nodup

theorem IntMap.nil : IntMap #[] 0 [] := ⟨rfl, by simp, by simp⟩
theorem find_key (k : Int) : ∀ (es : List MapEntry) (l : List (Int × Int)) (i j : Nat) (v : Value), es.map (fun x => (x.key, x.val)) = l.map (fun p => (Value.int .i64 p.1, Value.int .i64 p.2)) →
    Instr.findNow (.int .i64) (.int .i64 k) es i = some (some (j, v)) → ∃ m, j = i + m ∧ ∃ e, es[m]? = some e ∧ e.key = .int .i64 k
  | [], l, i, j, v, _, h => by simp [Instr.findNow] at h
  | e :: es, [], i, j, v, hl, _ => by simp at hl
  | e :: es, (a, b) :: l, i, j, v, hl, h => by
    simp only [List.map_cons, List.cons.injEq, Prod.mk.injEq] at hl
    obtain ⟨⟨h1, h2⟩, h3⟩ := hl
    by_cases hk : a = k
    · subst hk
      simp only [Instr.findNow, Instr.sameNow, h1, if_true, beq_self_eq_true] at h
      simp only [Option.some.injEq, Prod.mk.injEq] at h
      exact ⟨0, by omega, e, rfl, h1⟩
    · have : (k == a) = false := by simp; omega
      simp only [Instr.findNow, Instr.sameNow, h1, if_true, this] at h
      obtain ⟨m, h4, e', h5, h6⟩ := find_key k es l (i + 1) j v h3 h
      exact ⟨m + 1, by omega, e', by simpa using h5, h6⟩

section
variable {P : Program} {mt kt et : TypeId} {w : World} {bm : Nat}
theorem upd_plan (hm : P.underlying mt = some (.map kt et)) (hd : P.underlying kt = some (.int .i64)) {es : Array MapEntry} {clock : Nat} (hb : w.heap[bm]? = some (.map es clock)) {l : List (Int × Int)} (hI : IntMap es clock l) (k v : Int) :
    ∃ es' clock' l', (Instr.mapUpdate mt (.map (some bm)) (.int .i64 k) (.int .i64 v)).run P w = .ok () (Go.ChangeMaps.setBlock w bm (.map es' clock')) ∧ IntMap es' clock' l' := by
  obtain ⟨r, hr, _⟩ := find_plan k es.toList l 0 hI.kv
  cases r with
  | none =>
    refine ⟨es.push { key := .int .i64 k, val := .int .i64 v, born := clock }, clock + 1, l ++ [(k, v)], ?_, ⟨?_, ?_, ?_⟩⟩
    · simp [Instr.mapUpdate, run_underlying hm, Go.MapKept.run_getObj_map hb, run_checkKey (d := .int .i64) (k := .int .i64 k) hd rfl, run_findKey hd hr, Go.MapKept.run_setObj_map _ hb, Result.andThen, Go.ChangeMaps.setBlock]
    · rw [Array.toList_push, List.map_append, List.map_append, hI.kv]; rfl
    · intro x hx
      rw [Array.toList_push, List.mem_append] at hx
      rcases hx with hx | hx
      · have := hI.lt x hx; omega
      · simp only [List.mem_singleton] at hx; subst hx; exact Nat.lt_succ_self _
    · rw [Array.toList_push, List.map_append, List.nodup_append]
      refine ⟨hI.nd, by simp, fun a ha b hb' => ?_⟩
      obtain ⟨x, hx, rfl⟩ := List.mem_map.1 ha
      simp only [List.map_cons, List.map_nil, List.mem_singleton] at hb'
      have := hI.lt x hx
      omega
  | some p =>
    obtain ⟨j, y⟩ := p
    obtain ⟨m, h1, e, h2, h3⟩ := find_key k es.toList l 0 j y hI.kv hr
    have hj : es[j]? = some e := by rw [← Array.getElem?_toList, h1, Nat.zero_add]; exact h2
    have hks : Instr.sameBits 10000 (.int .i64 k) (.int .i64 k) = true := by simp [Instr.sameBits]
    refine ⟨es.modify j fun e => { e with key := .int .i64 k, val := .int .i64 v }, clock, l.modify j fun _ => (k, v), ?_, ⟨?_, ?_, ?_⟩⟩
    · simp [Instr.mapUpdate, run_underlying hm, Go.MapKept.run_getObj_map hb, run_checkKey (d := .int .i64) (k := .int .i64 k) hd rfl, run_findKey hd hr, Go.MapKept.run_setObj_map _ hb, Result.andThen, Go.ChangeMaps.setBlock, Instr.keyThatStays, hj, h3, hks]
    · rw [Array.toList_modify, map_modify_of (fun x : MapEntry => (x.key, x.val)) _ (Value.int .i64 k, Value.int .i64 v) (fun x => rfl), hI.kv,
        map_modify_of (fun p : Int × Int => (Value.int .i64 p.1, Value.int .i64 p.2)) _ (Value.int .i64 k, Value.int .i64 v) (fun x => rfl)]
    · intro x hx
      rw [Array.toList_modify] at hx
      have hb1 : x.born ∈ ((es.toList.modify j fun e => { e with key := .int .i64 k, val := .int .i64 v }).map (·.born)) := List.mem_map_of_mem hx
      rw [modify_id_of (fun x : MapEntry => x.born) (fun e : MapEntry => { e with key := .int .i64 k, val := .int .i64 v }) (fun _ => rfl)] at hb1
      obtain ⟨z, hz, hzb⟩ := List.mem_map.1 hb1
      rw [← hzb]
      exact hI.lt z hz
    · rw [Array.toList_modify, modify_id_of (fun x : MapEntry => x.born) (fun e : MapEntry => { e with key := .int .i64 k, val := .int .i64 v }) (fun _ => rfl)]
      exact hI.nd
end

/-- how Arm ends -/
def ArmPost (n bd : Nat) (D : DiskM) (w : World) (e : Ending) (w' : World) : Prop :=
  ∃ (code : Int) (pl : List (Int × Int)), e = .returned (.int .i64 code) ∧ DiskR n w' bd { D with plan := pl } ∧ Turn n [none, some 78] w w'
theorem ArmPost.same {n bd : Nat} {D : DiskM} {w w' : World} (hD : DiskR n w bd D) (hb : Below w.heap.size w w') (code : Int) : ArmPost n bd D w (.returned (.int .i64 code)) w' :=
  ⟨code, D.plan, rfl, hD.below hb, Turn.of_below hb⟩
theorem bel_setMap {w W : World} {n b : Nat} {es : Array MapEntry} {cl : Nat} (h : Below n w W) (hn : n ≤ b) : Below n w (Go.ChangeMaps.setBlock W b (.map es cl)) :=
  h.trans ⟨rfl, rfl, rfl, by simp [Go.ChangeMaps.setBlock], fun j hj => by simp only [Go.ChangeMaps.setBlock]; rw [Array.getElem?_setIfInBounds_ne (by omega)]⟩
theorem at_setMap {W : World} {b : Nat} {o o' : Obj} (h : W.heap[b]? = some o) : (Go.ChangeMaps.setBlock W b o').heap[b]? = some o' := by
  simp [Go.ChangeMaps.setBlock, heap_lt h]

theorem IntMap.ent {es : Array MapEntry} {cl : Nat} {l : List (Int × Int)} (h : IntMap es cl l) {e : MapEntry} (he : e ∈ es.toList) : ∃ a b, e.key = .int .i64 a ∧ e.val = .int .i64 b := by
  have h1 : (e.key, e.val) ∈ es.toList.map (fun x => (x.key, x.val)) := List.mem_map.2 ⟨e, he, rfl⟩
  rw [h.kv] at h1
  obtain ⟨p, _, hp⟩ := List.mem_map.1 h1
  injection hp with h2 h3
  exact ⟨p.1, p.2, h2.symm, h3.symm⟩
theorem left_push {es : Array MapEntry} {seen : Array Nat} {e : MapEntry} (he : e ∈ (leftOf es seen).toList) : (leftOf es (seen.push e.born)).size < (leftOf es seen).size := by
  have e1 : (leftOf es (seen.push e.born)).toList = (leftOf es seen).toList.filter fun x => x.born != e.born := by
    unfold leftOf
    rw [Array.toList_filter, Array.toList_filter, List.filter_filter]
    congr 1
    funext y
    simp only [Array.contains_push, Bool.not_or, bne]
    rw [Bool.and_comm]
  rw [← Array.length_toList, ← Array.length_toList, e1]
  refine List.length_filter_lt_length_iff_exists.2 ⟨e, he, by simp⟩

/-- the plan is laid, entry by entry -/
structure ArmI (w : World) (D : DiskM) (M pb it bd bm : Nat) (es : Array MapEntry) (cl : Nat) (seen : Array Nat) (W : World) : Prop where
  os : W.os = w.os
  tape : W.tape = w.tape
  output : W.output = w.output
  size : w.heap.size ≤ W.heap.size
  keep : ∀ (b : Nat) (o : Obj), w.heap[b]? = some o → b ≠ bd → W.heap[b]? = some o
  at_ : W.heap[bd]? = some (.cells #[.int .i64 D.room, .map (some bm), .map (some pb), .int .i64 D.steps, .bool D.down] 78 (0, 0))
  src : W.heap[M]? = some (.map es cl)
  iter : W.heap[it]? = some (.mapIter (some M) cl seen cl)
  pln : ∃ es2 cl2 l2, W.heap[pb]? = some (.map es2 cl2) ∧ IntMap es2 cl2 l2
theorem ArmI.draw {w : World} {D : DiskM} {M pb it bd bm : Nat} {es : Array MapEntry} {cl : Nat} {seen : Array Nat} {W : World} (h : ArmI w D M pb it bd bm es cl seen W) : ArmI w D M pb it bd bm es cl seen W.drew :=
  ⟨h.os, h.tape, h.output, h.size, h.keep, h.at_, h.src, h.iter, h.pln⟩
theorem ArmI.set {w : World} {D : DiskM} {M pb it bd bm : Nat} {es : Array MapEntry} {cl : Nat} {seen seen' : Array Nat} {W : World} (h : ArmI w D M pb it bd bm es cl seen W) (b : Nat) (o : Obj) (hb : w.heap.size ≤ b) (hbd : b ≠ bd) (hbM : b ≠ M)
    (hit : b = it → o = .mapIter (some M) cl seen' cl) (hit' : b ≠ it → seen' = seen) (hp : b = pb → ∃ es2 cl2 l2, o = .map es2 cl2 ∧ IntMap es2 cl2 l2) : ArmI w D M pb it bd bm es cl seen' (Go.ChangeMaps.setBlock W b o) := by
  have hne : ∀ j, j ≠ b → (Go.ChangeMaps.setBlock W b o).heap[j]? = W.heap[j]? := fun j hj => by
    simp only [Go.ChangeMaps.setBlock]; rw [Array.getElem?_setIfInBounds_ne (Ne.symm hj)]
  refine ⟨h.os, h.tape, h.output, by simp [Go.ChangeMaps.setBlock]; exact h.size, fun j x hj hn => ?_, ?_, ?_, ?_, ?_⟩
  · rw [hne j (by have := heap_lt hj; omega)]; exact h.keep j x hj hn
  · rw [hne bd (Ne.symm hbd)]; exact h.at_
  · rw [hne M (Ne.symm hbM)]; exact h.src
  · by_cases hi : b = it
    · subst hi; rw [hit rfl] at *; exact at_setMap h.iter
    · rw [hne it (Ne.symm hi), hit' hi]; exact h.iter
  · by_cases hi : b = pb
    · obtain ⟨es2, cl2, l2, h1, h2⟩ := hp hi
      subst hi
      obtain ⟨_, _, _, h3, _⟩ := h.pln
      exact ⟨es2, cl2, l2, by rw [h1]; exact at_setMap h3, h2⟩
    · obtain ⟨es2, cl2, l2, h1, h2⟩ := h.pln
      exact ⟨es2, cl2, l2, by rw [hne pb (Ne.symm hi)]; exact h1, h2⟩
theorem ArmI.post {n bd bm clock : Nat} {pv : Value} {xs : List FEnt} {D : DiskM} {w W : World} {M pb it : Nat} {es : Array MapEntry} {cl : Nat} {seen : Array Nat} (hX : DiskX n w bd bm clock pv xs D) (hn : n ≤ w.heap.size) (hpb : w.heap.size ≤ pb)
    (h : ArmI w D M pb it bd bm es cl seen W) (code : Int) : ArmPost n bd D w (.returned (.int .i64 code)) W := by
  obtain ⟨es2, cl2, l2, h1, h2⟩ := h.pln
  have hbm := heap_lt hX.files.at_
  have hbd := heap_lt hX.at_
  have hne : ∀ (b : Nat) (o : Obj), w.heap[b]? = some o → tagOf o ≠ some 78 → b ≠ bd := fun b o hb ht e => by
    subst e; rw [hX.at_] at hb; cases hb; exact ht rfl
  refine ⟨code, l2, rfl, ⟨bm, clock, .map (some pb), xs, ?_⟩, h.os, h.tape, h.output, h.size, fun b o hb hc => h.keep b o hb ?_⟩
  · refine ⟨hX.le, h.at_, .inr ⟨pb, es2, cl2, rfl, Nat.le_trans hn hpb, h1, h2.kv⟩, hX.files.keeps (fun o ho => h.keep _ _ ho ?_) (fun x hx o ho => h.keep _ _ ho ?_) (fun b o hb ht => h.keep _ _ hb (hne b o hb (by rw [ht]; simp))), hX.same, hX.fits, fun bp e => ?_⟩
    · rw [hX.files.at_] at ho; cases ho
      exact hne bm _ hX.files.at_ (by simp [tagOf])
    · obtain ⟨_, v, h2, _⟩ := hX.files.each x hx
      rw [h2] at ho; cases ho
      exact hne _ _ h2 (by simp [tagOf])
    · injection e with e; injection e with e; omega
  · rintro rfl
    rw [hX.at_] at hb; cases hb
    rcases hc with hc | hc
    · have := hX.le; omega
    · exact hc (by simp [tagOf])

set_option maxRecDepth 100000 in
set_option maxHeartbeats 1600000 in
theorem arm_c (n bd : Nat) (D : DiskM) (A : Option Addr) (m cap : Nat) (fs : List (Int × Int)) (hm : m = fs.length) (hlm : m ≤ 1048576) (w : World) (hD : DiskR n w bd D) (hn : n ≤ w.heap.size) (hr : Rd 0 w A (fltV fs)) :
    Calls Tryz.prog 33 #[.pointer (some ⟨bd, 0, none⟩), .slice A m cap] w (ArmPost n bd D w) := by
  obtain ⟨bm, clock, pv, xs, hX⟩ := hD
  have HX := Lib.hid (And.intro hX (And.intro hn (And.intro hr hm))); clear hX hn hr hm
  have hmm := @run_makeMap Tryz.prog
  go_enter Tryz.func33, Tryz.ntmps33
  go_wp2_with fail
  go_loopw [15] (fun i W => ∃ k : Nat, k ≤ m ∧ i = .int .i64 k ∧ Below w.heap.size w W ∧ ∃ es cl l, W.heap[w.heap.size]? = some (.map es cl) ∧ IntMap es cl l) (fun i _ => m - (intOf i).toNat)
  case atStart => exact ⟨0, by omega, rfl, bnew _ _, _, _, _, heap_alloc_new _ _, IntMap.nil⟩
  case round =>
    obtain ⟨k, hk, rfl, hB, es, cl, l, hes, hI⟩ := hrel
    by_cases hlt : k < m
    · have hkl : k < fs.length := by rw [← HX.out.2.2.2]; exact hlt
      obtain ⟨b, o, hA, hcell⟩ := (HX.out.2.2.1.below hB).addr (by rw [fltV_length]; omega)
      obtain ⟨g0, g1⟩ := fltV_get fs k hkl
      have q0 := (hcell (k * 2) (by rw [fltV_length]; omega)).trans g0
      have q1 := (hcell (k * 2 + 1) (by rw [fltV_length]; omega)).trans g1
      rw [← Nat.add_assoc] at q1
      subst hA
      obtain ⟨fa, hfa⟩ : ∃ a, fs[k].1 = a := ⟨_, rfl⟩
      obtain ⟨fk, hfk⟩ : ∃ a, fs[k].2 = a := ⟨_, rfl⟩
      rw [hfa] at q0
      rw [hfk] at q1
      have hes1 := (Below.heap_alloc wr (.cells #[.int .i64 fa, .int .i64 fk] 112) _ (heap_lt hes)).trans hes
      have hl := look_plan und_plan Tryz.underlying3 zero_int hes1 l hI.kv fa
      obtain ⟨es', cl', l', hupd, hI'⟩ := upd_plan und_plan Tryz.underlying3 hes1 hI fa fk
      have hB1 : Below w.heap.size w (wr.alloc (.cells #[.int .i64 fa, .int .i64 fk] 112)) := hB.trans ((bnew wr _).mono hB.size)
      have hB2 : Below w.heap.size w (Go.ChangeMaps.setBlock (wr.alloc (.cells #[.int .i64 fa, .int .i64 fk] 112)) w.heap.size (.map es' cl')) := bel_setMap hB1 (Nat.le_refl _)
      have hes2 := at_setMap (o' := .map es' cl') hes1
      obtain ⟨pa, hpa⟩ : ∃ x, planAt l fa = x := ⟨_, rfl⟩
      rw [hpa] at hl
      have HI := Lib.hid (And.intro hB1 (And.intro hB2 (And.intro hes2 hI'))); clear hB hes hI hcell g0 g1 hkl hfa hfk hes1 hB1 hB2 hes2 hI' hpa
      go_wp2_with fail
      all_goals first
        | exact ⟨⟨k + 1, by omega, rfl, HI.out.2.1, _, _, _, HI.out.2.2.1, HI.out.2.2.2⟩, by simp [intOf]; omega⟩
        | (go_ret; exact ArmPost.same ⟨bm, clock, pv, xs, HX.out.1⟩ HI.out.1 1)
    · obtain rfl : k = m := by omega
      have HI := Lib.hid (And.intro hB (And.intro hes hI)); clear hB hes hI
      have hat := (HI.out.1.block bd (heap_lt HX.out.1.at_)).trans HX.out.1.at_
      have hesw := HI.out.2.1
      have hat1 := (Below.heap_alloc wr (.map #[] 0) _ (heap_lt hat)).trans hat
      have hes1 := (Below.heap_alloc wr (.map #[] 0) _ (heap_lt hesw)).trans hesw
      have c2 := Joins.cell_of_block hat1 2
      have f2 := Joins.unfrozen_of_block hat1 2
      simp at c2
      have hbdM : bd ≠ w.heap.size := by have := heap_lt HX.out.1.at_; omega
      have hwr := HI.out.1.size
      have hlM := heap_lt hesw
      have hes3 : ((wr.alloc (.map #[] 0)).setCell ⟨bd, 2, none⟩ (.map (some wr.heap.size))).heap[w.heap.size]? = some (.map es cl) := heap_setCell_ne hes1 (Ne.symm hbdM)
      have hrg := run_range_map ((wr.alloc (.map #[] 0)).setCell ⟨bd, 2, none⟩ (.map (some wr.heap.size))) 76 _ _ w.heap.size _ cl und_plan hes3
      have hA0 : ArmI w D w.heap.size wr.heap.size (wr.heap.size + 1) bd bm es cl #[] (((wr.alloc (.map #[] 0)).setCell ⟨bd, 2, none⟩ (.map (some wr.heap.size))).alloc (.mapIter (some w.heap.size) cl #[] cl)) := by
        have hsz : ((wr.alloc (.map #[] 0)).setCell ⟨bd, 2, none⟩ (.map (some wr.heap.size))).heap.size = wr.heap.size + 1 := by simp [World.setCell]
        have hold : ∀ (j : Nat) (o : Obj), ((wr.alloc (.map #[] 0)).setCell ⟨bd, 2, none⟩ (.map (some wr.heap.size))).heap[j]? = some o → (((wr.alloc (.map #[] 0)).setCell ⟨bd, 2, none⟩ (.map (some wr.heap.size))).alloc (.mapIter (some w.heap.size) cl #[] cl)).heap[j]? = some o := fun j o hj =>
          (Below.heap_alloc _ _ _ (heap_lt hj)).trans hj
        refine ⟨HI.out.1.os, HI.out.1.tape, HI.out.1.output, by simp [World.setCell]; omega, fun j o hj hne => hold j o (heap_setCell_ne ((Below.heap_alloc wr _ _ (by have := heap_lt hj; omega)).trans ((HI.out.1.block j (heap_lt hj)).trans hj)) hne), hold _ _ ?_, hold _ _ hes3, ?_, ⟨#[], 0, [], hold _ _ (heap_setCell_ne (heap_alloc_new wr _) (by have := heap_lt HX.out.1.at_; omega)), IntMap.nil⟩⟩
        · rw [Joins.block_setCell hat1]; rfl
        · have := heap_alloc_new ((wr.alloc (.map #[] 0)).setCell ⟨bd, 2, none⟩ (.map (some wr.heap.size))) (.mapIter (some w.heap.size) cl #[] cl)
          rwa [hsz] at this
      have hsz1 : ((wr.alloc (.map #[] 0)).setCell ⟨bd, 2, none⟩ (.map (some wr.heap.size))).heap.size = wr.heap.size + 1 := by simp [World.setCell]
      rw [hsz1] at hrg
      have HA := Lib.hid (And.intro hA0 (And.intro hwr (And.intro hbdM hlM))); clear hat hesw hat1 hes1 hes3 hA0 hsz1 hwr hbdM hlM
      go_wp2_with fail
      rename World => w0
      go_loopw [8] (fun _ W => ∃ seen, ArmI w D w.heap.size w0.heap.size (w0.heap.size + 1) bd bm es cl seen W) (fun _ W => W.rangeLeft w.heap.size (w0.heap.size + 1))
      case atStart => exact ⟨_, HA.out.1⟩
      case round =>
        obtain ⟨seen, hA⟩ := hrel
        have hold : ∀ y ∈ es.toList, y.born < cl := HI.out.2.2.lt
        rcases run_next_at (P := Tryz.prog) wr 0 (w0.heap.size + 1) w.heap.size cl cl seen es cl hA.iter hA.src hold (Nat.le_refl _) with ⟨hz, hrun⟩ | ⟨e, he, w1, hw1, hrun⟩
        · have HA2 := Lib.hid hA; clear hA hz hold
          go_wp2_with fail
          go_ret
          exact ArmI.post HX.out.1 HX.out.2.1 HA.out.2.1 HA2.out 0
        · obtain ⟨a, b, hka, hvb⟩ := HI.out.2.2.ent (e := e) (by
            have : e ∈ (leftOf es seen).toList := he
            unfold leftOf at this
            rw [Array.toList_filter] at this
            exact (List.mem_filter.1 this).1)
          have he' : e ∈ es.toList := by
            have : e ∈ (leftOf es seen).toList := he
            unfold leftOf at this
            rw [Array.toList_filter] at this
            exact (List.mem_filter.1 this).1
          have hlft := left_push he
          have hA1 : ArmI w D w.heap.size w0.heap.size (w0.heap.size + 1) bd bm es cl seen w1 := by
            rcases hw1 with rfl | rfl
            · exact hA
            · exact hA.draw
          have hA2 := hA1.set (seen' := seen.push e.born) (w0.heap.size + 1) (.mapIter (some w.heap.size) cl (seen.push e.born) cl) (by have := HA.out.2.1; omega) (by have := heap_lt HX.out.1.at_; have := HA.out.2.1; omega) (by have := HA.out.2.1; omega) (fun _ => rfl) (fun h => absurd rfl h) (fun h => by omega)
          obtain ⟨W2, hW2⟩ : ∃ W2, Go.ChangeMaps.setBlock w1 (w0.heap.size + 1) (.mapIter (some w.heap.size) cl (seen.push e.born) cl) = W2 := ⟨_, rfl⟩
          rw [hW2] at hA2 hrun
          have hent := run_entry_at (P := Tryz.prog) W2 (w0.heap.size + 1) w.heap.size cl seen es cl e hA2.iter hA2.src he' HI.out.2.2.nd
          rw [hka, hvb] at hrun hent
          have c2 := Joins.cell_of_block hA2.at_ 2
          have c3 := Joins.cell_of_block hA2.at_ 3
          simp at c2 c3
          obtain ⟨es2, cl2, l2, hp1, hp2⟩ := hA2.pln
          obtain ⟨es3, cl3, l3, hupd, hp3⟩ := upd_plan (w := W2.drew) und_plan Tryz.underlying3 hp1 hp2 (IntKind.i64.wrap (D.steps + a)) b
          have hA3 := hA2.draw.set (seen' := seen.push e.born) w0.heap.size (.map es3 cl3) HA.out.2.1 (by have := heap_lt HX.out.1.at_; have := HA.out.2.1; omega) (by have := HA.out.2.2.2; omega) (fun h => by omega) (fun _ => rfl) (fun _ => ⟨es3, cl3, l3, rfl, hp3⟩)
          have hm0 : wr.rangeLeft w.heap.size (w0.heap.size + 1) = (leftOf es seen).size := by simp only [World.rangeLeft, hA.src, hA.iter]
          have hm2 : W2.rangeLeft w.heap.size (w0.heap.size + 1) = (leftOf es (seen.push e.born)).size := by simp only [World.rangeLeft, hA2.src, hA2.iter]
          have hm3 : (Go.ChangeMaps.setBlock W2.drew w0.heap.size (.map es3 cl3)).rangeLeft w.heap.size (w0.heap.size + 1) = (leftOf es (seen.push e.born)).size := by simp only [World.rangeLeft, hA3.src, hA3.iter]
          have HQ := Lib.hid (And.intro hA2 (And.intro hA3 (And.intro hm0 (And.intro hm2 (And.intro hm3 hlft))))); clear hA2 hA3 hm0 hm2 hm3 hlft hA hA1 hp1 hp2 hp3 hold he he' hka hvb hW2 hw1
          obtain ⟨st, hst⟩ : ∃ st, D.steps = st := ⟨_, rfl⟩
          rw [hst] at c3 hupd
          clear hst
          go_wp2_with fail
          all_goals first
            | exact ⟨⟨_, HQ.out.1⟩, by rw [HQ.out.2.2.1, HQ.out.2.2.2.1]; exact HQ.out.2.2.2.2.2⟩
            | skip
          all_goals go_region_with fail
          all_goals go_wp2_with fail
          all_goals exact ⟨⟨_, HQ.out.2.1⟩, by rw [HQ.out.2.2.1, HQ.out.2.2.2.2.1]; exact HQ.out.2.2.2.2.2⟩
end Go.Proofs.YtjpcmgoajdjkgaaGreatDoor
