/- chain's reader of a block. -/
import Derived.Test.YtildkoabfdfjlaaBlkP
set_option linter.all false
namespace Go.Proofs.Ytildkoabfdfjlaa
open Go.RowKit
open Rlp (It)

/-- a block, as lists -/
structure Blk where
  height : Nat
  prev : List UInt8
  state : List UInt8
  proposer : Nat
  round : Nat
  txs : List (List UInt8)

def rdStrs : List It → Option (List (List UInt8))
  | [] => some []
  | .str l :: r => (rdStrs r).map (l :: ·)
  | .list _ :: _ => none

def rdBlock (its : List It) : Option Blk :=
  match rdNumber its with
  | none => none
  | some (h, r1) =>
    match rdInto 32 r1 with
    | none => none
    | some (p, r2) =>
      match rdInto 32 r2 with
      | none => none
      | some (s, r3) =>
        match rdInt 2147483647 r3 with
        | none => none
        | some (pr, r4) =>
          match rdInt 2147483647 r4 with
          | none => none
          | some (rd, r5) =>
            match r5 with
            | [.list tl] => (rdStrs tl).map fun txs => ⟨h, p, s, pr, rd, txs⟩
            | _ => none

theorem rdInto_len {len : Nat} {its : List It} {l : List UInt8} {r : List It} (h : rdInto len its = some (l, r)) : l.length = len := by
  unfold rdInto at h
  split at h
  · split at h
    · cases h; assumption
    · cases h
  · cases h

/-- these cells are slices that read as these strings, in blocks n..mm-1 -/
def StrsIn (n mm : Nat) (w : World) : List (List UInt8) → List Value → Prop
  | [], cs => cs = []
  | l :: r, cs => ∃ A cap cs', cs = .slice A l.length cap :: cs' ∧ l.length ≤ cap ∧ Rd n (cut mm w) A (bytesV l) ∧ StrsIn n mm w r cs'
theorem StrsIn.keep {n mm : Nat} {w w' : World} (hk : ∀ k, n ≤ k → k < mm → w'.heap[k]? = w.heap[k]?) : ∀ (l : List (List UInt8)) (cs : List Value), StrsIn n mm w l cs → StrsIn n mm w' l cs
  | [], cs, h => h
  | x :: r, cs, h => by
    obtain ⟨A, cap, cs', h1, h2, h3, h4⟩ := h
    exact ⟨A, cap, cs', h1, h2, h3.keep (cut_keep hk), StrsIn.keep hk r cs' h4⟩
/-- append, where its run is known -/
theorem wpList_append_known {P : Program} {w : World} {ops : Array Oper} {rest : List Oper} {o : Oper} {a : Act} {Q : Exit → Act → World → Prop} (hgd : o.guard = none) (s x : Operand) (t : TypeId)
    (ho : o.op = .call { callee := .builtin .append, args := #[s, x], argTypes := #[t, t] }) (v u : Value) (hs : a.eval s = v) (hx : a.eval x = u) {v' : Value} {w' : World}
    (hr : (Builtin.append_ #[t, t] o.type #[v, u]).run P w = .ok v' w') (h : wpList P ops Q rest (a.put o.dst v') w') : wpList P ops Q (o :: rest) a w :=
  wpList_plain hgd fun _ hK => by
    unfold Oper.wp execOp
    simp only [ho, resolve, invoke, builtin, Sem.run_bind, Sem.run_pure, Result.andThen_ok, List.map_toArray, List.map_cons, List.map_nil, hs, hx, hr]
    exact hK _ _ h

theorem StrsIn.append {n mm : Nat} {w : World} : ∀ {l k : List (List UInt8)} {cs ds : List Value}, StrsIn n mm w l cs → StrsIn n mm w k ds → StrsIn n mm w (l ++ k) (cs ++ ds)
  | [], k, cs, ds, h, h' => by cases (show cs = [] from h); exact h'
  | x :: r, k, cs, ds, h, h' => by
    obtain ⟨A, cap, cs', rfl, h2, h3, h4⟩ := h
    exact ⟨A, cap, cs' ++ ds, rfl, h2, h3, StrsIn.append h4 h'⟩

/-- a block's cells, the slice of its txs being v -/
def blkCells (b : Blk) (v : Value) : List Value := .int .u64 (b.height : Int) :: (bytesV b.prev ++ (bytesV b.state ++ [.int .i64 (b.proposer : Int), .int .i64 (b.round : Int), v]))
theorem blkCells_one (b : Blk) {v : Value} (hv : v.oneCell' = true) : ∀ u ∈ blkCells b v, u.oneCell' = true := by
  intro u hu
  simp only [blkCells, List.mem_cons, List.mem_append, List.not_mem_nil, or_false] at hu
  rcases hu with rfl | hu | hu | rfl | rfl | rfl
  · rfl
  · exact bytesV_one _ u hu
  · exact bytesV_one _ u hu
  · rfl
  · rfl
  · exact hv

def BlkPost (n mm m : Nat) (w : World) (its : List It) (e : Ending) (w' : World) : Prop :=
  match rdBlock its with
  | none => e = .panicked (wrg 11) ∧ Below m w w'
  | some b => ∃ v vals N, e = .returned (.agg (blkCells b v).toArray) ∧ m ≤ N ∧ w'.ownsRow N 31 1 v b.txs.length vals ∧ StrsIn n mm w' b.txs vals ∧ Below m w w'

theorem BlkPost.no {n mm m : Nat} {w : World} {its : List It} {w' : World} (h : rdBlock its = none) (hb : Below m w w') : BlkPost n mm m w its (.panicked (wrg 11)) w' := by
  unfold BlkPost; rw [h]; exact ⟨rfl, hb⟩

theorem Moves2.setCell {R g : Nat} (w : World) (o : Nat) (s : Option Nat) (v : Value) : Moves2 R g w (w.setCell ⟨g, o, s⟩ v) :=
  ⟨rfl, rfl, rfl, by simp, fun k _ _ h => heap_setCell_other _ (by exact h)⟩
theorem Moves2.below {R g m : Nat} {w w' : World} (h : Moves2 R g w w') (hm : m ≤ R) (hg : m ≤ g) (hw : m ≤ w.heap.size) : Below m w w' :=
  ⟨h.os, h.tape, h.output, h.size, fun k hk => h.block k (by omega) (by omega) (by omega)⟩
theorem Moves2.new {R : Nat} (w : World) (o : Obj) : Moves2 R w.heap.size w (w.alloc o) := Moves2.of (Moves.of_below (bnew w o))

/-- where a reader of a struct stands: the cursor, and the struct's cells so far -/
structure St (n mm R B : Nat) (t : TypeId) (w W : World) (its : List It) (cur : Array Value) : Prop where
  lt : R < B
  cu : Cur n mm W R its
  mv : Moves2 R B w W
  hp : W.heap[B]? = some (.cells cur t (0, 0))

theorem St.set {n mm R B : Nat} {t : TypeId} {w W : World} {its : List It} {cur : Array Value} (h : St n mm R B t w W its cur) (o : Nat) (v : Value) : St n mm R B t w (W.setCell ⟨B, o, none⟩ v) its (cur.setIfInBounds o v) :=
  ⟨h.lt, h.cu.keep (heap_setCell_other _ (by have := h.lt; dsimp only; omega)) (fun k _ hk => heap_setCell_other _ (by have := h.lt; have := h.cu.le; dsimp only; omega)), h.mv.trans (Moves2.setCell _ _ _ _), heap_setCell_row h.hp⟩
theorem St.move {n mm R B : Nat} {t : TypeId} {w W W' : World} {its its' : List It} {cur : Array Value} (h : St n mm R B t w W its cur) (hc : Cur n mm W' R its') (hm : Moves R W W') : St n mm R B t w W' its' cur :=
  ⟨h.lt, hc, h.mv.trans (Moves2.of hm), (hm.block B (Array.getElem?_eq_some_iff.1 h.hp).1 (by intro e; injection e with e; have := h.lt; omega)).trans h.hp⟩
theorem St.into {n mm R B : Nat} {t : TypeId} {w W W' : World} {its its' : List It} {cur c' : Array Value} {e : Ending} (h : St n mm R B t w W its cur) (hp : IntoPost n mm W R B its' c' t e W') : St n mm R B t w W' its' c' :=
  ⟨h.lt, hp.2.1, h.mv.trans hp.2.2.1, hp.2.2.2⟩
theorem St.cell {n mm R B : Nat} {t : TypeId} {w W : World} {its : List It} {cur : Array Value} (h : St n mm R B t w W its cur) {k : Nat} {v : Value} (hv : cur[k]? = some v) : W.cell? ⟨B, k, none⟩ = some v := cell_of_heap h.hp hv
theorem St.frozen {n mm R B : Nat} {t : TypeId} {w W : World} {its : List It} {cur : Array Value} (h : St n mm R B t w W its cur) (k : Nat) : W.frozen? ⟨B, k, none⟩ = false := by simp [World.frozen?, h.hp]
theorem St.no {n mm R B m : Nat} {t : TypeId} {w W W' : World} {its : List It} {cur : Array Value} (h : St n mm R B t w W its cur) (hm : Moves R W W') (h1 : m ≤ R) (h2 : m ≤ w.heap.size) : Below m w W' :=
  (h.mv.trans (Moves2.of hm)).below h1 (by have := h.lt; omega) h2

theorem setSame {cur : Array Value} {k : Nat} {v : Value} (h : cur[k]? = some v) : cur.setIfInBounds k v = cur := by
  apply Array.ext_getElem?
  intro i
  rw [Array.getElem?_setIfInBounds]
  split
  · rename_i e; subst e; rw [h]; simp [(Array.getElem?_eq_some_iff.1 h).1]
  · rfl
theorem lay_size {cur : Array Value} {o : Nat} {l : List UInt8} (h : o + l.length ≤ cur.size) : (lay cur o l).size = cur.size := by
  simp [lay, bytesV]; omega
theorem lay_get {cur : Array Value} {o k : Nat} {l : List UInt8} (h : o + l.length ≤ cur.size) (hk : k < o ∨ o + l.length ≤ k) : (lay cur o l)[k]? = cur[k]? := by
  have ho : (cur.toList.take o).length = o := by simp; omega
  have hbl := bytesV_length l
  simp only [lay, List.getElem?_toArray]
  rcases hk with hk | hk
  · rw [List.getElem?_append_left (by simp; omega), List.getElem?_append_left (by omega), List.getElem?_take_of_lt hk]; simp
  · rw [List.getElem?_append_right (by rw [List.length_append, ho, hbl]; exact hk), List.length_append, ho, hbl, List.getElem?_drop]
    rw [show o + l.length + (k - (o + l.length)) = k by omega]; simp

theorem rdNumber_mem {its r : List It} {v : Nat} (h : rdNumber its = some (v, r)) : ∀ x ∈ r, x ∈ its := by
  cases its with
  | nil => cases h
  | cons y l =>
    simp only [rdNumber] at h
    by_cases he : (uintPair y).2 = 0
    · rw [if_pos he] at h; cases h; exact fun x hx => List.mem_cons_of_mem _ hx
    · rw [if_neg he] at h; cases h
theorem rdInt_mem {most : Nat} {its r : List It} {v : Nat} (h : rdInt most its = some (v, r)) : ∀ x ∈ r, x ∈ its := by
  unfold rdInt at h
  cases hq : rdNumber its with
  | none => rw [hq] at h; cases h
  | some p =>
    rw [hq] at h
    simp only at h
    by_cases he : p.1 ≤ most
    · rw [if_pos he] at h; cases h; exact rdNumber_mem hq
    · rw [if_neg he] at h; cases h
theorem rdInto_mem {len : Nat} {its r : List It} {l : List UInt8} (h : rdInto len its = some (l, r)) : ∀ x ∈ r, x ∈ its := by
  unfold rdInto at h
  split at h
  · split at h
    · cases h; exact fun x hx => List.mem_cons_of_mem _ hx
    · cases h
  · cases h

/-- between two rounds of the loop over the txs: l is still to be read -/
structure TxI (n mm m R B R2 N : Nat) (w : World) (r6 : List It) (cur : Array Value) (l : List It) (txs : List (List UInt8)) (v : Value) (W : World) : Prop where
  c2 : Cur n mm W R2 l
  c1 : Cur n mm W R r6
  hp : W.heap[B]? = some (.cells (cur.setIfInBounds 67 v) 27 (0, 0))
  own : ∃ vals, W.ownsRow N 31 1 v txs.length vals ∧ StrsIn n mm W txs vals
  be : Below m w W
  sz : N ≤ W.heap.size

theorem TxI.step {n mm m R B R2 N : Nat} {w wr w10 w4 : World} {r6 l : List It} {cur : Array Value} {s : List UInt8} {txs : List (List UInt8)} {v c2 : Value} {A1 : Option Addr} {cp1 g' cap' : Nat} {o1 o2 : Obj} {vals : List Value}
    (h : TxI n mm m R B R2 N w r6 cur (.str s :: l) txs v wr) (hm : m ≤ R) (hmR : mm ≤ R) (hRB : R < B) (hBR2 : B < R2) (hR2N : R2 < N) (hC : Cur n mm w10 R2 l) (hM : Moves R2 wr w10)
    (hL : Lies n mm w10 (.str s) (.bool false) (.slice A1 s.length cp1) c2) (hvals : StrsIn n mm wr txs vals) (hvb : ∀ k, v.ownBlock = some k → N ≤ k)
    (hown : w4.ownsRow N 31 1 (.slice (some ⟨g', 0, none⟩) (txs.length + 1) cap') (txs.length + 1) (vals ++ [.slice A1 s.length cp1]))
    (hgrow : ((w10.alloc o1).alloc o2).grownBy w4 v.ownBlock) :
    TxI n mm m R B R2 N w r6 cur l (txs ++ [s]) (.slice (some ⟨g', 0, none⟩) (txs.length + 1) cap') (w4.setCell ⟨B, 67, none⟩ (.slice (some ⟨g', 0, none⟩) (txs.length + 1) cap')) := by
  have hs10 : N ≤ w10.heap.size := Nat.le_trans h.sz hM.size
  have hs4 := hgrow.size
  simp only [World.size_alloc] at hs4
  have hk4 : ∀ k, k < N → w4.heap[k]? = w10.heap[k]? := by
    intro k hk
    refine (hgrow.block k (by simp; omega) (fun e => by have := hvb k e.symm; omega)).trans ?_
    rw [Below.heap_alloc _ _ _ (by simp; omega), Below.heap_alloc _ _ _ (by omega)]
  have hkr : ∀ k, k < N → k ≠ R2 → w4.heap[k]? = wr.heap[k]? := fun k hk hne => (hk4 k hk).trans (hM.block k (by have := h.sz; omega) (fun e => hne (by injection e)))
  refine ⟨?_, ?_, ?_, ⟨vals ++ [.slice A1 s.length cp1], ?_, ?_⟩, ?_, ?_⟩
  · exact hC.keep ((heap_setCell_other _ (by dsimp only; omega)).trans (hk4 _ hR2N)) fun k _ hk => (heap_setCell_other _ (by dsimp only; omega)).trans (hk4 k (by omega))
  · exact h.c1.keep ((heap_setCell_other _ (by dsimp only; omega)).trans (hkr _ (by omega) (by omega))) fun k _ hk => (heap_setCell_other _ (by dsimp only; omega)).trans (hkr k (by omega) (by omega))
  · refine (heap_setCell_row ((hkr B (by omega) (by omega)).trans h.hp)).trans ?_
    simp
  · rw [List.length_append]
    exact ownsRow_setCell_below hown (by dsimp only; omega) _
  · have hk5 : ∀ k, n ≤ k → k < mm → (w4.setCell ⟨B, 67, none⟩ (.slice (some ⟨g', 0, none⟩) (txs.length + 1) cap')).heap[k]? = w10.heap[k]? := fun k _ hk => (heap_setCell_other _ (by dsimp only; omega)).trans (hk4 k (by omega))
    refine StrsIn.append (hvals.keep (fun k _ hk => (heap_setCell_other _ (by dsimp only; omega)).trans (hkr k (by omega) (by omega))) _ _) ?_
    unfold Lies at hL
    simp only [ItemR] at hL
    obtain ⟨_, ⟨A, cap, he, h1, h2⟩, _⟩ := hL
    injection he with he1 _ he2
    subst he1 he2
    exact ⟨_, _, [], rfl, h1, h2.keep (cut_keep hk5), rfl⟩
  · refine h.be.trans ⟨hgrow.os.trans hM.os, hgrow.tape.trans hM.tape, hgrow.output.trans hM.output, by simp; have := hM.size; omega, fun k hk => (heap_setCell_other _ (by dsimp only; omega)).trans (hkr k (by omega) (by omega))⟩
  · simp; omega

theorem load_row {P : Program} {W : World} {b : Nat} {cur : Array Value} {t : TypeId} {k : Nat} (h : W.heap[b]? = some (.cells cur t (0, 0))) (hk : cur.size = k) : (loadCells ⟨b, 0, none⟩ k).run P W = .ok cur W := by
  have := run_loadCells_list (P := P) W ⟨b, 0, none⟩ cur.toList (fun j v hj => by
    have hadd : (⟨b, 0, none⟩ : Addr).add j = ⟨b, j, none⟩ := by unfold Addr.add; split <;> simp_all
    rw [hadd]
    exact cell_of_heap h (by simpa using hj))
  simpa [hk] using this
theorem setCell_self {W : World} {b k : Nat} {cur : Array Value} {t : TypeId} {f : Nat × Nat} {v : Value} (h : W.heap[b]? = some (.cells cur t f)) (hv : cur[k]? = some v) : W.setCell ⟨b, k, none⟩ v = W := by
  have he : (W.setCell ⟨b, k, none⟩ v).heap = W.heap := by
    apply Array.ext_getElem?
    intro i
    by_cases hi : i = b
    · subst hi
      rw [heap_setCell_row h, setSame hv, h]
    · exact heap_setCell_other _ (by exact hi)
  unfold World.setCell at he ⊢
  simp only at he
  rw [he]
theorem setCells_self {W : World} {b : Nat} {cur : Array Value} {t : TypeId} {f : Nat × Nat} (h : W.heap[b]? = some (.cells cur t f)) : ∀ (vs : List Value) (o : Nat), (∀ j v, vs[j]? = some v → cur[o + j]? = some v) → W.setCells b o vs = W
  | [], _, _ => rfl
  | v :: r, o, hv => by
    have hv0 := hv 0 v rfl
    rw [Nat.add_zero] at hv0
    rw [World.setCells, setCell_self h hv0]
    exact setCells_self h r (o + 1) fun j u hj => by
      have := hv (j + 1) u (by simpa using hj)
      rw [show o + 1 + j = o + (j + 1) by omega]; exact this
theorem results_cell {P : Program} {fn : Func} {tmps : Array Value} {w : World} {a : Tmp} {t : TypeId} {p : Addr} {v : Value} (hr : fn.results = #[.cell a t]) (ha : tmps.getD a undef = .pointer (some p)) (hl : (loadVar t p).run P w = .ok v w) :
    (results fn tmps).run P w = .ok v w := by
  unfold results
  rw [hr]
  simp only [List.mapM_toArray, List.mapM_cons, List.mapM_nil, ha]
  simp [asAddr, hl]
theorem slice_info : (Try.prog.info? 31).map (fun i => (i.zero, i.size, i.bytes)) = some (some (.slice none 0 0), 1, 24) := by kernel_rfl
def leftAt (R2 : Nat) (w : World) : Nat := match w.cell? ⟨R2, 0, none⟩ with | some (.slice _ n _) => n | _ => 0
theorem leftAt_eq {n mm R2 : Nat} {w : World} {l : List It} (h : Cur n mm w R2 l) : leftAt R2 w = l.length := by
  obtain ⟨A, cap, cs, h1, _⟩ := h
  have : w.cell? ⟨R2, 0, none⟩ = some (.slice A l.length cap) := by simp [World.cell?, h1]
  unfold leftAt; rw [this]

set_option maxRecDepth 100000 in
set_option maxHeartbeats 1000000 in
theorem rblock_c (n mm m : Nat) (w : World) (R : Nat) (its : List It) (hm : m ≤ R) (hc : Cur n mm w R its) (hbig : ∀ x ∈ its, ∀ tl, x = It.list tl → tl.length ≤ 1000000) :
    Calls Try.prog 37 #[.pointer (some ⟨R, 0, none⟩)] w (BlkPost n mm m w its) := by
  have hR := hc.lt
  have hmR := hc.le
  have HC := Lib.hid hc; clear hc
  have HBIG := Lib.hid hbig; clear hbig
  go_enter Try.func37, Try.ntmps37
  go_wp2_with fail
  refine (rnumber_c n mm _ R its (HC.out.below (bnew w _))).mono ?_
  cases hn : rdNumber its with
  | none =>
    rintro e w1 ⟨rfl, hM⟩
    refine ⟨rfl, BlkPost.no (by simp [rdBlock, hn]) (((Moves2.new w _).trans (Moves2.of hM)).below hm (by omega) (by omega))⟩
  | some p =>
    obtain ⟨h, r1⟩ := p
    rintro e w1 ⟨rfl, hC1, hM⟩
    obtain ⟨cur, hcu, hcs, hc0, hc65, hc66, hc67⟩ : ∃ cur, w1.heap[w.heap.size]? = some (.cells cur 27 (0, 0)) ∧ cur.size = 68 ∧ cur[0]? = some (.int .u64 0) ∧ cur[65]? = some (.int .i64 0) ∧ cur[66]? = some (.int .i64 0) ∧ cur[67]? = some (.slice none 0 0) :=
      ⟨_, (hM.block w.heap.size (by simp) (by intro e; injection e; omega)).trans (World.alloc_heap_new w _), rfl, rfl, rfl, rfl, rfl⟩
    have S1 : St n mm R w.heap.size 27 w w1 r1 cur := ⟨hR, hC1, (Moves2.new w _).trans (Moves2.of hM), hcu⟩
    have hlt1 : R < w1.heap.size := hC1.lt
    clear hM hC1 hcu
    have k0 := S1.cell hc0
    have k0f := S1.frozen 0
    have HS1 := Lib.hid S1; clear S1
    have HP := Lib.hid (And.intro hc0 (And.intro hc65 (And.intro hc66 hc67))); clear hc0 hc65 hc66 hc67
    go_wp2_with fail
    have S2 := HS1.out.set 0 (.int .u64 (h : Int))
    obtain ⟨W2, hW2⟩ : ∃ W2, w1.setCell ⟨w.heap.size, 0, none⟩ (.int .u64 (h : Int)) = W2 := ⟨_, rfl⟩
    rw [hW2] at S2 ⊢
    obtain ⟨cur2, hcur2⟩ : ∃ c, cur.setIfInBounds 0 (.int .u64 (h : Int)) = c := ⟨_, rfl⟩
    rw [hcur2] at S2
    have hcs2 : cur2.size = 68 := by rw [← hcur2]; simpa using hcs
    clear hW2 k0 k0f hlt1
    refine (rinto_c n mm W2 R r1 32 (by decide) S2.cu w.heap.size 1 32 cur2 27 S2.hp (by omega) (by omega) (by omega)).mono ?_
    unfold IntoRes
    cases hp : rdInto 32 r1 with
    | none =>
      rintro e w3 ⟨rfl, hM⟩
      exact ⟨rfl, BlkPost.no (by simp [rdBlock, hn, hp]) (S2.no hM hm (by omega))⟩
    | some p =>
      obtain ⟨pv, r2⟩ := p
      rintro e w3 hI
      have S3 := S2.into hI
      obtain ⟨rfl, _⟩ := hI
      have hpl : pv.length = 32 := rdInto_len hp
      have hcs3 : (lay cur2 1 pv).size = 68 := by rw [lay_size (by omega)]; exact hcs2
      obtain ⟨cur3, hcur3⟩ : ∃ c, lay cur2 1 pv = c := ⟨_, rfl⟩
      rw [hcur3] at S3 hcs3
      clear S2
      go_wp2_with fail
      refine (rinto_c n mm w3 R r2 32 (by decide) S3.cu w.heap.size 33 32 cur3 27 S3.hp (by omega) (by omega) (by omega)).mono ?_
      unfold IntoRes
      cases hs : rdInto 32 r2 with
      | none =>
        rintro e w4 ⟨rfl, hM⟩
        exact ⟨rfl, BlkPost.no (by simp [rdBlock, hn, hp, hs]) (S3.no hM hm (by omega))⟩
      | some p =>
        obtain ⟨sv, r3⟩ := p
        rintro e w4 hI
        have S4 := S3.into hI
        obtain ⟨rfl, _⟩ := hI
        have hsl : sv.length = 32 := rdInto_len hs
        have hcs4 : (lay cur3 33 sv).size = 68 := by rw [lay_size (by omega)]; exact hcs3
        obtain ⟨cur4, hcur4⟩ : ∃ c, lay cur3 33 sv = c := ⟨_, rfl⟩
        rw [hcur4] at S4 hcs4
        clear S3
        have HS4 := Lib.hid S4; clear S4
        go_wp2_with fail
        refine (rint_c n mm w4 R r3 2147483647 (by decide) HS4.out.cu).mono ?_
        cases hi : rdInt 2147483647 r3 with
        | none =>
          rintro e w5 ⟨rfl, hM⟩
          exact ⟨rfl, BlkPost.no (by simp [rdBlock, hn, hp, hs, hi]) (HS4.out.no hM hm (by omega))⟩
        | some p =>
          obtain ⟨pr, r4⟩ := p
          rintro e w5 ⟨rfl, hC5, hM⟩
          have HS5 := Lib.hid (HS4.out.move hC5 hM); clear HS4 hC5 hM
          go_wp2_with fail
          refine (rint_c n mm w5 R r4 2147483647 (by decide) HS5.out.cu).mono ?_
          cases hj : rdInt 2147483647 r4 with
          | none =>
            rintro e w6 ⟨rfl, hM⟩
            exact ⟨rfl, BlkPost.no (by simp [rdBlock, hn, hp, hs, hi, hj]) (HS5.out.no hM hm (by omega))⟩
          | some p =>
            obtain ⟨rd, r5⟩ := p
            rintro e w6 ⟨rfl, hC6, hM⟩
            have S6 := HS5.out.move hC6 hM
            clear HS5 hC6 hM
            have hc65 : cur4[65]? = some (.int .i64 0) := by
              rw [← hcur4, lay_get (by omega) (by omega), ← hcur3, lay_get (by omega) (by omega), ← hcur2, Array.getElem?_setIfInBounds_ne (by decide)]; exact HP.out.2.1
            have hc66 : cur4[66]? = some (.int .i64 0) := by
              rw [← hcur4, lay_get (by omega) (by omega), ← hcur3, lay_get (by omega) (by omega), ← hcur2, Array.getElem?_setIfInBounds_ne (by decide)]; exact HP.out.2.2.1
            have hc67 : cur4[67]? = some (.slice none 0 0) := by
              rw [← hcur4, lay_get (by omega) (by omega), ← hcur3, lay_get (by omega) (by omega), ← hcur2, Array.getElem?_setIfInBounds_ne (by decide)]; exact HP.out.2.2.2
            have y0 := S6.cell hc65
            have y1 := S6.cell hc66
            have y2 := S6.frozen 65
            have y3 := S6.frozen 66
            have HS6 := Lib.hid S6; clear S6
            have H67 := Lib.hid hc67; clear hc65 hc66 hc67
            go_wp2_with fail
            have S7 := (HS6.out.set 65 (.int .i64 (pr : Int))).set 66 (.int .i64 (rd : Int))
            obtain ⟨W7, hW7⟩ : ∃ W, (w6.setCell ⟨w.heap.size, 65, none⟩ (.int .i64 (pr : Int))).setCell ⟨w.heap.size, 66, none⟩ (.int .i64 (rd : Int)) = W := ⟨_, rfl⟩
            rw [hW7] at S7 ⊢
            obtain ⟨cur7, hcur7⟩ : ∃ c, (cur4.setIfInBounds 65 (.int .i64 (pr : Int))).setIfInBounds 66 (.int .i64 (rd : Int)) = c := ⟨_, rfl⟩
            rw [hcur7] at S7
            have hcs7 : cur7.size = 68 := by rw [← hcur7]; simpa using hcs4
            have hc67 : cur7[67]? = some (.slice none 0 0) := by
              rw [← hcur7, Array.getElem?_setIfInBounds_ne (by decide), Array.getElem?_setIfInBounds_ne (by decide)]; exact H67.out
            clear hW7 y0 y1 y2 y3 HS6
            cases r5 with
            | nil =>
              refine (next_no n mm W7 R S7.cu).mono ?_
              rintro e w8 ⟨rfl, hM⟩
              exact ⟨rfl, BlkPost.no (by simp [rdBlock, hn, hp, hs, hi, hj]) (S7.no hM hm (by omega))⟩
            | cons x r6 =>
              refine (next_yes n mm W7 R x r6 S7.cu).mono ?_
              rintro e w8 ⟨f, A1, k1, cp1, B1, m1, d1, rfl, hL, hC8, hM⟩
              have hL' : Hid (Lies n mm w8 x (.bool f) (.slice A1 k1 cp1) (.slice B1 m1 d1)) := Lib.hid hL
              have HS8 := Lib.hid (S7.move hC8 hM); clear S7 hC8 hM hL
              have hmw8 : mm ≤ w8.heap.size := by have := HS8.out.cu.lt; omega
              go_wp2_with fail
              cases x with
              | str sx =>
                refine (list_no sx n _ _ _ w8 hL'.out.here).mono ?_
                rintro e w9 ⟨rfl, hb9⟩
                exact ⟨rfl, BlkPost.no (by simp [rdBlock, hn, hp, hs, hi, hj]) (HS8.out.no (Moves.of_below hb9) hm (by omega))⟩
              | list tl =>
                refine (list_yes tl n mm _ _ _ w8 hmw8 hL'.out).mono ?_
                rintro e w9 ⟨R2, rfl, hR2, hC9, hb9⟩
                have HS9 := Lib.hid (HS8.out.move (HS8.out.cu.below hb9) (Moves.of_below hb9))
                have htl : tl.length ≤ 1000000 := HBIG.out (.list tl) (rdNumber_mem hn _ (rdInto_mem hp _ (rdInto_mem hs _ (rdInt_mem hi _ (rdInt_mem hj _ (List.mem_cons_self)))))) tl rfl
                have hBR2 : w.heap.size < R2 := by have := (Array.getElem?_eq_some_iff.1 HS8.out.hp).1; omega
                have I0 : TxI n mm m R w.heap.size R2 w9.heap.size w r6 cur7 tl [] (.slice none 0 0) w9 :=
                  ⟨hC9, HS9.out.cu, by rw [HS9.out.hp]; congr 2; exact (setSame hc67).symm, ⟨[], World.ownsRow_nil _ _ _ _, rfl⟩, HS9.out.mv.below hm (by omega) (by omega), Nat.le_refl _⟩
                have HI0 := Lib.hid I0; clear I0
                have HC9 := Lib.hid hC9; clear hC9 HS8 hb9 HS9
                have H67 := Lib.hid hc67; clear hc67
                have H68 := Lib.hid hcs7; clear hcs7
                have HN := Lib.hid (And.intro hn (And.intro hp (And.intro hs (And.intro hi hj)))); clear hn hp hs hi hj
                have HFIN : Hid (∀ v, cur7.setIfInBounds 67 v = (blkCells ⟨h, pv, sv, pr, rd, []⟩ v).toArray) := by
                  refine Lib.hid fun v => ?_
                  rw [← hcur7, ← hcur4, ← hcur3, ← hcur2]
                  exact blk_fin cur hcs _ _ _ v pv sv hpl hsl
                clear hcur2 hcur3 hcur4 hcur7 hcs hcs2 hcs3 hcs4
                go_wp2_with fail
                go_loopw [25] (fun _ wr => ∃ (l : List It) (txs : List (List UInt8)) (v : Value), Hid (TxI n mm m R w.heap.size R2 w9.heap.size w r6 cur7 l txs v wr) ∧ rdStrs tl = (rdStrs l).map (txs ++ ·) ∧ txs.length + l.length = tl.length)
                  (fun _ wr => leftAt R2 wr)
                case atStart => exact ⟨tl, [], _, HI0, by simp, by simp⟩
                case round =>
                  obtain ⟨l, txs, v, HI, hstr, hln⟩ := hrel
                  cases l with
                  | nil =>
                    obtain ⟨A, cap, cs, hh, _⟩ := HI.out.c2
                    have z0 : wr.cell? ⟨R2, 0, none⟩ = some (.slice A 0 cap) := by simp [World.cell?, hh]
                    clear hh
                    go_wp2_with fail
                    cases r6 with
                    | cons y r7 =>
                      refine (end_no n mm wr R y r7 HI.out.c1).mono ?_
                      rintro e w10 ⟨rfl, rfl⟩
                      refine ⟨rfl, BlkPost.no ?_ HI.out.be⟩
                      obtain ⟨h1, h2, h3, h4, h5⟩ := HN.out
                      simp [rdBlock, h1, h2, h3, h4, h5]
                    | nil =>
                      refine (end_yes n mm wr R HI.out.c1).mono ?_
                      rintro e w10 ⟨rfl, rfl⟩
                      obtain ⟨fin, hfin⟩ : ∃ c, cur7.setIfInBounds 67 v = c := ⟨_, rfl⟩
                      have hfs : fin.size = 68 := by rw [← hfin, Array.size_setIfInBounds]; exact H68.out
                      have hhp := HI.out.hp
                      rw [hfin] at hhp
                      have hgr : w10.rangeAt w.heap.size 0 fin.toList := fun j u hj => by
                        rw [Nat.zero_add]; exact cell_of_heap hhp (by simpa using hj)
                      have hth : w10.there w.heap.size 0 fin.size := fun j hj => by
                        rw [Nat.zero_add]
                        exact ⟨by rw [cell_of_heap hhp (Array.getElem?_eq_getElem hj)]; rfl, by simp [World.frozen?, hhp]⟩
                      have h1c : fin.all (·.oneCell') = true := by
                        obtain ⟨vals, hown, _⟩ := HI.out.own
                        obtain ⟨Av, cpv, rfl, _⟩ := own_slice hown
                        rw [← hfin, HFIN.out]
                        rw [Array.all_eq_true_iff_forall_mem]
                        intro u hu
                        exact blkCells_one _ rfl u (by simpa using hu)
                      have hself : w10.setCells w.heap.size 0 fin.toList = w10 := setCells_self hhp _ 0 (fun j u hj => by rw [Nat.zero_add]; simpa using hj)
                      have HF := Lib.hid (And.intro hfin hhp); clear hfin hhp
                      go_wp2_with (first
                        | (refine wpList_load_mid rfl 27 _ rfl w.heap.size 0 rfl fin.toList _ hgr Try.underlying27 rfl (by rw [Array.length_toList, hfs]; kernel_rfl) ?_)
                        | (refine wpList_store_mid rfl 27 _ _ rfl w.heap.size 0 fin rfl (by simp [Act.eval, Act.put]) hth (by rw [hfs]; kernel_rfl) h1c ?_; rw [hself]))
                      refine bodyPost_ret (v := .agg fin) ?_ rfl ?_
                      · have hlv := run_loadVar_mid (P := Try.prog) w10 w.heap.size 0 27 fin.toList _ hgr Try.underlying27 rfl (by rw [Array.length_toList, hfs]; kernel_rfl)
                        have hfl : fin.toList.toArray = fin := by simp
                        rw [hfl] at hlv
                        exact results_cell (p := ⟨w.heap.size, 0, none⟩) Try.results37 (by simp [Act.put]) hlv
                      · obtain ⟨vals, hown, hvals⟩ := HI.out.own
                        obtain ⟨h1, h2, h3, h4, h5⟩ := HN.out
                        have h6 : rdStrs tl = some txs := by rw [hstr]; simp [rdStrs]
                        have hb : rdBlock its = some ⟨h, pv, sv, pr, rd, txs⟩ := by simp [rdBlock, h1, h2, h3, h4, h5, h6]
                        unfold BlkPost
                        rw [hb]
                        refine ⟨v, vals, w9.heap.size, ?_, ?_, hown, hvals, HI.out.be⟩
                        · rw [← HF.out.1, HFIN.out]; rfl
                        · have := HC9.out.lt; omega
                  | cons x l' =>
                    obtain ⟨q, hq⟩ : ∃ q, q = l'.length := ⟨_, rfl⟩
                    obtain ⟨A, cap, cs, hh, _⟩ := HI.out.c2
                    rw [List.length_cons, ← hq] at hh
                    have z0 : wr.cell? ⟨R2, 0, none⟩ = some (.slice A (q + 1) cap) := by simp [World.cell?, hh]
                    have hd : decide ((0 : Int) < (q : Int) + 1) = true := by rw [decide_eq_true_iff]; omega
                    have hd2 : (0 : Int) < (q : Int) + 1 := by omega
                    have HQ := Lib.hid hq
                    clear hh hq
                    have HSTR := Lib.hid (And.intro hstr hln); clear hstr hln
                    go_wp2_with fail
                    refine (next_yes n mm wr R2 x l' HI.out.c2).mono ?_
                    rintro e w10 ⟨f, A1, k1, cp1, B1, m1, d1, rfl, hL, hC10, hM⟩
                    have HL := Lib.hid hL
                    have HK := Lib.hid (And.intro hC10 hM); clear hL hC10 hM
                    cases x with
                    | list sl =>
                      obtain rfl : f = true := by have h := HL.out.here; simp only [ItemR] at h; have := h.1; injection this
                      go_wp2_with fail
                      refine (need_f _).mono ?_
                      rintro e w11 ⟨rfl, rfl⟩
                      refine ⟨rfl, BlkPost.no ?_ ?_⟩
                      · obtain ⟨h1, h2, h3, h4, h5⟩ := HN.out
                        have h6 := HSTR.out.1
                        simp only [rdStrs, Option.map_none] at h6
                        cases r6 <;> simp [rdBlock, h1, h2, h3, h4, h5, h6]
                      · refine HI.out.be.trans ((Moves.of_below (bnew w10 _)).below (R := R2) (by omega) ?_ |> fun hb => Below.trans (HK.out.2.below (by omega) HI.out.c2.lt) hb)
                        exact HK.out.1.lt
                    | str sx =>
                      obtain ⟨rfl, rfl⟩ : f = false ∧ k1 = sx.length := by
                        have h := HL.out.here; simp only [ItemR] at h; obtain ⟨h1, ⟨A, cp, h2, _⟩, _⟩ := h; injection h1 with h1; injection h2 with _ h2 _; exact ⟨h1, by omega⟩
                      go_wp2_with fail
                      refine (need_t _).mono ?_
                      rintro e w11 ⟨rfl, rfl⟩
                      obtain ⟨iS, hiS, hzS0, hzS1, hzS2⟩ := info_parts slice_info
                      obtain ⟨vals, hown, hvals⟩ := HI.out.own
                      have hR2N : R2 < w9.heap.size := HC9.out.lt
                      obtain ⟨Av, cpv, hv, _, _, hvb0⟩ := own_slice hown
                      have hvb : ∀ k, v.ownBlock = some k → w9.heap.size ≤ k := by
                        intro k hk
                        rcases hvb0 with hh | ⟨g, hh, h1, _⟩
                        · rw [hh] at hk; cases hk
                        · rw [hh] at hk; cases hk; exact h1
                      have hown10 : w10.ownsRow w9.heap.size 31 1 v txs.length vals := by
                        refine hown.kept HK.out.2 ?_
                        rcases hvb0 with hh | ⟨g, hh, h1, _⟩
                        · exact .inl hh
                        · right; rw [hh]; intro e; injection e with e; omega
                      have hlen : txs.length + 1 ≤ 1000000 := by have := HSTR.out.2; simp at this; omega
                      have hs10 : w9.heap.size ≤ w10.heap.size := Nat.le_trans HI.out.sz HK.out.2.size
                      have hB10 : w10.heap[w.heap.size]? = some (.cells (cur7.setIfInBounds 67 v) 27 (0, 0)) :=
                        (HK.out.2.block _ (by have := (Array.getElem?_eq_some_iff.1 HI.out.hp).1; exact this) (by intro e; injection e; omega)).trans HI.out.hp
                      have hv67 : (cur7.setIfInBounds 67 v)[67]? = some v := by
                        rw [Array.getElem?_setIfInBounds_self]
                        rw [if_pos (Array.getElem?_eq_some_iff.1 H67.out).1]
                      have hBlt : w.heap.size < w10.heap.size := (Array.getElem?_eq_some_iff.1 hB10).1
                      subst hv
                      have x0 : w10.cell? ⟨w.heap.size, 67, none⟩ = some (.slice Av txs.length cpv) := cell_of_heap hB10 hv67
                      obtain ⟨v', w4, happ, hown4, hgrow4, hblk4⟩ := run_append_rd (P := Try.prog) ((w10.alloc (.cells #[.bool false, .slice A1 sx.length cp1, .slice B1 m1 d1] 50)).alloc (.cells #[.slice A1 sx.length cp1] 31)) w9.heap.size 25 25 31 iS _ 1 24 Try.underlying25 hiS hzS0 hzS1 hzS2 rfl (by decide) _ txs.length vals
                        (own_below hown10 (bnew2 _ _ _)) 0 (some ⟨w10.heap.size + 1, 0, none⟩) 1 1 [.slice A1 sx.length cp1] rfl
                        (Or.inr ⟨_, _, Nat.zero_le _, rfl, fun k hk => by
                          obtain rfl : k = 0 := by simpa using hk
                          simp [go_sem]⟩) (by simp [Value.oneCell']) (by unfold maxLen; omega) (by omega) (by simp; omega) (fun h => by cases h)
                      obtain ⟨g', cap', rfl⟩ := ownsRow_succ hown4
                      have hkB : w4.heap[w.heap.size]? = some (.cells (cur7.setIfInBounds 67 (.slice Av txs.length cpv)) 27 (0, 0)) := by
                        refine (hgrow4.block _ (by simp; omega) (fun e => by have := hvb _ e.symm; omega)).trans ?_
                        rw [Below.heap_alloc _ _ _ (by simp; omega), Below.heap_alloc _ _ _ hBlt]; exact hB10
                      have x1 : w4.cell? ⟨w.heap.size, 67, none⟩ = some (.slice Av txs.length cpv) := cell_of_heap hkB hv67
                      have x2 : w4.frozen? ⟨w.heap.size, 67, none⟩ = false := by simp [World.frozen?, hkB]
                      have hstep := Lib.hid (TxI.step HI.out hm hmR hR hBR2 hR2N HK.out.1 HK.out.2 HL.out hvals hvb hown4 hgrow4)
                      have HA := Lib.hid (And.intro hown4 (And.intro hgrow4 hblk4)); clear hown4 hgrow4 hblk4 hown hown10 hvals hvb0 hvb hB10 hkB hv67 hiS hzS0 hzS1 hzS2
                      have HAPP := Lib.hid happ; clear happ
                      go_wp2_with (first
                        | (at_builtin; refine wpList_append_known rfl _ _ _ rfl _ _ (by simp [Act.eval, Act.put]) (by simp [Act.eval, Act.put]) HAPP.out ?_))
                      refine ⟨⟨l', txs ++ [sx], _, hstep, ?_, ?_⟩, ?_⟩
                      · rw [HSTR.out.1]
                        simp [rdStrs, Option.map_map, Function.comp_def]
                      · have := HSTR.out.2; simp at this ⊢; omega
                      · rw [leftAt_eq hstep.out.c2, leftAt_eq HI.out.c2]; simp
end Go.Proofs.Ytildkoabfdfjlaa
