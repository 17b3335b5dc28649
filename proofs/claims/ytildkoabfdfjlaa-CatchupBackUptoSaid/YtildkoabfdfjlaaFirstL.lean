/- first's list case, and first at every depth. -/
import Derived.Test.YtildkoabfdfjlaaParts
import Derived.Test.YtildkoabfdfjlaaRound
set_option linter.all false
namespace Go.Proofs.Ytildkoabfdfjlaa
open Go.RowKit
open Rlp (It)
attribute [local go_sem] Oper.semAt_some

mutual
theorem ItemR.keep {n : Nat} {w w' : World} (hk : ∀ b o v, n ≤ b → w.cell? ⟨b, o, none⟩ = some v → w'.cell? ⟨b, o, none⟩ = some v) : ∀ (x : It) (c0 c1 c2 : Value), ItemR n w x c0 c1 c2 → ItemR n w' x c0 c1 c2
  | .str l, c0, c1, c2, h => by
    simp only [ItemR] at h ⊢
    obtain ⟨h1, ⟨A, cap, h2, h3, h4⟩, h5⟩ := h
    exact ⟨h1, ⟨A, cap, h2, h3, h4.keep hk⟩, h5⟩
  | .list its, c0, c1, c2, h => by
    simp only [ItemR] at h ⊢
    obtain ⟨h1, h2, A, cap, cs, h3, h4, h5, h6⟩ := h
    exact ⟨h1, h2, A, cap, cs, h3, h4, h5.keep hk, ItemsR.keep hk its cs h6⟩
theorem ItemsR.keep {n : Nat} {w w' : World} (hk : ∀ b o v, n ≤ b → w.cell? ⟨b, o, none⟩ = some v → w'.cell? ⟨b, o, none⟩ = some v) : ∀ (x : List It) (cs : List Value), ItemsR n w x cs → ItemsR n w' x cs
  | [], cs, h => by simpa only [ItemsR] using h
  | x :: r, cs, h => by
    simp only [ItemsR] at h ⊢
    obtain ⟨c0, c1, c2, cs', h1, h2, h3⟩ := h
    exact ⟨c0, c1, c2, cs', h1, ItemR.keep hk x _ _ _ h2, ItemsR.keep hk r cs' h3⟩
end

/-- these items are read in whatever blocks from n on, but this one -/
def Stay (n : Nat) (W : World) (g : Option Nat) (its : List It) (cs : List Value) : Prop :=
  ∀ W' : World, (∀ k, n ≤ k → k < W.heap.size → g ≠ some k → W'.heap[k]? = W.heap[k]?) → ItemsR n W' its cs

theorem Stay.nil (n : Nat) (W : World) (g : Option Nat) : Stay n W g [] [] := fun _ _ => by simp [ItemsR]
theorem Stay.here {n : Nat} {W : World} {g : Option Nat} {its : List It} {cs : List Value} (h : Stay n W g its cs) : ItemsR n W its cs := h W fun _ _ _ _ => rfl
theorem Stay.grown {n : Nat} {W W2 : World} {g g' : Option Nat} {its : List It} {cs : List Value} (h : Stay n W g its cs) (hs : W.heap.size ≤ W2.heap.size)
    (hk : ∀ k, n ≤ k → k < W.heap.size → g ≠ some k → W2.heap[k]? = W.heap[k]?) (hg : ∀ k, k < W.heap.size → g ≠ some k → g' ≠ some k) : Stay n W2 g' its cs :=
  fun W' hk' => h W' fun k hn hlt hgk => (hk' k hn (Nat.lt_of_lt_of_le hlt hs) (hg k hlt hgk)).trans (hk k hn hlt hgk)
theorem Stay.below {n : Nat} {W W2 : World} {g : Option Nat} {its : List It} {cs : List Value} (h : Stay n W g its cs) (hb : Below W.heap.size W W2) : Stay n W2 g its cs :=
  h.grown hb.size (fun k _ hlt _ => hb.block k hlt) (fun _ _ hg => hg)
theorem Stay.one {n m : Nat} {W : World} {g : Option Nat} {x : It} {c0 c1 c2 : Value} (h : ItemR m W x c0 c1 c2) (hn : n ≤ m) (hg : ∀ k, g = some k → k < m) : Stay n W g [x] [c0, c1, c2] := by
  intro W' hk
  simp only [ItemsR]
  refine ⟨c0, c1, c2, [], rfl, ItemR.mono hn _ _ _ _ (ItemR.keep ?_ _ _ _ _ h), rfl⟩
  intro b o v hb hv
  refine (World.cell?_of_block (hk b (Nat.le_trans hn hb) (cell_lt hv) ?_)).trans hv
  intro e
  have := hg _ e
  omega
theorem Stay.put {n : Nat} {W : World} {g : Option Nat} {its : List It} {cs : List Value} (h : Stay n W g its cs) {k : Nat} (o' : Obj) (hn : k < n) : Stay n (W.putObj k o') g its cs :=
  h.grown (by simp) (fun j hj _ _ => World.putObj_heap_other (by omega)) (fun _ _ hg => hg)
/-- append, in a fence, where its run is known -/
theorem stepIn_append_run {F : Fence} {n : Nat} {P : Program} {ops : Array Oper} {o : Oper} {a : Act} {w : World} {K : Act → World → Prop} {Q : Exit → Act → World → Prop} {E : Prop} (hgd : o.guard = none) (s x : Operand) (t : TypeId)
    (ho : o.op = .call { callee := .builtin .append, args := #[s, x], argTypes := #[t, t] }) (v u : Value) (hs : a.eval s = v) (hx : a.eval x = u) {v' : Value} {w' : World}
    (hr : (Builtin.append_ #[t, t] o.type #[v, u]).run P w = .ok v' w') (h : K (a.put o.dst v') w') : if Region.wanted o (yielded ops a.tmps) = true then Oper.wpIn F n P o a w K Q else E := by
  rw [if_pos (by simp [Region.wanted, hgd])]
  refine ⟨fun f hf => ?_, ?_⟩
  · unfold Oper.about at hf
    simp [ho, resolve, Target.leads] at hf
  · rw [Oper.semAt_eq F.round a.eval o (fun c hc => by rw [ho] at hc; cases hc)]
    unfold execOp
    simp only [ho, resolve, invoke, builtin, Sem.run_bind, Sem.run_pure, Result.andThen_ok, List.map_toArray, List.map_cons, List.map_nil, hs, hx, hr]
    exact h

theorem Stay.append {n : Nat} {W : World} {g : Option Nat} {its its' : List It} {cs cs' : List Value} (h : Stay n W g its cs) (h' : Stay n W g its' cs') : Stay n W g (its ++ its') (cs ++ cs') :=
  fun W' hk => ItemsR.append (h W' hk) (h' W' hk)

theorem heap_setCell_row {W : World} {b o : Nat} {v : Value} {cur : Array Value} {t : TypeId} {f : Nat × Nat} (h : W.heap[b]? = some (.cells cur t f)) :
    (W.setCell ⟨b, o, none⟩ v).heap[b]? = some (.cells (cur.setIfInBounds o v) t f) := by
  simp [World.setCell, Array.getElem?_modify, h]
theorem heap_setCell_other {W : World} {a : Addr} {k : Nat} (v : Value) (h : k ≠ a.block) : (W.setCell a v).heap[k]? = W.heap[k]? := by
  simp [World.setCell, Array.getElem?_modify, Ne.symm h]

theorem cell_of_heap {W : World} {b k : Nat} {cur : Array Value} {t : TypeId} {f : Nat × Nat} {v : Value} (h : W.heap[b]? = some (.cells cur t f)) (hv : cur[k]? = some v) : W.cell? ⟨b, k, none⟩ = some v := by
  simp [World.cell?, h, hv]
theorem take_set3 {cur : Array Value} {cs : List Value} {n : Nat} {x y z : Value} (c0 c1 c2 : Value) (hl : cs.length = n * 3) (h : cur.toList.take ((n + 1) * 3) = cs ++ [x, y, z]) :
    (((cur.setIfInBounds (n * 3) c0).setIfInBounds (n * 3 + 1) c1).setIfInBounds (n * 3 + 2) c2).toList.take ((n + 1) * 3) = cs ++ [c0, c1, c2] := by
  simp only [Array.toList_setIfInBounds, List.take_set, h]
  rw [← hl]
  simp [List.set_append]

/-- between two rounds of first's loop -/
def LoopI (w Wr : World) (Bo : Nat) (acc : List Cit) (W : World) : Prop :=
  Below w.heap.size w W ∧ Wr.heap.size ≤ W.heap.size ∧ (∀ k, k < Wr.heap.size → k ≠ Bo → W.heap[k]? = Wr.heap[k]?) ∧
  ∃ v cs, W.heap[Bo]? = some (.cells #[.bool true, .slice none 0 0, v] 50 (0, 0)) ∧ W.ownsRow (Wr.heap.size + 2) 50 3 v acc.length cs ∧
    Stay (Wr.heap.size + 2) W v.ownBlock (acc.map (·.1)) cs

theorem LoopI.start {w Wr : World} {Bo : Nat} (hb : Below w.heap.size w Wr) (hlt : Bo < Wr.heap.size) (h : Wr.heap[Bo]? = some (.cells #[.bool true, .slice none 0 0, .slice none 0 0] 50 (0, 0))) : LoopI w Wr Bo [] Wr :=
  ⟨hb, Nat.le_refl _, fun _ _ _ => rfl, _, [], h, ⟨rfl, .inl ⟨rfl, rfl⟩⟩, Stay.nil _ _ _⟩
theorem LoopI.below {w Wr : World} {Bo : Nat} {acc : List Cit} {W1 W2 : World} (h : LoopI w Wr Bo acc W1) (hlt : Bo < Wr.heap.size) (hb : Below W1.heap.size W1 W2) : LoopI w Wr Bo acc W2 := by
  obtain ⟨h1, h2, h3, v, cs, h4, h5, h6⟩ := h
  exact ⟨h1.trans (hb.mono h1.size), Nat.le_trans h2 hb.size, fun k hk hne => (hb.block k (by omega)).trans (h3 k hk hne), v, cs, (hb.block _ (by omega)).trans h4, own_below h5 hb, h6.below hb⟩
theorem LoopI.put {w Wr : World} {Bo : Nat} {acc : List Cit} {W : World} (h : LoopI w Wr Bo acc W) (hlt : Bo < Wr.heap.size) (hwr : w.heap.size ≤ Wr.heap.size) {k : Nat} {o o' : Obj} (hk1 : Wr.heap.size ≤ k) (hk2 : k < Wr.heap.size + 2) (hk : W.heap[k]? = some o) (hc : o.isCells = false) :
    LoopI w Wr Bo acc (W.putObj k o') := by
  obtain ⟨h1, h2, h3, v, cs, h4, h5, h6⟩ := h
  have hwr : w.heap.size ≤ W.heap.size := h1.size
  refine ⟨h1.trans ?_, by simpa using h2, fun q hq hne => (World.putObj_heap_other (by omega)).trans (h3 q hq hne), v, cs, (World.putObj_heap_other (by omega)).trans h4, ownsRow_putObj h5 o' hk hc, ?_⟩
  · exact ⟨rfl, rfl, rfl, by simp, fun q hq => World.putObj_heap_other (by omega)⟩
  · exact h6.put o' (by omega)

/-- behind a round: the row has grown by one item -/
theorem round_end {w Wr W V W1 W3 : World} {Bo : Nat} {pre : List Cit} {it : It} {c0 c1 c2 : Value} {g' cap' : Nat} {v : Value} {cs : List Value} {cur : Array Value} {o1 o2 : Obj} {zc : Obj}
    (hBo : Bo < Wr.heap.size) (hwb : w.heap.size ≤ Bo) (hlt1 : Wr.heap.size + 1 < W.heap.size) (hVs : V.heap.size = W.heap.size + 1) (HW : Below w.heap.size w V)
    (HVh : ∀ k, k < W.heap.size → k ≠ Wr.heap.size + 1 → V.heap[k]? = W.heap[k]?) (hWk : ∀ k, k < Wr.heap.size → k ≠ Bo → W.heap[k]? = Wr.heap[k]?)
    (hVl : V.heap[Wr.heap.size + 1]? = some o1) (hVd : V.heap[Wr.heap.size]? = some o2)
    (hown1 : W1.ownsRow (Wr.heap.size + 2) 50 3 (.slice (some ⟨g', 0, none⟩) (pre.length + 1) cap') (pre.length + 1) (cs ++ [.bool false, .slice none 0 0, .slice none 0 0]))
    (hgrow1 : ((V.alloc zc).drew).grownBy W1 v.ownBlock) (hblk1 : (Value.slice (some ⟨g', 0, none⟩) (pre.length + 1) cap').ownBlock = v.ownBlock ∨ (Value.slice (some ⟨g', 0, none⟩) (pre.length + 1) cap').ownBlock = some ((V.alloc zc).drew).heap.size)
    (hst : Stay (Wr.heap.size + 2) V v.ownBlock (pre.map (·.1) ++ [it]) (cs ++ [c0, c1, c2])) (hvb : ∀ k, v.ownBlock = some k → k < W.heap.size) (hvb2 : ∀ k, v.ownBlock = some k → Wr.heap.size + 2 ≤ k)
    (hcs : cs.length = pre.length * 3) (hg1 : W1.heap[g']? = some (.cells cur 50 (0, 0)))
    (h3s : W3.heap.size = W1.heap.size) (h3o : W3.os = W1.os) (h3t : W3.tape = W1.tape) (h3p : W3.output = W1.output)
    (h3g : W3.heap[g']? = some (.cells (((cur.setIfInBounds (pre.length * 3) c0).setIfInBounds (pre.length * 3 + 1) c1).setIfInBounds (pre.length * 3 + 2) c2) 50 (0, 0)))
    (h3B : W3.heap[Bo]? = some (.cells #[.bool true, .slice none 0 0, .slice (some ⟨g', 0, none⟩) (pre.length + 1) cap'] 50 (0, 0)))
    (h3k : ∀ k, k ≠ g' → k ≠ Bo → W3.heap[k]? = W1.heap[k]?) :
    W3.heap[Wr.heap.size + 1]? = some o1 ∧ W3.heap[Wr.heap.size]? = some o2 ∧ LoopI w Wr Bo (pre ++ [(it, c0, c1, c2)]) W3 ∧ KpS (fun k => k < Wr.heap.size ∧ k ≠ Bo) W W3 ∧ W.heap.size ≤ W3.heap.size := by
  have hg2 : Wr.heap.size + 2 ≤ g' := by
    rcases hblk1 with h | h
    · exact hvb2 g' h.symm
    · have : g' = V.heap.size + 1 := by simpa [Value.ownBlock] using h
      omega
  have hsz1 : V.heap.size + 1 ≤ W1.heap.size := by have := hgrow1.size; simpa using this
  have hk1 : ∀ k, k < V.heap.size → v.ownBlock ≠ some k → W1.heap[k]? = V.heap[k]? := by
    intro k hk hne
    refine (hgrow1.block k (by simp; omega) (Ne.symm hne)).trans ?_
    exact Below.heap_alloc V zc k hk
  have hlow : ∀ k, k < Wr.heap.size + 2 → k ≠ Bo → W3.heap[k]? = V.heap[k]? := by
    intro k hk hne
    refine (h3k k (by omega) hne).trans (hk1 k (by omega) ?_)
    intro e
    have := hvb2 k e
    omega
  refine ⟨(hlow _ (by omega) (by omega)).trans hVl, (hlow _ (by omega) (by omega)).trans hVd, ?_, ?_, by omega⟩
  · refine ⟨?_, by omega, ?_, .slice (some ⟨g', 0, none⟩) (pre.length + 1) cap', cs ++ [c0, c1, c2], h3B, ?_, ?_⟩
    · refine HW.trans ⟨h3o.trans hgrow1.os, h3t.trans hgrow1.tape, h3p.trans hgrow1.output, by omega, fun k hk => hlow k (by omega) (by omega)⟩
    · intro k hk hne
      exact (hlow k (by omega) hne).trans ((HVh k (by omega) (by omega)).trans (hWk k hk hne))
    · refine ⟨by simp [hcs]; omega, .inr ?_⟩
      rcases hown1.2 with ⟨h1, _⟩ | ⟨g, cap2, cur2, h1, hb, h2, h3, h4, h5, h6⟩
      · cases h1
      · cases h1
        rw [hg1] at h2
        cases h2
        exact ⟨g', cap', _, by simp, hb, h3g, by simpa using h3, h4, by simpa using h5, by simpa using take_set3 c0 c1 c2 hcs h6⟩
    · rw [List.map_append]
      refine hst.grown (by omega) (fun k hn hlt hne => ?_) (fun k hlt hne => ?_)
      · refine (h3k k ?_ (by omega)).trans (hk1 k hlt hne)
        rintro rfl
        rcases hblk1 with h | h
        · exact hne h.symm
        · have : k = V.heap.size + 1 := by simpa [Value.ownBlock] using h
          omega
      · intro e
        have hgk : g' = k := by simpa [Value.ownBlock] using e
        subst hgk
        rcases hblk1 with h | h
        · exact hne h.symm
        · have : g' = V.heap.size + 1 := by simpa [Value.ownBlock] using h
          omega
  · intro k hk
    exact (hlow k (by have := hk.1; omega) hk.2).trans (HVh k (by have := hk.1; omega) (by have := hk.1; omega))

/-- what is said behind a round -/
abbrev LoopEnd (w Wr W : World) (Bo : Nat) (pre : List Cit) (it : It) (c0 c1 c2 : Value) (rec' : Loop) (W3 : World) : Prop :=
  W3.heap[Wr.heap.size + 1]? = some (.loop rec') ∧ W3.heap[Wr.heap.size]? = some (.deferred (some [])) ∧ LoopI w Wr Bo (pre ++ [(it, c0, c1, c2)]) W3 ∧ KpS (fun k => k < Wr.heap.size ∧ k ≠ Bo) W W3 ∧ W.heap.size ≤ W3.heap.size

set_option maxRecDepth 100000 in
set_option maxHeartbeats 4000000 in
theorem first_l4 (d deep : Nat) (hdd : deep + 1 + d = 16) (hf : Hid (FirstAt d (deep + 1))) (b0 : UInt8) (r : List UInt8) (n : Nat) (hn : n = r.length + 1) (hlen : n ≤ 65536) (hb : 192 ≤ b0.toNat) (hb2 : b0.toNat < 192 + 64) (A : Option Addr) (cap : Nat) (w : World) (hcap : n ≤ cap) (hrd : Rd 0 w A (bytesV (b0 :: r)))
    (h m : Nat) (ho : Hid (Rlp.opened b0 r 192 = .ok (h, m))) (hm : m ≤ n - h) (res : Except Int (It × Nat))
    (hr : Hid (res = match Rlp.parts (Rlp.first d) ((b0 :: r).drop h) m (m + 1) 0 [] with | .error e => .error e | .ok its => .ok (.list its, h + m))) :
    Calls Try.prog 55 #[.slice A n cap, .int .i64 deep] w (FirstPost w res) := by
  have HRD := Lib.hid hrd
  obtain ⟨b, o, rfl, hk⟩ := hrd.addr (by simp [bytesV])
  have h0 := hk 0 (by simp [bytesV])
  clear hk hrd
  rw [bytesV_get _ _ (by simp)] at h0
  simp only [List.getElem_cons_zero, Nat.add_zero] at h0
  have hbl := cell_lt h0
  have hd0 : 0 < n := by omega
  have hd1 : ¬ ((b0.toNat : Int) < 128) := by omega
  have hd6 : decide ((192 : Int) ≤ (b0.toNat : Int)) = true := by rw [decide_eq_true_iff]; omega
  have HN := Lib.hid hn; clear hn
  obtain ⟨hh1, hh2, hh3, hh4⟩ := opened_bd ho.out hb2
  have hd7 : decide ((m : Int) ≤ (n : Int) - (h : Int)) = true := by rw [decide_eq_true_iff]; have := HN.out; omega
  have hd8 : decide ((deep : Int) < 16) = true := by rw [decide_eq_true_iff]; omega
  obtain ⟨i0, hi0, hz0, hz1, hz2⟩ := info_parts u8_info
  have hhn : h ≤ n := by have := HN.out; omega
  have hsl : ∀ w : World, (Instr.slice 31 (.slice (some ⟨b, o, none⟩) n cap) (some (.int .i64 (h : Int))) none none).run Try.prog w = .ok (.slice (fromAddr 1 (some ⟨b, o, none⟩) cap h) (n - h) (cap - h)) w := fun w => run_slice_from w 31 5 i0 1 Try.underlying31 hi0 hz1 (some ⟨b, o, none⟩) n cap .i64 (h : Int) h rfl (by omega)
  refine calls_of_marks 100 Try.func55 rfl ?_
  simp only [Try.ntmps55, List.size_toArray, List.length_cons, List.length_nil, Nat.reduceAdd, Nat.reduceSub, Array.replicate_succ, Array.replicate_zero, List.push_toArray, List.append_toArray, List.nil_append, List.cons_append]
  gi_wp2_with fail
  refine ⟨trivial, ?_⟩
  refine (callsIn_wide.2 (ask_t _ _)).mono ?_
  rintro e w1 ⟨rfl, rfl⟩
  gi_wp2_with fail
  refine ⟨trivial, ?_⟩
  refine (callsIn_wide.2 (opened_n n b0 r HN.out 192 hb hb2 _ cap _ hcap (HRD.out.alloc _) _ ho.out)).mono ?_
  rintro e w3 ⟨rfl, hB3⟩
  obtain ⟨hk3, hk4⟩ := keptCells hB3
  gi_wp2_with fail
  refine ⟨trivial, ?_⟩
  refine (callsIn_wide.2 (ask_t _ _)).mono ?_
  rintro e w1 ⟨rfl, rfl⟩
  gi_wp2_with fail
  refine ⟨trivial, ?_⟩
  refine (callsIn_wide.2 (ask_t _ _)).mono ?_
  rintro e w1 ⟨rfl, rfl⟩
  gi_wp2_with fail
  refine ⟨trivial, ?_⟩
  refine (callsIn_wide.2 (parts_c _ _ _ _ _ _)).mono ?_
  rintro e w1 ⟨rfl, rfl⟩
  gi_wp2_with fail
  obtain ⟨Wr, hWr⟩ : ∃ Wr, (((w3.alloc (.cells #[.bool true, .slice none 0 0, .slice none 0 0] 50)).alloc (.cells #[.slice (fromAddr 1 (some ⟨b, o, none⟩) cap h) (n - h) (cap - h)] 31)).alloc (.cells #[.int .i64 (m : Int)] 3)).alloc (.cells #[.int .i64 ((deep : Int) + 1)] 3) = Wr := ⟨_, rfl⟩
  rw [hWr]
  have hln : ((b0 :: r).drop h).length = n - h := by rw [List.length_drop]; have := HN.out; simp; omega
  have hszr : Wr.heap.size = w3.heap.size + 4 := by rw [← hWr]; simp
  have hBr : Below w3.heap.size w3 Wr := by rw [← hWr]; exact bstep (bnew2 _ _ _) (bnew2 _ _ _)
  have cB : Wr.heap[w3.heap.size]? = some (.cells #[.bool true, .slice none 0 0, .slice none 0 0] 50 (0, 0)) := by
    rw [← hWr, Below.heap_alloc _ _ _ (by simp; omega), Below.heap_alloc _ _ _ (by simp; omega), Below.heap_alloc _ _ _ (by simp)]; exact World.alloc_heap_new _ _
  have cn : Wr.cell? ⟨w3.heap.size + 2, 0, none⟩ = some (.int .i64 (m : Int)) := by rw [← hWr]; simp [go_sem]
  have cb : Wr.cell? ⟨w3.heap.size + 1, 0, none⟩ = some (.slice (fromAddr 1 (some ⟨b, o, none⟩) cap h) ((b0 :: r).drop h).length (cap - h)) := by rw [← hWr, hln]; simp [go_sem]
  have cd : Wr.cell? ⟨w3.heap.size + 3, 0, none⟩ = some (.int .i64 ((deep + 1 : Nat) : Int)) := by rw [← hWr]; simp [go_sem]
  have hwr : Below w.heap.size w Wr := bstep (bstep (bnew w _) hB3) hBr
  have hrr : Rd 0 Wr (fromAddr 1 (some ⟨b, o, none⟩) cap h) (bytesV ((b0 :: r).drop h)) := by
    have := (HRD.out.below hwr).from 1 cap h (by rw [bytesV_length]; have := HN.out; simp; omega)
    simpa [bytesV, List.map_drop] using this
  have hb3 := hB3.size
  simp only [World.size_alloc] at hb3
  have cR : Wr.heap[w.heap.size]? = some (.cells #[.bool false, .slice none 0 0, .slice none 0 0] 50 (0, 0)) :=
    (hBr.block _ (by omega)).trans ((hB3.block _ (by simp)).trans (World.alloc_heap_new w _))
  clear hWr
  refine range_all rfl (enters_of Try.func64 (by kernel_rfl) rfl) (enc := encC) (fun x => rfl)
    (parts_iter d (deep + 1) hdd hf _ Wr (w3.heap.size + 2) (w3.heap.size + 1) (w3.heap.size + 3) (fromAddr 1 (some ⟨b, o, none⟩) cap h) (cap - h) ((b0 :: r).drop h) m (by omega) (by omega) (by omega) cn cb cd hrr
      (fun k => k < Wr.heap.size ∧ k ≠ w3.heap.size) ⟨by omega, by omega⟩ ⟨by omega, by omega⟩ ⟨by omega, by omega⟩ ?_ (fun k hk => hk.1))
    (fun {X Y Z} h1 h2 k hk => (h2 k hk).trans (h1 k hk)) (fun W k o' hle q hq => World.putObj_heap_other (by have := hq.1; omega)) (LoopI w Wr w3.heap.size) ?_ ?_ ?_ ?_ ?_ ?_
  · intro b' o' he
    have hbb : b' = b := by
      unfold fromAddr at he
      split at he
      · cases he; rfl
      · simp only [Option.map_some, Addr.add] at he
        split at he <;> (cases he; rfl)
    subst hbb
    exact ⟨by omega, by omega⟩
  · exact LoopI.start hwr (by omega) cB
  · exact fun acc W1 W2 hI hB => hI.below (by omega) hB
  · exact fun acc W k o' o'' hI hk1 hk2 hk hc => hI.put (by omega) hwr.size hk1 hk2 hk hc
  · intro rec pre x W0 W hpl hl hk hI hBW hsz hpx
    clear hk3 hk4 hsl cR cn cb cd cB hrr hBr hB3 HRD h0 hd0 hd1 hd6 hd7 hd8 hi0 hz0 hz1 hz2 hr ho hf HN hh1 hh2 hh3 hh4 hln
    obtain ⟨it, c0, c1, c2⟩ := x
    have hpx' : ItemR W0.heap.size W it c0 c1 c2 := hpx
    obtain ⟨f, A1, k1, cp1, B1, m1, d1, rfl, rfl, rfl⟩ := hpx'.shape
    have HP := Lib.hid hpx'; clear hpx hpx'
    obtain ⟨e1, e2, e3, v, cs, e4, e5, e6⟩ := hI
    have H3 := Lib.hid e3; clear e3
    have H6 := Lib.hid e6; clear e6
    have g4 := (hBW.block _ (by omega)).trans e4
    have g5 := own_below e5 hBW
    have hszW := hBW.size
    simp only [encC, List.zip_toArray, List.zip_cons_cons, List.zip_nil_left, List.zip_nil_right, List.foldl_toArray, List.size_toArray, List.length_cons, List.length_nil, List.foldl_cons, List.foldl_nil, List.setIfInBounds_toArray, List.set_cons_succ, List.set_cons_zero, Nat.reduceAdd]
    rw [show ∀ (f : Array Value → Nat × Value → Array Value) (b : Array Value) (x : Nat × Value), Array.foldl f b #[x] 0 1 = f b x from fun f b x => by simp]
    simp only [List.setIfInBounds_toArray, List.set_cons_succ, List.set_cons_zero]
    gi_wp2
    refine ⟨(Below.heap_alloc _ _ _ (Array.getElem?_eq_some_iff.1 hl).1).trans hl, ?_⟩
    obtain ⟨rec', hrec'⟩ : ∃ r' : Loop, r' = { rec with state := .busy } := ⟨_, rfl⟩
    have hlt1 : Wr.heap.size + 1 < W.heap.size := (Array.getElem?_eq_some_iff.1 hl).1
    obtain ⟨V, hV⟩ : ∃ V, (W.alloc (.cells #[.bool f, .slice A1 k1 cp1, .slice B1 m1 d1] 50)).putObj (Wr.heap.size + 1) (.loop rec') = V := ⟨_, rfl⟩
    rw [← hrec', hV]
    have hl' : (W.alloc (.cells #[.bool f, .slice A1 k1 cp1, .slice B1 m1 d1] 50)).heap[Wr.heap.size + 1]? = some (.loop rec) := (Below.heap_alloc _ _ _ hlt1).trans hl
    have hVs : V.heap.size = W.heap.size + 1 := by rw [← hV]; simp
    have hVh : ∀ k, k < W.heap.size → k ≠ Wr.heap.size + 1 → V.heap[k]? = W.heap[k]? := by
      intro k hk1 hk2; rw [← hV, World.putObj_heap_other hk2]; exact Below.heap_alloc _ _ _ hk1
    have hVl : V.heap[Wr.heap.size + 1]? = some (.loop rec') := by rw [← hV]; exact World.putObj_heap_same (by simp; omega)
    have hVd : V.heap[Wr.heap.size]? = some (.deferred (some [])) := (hVh _ (by omega) (by omega)).trans hk
    have hVB : V.heap[w3.heap.size]? = some (.cells #[.bool true, .slice none 0 0, v] 50 (0, 0)) := (hVh _ (by omega) (by omega)).trans g4
    have hVT : V.heap[W.heap.size]? = some (.cells #[.bool f, .slice A1 k1 cp1, .slice B1 m1 d1] 50 (0, 0)) := by
      rw [← hV, World.putObj_heap_other (by omega)]; exact World.alloc_heap_new _ _
    have hVown : V.ownsRow (Wr.heap.size + 2) 50 3 v pre.length cs := by
      rw [← hV]; exact ownsRow_putObj (own_below g5 (bnew _ _)) _ hl' rfl
    have hVst : Stay (Wr.heap.size + 2) V v.ownBlock (pre.map (·.1) ++ [it]) (cs ++ [.bool f, .slice A1 k1 cp1, .slice B1 m1 d1]) := by
      rw [← hV]
      refine Stay.put (Stay.below ?_ (bnew _ _)) _ (by omega)
      refine Stay.append (H6.out.below hBW) (Stay.one HP.out (by omega) ?_)
      intro k hk
      rcases e5.2 with ⟨rfl, _⟩ | ⟨g, cap', cur, rfl, _, hg, _⟩
      · simp [Value.ownBlock] at hk
      · have : g = k := by simpa [Value.ownBlock] using hk
        subst this
        exact (Array.getElem?_eq_some_iff.1 hg).1
    have HST := Lib.hid hVst; clear hVst
    have HW : Hid (Below w.heap.size w V) := by
      refine Lib.hid ?_
      rw [← hV]
      refine (e1.trans (hBW.mono e1.size)).trans ?_
      refine Below.trans ((bnew _ _).mono ?_) ⟨rfl, rfl, rfl, by simp, fun q hq => World.putObj_heap_other (by have := hwr.size; omega)⟩
      exact Nat.le_trans hwr.size (by omega)
    have HVh := Lib.hid hVh; clear hVh hV
    obtain ⟨iI, hiI, hzI0, hzI1, hzI2⟩ := info_parts item_info
    obtain ⟨Av, capv, hv, hv1, hv2, hv3⟩ := own_slice hVown
    have hnb : ∀ k, v.ownBlock = some k → k < W.heap.size := by
      intro k hk
      rcases g5.2 with ⟨rfl, _⟩ | ⟨g, cap', cur, rfl, _, hg, _⟩
      · simp [Value.ownBlock] at hk
      · have : g = k := by simpa [Value.ownBlock] using hk
        subst this
        exact (Array.getElem?_eq_some_iff.1 hg).1
    obtain ⟨v', W1, happ, hown1, hgrow1, hblk1⟩ := run_append_rd (P := Try.prog) ((V.alloc (.cells #[.bool false, .slice none 0 0, .slice none 0 0] 50)).drew) (Wr.heap.size + 2) 45 45 50 iI _ 3 56 Try.underlying45 hiI hzI0 hzI1 hzI2 rfl (by decide) v pre.length cs
      (own_below hVown (((Below.refl _ V).alloc (Nat.le_refl _) _).drew)) 0 (some ⟨V.heap.size, 0, none⟩) 1 1 [.bool false, .slice none 0 0, .slice none 0 0] rfl
      (Or.inr ⟨_, _, Nat.zero_le _, rfl, fun k hk => by
        have h3 : k < 3 := by simpa using hk
        match k, h3 with
        | 0, _ => simp [go_sem]
        | 1, _ => simp [go_sem]
        | 2, _ => simp [go_sem]⟩) (by simp [Value.oneCell']) (by unfold maxLen; omega) (by omega) (by simp; omega) (fun h => by cases h)
    obtain ⟨g', cap', rfl⟩ := ownsRow_succ hown1
    have hmx : Try.prog.follows .mixedOrders = true := by kernel_rfl
    subst hv
    rw [hVs] at happ
    have HAPP := Lib.hid happ; clear happ
    have q0 : V.cell? ⟨w3.heap.size, 2, none⟩ = some (.slice Av pre.length capv) := by simp [World.cell?, hVB]
    have q1 : V.cell? ⟨W.heap.size, 0, none⟩ = some (.bool f) := by simp [World.cell?, hVT]
    have q2 : V.cell? ⟨W.heap.size, 1, none⟩ = some (.slice A1 k1 cp1) := by simp [World.cell?, hVT]
    have q3 : V.cell? ⟨W.heap.size, 2, none⟩ = some (.slice B1 m1 d1) := by simp [World.cell?, hVT]
    have hcs : cs.length = pre.length * 3 := hVown.1
    have hrd1 : ∀ j u, [Value.bool false, .slice none 0 0, .slice none 0 0][j]? = some u → W1.cell? ⟨g', pre.length * 3 + j, none⟩ = some u := by
      intro j u hj
      have hlt := (List.getElem?_eq_some_iff.1 hj).1
      obtain ⟨b', o', hA', hc'⟩ := (Rd.of_own hown1).addr (by simp)
      cases hA'
      have := hc' (cs.length + j) (by simp at hlt ⊢; omega)
      rw [Nat.zero_add, List.getElem?_append_right (by omega), Nat.add_sub_cancel_left, hj, hcs] at this
      exact this
    obtain ⟨cur, hg1, hgc, hgs⟩ : ∃ cur, W1.heap[g']? = some (.cells cur 50 (0, 0)) ∧ pre.length + 1 ≤ cap' ∧ cur.size = cap' * 3 := by
      rcases hown1.2 with ⟨h1, _⟩ | ⟨g, cap2, cur, h1, _, h2, h3, _, h4, _⟩
      · cases h1
      · cases h1; exact ⟨cur, h2, h3, h4⟩
    have p0 := hrd1 0 _ rfl
    have p1 := hrd1 1 _ rfl
    have p2 := hrd1 2 _ rfl
    rw [Nat.add_zero] at p0
    have pf : ∀ k, W1.frozen? ⟨g', k, none⟩ = false := fun k => by simp [World.frozen?, hg1]
    have pf0 := pf (pre.length * 3)
    have pf1 := pf (pre.length * 3 + 1)
    have pf2 := pf (pre.length * 3 + 2)
    clear hrd1 pf
    have hgb : Wr.heap.size + 2 ≤ g' := by
      rcases hown1.2 with ⟨h1, _⟩ | ⟨g, cap2, cur2, h1, hb, _⟩
      · cases h1
      · cases h1; exact hb
    have hvb : ∀ k, (Value.slice Av pre.length capv).ownBlock = some k → Wr.heap.size + 2 ≤ k := by
      intro k hk
      rcases hv3 with h | ⟨g, h, h1, _⟩
      · rw [h] at hk; cases hk
      · rw [h] at hk; cases hk; exact h1
    have hne1 : g' ≠ w3.heap.size := by omega
    have hne2 : g' ≠ W.heap.size := by
      rcases hblk1 with h | h
      · have := hnb g' h.symm; omega
      · have : g' = V.heap.size + 1 := by simpa [Value.ownBlock] using h
        omega
    have hW1k : ∀ k, k < V.heap.size → (Value.slice Av pre.length capv).ownBlock ≠ some k → W1.heap[k]? = V.heap[k]? := by
      intro k hk hne
      refine (hgrow1.block k (by simp; omega) (Ne.symm hne)).trans ?_
      exact Below.heap_alloc V _ k hk
    have hkB : W1.heap[w3.heap.size]? = V.heap[w3.heap.size]? := hW1k _ (by omega) (fun e => by have := hvb _ e; omega)
    have hkT : W1.heap[W.heap.size]? = V.heap[W.heap.size]? := hW1k _ (by omega) (fun e => by have := hnb _ e; omega)
    have hr1 := HVh.out
    have hFA : LoopEnd w Wr W w3.heap.size pre it (.bool f) (.slice A1 k1 cp1) (.slice B1 m1 d1) rec' ((((W1.setCell ⟨g', pre.length * 3, none⟩ (.bool f)).setCell ⟨g', pre.length * 3 + 1, none⟩ (.slice A1 k1 cp1)).setCell ⟨g', pre.length * 3 + 2, none⟩ (.slice B1 m1 d1)).setCell ⟨w3.heap.size, 2, none⟩ (.slice (some ⟨g', 0, none⟩) (pre.length + 1) cap')) := by
      refine round_end (V := V) (W1 := W1) (v := .slice Av pre.length capv) (cs := cs) (cur := cur) (by omega) (by omega) hlt1 hVs HW.out HVh.out (fun k hk hne => (hBW.block k (by omega)).trans (H3.out k hk hne)) hVl hVd hown1 hgrow1 hblk1 HST.out hnb hvb hcs hg1 (by simp) rfl rfl rfl ?_ ?_ ?_
      · rw [heap_setCell_other _ (by exact hne1)]
        exact heap_setCell_row (heap_setCell_row (heap_setCell_row hg1))
      · refine (heap_setCell_row (cur := #[.bool true, .slice none 0 0, .slice Av pre.length capv]) (t := 50) (f := (0, 0)) ?_).trans (by simp)
        rw [heap_setCell_other _ (by exact hne1.symm), heap_setCell_other _ (by exact hne1.symm), heap_setCell_other _ (by exact hne1.symm), hkB, hVB]
      · intro k h1 h2
        rw [heap_setCell_other _ (by exact h2), heap_setCell_other _ (by exact h1), heap_setCell_other _ (by exact h1), heap_setCell_other _ (by exact h1)]
    have hFB : LoopEnd w Wr W w3.heap.size pre it (.bool f) (.slice A1 k1 cp1) (.slice B1 m1 d1) rec' ((((W1.setCell ⟨w3.heap.size, 2, none⟩ (.slice (some ⟨g', 0, none⟩) (pre.length + 1) cap')).setCell ⟨g', pre.length * 3, none⟩ (.bool f)).setCell ⟨g', pre.length * 3 + 1, none⟩ (.slice A1 k1 cp1)).setCell ⟨g', pre.length * 3 + 2, none⟩ (.slice B1 m1 d1)) := by
      refine round_end (V := V) (W1 := W1) (v := .slice Av pre.length capv) (cs := cs) (cur := cur) (by omega) (by omega) hlt1 hVs HW.out HVh.out (fun k hk hne => (hBW.block k (by omega)).trans (H3.out k hk hne)) hVl hVd hown1 hgrow1 hblk1 HST.out hnb hvb hcs hg1 (by simp) rfl rfl rfl ?_ ?_ ?_
      · exact heap_setCell_row (heap_setCell_row (heap_setCell_row ((heap_setCell_other _ (by exact hne1)).trans hg1)))
      · rw [heap_setCell_other _ (by exact hne1.symm), heap_setCell_other _ (by exact hne1.symm), heap_setCell_other _ (by exact hne1.symm)]
        exact (heap_setCell_row (cur := #[.bool true, .slice none 0 0, .slice Av pre.length capv]) (t := 50) (f := (0, 0)) (hkB.trans hVB)).trans (by simp)
      · intro k h1 h2
        rw [heap_setCell_other _ (by exact h1), heap_setCell_other _ (by exact h1), heap_setCell_other _ (by exact h1), heap_setCell_other _ (by exact h2)]
    have HFA := Lib.hid (And.intro hFA hFB); clear hFA hFB
    have s0 : W1.cell? ⟨w3.heap.size, 2, none⟩ = some (.slice Av pre.length capv) := (World.cell?_of_block hkB).trans q0
    have sf0 : W1.frozen? ⟨w3.heap.size, 2, none⟩ = false := by simp [World.frozen?, hkB, hVB]
    have s1 : W1.cell? ⟨W.heap.size, 0, none⟩ = some (.bool f) := (World.cell?_of_block hkT).trans q1
    have s2 : W1.cell? ⟨W.heap.size, 1, none⟩ = some (.slice A1 k1 cp1) := (World.cell?_of_block hkT).trans q2
    have s3 : W1.cell? ⟨W.heap.size, 2, none⟩ = some (.slice B1 m1 d1) := (World.cell?_of_block hkT).trans q3
    have hbA := fun k (hk : k < V.heap.size) => Below.heap_alloc V (.cells #[.bool false, .slice none 0 0, .slice none 0 0] 50) k hk
    have u1 : (V.alloc (.cells #[.bool false, .slice none 0 0, .slice none 0 0] 50)).cell? ⟨w3.heap.size, 2, none⟩ = some (.slice Av pre.length capv) := (World.cell?_of_block (hbA _ (by dsimp only; omega))).trans q0
    have u2 : (V.alloc (.cells #[.bool false, .slice none 0 0, .slice none 0 0] 50)).cell? ⟨W.heap.size, 0, none⟩ = some (.bool f) := (World.cell?_of_block (hbA _ (by dsimp only; omega))).trans q1
    have u3 : (V.alloc (.cells #[.bool false, .slice none 0 0, .slice none 0 0] 50)).cell? ⟨W.heap.size, 1, none⟩ = some (.slice A1 k1 cp1) := (World.cell?_of_block (hbA _ (by dsimp only; omega))).trans q2
    have u4 : (V.alloc (.cells #[.bool false, .slice none 0 0, .slice none 0 0] 50)).cell? ⟨W.heap.size, 2, none⟩ = some (.slice B1 m1 d1) := (World.cell?_of_block (hbA _ (by dsimp only; omega))).trans q3
    have u5 : w3.heap.size < W.heap.size + 1 := by omega
    have u6 : ¬ w3.heap.size = W.heap.size + 1 := by omega
    clear hbA hkB hkT hW1k hvb hr1
    have HNB := Lib.hid hnb; clear hnb
    have HOWN := Lib.hid (And.intro hown1 (And.intro hgrow1 hblk1)); clear hown1 hgrow1 hblk1 hiI hzI0 hzI1 hzI2
    have HVV := Lib.hid (And.intro hVown (And.intro hVB (And.intro hVT (And.intro hVl hVd)))); clear hVown hVB hVT hVl hVd
    have HG := Lib.hid (And.intro hg1 (And.intro hgc hgs)); clear hg1 hgc hgs
    have HE := Lib.hid (And.intro e1 (And.intro e2 (And.intro e4 (And.intro e5 (And.intro g4 (And.intro g5 (And.intro hBW hwr))))))); clear e1 e2 e4 e5 g4 g5 hBW hwr
    have HL := Lib.hid (And.intro hl (And.intro hk hl')); clear hl hk hl'
    refine wpIn_block ?_
    have hlt3 : (pre.length : Int) < (pre.length : Int) + 1 := by omega
    refine wpIn_region_round (by kernel_rfl) (by kernel_rfl) ?_
    refine wpAnyIn_take (i := 0) (v := ?_) rfl rfl (by kernel_rfl) (by kernel_rfl) (by kernel_rfl) (fun _ _ _ h => h) ⟨Or.inl ⟨by rfl, ?_⟩, fun _ => rfl⟩ ?_
    rotate_left
    · intro w; go_simp; (try with_reducible rfl)
    refine wpAnyIn_ready (rs := [1, 2, 4]) (by kernel_rfl) (by simp) ?_
    refine (AllReadyIn.cons rfl (fun K hK => ?_) (AllReadyIn.cons rfl (fun K hK => ?_) (AllReadyIn.cons rfl (fun K hK => ?_) AllReadyIn.nil)))
    · go_simp
      refine hK _ _ ?_
      clear hK K
      refine wpAnyIn_take (i := 3) (v := ?_) rfl rfl (by kernel_rfl) (by kernel_rfl) (by kernel_rfl) (fun _ _ _ h => h) ⟨Or.inl ⟨by rfl, ?_⟩, fun _ => rfl⟩ ?_
      rotate_left
      · intro w; go_simp; (try with_reducible rfl)
      refine wpAnyIn_ready (rs := [2, 4]) (by kernel_rfl) (by simp) ?_
      refine (AllReadyIn.cons rfl (fun K hK => ?_) (AllReadyIn.cons rfl (fun K hK => ?_) AllReadyIn.nil))
      · go_simp
        refine hK _ _ ?_
        clear hK K
        refine wpAnyIn_ready (rs := [4]) (by kernel_rfl) (by simp) ?_
        refine (AllReadyIn.cons rfl (fun K hK => ?_) AllReadyIn.nil)
        · go_simp
          refine hK _ _ ?_
          clear hK K
          refine wpAnyIn_ready (rs := [5]) (by kernel_rfl) (by simp) ?_
          refine (AllReadyIn.cons rfl (fun K hK => ?_) AllReadyIn.nil)
          · refine stepIn_append_run rfl _ _ _ rfl _ _ (by simp [Act.eval, Act.put]) (by simp [Act.eval, Act.put]) HAPP.out ?_
            go_simp
            refine hK _ _ ?_
            clear hK K
            refine wpAnyIn_take (i := 6) (v := ?_) rfl rfl (by kernel_rfl) (by kernel_rfl) (by kernel_rfl) (fun _ _ _ h => h) ⟨Or.inl ⟨by rfl, ?_⟩, fun _ => rfl⟩ ?_
            rotate_left
            · intro w; go_simp; (try with_reducible rfl)
            refine wpAnyIn_take (i := 8) (v := ?_) rfl rfl (by kernel_rfl) (by kernel_rfl) (by kernel_rfl) (fun _ _ _ h => h) ⟨Or.inl ⟨by rfl, ?_⟩, fun _ => rfl⟩ ?_
            rotate_left
            · intro w; go_simp; (try with_reducible rfl)
            refine wpAnyIn_ready (rs := [7, 9]) (by kernel_rfl) (by simp) ?_
            refine (AllReadyIn.cons rfl (fun K hK => ?_) (AllReadyIn.cons rfl (fun K hK => ?_) AllReadyIn.nil))
            · go_simp
              refine hK _ _ ?_
              clear hK K
              refine wpAnyIn_ready (rs := [9]) (by kernel_rfl) (by simp) ?_
              refine (AllReadyIn.cons rfl (fun K hK => ?_) AllReadyIn.nil)
              · go_simp
                refine hK _ _ ?_
                clear hK K
                refine wpAnyIn_done (by kernel_rfl) ?_ _
                exact ⟨rfl, HFA.out.1⟩
            · go_simp
              refine hK _ _ ?_
              clear hK K
              refine wpAnyIn_ready (rs := [7]) (by kernel_rfl) (by simp) ?_
              refine (AllReadyIn.cons rfl (fun K hK => ?_) AllReadyIn.nil)
              · go_simp
                refine hK _ _ ?_
                clear hK K
                refine wpAnyIn_done (by kernel_rfl) ?_ _
                exact ⟨rfl, HFA.out.2⟩
      · go_simp
        refine hK _ _ ?_
        clear hK K
        refine wpAnyIn_ready (rs := [2]) (by kernel_rfl) (by simp) ?_
        refine (AllReadyIn.cons rfl (fun K hK => ?_) AllReadyIn.nil)
        · go_simp
          refine hK _ _ ?_
          clear hK K
          refine wpAnyIn_ready (rs := [5]) (by kernel_rfl) (by simp) ?_
          refine (AllReadyIn.cons rfl (fun K hK => ?_) AllReadyIn.nil)
          · refine stepIn_append_run rfl _ _ _ rfl _ _ (by simp [Act.eval, Act.put]) (by simp [Act.eval, Act.put]) HAPP.out ?_
            go_simp
            refine hK _ _ ?_
            clear hK K
            refine wpAnyIn_take (i := 6) (v := ?_) rfl rfl (by kernel_rfl) (by kernel_rfl) (by kernel_rfl) (fun _ _ _ h => h) ⟨Or.inl ⟨by rfl, ?_⟩, fun _ => rfl⟩ ?_
            rotate_left
            · intro w; go_simp; (try with_reducible rfl)
            refine wpAnyIn_take (i := 8) (v := ?_) rfl rfl (by kernel_rfl) (by kernel_rfl) (by kernel_rfl) (fun _ _ _ h => h) ⟨Or.inl ⟨by rfl, ?_⟩, fun _ => rfl⟩ ?_
            rotate_left
            · intro w; go_simp; (try with_reducible rfl)
            refine wpAnyIn_ready (rs := [7, 9]) (by kernel_rfl) (by simp) ?_
            refine (AllReadyIn.cons rfl (fun K hK => ?_) (AllReadyIn.cons rfl (fun K hK => ?_) AllReadyIn.nil))
            · go_simp
              refine hK _ _ ?_
              clear hK K
              refine wpAnyIn_ready (rs := [9]) (by kernel_rfl) (by simp) ?_
              refine (AllReadyIn.cons rfl (fun K hK => ?_) AllReadyIn.nil)
              · go_simp
                refine hK _ _ ?_
                clear hK K
                refine wpAnyIn_done (by kernel_rfl) ?_ _
                exact ⟨rfl, HFA.out.1⟩
            · go_simp
              refine hK _ _ ?_
              clear hK K
              refine wpAnyIn_ready (rs := [7]) (by kernel_rfl) (by simp) ?_
              refine (AllReadyIn.cons rfl (fun K hK => ?_) AllReadyIn.nil)
              · go_simp
                refine hK _ _ ?_
                clear hK K
                refine wpAnyIn_done (by kernel_rfl) ?_ _
                exact ⟨rfl, HFA.out.2⟩
    · go_simp
      refine hK _ _ ?_
      clear hK K
      refine wpAnyIn_ready (rs := [1, 4]) (by kernel_rfl) (by simp) ?_
      refine (AllReadyIn.cons rfl (fun K hK => ?_) (AllReadyIn.cons rfl (fun K hK => ?_) AllReadyIn.nil))
      · go_simp
        refine hK _ _ ?_
        clear hK K
        refine wpAnyIn_take (i := 3) (v := ?_) rfl rfl (by kernel_rfl) (by kernel_rfl) (by kernel_rfl) (fun _ _ _ h => h) ⟨Or.inl ⟨by rfl, ?_⟩, fun _ => rfl⟩ ?_
        rotate_left
        · intro w; go_simp; (try with_reducible rfl)
        refine wpAnyIn_ready (rs := [4]) (by kernel_rfl) (by simp) ?_
        refine (AllReadyIn.cons rfl (fun K hK => ?_) AllReadyIn.nil)
        · go_simp
          refine hK _ _ ?_
          clear hK K
          refine wpAnyIn_ready (rs := [5]) (by kernel_rfl) (by simp) ?_
          refine (AllReadyIn.cons rfl (fun K hK => ?_) AllReadyIn.nil)
          · refine stepIn_append_run rfl _ _ _ rfl _ _ (by simp [Act.eval, Act.put]) (by simp [Act.eval, Act.put]) HAPP.out ?_
            go_simp
            refine hK _ _ ?_
            clear hK K
            refine wpAnyIn_take (i := 6) (v := ?_) rfl rfl (by kernel_rfl) (by kernel_rfl) (by kernel_rfl) (fun _ _ _ h => h) ⟨Or.inl ⟨by rfl, ?_⟩, fun _ => rfl⟩ ?_
            rotate_left
            · intro w; go_simp; (try with_reducible rfl)
            refine wpAnyIn_take (i := 8) (v := ?_) rfl rfl (by kernel_rfl) (by kernel_rfl) (by kernel_rfl) (fun _ _ _ h => h) ⟨Or.inl ⟨by rfl, ?_⟩, fun _ => rfl⟩ ?_
            rotate_left
            · intro w; go_simp; (try with_reducible rfl)
            refine wpAnyIn_ready (rs := [7, 9]) (by kernel_rfl) (by simp) ?_
            refine (AllReadyIn.cons rfl (fun K hK => ?_) (AllReadyIn.cons rfl (fun K hK => ?_) AllReadyIn.nil))
            · go_simp
              refine hK _ _ ?_
              clear hK K
              refine wpAnyIn_ready (rs := [9]) (by kernel_rfl) (by simp) ?_
              refine (AllReadyIn.cons rfl (fun K hK => ?_) AllReadyIn.nil)
              · go_simp
                refine hK _ _ ?_
                clear hK K
                refine wpAnyIn_done (by kernel_rfl) ?_ _
                exact ⟨rfl, HFA.out.1⟩
            · go_simp
              refine hK _ _ ?_
              clear hK K
              refine wpAnyIn_ready (rs := [7]) (by kernel_rfl) (by simp) ?_
              refine (AllReadyIn.cons rfl (fun K hK => ?_) AllReadyIn.nil)
              · go_simp
                refine hK _ _ ?_
                clear hK K
                refine wpAnyIn_done (by kernel_rfl) ?_ _
                exact ⟨rfl, HFA.out.2⟩
      · go_simp
        refine hK _ _ ?_
        clear hK K
        refine wpAnyIn_ready (rs := [1]) (by kernel_rfl) (by simp) ?_
        refine (AllReadyIn.cons rfl (fun K hK => ?_) AllReadyIn.nil)
        · go_simp
          refine hK _ _ ?_
          clear hK K
          refine wpAnyIn_take (i := 3) (v := ?_) rfl rfl (by kernel_rfl) (by kernel_rfl) (by kernel_rfl) (fun _ _ _ h => h) ⟨Or.inl ⟨by rfl, ?_⟩, fun _ => rfl⟩ ?_
          rotate_left
          · intro w; go_simp; (try with_reducible rfl)
          refine wpAnyIn_ready (rs := [5]) (by kernel_rfl) (by simp) ?_
          refine (AllReadyIn.cons rfl (fun K hK => ?_) AllReadyIn.nil)
          · refine stepIn_append_run rfl _ _ _ rfl _ _ (by simp [Act.eval, Act.put]) (by simp [Act.eval, Act.put]) HAPP.out ?_
            go_simp
            refine hK _ _ ?_
            clear hK K
            refine wpAnyIn_take (i := 6) (v := ?_) rfl rfl (by kernel_rfl) (by kernel_rfl) (by kernel_rfl) (fun _ _ _ h => h) ⟨Or.inl ⟨by rfl, ?_⟩, fun _ => rfl⟩ ?_
            rotate_left
            · intro w; go_simp; (try with_reducible rfl)
            refine wpAnyIn_take (i := 8) (v := ?_) rfl rfl (by kernel_rfl) (by kernel_rfl) (by kernel_rfl) (fun _ _ _ h => h) ⟨Or.inl ⟨by rfl, ?_⟩, fun _ => rfl⟩ ?_
            rotate_left
            · intro w; go_simp; (try with_reducible rfl)
            refine wpAnyIn_ready (rs := [7, 9]) (by kernel_rfl) (by simp) ?_
            refine (AllReadyIn.cons rfl (fun K hK => ?_) (AllReadyIn.cons rfl (fun K hK => ?_) AllReadyIn.nil))
            · go_simp
              refine hK _ _ ?_
              clear hK K
              refine wpAnyIn_ready (rs := [9]) (by kernel_rfl) (by simp) ?_
              refine (AllReadyIn.cons rfl (fun K hK => ?_) AllReadyIn.nil)
              · go_simp
                refine hK _ _ ?_
                clear hK K
                refine wpAnyIn_done (by kernel_rfl) ?_ _
                exact ⟨rfl, HFA.out.1⟩
            · go_simp
              refine hK _ _ ?_
              clear hK K
              refine wpAnyIn_ready (rs := [7]) (by kernel_rfl) (by simp) ?_
              refine (AllReadyIn.cons rfl (fun K hK => ?_) AllReadyIn.nil)
              · go_simp
                refine hK _ _ ?_
                clear hK K
                refine wpAnyIn_done (by kernel_rfl) ?_ _
                exact ⟨rfl, HFA.out.2⟩
    · go_simp
      refine hK _ _ ?_
      clear hK K
      refine wpAnyIn_ready (rs := [1, 2]) (by kernel_rfl) (by simp) ?_
      refine (AllReadyIn.cons rfl (fun K hK => ?_) (AllReadyIn.cons rfl (fun K hK => ?_) AllReadyIn.nil))
      · go_simp
        refine hK _ _ ?_
        clear hK K
        refine wpAnyIn_take (i := 3) (v := ?_) rfl rfl (by kernel_rfl) (by kernel_rfl) (by kernel_rfl) (fun _ _ _ h => h) ⟨Or.inl ⟨by rfl, ?_⟩, fun _ => rfl⟩ ?_
        rotate_left
        · intro w; go_simp; (try with_reducible rfl)
        refine wpAnyIn_ready (rs := [2]) (by kernel_rfl) (by simp) ?_
        refine (AllReadyIn.cons rfl (fun K hK => ?_) AllReadyIn.nil)
        · go_simp
          refine hK _ _ ?_
          clear hK K
          refine wpAnyIn_ready (rs := [5]) (by kernel_rfl) (by simp) ?_
          refine (AllReadyIn.cons rfl (fun K hK => ?_) AllReadyIn.nil)
          · refine stepIn_append_run rfl _ _ _ rfl _ _ (by simp [Act.eval, Act.put]) (by simp [Act.eval, Act.put]) HAPP.out ?_
            go_simp
            refine hK _ _ ?_
            clear hK K
            refine wpAnyIn_take (i := 6) (v := ?_) rfl rfl (by kernel_rfl) (by kernel_rfl) (by kernel_rfl) (fun _ _ _ h => h) ⟨Or.inl ⟨by rfl, ?_⟩, fun _ => rfl⟩ ?_
            rotate_left
            · intro w; go_simp; (try with_reducible rfl)
            refine wpAnyIn_take (i := 8) (v := ?_) rfl rfl (by kernel_rfl) (by kernel_rfl) (by kernel_rfl) (fun _ _ _ h => h) ⟨Or.inl ⟨by rfl, ?_⟩, fun _ => rfl⟩ ?_
            rotate_left
            · intro w; go_simp; (try with_reducible rfl)
            refine wpAnyIn_ready (rs := [7, 9]) (by kernel_rfl) (by simp) ?_
            refine (AllReadyIn.cons rfl (fun K hK => ?_) (AllReadyIn.cons rfl (fun K hK => ?_) AllReadyIn.nil))
            · go_simp
              refine hK _ _ ?_
              clear hK K
              refine wpAnyIn_ready (rs := [9]) (by kernel_rfl) (by simp) ?_
              refine (AllReadyIn.cons rfl (fun K hK => ?_) AllReadyIn.nil)
              · go_simp
                refine hK _ _ ?_
                clear hK K
                refine wpAnyIn_done (by kernel_rfl) ?_ _
                exact ⟨rfl, HFA.out.1⟩
            · go_simp
              refine hK _ _ ?_
              clear hK K
              refine wpAnyIn_ready (rs := [7]) (by kernel_rfl) (by simp) ?_
              refine (AllReadyIn.cons rfl (fun K hK => ?_) AllReadyIn.nil)
              · go_simp
                refine hK _ _ ?_
                clear hK K
                refine wpAnyIn_done (by kernel_rfl) ?_ _
                exact ⟨rfl, HFA.out.2⟩
      · go_simp
        refine hK _ _ ?_
        clear hK K
        refine wpAnyIn_ready (rs := [1]) (by kernel_rfl) (by simp) ?_
        refine (AllReadyIn.cons rfl (fun K hK => ?_) AllReadyIn.nil)
        · go_simp
          refine hK _ _ ?_
          clear hK K
          refine wpAnyIn_take (i := 3) (v := ?_) rfl rfl (by kernel_rfl) (by kernel_rfl) (by kernel_rfl) (fun _ _ _ h => h) ⟨Or.inl ⟨by rfl, ?_⟩, fun _ => rfl⟩ ?_
          rotate_left
          · intro w; go_simp; (try with_reducible rfl)
          refine wpAnyIn_ready (rs := [5]) (by kernel_rfl) (by simp) ?_
          refine (AllReadyIn.cons rfl (fun K hK => ?_) AllReadyIn.nil)
          · refine stepIn_append_run rfl _ _ _ rfl _ _ (by simp [Act.eval, Act.put]) (by simp [Act.eval, Act.put]) HAPP.out ?_
            go_simp
            refine hK _ _ ?_
            clear hK K
            refine wpAnyIn_take (i := 6) (v := ?_) rfl rfl (by kernel_rfl) (by kernel_rfl) (by kernel_rfl) (fun _ _ _ h => h) ⟨Or.inl ⟨by rfl, ?_⟩, fun _ => rfl⟩ ?_
            rotate_left
            · intro w; go_simp; (try with_reducible rfl)
            refine wpAnyIn_take (i := 8) (v := ?_) rfl rfl (by kernel_rfl) (by kernel_rfl) (by kernel_rfl) (fun _ _ _ h => h) ⟨Or.inl ⟨by rfl, ?_⟩, fun _ => rfl⟩ ?_
            rotate_left
            · intro w; go_simp; (try with_reducible rfl)
            refine wpAnyIn_ready (rs := [7, 9]) (by kernel_rfl) (by simp) ?_
            refine (AllReadyIn.cons rfl (fun K hK => ?_) (AllReadyIn.cons rfl (fun K hK => ?_) AllReadyIn.nil))
            · go_simp
              refine hK _ _ ?_
              clear hK K
              refine wpAnyIn_ready (rs := [9]) (by kernel_rfl) (by simp) ?_
              refine (AllReadyIn.cons rfl (fun K hK => ?_) AllReadyIn.nil)
              · go_simp
                refine hK _ _ ?_
                clear hK K
                refine wpAnyIn_done (by kernel_rfl) ?_ _
                exact ⟨rfl, HFA.out.1⟩
            · go_simp
              refine hK _ _ ?_
              clear hK K
              refine wpAnyIn_ready (rs := [7]) (by kernel_rfl) (by simp) ?_
              refine (AllReadyIn.cons rfl (fun K hK => ?_) AllReadyIn.nil)
              · go_simp
                refine hK _ _ ?_
                clear hK K
                refine wpAnyIn_done (by kernel_rfl) ?_ _
                exact ⟨rfl, HFA.out.2⟩
  · intro xs W hF hI hK
    clear hk3 hk4 hsl cn cb cd cB hrr hBr hB3 HRD h0 hd0 hd1 hd6 hd7 hd8 hi0 hz0 hz1 hz2 hf HN hln
    obtain ⟨e1, e2, e3, v, cs, e4, e5, e6⟩ := hI
    obtain ⟨Av, capv, rfl, hv1, hv2, hv3⟩ := own_slice e5
    have c0 : W.cell? ⟨w3.heap.size, 0, none⟩ = some (.bool true) := by simp [World.cell?, e4]
    have c1 : W.cell? ⟨w3.heap.size, 1, none⟩ = some (.slice none 0 0) := by simp [World.cell?, e4]
    have c2 : W.cell? ⟨w3.heap.size, 2, none⟩ = some (.slice Av xs.length capv) := by simp [World.cell?, e4]
    have hRk := e3 w.heap.size (by omega) (by omega)
    have hRw := hRk.trans cR
    have r0 : W.cell? ⟨w.heap.size, 0, none⟩ = some (.bool false) := by simp [World.cell?, hRw]
    have r1 : W.cell? ⟨w.heap.size, 1, none⟩ = some (.slice none 0 0) := by simp [World.cell?, hRw]
    have r2 : W.cell? ⟨w.heap.size, 2, none⟩ = some (.slice none 0 0) := by simp [World.cell?, hRw]
    have rf0 : W.frozen? ⟨w.heap.size, 0, none⟩ = false := by simp [World.frozen?, hRw]
    have rf1 : W.frozen? ⟨w.heap.size, 1, none⟩ = false := by simp [World.frozen?, hRw]
    have rf2 : W.frozen? ⟨w.heap.size, 2, none⟩ = false := by simp [World.frozen?, hRw]
    have HE := Lib.hid (And.intro e1 (And.intro e3 (And.intro e4 (And.intro e5 (And.intro e6 (And.intro hK hRw)))))); clear e1 e3 e4 e5 e6 hRk cR hK hRw
    gi_wp2
    obtain ⟨e1, e3, e4, e5, e6, hK, hRw⟩ := HE.out
    have hD : ((((W.setCell ⟨w.heap.size, 0, none⟩ (.bool true)).setCell ⟨w.heap.size, 1, none⟩ (.slice none 0 0)).setCell ⟨w.heap.size, 2, none⟩ (.slice Av xs.length capv))).heap[Wr.heap.size]? = some (.deferred (some [])) := by
      rw [heap_setCell_other _ (by dsimp only; omega), heap_setCell_other _ (by dsimp only; omega), heap_setCell_other _ (by dsimp only; omega)]; exact hK
    refine ⟨by simp, .inl ⟨_, _, rfl, run_takeDeferred hD, ?_⟩⟩
    have z0 : ((((W.setCell ⟨w.heap.size, 0, none⟩ (.bool true)).setCell ⟨w.heap.size, 1, none⟩ (.slice none 0 0)).setCell ⟨w.heap.size, 2, none⟩ (.slice Av xs.length capv)).putObj Wr.heap.size (.deferred none)).heap[w.heap.size]? = some (.cells #[.bool true, .slice none 0 0, .slice Av xs.length capv] 50 (0, 0)) := by
      rw [World.putObj_heap_other (by omega)]
      exact (heap_setCell_row (heap_setCell_row (heap_setCell_row hRw))).trans (by simp)
    have y0 := cell_of_heap (k := 0) z0 rfl
    have y1 := cell_of_heap (k := 1) z0 rfl
    have y2 := cell_of_heap (k := 2) z0 rfl
    refine ⟨.tuple #[.agg #[.bool true, .slice none 0 0, .slice Av xs.length capv], .int .i64 ((h : Int) + (m : Int))], by simp [results, Try.results55, go_sem, y0, y1, y2], ?_⟩
    have hkk : ∀ k, w.heap.size ≠ k → Wr.heap.size ≠ k → ((((W.setCell ⟨w.heap.size, 0, none⟩ (.bool true)).setCell ⟨w.heap.size, 1, none⟩ (.slice none 0 0)).setCell ⟨w.heap.size, 2, none⟩ (.slice Av xs.length capv)).putObj Wr.heap.size (.deferred none)).heap[k]? = W.heap[k]? := by
      intro k h1 h2
      rw [World.putObj_heap_other (Ne.symm h2), heap_setCell_other _ (by exact Ne.symm h1), heap_setCell_other _ (by exact Ne.symm h1), heap_setCell_other _ (by exact Ne.symm h1)]
    have hpa : Rlp.parts (Rlp.first d) ((b0 :: r).drop h) m (m + 1) 0 [] = .ok (xs.map (·.1)) := hF
    have hres := hr.out
    rw [hpa] at hres
    rw [← Int.natCast_add]
    refine FirstPost.ok hres (ItemR.mono (n := Wr.heap.size + 2) (by omega) _ _ _ _ ?_) ?_
    · have hit := e6 _ fun k hn hlt hg => hkk k (by omega) (by omega)
      have hrw := (Rd.of_own e5).keep (w' := ((((W.setCell ⟨w.heap.size, 0, none⟩ (.bool true)).setCell ⟨w.heap.size, 1, none⟩ (.slice none 0 0)).setCell ⟨w.heap.size, 2, none⟩ (.slice Av xs.length capv)).putObj Wr.heap.size (.deferred none)))
        fun b' o' u hb' hu => (World.cell?_of_block (hkk b' (by omega) (by omega))).trans hu
      generalize ((((W.setCell ⟨w.heap.size, 0, none⟩ (.bool true)).setCell ⟨w.heap.size, 1, none⟩ (.slice none 0 0)).setCell ⟨w.heap.size, 2, none⟩ (.slice Av xs.length capv)).putObj Wr.heap.size (.deferred none)) = W4 at hit hrw ⊢
      have h1 := ItemR.mk_list (cap := capv) (by rw [List.length_map]; exact hv1) hrw hit none 0
      rwa [List.length_map] at h1
    · refine e1.trans ⟨rfl, rfl, rfl, by simp, fun k hk => hkk k (by omega) (by omega)⟩
  · intro ch xs W hE hI hK
    clear hk3 hk4 hsl cn cb cd cB hrr hBr hB3 HRD h0 hd0 hd1 hd6 hd7 hd8 hi0 hz0 hz1 hz2 hf HN hln
    gi_wp2
    have e1 := hI.1
    refine ⟨by simp, .inl ⟨_, _, rfl, run_takeDeferred hK, ?_⟩⟩
    obtain ⟨kk, rfl, hpa⟩ := hE
    have hres := hr.out
    rw [hpa] at hres
    refine FirstPost.no hres (e1.trans ⟨rfl, rfl, rfl, by simp, fun k hk => World.putObj_heap_other (by omega)⟩)
end Go.Proofs.Ytildkoabfdfjlaa
