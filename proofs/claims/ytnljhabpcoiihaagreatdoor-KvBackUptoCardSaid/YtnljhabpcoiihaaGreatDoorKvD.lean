/- Laws of the store's map at the operations, the entries written out: texts to values of one slice. The store's map; do. -/
import Derived.Test.YtnljhabpcoiihaaGreatDoorMapL
import Derived.Test.YtnljhabpcoiihaaGreatDoorKvR
import Derived.Test.YtnljhabpcoiihaaGreatDoorByt
set_option linter.all false
namespace Go.Proofs.YtnljhabpcoiihaaGreatDoor
open Go.RowKit
open Go.MapKept (IsKey Stamped run_checkKey run_findKey run_keyThatStays)

/-- a key of the store, its value, the slice that bears it, when it was laid -/
structure KEnt where
  key : List UInt8
  val : List UInt8
  v : Value
  born : Nat
def KEnt.ent (x : KEnt) : MapEntry := { key := .string ⟨x.key.toArray⟩, val := .agg #[x.v], born := x.born }
def kIdx : List KEnt → List UInt8 → Option Nat
  | [], _ => none
  | x :: r, s => if x.key = s then some 0 else (kIdx r s).map (· + 1)
theorem kIdx_some : ∀ {xs : List KEnt} {s : List UInt8} {j : Nat}, kIdx xs s = some j → ∃ h : j < xs.length, xs[j].key = s
  | [], s, j, h => by cases h
  | x :: r, s, j, h => by
    unfold kIdx at h
    split at h
    · rename_i hk
      cases h
      exact ⟨by simp, hk⟩
    · cases hr : kIdx r s with
      | none => rw [hr] at h; cases h
      | some i =>
        rw [hr] at h
        cases h
        obtain ⟨h1, h2⟩ := kIdx_some hr
        exact ⟨by simpa using h1, by simpa using h2⟩
theorem kIdx_none : ∀ {xs : List KEnt} {s : List UInt8}, kIdx xs s = none → ∀ x ∈ xs, x.key ≠ s
  | [], s, _, x, hx => by simp at hx
  | y :: r, s, h, x, hx => by
    unfold kIdx at h
    split at h
    · cases h
    · rename_i hk
      rcases List.mem_cons.1 hx with rfl | hx
      · exact hk
      · exact kIdx_none (by simpa using h) x hx

theorem find_k (s : List UInt8) : ∀ (xs : List KEnt) (i : Nat),
    Instr.findNow .string (.string ⟨s.toArray⟩) (xs.map KEnt.ent) i = some ((kIdx xs s).map fun j => (i + j, ((xs[j]?).map fun x => Value.agg #[x.v]).getD (.agg #[.slice none 0 0])))
  | [], i => rfl
  | x :: xs, i => by
    by_cases hk : x.key = s
    · simp [Instr.findNow, Instr.sameNow, KEnt.ent, bytes_ext, hk, kIdx]
    · have hr := find_k s xs (i + 1)
      have : decide (s = x.key) = false := by simp; exact fun h => hk h.symm
      simp only [List.map_cons, Instr.findNow, Instr.sameNow, KEnt.ent, bytes_ext, this, kIdx, if_neg hk]
      refine hr.trans ?_
      cases kIdx xs s with
      | none => rfl
      | some j => simp [Nat.add_assoc, Nat.add_comm 1 j]

theorem map_erase {α β : Type} {f : α → β} : ∀ (l : List α) (j : Nat), (l.eraseIdx j).map f = (l.map f).eraseIdx j
  | [], j => by simp
  | x :: r, 0 => by simp
  | x :: r, j + 1 => by simp [map_erase r j]
section
variable {P : Program} {mt kt et : TypeId} {w : World} {bm : Nat}

/-- a look-up -/
theorem look_k (hm : P.underlying mt = some (.map kt et)) (hd : P.underlying kt = some .string) (hz : ∀ w, (zeroValue et).run P w = .ok (.agg #[.slice none 0 0]) w) {clock : Nat} (xs : List KEnt)
    (hb : w.heap[bm]? = some (.map (xs.map KEnt.ent).toArray clock)) (s : List UInt8) :
    (Instr.lookup mt (.map (some bm)) (.string ⟨s.toArray⟩) true).run P w =
      .ok (.tuple #[(((kIdx xs s).bind fun j => (xs[j]?).map fun x => Value.agg #[x.v])).getD (.agg #[.slice none 0 0]), .bool (kIdx xs s).isSome]) w := by
  have hr : Instr.findNow .string (.string ⟨s.toArray⟩) ((xs.map KEnt.ent).toArray).toList 0 = _ := find_k s xs 0
  cases hi : kIdx xs s with
  | none =>
    rw [hi] at hr
    simp [Instr.lookup, run_underlying hm, Go.MapKept.run_getObj_map hb, run_checkKey (d := .string) (k := .string ⟨s.toArray⟩) hd trivial, run_findKey hd hr, hz, Result.andThen]
  | some j =>
    rw [hi] at hr
    obtain ⟨h1, h2⟩ := kIdx_some hi
    simp [Instr.lookup, run_underlying hm, Go.MapKept.run_getObj_map hb, run_checkKey (d := .string) (k := .string ⟨s.toArray⟩) hd trivial, run_findKey hd hr, Result.andThen, List.getElem?_eq_getElem h1]

/-- a key is put -/
theorem lay_k (hm : P.underlying mt = some (.map kt et)) (hd : P.underlying kt = some .string) {clock : Nat} (xs : List KEnt)
    (hb : w.heap[bm]? = some (.map (xs.map KEnt.ent).toArray clock)) (s : List UInt8) (hs : kIdx xs s = none) (v : Value) (val : List UInt8) :
    (Instr.mapUpdate mt (.map (some bm)) (.string ⟨s.toArray⟩) (.agg #[v])).run P w =
      .ok () (Go.ChangeMaps.setBlock w bm (.map ((xs ++ [(⟨s, val, v, clock⟩ : KEnt)]).map KEnt.ent).toArray (clock + 1))) := by
  have hr : Instr.findNow .string (.string ⟨s.toArray⟩) ((xs.map KEnt.ent).toArray).toList 0 = _ := find_k s xs 0
  rw [hs] at hr
  simp [Instr.mapUpdate, run_underlying hm, Go.MapKept.run_getObj_map hb, run_checkKey (d := .string) (k := .string ⟨s.toArray⟩) hd trivial, run_findKey hd hr, Go.MapKept.run_setObj_map _ hb, Result.andThen, Go.ChangeMaps.setBlock, KEnt.ent]
theorem set_k (hm : P.underlying mt = some (.map kt et)) (hd : P.underlying kt = some .string) {clock : Nat} (xs : List KEnt)
    (hb : w.heap[bm]? = some (.map (xs.map KEnt.ent).toArray clock)) (s : List UInt8) {j : Nat} (hs : kIdx xs s = some j) (v : Value) (val : List UInt8) :
    ∃ x, xs[j]? = some x ∧ (Instr.mapUpdate mt (.map (some bm)) (.string ⟨s.toArray⟩) (.agg #[v])).run P w =
      .ok () (Go.ChangeMaps.setBlock w bm (.map ((xs.set j { x with val := val, v := v }).map KEnt.ent).toArray clock)) := by
  have hr : Instr.findNow .string (.string ⟨s.toArray⟩) ((xs.map KEnt.ent).toArray).toList 0 = _ := find_k s xs 0
  rw [hs] at hr
  obtain ⟨h1, h2⟩ := kIdx_some hs
  refine ⟨xs[j], List.getElem?_eq_getElem h1, ?_⟩
  have hks := run_keyThatStays (P := P) (w := w) (d := .string) (k := .string ⟨s.toArray⟩) trivial
  simp [Instr.mapUpdate, run_underlying hm, Go.MapKept.run_getObj_map hb, run_checkKey (d := .string) (k := .string ⟨s.toArray⟩) hd trivial, run_findKey hd hr, Go.MapKept.run_setObj_map _ hb, Result.andThen, Go.ChangeMaps.setBlock, List.getElem?_eq_getElem h1, KEnt.ent, h2, hks]
  congr 2
  congr 1
  apply List.ext_getElem
  · simp
  · intro i hi1 hi2
    simp only [List.getElem_modify, List.getElem_set, List.getElem_map]
    split
    · rename_i hij
      subst hij
      simp [KEnt.ent]
    · rfl
/-- the entries without a key -/
def delE (xs : List KEnt) (s : List UInt8) : List KEnt := match kIdx xs s with | some j => xs.eraseIdx j | none => xs
/-- a key is struck -/
theorem del_k (hm : P.underlying mt = some (.map kt et)) (hd : P.underlying kt = some .string) {clock : Nat} (xs : List KEnt)
    (hb : w.heap[bm]? = some (.map (xs.map KEnt.ent).toArray clock)) (s : List UInt8) (ty kt' : TypeId) :
    (Builtin.delete_ #[mt, kt'] ty #[.map (some bm), .string ⟨s.toArray⟩]).run P w =
      .ok (.tuple #[]) (Go.ChangeMaps.setBlock w bm (.map ((delE xs s).map KEnt.ent).toArray clock)) := by
  have hr : Instr.findNow .string (.string ⟨s.toArray⟩) ((xs.map KEnt.ent).toArray).toList 0 = _ := find_k s xs 0
  unfold delE
  cases hi : kIdx xs s with
  | none =>
    rw [hi] at hr
    simp [Builtin.delete_, run_underlying hm, Go.MapKept.run_getObj_map hb, run_checkKey (d := .string) (k := .string ⟨s.toArray⟩) hd trivial, run_findKey hd hr, Go.MapKept.run_setObj_map _ hb, Result.andThen, Go.ChangeMaps.setBlock]
  | some j =>
    rw [hi] at hr
    obtain ⟨h1, h2⟩ := kIdx_some hi
    have hj : j < xs.length := h1
    simp [Builtin.delete_, run_underlying hm, Go.MapKept.run_getObj_map hb, run_checkKey (d := .string) (k := .string ⟨s.toArray⟩) hd trivial, run_findKey hd hr, Go.MapKept.run_setObj_map _ hb, Result.andThen, Go.ChangeMaps.setBlock, Array.eraseIdxIfInBounds, hj]
    congr 1
    rw [map_erase]
/-- all keys are struck -/
theorem clear_k (hm : P.underlying mt = some (.map kt et)) {es : Array MapEntry} {clock : Nat} (hb : w.heap[bm]? = some (.map es clock)) (ty : TypeId) :
    (Builtin.clear_ #[mt] ty #[.map (some bm)]).run P w = .ok (.tuple #[]) (Go.ChangeMaps.setBlock w bm (.map #[] clock)) := by
  simp [Builtin.clear_, run_underlying hm, Go.MapKept.run_getObj_map hb, Go.MapKept.run_setObj_map _ hb, Result.andThen, Go.ChangeMaps.setBlock]
end
end Go.Proofs.YtnljhabpcoiihaaGreatDoor
set_option linter.all false
namespace Go.Proofs.YtnljhabpcoiihaaGreatDoor
open Go.RowKit

/-- keys and values, in the order of the map's entries -/
abbrev KvM := List (List UInt8 × List UInt8)
def pIdx : KvM → List UInt8 → Option Nat
  | [], _ => none
  | x :: r, s => if x.1 = s then some 0 else (pIdx r s).map (· + 1)
def putK (m : KvM) (c : ChM) : KvM :=
  if c.gone = true then (match pIdx m c.key with | some j => m.eraseIdx j | none => m)
  else match pIdx m c.key with | some j => m.set j (c.key, c.val) | none => m ++ [(c.key, c.val)]
def doM (m : KvM) (l : List ChM) : KvM := l.foldl putK m
def KEnt.kv (x : KEnt) : List UInt8 × List UInt8 := (x.key, x.val)
theorem pIdx_ents (xs : List KEnt) (s : List UInt8) : pIdx (xs.map KEnt.kv) s = kIdx xs s := by
  induction xs with
  | nil => rfl
  | cons x r ih => simp only [List.map_cons, pIdx, kIdx, KEnt.kv, ← ih]

/-- a store's map, written out -/
structure MapX (w : World) (bm clock : Nat) (xs : List KEnt) : Prop where
  at_ : w.heap[bm]? = some (.map (xs.map KEnt.ent).toArray clock)
  born : ∀ x ∈ xs, x.born < clock
  nb : (xs.map (·.born)).Nodup
  each : ∀ x ∈ xs, Bs 5 w x.v x.val
def MapS (w : World) (bm : Nat) (m : KvM) : Prop := ∃ clock xs, MapX w bm clock xs ∧ xs.map KEnt.kv = m
theorem MapX.keeps {w w' : World} {bm clock : Nat} {xs : List KEnt} (h : MapX w bm clock xs) (hm : ∀ o, w.heap[bm]? = some o → w'.heap[bm]? = some o) (h8 : ∀ (b : Nat) (o : Obj), w.heap[b]? = some o → tagOf o = some 5 → w'.heap[b]? = some o) : MapX w' bm clock xs :=
  ⟨hm _ h.at_, h.born, h.nb, fun x hx => (h.each x hx).keeps h8⟩
theorem MapS.keeps {w w' : World} {bm : Nat} {m : KvM} (h : MapS w bm m) (hm : ∀ o, w.heap[bm]? = some o → w'.heap[bm]? = some o) (h8 : ∀ (b : Nat) (o : Obj), w.heap[b]? = some o → tagOf o = some 5 → w'.heap[b]? = some o) : MapS w' bm m := by
  obtain ⟨clock, xs, h1, h2⟩ := h
  exact ⟨clock, xs, h1.keeps hm h8, h2⟩
theorem MapS.below {w w' : World} {bm : Nat} {m : KvM} (h : MapS w bm m) (hb : Below w.heap.size w w') : MapS w' bm m :=
  h.keeps (fun o ho => (hb.block _ (heap_lt ho)).trans ho) fun b o ho _ => (hb.block _ (heap_lt ho)).trans ho
/-- behind the writing of the map's block -/
theorem MapX.set {w w' : World} {bm clock clock' : Nat} {xs ys : List KEnt} (h : MapX w bm clock xs) (hw : w' = Go.ChangeMaps.setBlock w bm (.map (ys.map KEnt.ent).toArray clock')) (hborn : ∀ x ∈ ys, x.born < clock') (hnb : (ys.map (·.born)).Nodup) (he : ∀ x ∈ ys, Bs 5 w x.v x.val) : MapX w' bm clock' ys := by
  subst hw
  have hlt := heap_lt h.at_
  have hk : ∀ (b : Nat) (o : Obj), w.heap[b]? = some o → b ≠ bm → (Go.ChangeMaps.setBlock w bm (.map (ys.map KEnt.ent).toArray clock')).heap[b]? = some o := fun b o hb hne => by
    simp only [Go.ChangeMaps.setBlock]; rw [Array.getElem?_setIfInBounds_ne (by omega)]; exact hb
  refine ⟨by simp only [Go.ChangeMaps.setBlock]; rw [Array.getElem?_setIfInBounds_self_of_lt hlt], hborn, hnb, fun x hx => (he x hx).keeps fun b o hb ht => hk b o hb ?_⟩
  rintro rfl
  rw [h.at_] at hb; cases hb; cases ht
theorem grown_set (w : World) (bm : Nat) (o : Obj) : w.grownBy (Go.ChangeMaps.setBlock w bm o) (some bm) :=
  ⟨rfl, rfl, rfl, by simp [Go.ChangeMaps.setBlock], fun k hk hne => by
    simp only [Go.ChangeMaps.setBlock]; rw [Array.getElem?_setIfInBounds_ne (by intro e; exact hne (by rw [e]))]⟩
theorem und_kvm : Tryz.prog.underlying 104 = some (.map 9 123) := by kernel_rfl
theorem und_str : Tryz.prog.underlying 9 = some .string := by kernel_rfl
theorem zero_val (w : World) : (zeroValue 123).run Tryz.prog w = .ok (.agg #[.slice none 0 0]) w := by kernel_rfl

theorem own_bs' {W : World} {base n : Nat} {v : Value} {l : List UInt8} (h : W.ownsRow base 5 1 v n (bytesV l)) (hn : l.length = n) : Bs 5 W v l := by
  subst hn; exact Bs.of_own h
theorem cell_keep {w w' : World} {bm : Nat} (hbm : ∃ o, w.heap[bm]? = some o ∧ tagOf o = none) (hk : ∀ (b : Nat) (o : Obj), w.heap[b]? = some o → b ≠ bm → w'.heap[b]? = some o) (b o : Nat) (v : Value) (hv : w.cell? ⟨b, o, none⟩ = some v) : w'.cell? ⟨b, o, none⟩ = some v := by
  have hlt := cell_lt hv
  have hne : b ≠ bm := by
    rintro rfl
    obtain ⟨ob, h1, h2⟩ := hbm
    simp only [World.cell?, h1] at hv
    cases ob <;> simp_all [tagOf]
  have := hk b _ (Array.getElem?_eq_getElem hlt) hne
  simp only [World.cell?, this] at hv ⊢
  rw [Array.getElem?_eq_getElem hlt] at hv
  exact hv
theorem set_keep (w : World) (bm : Nat) (o : Obj) : ∀ (b : Nat) (ob : Obj), w.heap[b]? = some ob → b ≠ bm → (Go.ChangeMaps.setBlock w bm o).heap[b]? = some ob := fun b ob hb hne => by
  simp only [Go.ChangeMaps.setBlock]; rw [Array.getElem?_setIfInBounds_ne (by omega)]; exact hb
/-- a key is struck -/
theorem del_s {w : World} {bm : Nat} {m : KvM} {c : ChM} (h : MapS w bm m) (hg : c.gone = true) (ty kt' : TypeId) :
    ∃ w', (Builtin.delete_ #[104, kt'] ty #[.map (some bm), .string ⟨c.key.toArray⟩]).run Tryz.prog w = .ok (.tuple #[]) w' ∧ MapS w' bm (putK m c) ∧
      (∀ (b : Nat) (o : Obj), w.heap[b]? = some o → b ≠ bm → w'.heap[b]? = some o) ∧ w.grownBy w' (some bm) ∧ ∃ o, w.heap[bm]? = some o ∧ tagOf o = none := by
  obtain ⟨clock, xs, hX, rfl⟩ := h
  refine ⟨_, del_k und_kvm und_str xs hX.at_ c.key ty kt', ?_, set_keep _ _ _, grown_set _ _ _, _, hX.at_, rfl⟩
  have hsub : (delE xs c.key).Sublist xs := by
    unfold delE
    split
    · exact List.eraseIdx_sublist _ _
    · exact List.Sublist.refl _
  refine ⟨clock, delE xs c.key, hX.set rfl (fun x hx => hX.born x (hsub.subset hx)) (hX.nb.sublist (hsub.map _)) fun x hx => hX.each x (hsub.subset hx), ?_⟩
  unfold delE putK
  rw [if_pos hg, pIdx_ents]
  cases kIdx xs c.key with
  | none => rfl
  | some j => exact map_erase _ _
/-- a key is put -/
theorem upd_s {w : World} {bm : Nat} {m : KvM} {c : ChM} (h : MapS w bm m) (hg : c.gone = false) (A : Option Addr) (n cp : Nat) (hv : Bs 5 w (.slice A n cp) c.val) :
    ∃ w', (Instr.mapUpdate 104 (.map (some bm)) (.string ⟨c.key.toArray⟩) (.agg #[.slice A n cp])).run Tryz.prog w = .ok () w' ∧ MapS w' bm (putK m c) ∧
      (∀ (b : Nat) (o : Obj), w.heap[b]? = some o → b ≠ bm → w'.heap[b]? = some o) ∧ w.grownBy w' (some bm) ∧ ∃ o, w.heap[bm]? = some o ∧ tagOf o = none := by
  obtain ⟨clock, xs, hX, rfl⟩ := h
  cases hi : kIdx xs c.key with
  | none =>
    refine ⟨_, lay_k und_kvm und_str xs hX.at_ c.key hi (.slice A n cp) c.val, ⟨clock + 1, _, hX.set rfl ?_ ?_ ?_, ?_⟩, set_keep _ _ _, grown_set _ _ _, _, hX.at_, rfl⟩
    · intro x hx
      rcases List.mem_append.1 hx with hx | hx
      · have := hX.born x hx; omega
      · cases List.mem_singleton.1 hx; simp
    · rw [List.map_append, List.nodup_append]
      refine ⟨hX.nb, by simp, ?_⟩
      intro a ha b hb e
      obtain ⟨x, hx, rfl⟩ := List.mem_map.1 ha
      simp at hb
      have := hX.born x hx
      omega
    · intro x hx
      rcases List.mem_append.1 hx with hx | hx
      · exact hX.each x hx
      · cases List.mem_singleton.1 hx; exact hv
    · unfold putK
      rw [if_neg (by rw [hg]; simp), pIdx_ents, hi, List.map_append]
      rfl
  | some j =>
    obtain ⟨x, hx, hrun⟩ := set_k (P := Tryz.prog) und_kvm und_str xs hX.at_ c.key hi (.slice A n cp) c.val
    obtain ⟨hj, hkey⟩ := kIdx_some hi
    have hxj : xs[j] = x := by rw [List.getElem?_eq_getElem hj] at hx; exact Option.some.inj hx
    refine ⟨_, hrun, ⟨clock, _, hX.set rfl ?_ ?_ ?_, ?_⟩, set_keep _ _ _, grown_set _ _ _, _, hX.at_, rfl⟩
    · intro y hy
      rcases List.mem_or_eq_of_mem_set hy with hy | rfl
      · exact hX.born y hy
      · exact hX.born x (hxj ▸ List.getElem_mem hj)
    · have : (xs.set j { x with val := c.val, v := .slice A n cp }).map (·.born) = xs.map (·.born) := by
        rw [List.map_set]
        apply List.ext_getElem
        · simp
        · intro i h1 h2
          rw [List.getElem_set]
          split
          · rename_i e; subst e; simp [hxj]
          · rfl
      rw [this]; exact hX.nb
    · intro y hy
      rcases List.mem_or_eq_of_mem_set hy with hy | rfl
      · exact hX.each y hy
      · exact hv
    · unfold putK
      rw [if_neg (by rw [hg]; simp), pIdx_ents, hi, List.map_set]
      simp only [KEnt.kv]
      rw [← hkey, hxj]
theorem grown_bel {w w1 w2 w3 : World} {bm : Nat} (h : w.grownBy w1 (some bm)) (hb : Below w1.heap.size w1 w2) (k : w2.grownBy w3 (some bm)) : w.grownBy w3 (some bm) :=
  ⟨(k.os.trans hb.os).trans h.os, (k.tape.trans hb.tape).trans h.tape, (k.output.trans hb.output).trans h.output, Nat.le_trans h.size (Nat.le_trans hb.size k.size), fun x hx hne => by
    have h1 := h.size
    have h2 := hb.size
    rw [k.block x (by omega) hne, hb.block x (by omega), h.block x hx hne]⟩
theorem wp_del_run {P : Program} {o : Oper} {a : Act} {w : World} {K : Act → World → Prop} {Q : Exit → Act → World → Prop} (s x : Operand) (t u : TypeId)
    (ho : o.op = .call { callee := .builtin .delete, args := #[s, x], argTypes := #[t, u] }) (v y : Value) (hs : a.eval s = v) (hx : a.eval x = y) {r : Value} {w' : World}
    (hr : (Builtin.delete_ #[t, u] o.type #[v, y]).run P w = .ok r w') (h : K (a.put o.dst r) w') : o.wp P a w K Q := by
  unfold Oper.wp execOp
  simp only [ho, resolve, invoke, builtin, Sem.run_bind, Sem.run_pure, Result.andThen_ok, List.map_toArray, List.map_cons, List.map_nil, hs, hx, hr]
  exact h

set_option maxRecDepth 100000 in
set_option maxHeartbeats 4000000 in
theorem do_c (bs bm : Nat) (m : KvM) (lp br : Value) (A : Option Addr) (n cap : Nat) (l : List ChE) (hn : n = l.length) (hm : n ≤ 1048576) (hs : ∀ x ∈ l, x.1.key.length ≤ 1099511627776 ∧ x.1.val.length ≤ 1099511627776) (w : World)
    (hS : w.heap[bs]? = some (.cells #[lp, .map (some bm), br] 106 (0, 0))) (hM : MapS w bm m) (hr : Rd 0 w A (chCells l)) (he : ChEach w l) :
    Calls Tryz.prog 57 #[.pointer (some ⟨bs, 0, none⟩), .slice A n cap] w fun e w' => (∃ v, e = .returned v) ∧ MapS w' bm (doM m (l.map (·.1))) ∧ w.grownBy w' (some bm) := by
  have HR := Lib.hid (And.intro hr (And.intro he (And.intro hn (And.intro hs hS)))); clear hr he hn hs hS
  have hbm : ∃ o, w.heap[bm]? = some o ∧ tagOf o = none := by obtain ⟨_, _, h, _⟩ := hM; exact ⟨_, h.at_, rfl⟩
  have HM := Lib.hid (And.intro hM hbm); clear hM hbm
  go_enter Tryz.func57, Tryz.ntmps57
  go_wp2_with fail
  go_loopw [8] (fun i W => ∃ k : Nat, k ≤ n ∧ i = .int .i64 (k : Int) ∧ MapS W bm (doM m ((l.take k).map (·.1))) ∧ w.grownBy W (some bm)) (fun i _ => n - (intOf i).toNat)
  case atStart => exact ⟨0, by omega, rfl, HM.out.1, World.grownBy.refl _ _⟩
  case round =>
    obtain ⟨k, hk, rfl, hMk, hG⟩ := hrel
    by_cases hlt : k < n
    · have hkd : decide ((k : Int) < (n : Int)) = true := by simpa using hlt
      have hkl : k < l.length := by rw [← HR.out.2.2.1]; exact hlt
      obtain ⟨b, o, hb, hcell⟩ := HR.out.1.addr (by rw [chCells_length]; omega)
      obtain ⟨g0, g1, g2⟩ := chCells_get l k hkl
      have q0 := (hcell (k * 3) (by rw [chCells_length]; omega)).trans g0
      have q1 := (hcell (k * 3 + 1) (by rw [chCells_length]; omega)).trans g1
      have q2 := (hcell (k * 3 + 2) (by rw [chCells_length]; omega)).trans g2
      rw [← Nat.add_assoc] at q1 q2
      have hxa := HR.out.2.1 l[k] (List.getElem_mem hkl)
      obtain ⟨hs1, hs2⟩ := HR.out.2.2.2.1 l[k] (List.getElem_mem hkl)
      have htk : doM m ((l.take (k + 1)).map (·.1)) = putK (doM m ((l.take k).map (·.1))) l[k].1 := by
        rw [List.take_succ_eq_append_getElem hkl, List.map_append]
        simp [doM]
      obtain ⟨x, hx⟩ : ∃ x, l[k] = x := ⟨_, rfl⟩
      rw [hx] at q0 q1 q2 hxa hs1 hs2 htk
      obtain ⟨cm, v1, v2⟩ := x
      obtain ⟨⟨A1, c1, e1, hc1, r1⟩, ⟨A2, c2, e2, hc2, r2⟩⟩ := hxa
      simp only at e1 e2 q0 q1 q2 r1 r2 hc1 hc2 hs1 hs2 htk
      obtain ⟨k1, hk1⟩ : ∃ x, cm.key.length = x := ⟨_, rfl⟩
      obtain ⟨k2, hk2⟩ : ∃ x, cm.val.length = x := ⟨_, rfl⟩
      obtain ⟨gn, hgn⟩ : ∃ x, cm.gone = x := ⟨_, rfl⟩
      rw [hk1] at e1 hs1
      rw [hk2] at e2 hs2
      rw [hgn] at q2
      subst e1 e2 hb
      obtain ⟨mk, hmk⟩ : ∃ x, doM m ((l.take k).map (·.1)) = x := ⟨_, rfl⟩
      rw [hmk] at hMk htk
      have hbmo := HM.out.2
      have hkg : ∀ (b : Nat) (o : Nat) (v : Value), w.cell? ⟨b, o, none⟩ = some v → wr.cell? ⟨b, o, none⟩ = some v := fun b o v hv => by
        have hlt := cell_lt hv
        have hne : b ≠ bm := by
          rintro rfl
          obtain ⟨ob, h1, h2⟩ := hbmo
          simp only [World.cell?, h1] at hv
          cases ob <;> simp_all [tagOf]
        have := hG.block b hlt (by simp; omega)
        simp only [World.cell?, this] at hv ⊢
        exact hv
      have p0 := hkg _ _ _ q0
      have p1 := hkg _ _ _ q1
      have p2 := hkg _ _ _ q2
      have hSk : wr.heap[bs]? = some (.cells #[lp, .map (some bm), br] 106 (0, 0)) := by
        have hne : bs ≠ bm := by
          rintro rfl
          obtain ⟨ob, h1, h2⟩ := hbmo
          rw [HR.out.2.2.2.2] at h1; cases h1; cases h2
        exact (hG.block bs (heap_lt HR.out.2.2.2.2) (by simp; omega)).trans HR.out.2.2.2.2
      have rk1 : Rd 0 wr A1 (bytesV cm.key) := r1.keep fun b o v _ hv => hkg b o v hv
      have rk2 : Rd 0 wr A2 (bytesV cm.val) := r2.keep fun b o v _ hv => hkg b o v hv
      have HK := Lib.hid (And.intro hMk (And.intro hG (And.intro htk (And.intro hk1 (And.intro hk2 (And.intro hgn (And.intro rk1 (And.intro rk2 hSk))))))))
      clear hMk hG htk hk1 hk2 hgn rk1 rk2 hSk q0 q1 q2 hcell g0 g1 g2 hx r1 r2 hkg hbmo hmk
      have sm := Joins.cell_of_block HK.out.2.2.2.2.2.2.2.2 1
      simp at sm
      cases gn with
      | true =>
        have hcv : (convert 29 9 (.slice A1 k1 c1)).run Tryz.prog (wr.alloc (.cells #[.slice A1 k1 c1, .slice A2 k2 c2, .bool true] 87)).drew = .ok (.string ⟨cm.key.toArray⟩) (wr.alloc (.cells #[.slice A1 k1 c1, .slice A2 k2 c2, .bool true] 87)).drew :=
          run_convert_rd 0 _ A1 k1 c1 cm.key HK.out.2.2.2.1.symm ((HK.out.2.2.2.2.2.2.1.alloc _).drew)
        have hbs : bs < wr.heap.size := heap_lt HK.out.2.2.2.2.2.2.2.2
        have sm' : (wr.alloc (.cells #[.slice A1 k1 c1, .slice A2 k2 c2, .bool true] 87)).drew.cell? ⟨bs, 1, none⟩ = some (.map (some bm)) := ((bnew wr _).drew.cell (p := ⟨bs, 1, none⟩) hbs).trans sm
        have hbx : (wr.alloc (.cells #[.slice A1 k1 c1, .slice A2 k2 c2, .bool true] 87)).drew.heap[wr.heap.size]? = some (.cells #[.slice A1 k1 c1, .slice A2 k2 c2, .bool true] 87 (0, 0)) := heap_alloc_new wr _
        have b0 := Joins.cell_of_block hbx 0
        have b1 := Joins.cell_of_block hbx 1
        simp only [List.getElem?_toArray, List.getElem?_cons_zero, List.getElem?_cons_succ] at b0 b1
        obtain ⟨W5, hdel, hM5, hk5, hg5, hbm5⟩ := del_s (HK.out.1.below (bnew wr (.cells #[.slice A1 k1 c1, .slice A2 k2 c2, .bool true] 87)).drew) HK.out.2.2.2.2.2.1 0 9
        have HDEL := Lib.hid (And.intro hdel (And.intro hM5 (And.intro hk5 (And.intro hg5 hbm5)))); clear hdel hM5 hk5 hg5 hbm5
        go_wp2_with fail
        refine wp_region_held_drew (S := (fun W => W.cell? ⟨bs, 1, none⟩ = some (.map (some bm)) ∧ W.cell? ⟨wr.heap.size, 0, none⟩ = some (.slice A1 k1 c1) ∧ W.cell? ⟨wr.heap.size, 1, none⟩ = some (.slice A2 k2 c2) ∧ (convert 29 9 (.slice A1 k1 c1)).run Tryz.prog W = .ok (.string ⟨cm.key.toArray⟩) W)) (by kernel_rfl) ?_ (fun hHeld => ?_)
        · (try dsimp only); (first | (refine ⟨?_, ?_, ?_, ?_⟩ <;> assumption) | go_keep)
        refine wpAnyH_take (i := 0) (v := ?_) rfl (by kernel_rfl) (by kernel_rfl) (by kernel_rfl) (fun _ _ _ h => h) (Or.inl ⟨by rfl, ?_⟩) hHeld ?_
        rotate_left
        · intro w hSw; (try dsimp only at hSw); go_simp; (try with_reducible rfl)
        (try simp only [Act.put, List.getElem_toArray, List.getElem_cons_succ, List.getElem_cons_zero, List.setIfInBounds_toArray, List.set_cons_zero, List.set_cons_succ])
        refine wpAnyH_take (i := 1) (v := ?_) rfl (by kernel_rfl) (by kernel_rfl) (by kernel_rfl) (fun _ _ _ h => h) (Or.inl ⟨by rfl, ?_⟩) hHeld ?_
        rotate_left
        · intro w hSw; (try dsimp only at hSw); go_simp; (try with_reducible rfl)
        (try simp only [Act.put, List.getElem_toArray, List.getElem_cons_succ, List.getElem_cons_zero, List.setIfInBounds_toArray, List.set_cons_zero, List.set_cons_succ])
        refine wpAnyH_take (i := 2) (v := ?_) rfl (by kernel_rfl) (by kernel_rfl) (by kernel_rfl) (fun _ _ _ h => h) (Or.inl ⟨by rfl, ?_⟩) hHeld ?_
        rotate_left
        · intro w hSw; (try dsimp only at hSw); go_simp; (try with_reducible rfl)
        (try simp only [Act.put, List.getElem_toArray, List.getElem_cons_succ, List.getElem_cons_zero, List.setIfInBounds_toArray, List.set_cons_zero, List.set_cons_succ])
        refine wpAnyH_take (i := 3) (v := ?_) rfl (by kernel_rfl) (by kernel_rfl) (by kernel_rfl) (fun _ _ _ h => h) (Or.inl ⟨by rfl, ?_⟩) hHeld ?_
        rotate_left
        · intro w hSw; (try dsimp only at hSw); go_simp; (try with_reducible rfl)
        (try simp only [Act.put, List.getElem_toArray, List.getElem_cons_succ, List.getElem_cons_zero, List.setIfInBounds_toArray, List.set_cons_zero, List.set_cons_succ])
        refine wpAnyH_take (i := 4) (v := ?_) rfl (by kernel_rfl) (by kernel_rfl) (by kernel_rfl) (fun _ _ _ h => h) (Or.inl ⟨by rfl, ?_⟩) hHeld ?_
        rotate_left
        · intro w hSw; (try dsimp only at hSw); go_simp; (try with_reducible rfl)
        (try simp only [Act.put, List.getElem_toArray, List.getElem_cons_succ, List.getElem_cons_zero, List.setIfInBounds_toArray, List.set_cons_zero, List.set_cons_succ])
        refine wpAnyH_take (i := 5) (v := ?_) rfl (by kernel_rfl) (by kernel_rfl) (by kernel_rfl) (fun _ _ _ h => h) (Or.inl ⟨by rfl, ?_⟩) hHeld ?_
        rotate_left
        · intro w hSw; (try dsimp only at hSw); go_simp; (try with_reducible rfl)
        (try simp only [Act.put, List.getElem_toArray, List.getElem_cons_succ, List.getElem_cons_zero, List.setIfInBounds_toArray, List.set_cons_zero, List.set_cons_succ])
        refine wpAnyH_take (i := 6) (v := ?_) rfl (by kernel_rfl) (by kernel_rfl) (by kernel_rfl) (fun _ _ _ h => h) (Or.inl ⟨by rfl, ?_⟩) hHeld ?_
        rotate_left
        · intro w hSw; (try dsimp only at hSw); go_simp; (try with_reducible rfl)
        (try simp only [Act.put, List.getElem_toArray, List.getElem_cons_succ, List.getElem_cons_zero, List.setIfInBounds_toArray, List.set_cons_zero, List.set_cons_succ])
        refine wpAnyH_ready (rs := [7]) (by kernel_rfl) (by simp) ?_
        refine (AllReadyH.cons rfl (fun K hK => ?_) AllReadyH.nil)
        refine wp_del_run _ _ _ _ rfl _ _ (by simp [Act.eval, Act.put]) (by simp [Act.eval, Act.put]) HDEL.out.1 ?_
        have z1 := cell_keep HDEL.out.2.2.2.2 HDEL.out.2.2.1 _ _ _ sm'
        have z2 := cell_keep HDEL.out.2.2.2.2 HDEL.out.2.2.1 _ _ _ b0
        have z3 := cell_keep HDEL.out.2.2.2.2 HDEL.out.2.2.1 _ _ _ b1
        have z4 := run_convert_rd 0 W5 A1 k1 c1 cm.key HK.out.2.2.2.1.symm (((HK.out.2.2.2.2.2.2.1.alloc (.cells #[.slice A1 k1 c1, .slice A2 k2 c2, .bool true] 87)).drew).keep fun b o v _ hv => cell_keep HDEL.out.2.2.2.2 HDEL.out.2.2.1 _ _ _ hv)
        refine hK.out _ _ ?_ (fun hHeld2 => ?_)
        · (try dsimp only); (first | (refine ⟨?_, ?_, ?_, ?_⟩ <;> assumption) | go_keep)
        clear hK K hHeld
        rename _ => hHeld
        (try simp only [Act.put, List.getElem_toArray, List.getElem_cons_succ, List.getElem_cons_zero, List.setIfInBounds_toArray, List.set_cons_zero, List.set_cons_succ])
        refine wpAnyH_done (by kernel_rfl) ?_ _
        clear hHeld
        rotate_left 1
        go_wp2_with fail
        refine ⟨⟨k + 1, by omega, rfl, by rw [HK.out.2.2.1]; exact HDEL.out.2.1, grown_bel HK.out.2.1 (bnew wr _).drew HDEL.out.2.2.2.1⟩, by simp [intOf]; omega⟩
      | false =>
        have hcv : (convert 29 9 (.slice A1 k1 c1)).run Tryz.prog (wr.alloc (.cells #[.slice A1 k1 c1, .slice A2 k2 c2, .bool false] 87)).drew = .ok (.string ⟨cm.key.toArray⟩) (wr.alloc (.cells #[.slice A1 k1 c1, .slice A2 k2 c2, .bool false] 87)).drew :=
          run_convert_rd 0 _ A1 k1 c1 cm.key HK.out.2.2.2.1.symm ((HK.out.2.2.2.2.2.2.1.alloc _).drew)
        have hbs : bs < wr.heap.size := heap_lt HK.out.2.2.2.2.2.2.2.2
        have sm' : (wr.alloc (.cells #[.slice A1 k1 c1, .slice A2 k2 c2, .bool false] 87)).drew.cell? ⟨bs, 1, none⟩ = some (.map (some bm)) := ((bnew wr _).drew.cell (p := ⟨bs, 1, none⟩) hbs).trans sm
        have hbx : (wr.alloc (.cells #[.slice A1 k1 c1, .slice A2 k2 c2, .bool false] 87)).drew.heap[wr.heap.size]? = some (.cells #[.slice A1 k1 c1, .slice A2 k2 c2, .bool false] 87 (0, 0)) := heap_alloc_new wr _
        have b0 := Joins.cell_of_block hbx 0
        have b1 := Joins.cell_of_block hbx 1
        simp only [List.getElem?_toArray, List.getElem?_cons_zero, List.getElem?_cons_succ] at b0 b1
        go_wp2_with fail
        refine wp_region_held_drew (S := (fun W => W.cell? ⟨bs, 1, none⟩ = some (.map (some bm)) ∧ W.cell? ⟨wr.heap.size, 0, none⟩ = some (.slice A1 k1 c1) ∧ W.cell? ⟨wr.heap.size, 1, none⟩ = some (.slice A2 k2 c2) ∧ (convert 29 9 (.slice A1 k1 c1)).run Tryz.prog W = .ok (.string ⟨cm.key.toArray⟩) W)) (by kernel_rfl) ?_ (fun hHeld => ?_)
        · (try dsimp only); (first | (refine ⟨?_, ?_, ?_, ?_⟩ <;> assumption) | go_keep)
        refine wpAnyH_take (i := 0) (v := ?_) rfl (by kernel_rfl) (by kernel_rfl) (by kernel_rfl) (fun _ _ _ h => h) (Or.inl ⟨by rfl, ?_⟩) hHeld ?_
        rotate_left
        · intro w hSw; (try dsimp only at hSw); go_simp; (try with_reducible rfl)
        (try simp only [Act.put, List.getElem_toArray, List.getElem_cons_succ, List.getElem_cons_zero, List.setIfInBounds_toArray, List.set_cons_zero, List.set_cons_succ])
        refine wpAnyH_take (i := 1) (v := ?_) rfl (by kernel_rfl) (by kernel_rfl) (by kernel_rfl) (fun _ _ _ h => h) (Or.inl ⟨by rfl, ?_⟩) hHeld ?_
        rotate_left
        · intro w hSw; (try dsimp only at hSw); go_simp; (try with_reducible rfl)
        (try simp only [Act.put, List.getElem_toArray, List.getElem_cons_succ, List.getElem_cons_zero, List.setIfInBounds_toArray, List.set_cons_zero, List.set_cons_succ])
        refine wpAnyH_take (i := 2) (v := ?_) rfl (by kernel_rfl) (by kernel_rfl) (by kernel_rfl) (fun _ _ _ h => h) (Or.inl ⟨by rfl, ?_⟩) hHeld ?_
        rotate_left
        · intro w hSw; (try dsimp only at hSw); go_simp; (try with_reducible rfl)
        (try simp only [Act.put, List.getElem_toArray, List.getElem_cons_succ, List.getElem_cons_zero, List.setIfInBounds_toArray, List.set_cons_zero, List.set_cons_succ])
        refine wpAnyH_take (i := 3) (v := ?_) rfl (by kernel_rfl) (by kernel_rfl) (by kernel_rfl) (fun _ _ _ h => h) (Or.inl ⟨by rfl, ?_⟩) hHeld ?_
        rotate_left
        · intro w hSw; (try dsimp only at hSw); go_simp; (try with_reducible rfl)
        (try simp only [Act.put, List.getElem_toArray, List.getElem_cons_succ, List.getElem_cons_zero, List.setIfInBounds_toArray, List.set_cons_zero, List.set_cons_succ])
        refine wpAnyH_take (i := 4) (v := ?_) rfl (by kernel_rfl) (by kernel_rfl) (by kernel_rfl) (fun _ _ _ h => h) (Or.inl ⟨by rfl, ?_⟩) hHeld ?_
        rotate_left
        · intro w hSw; (try dsimp only at hSw); go_simp; (try with_reducible rfl)
        (try simp only [Act.put, List.getElem_toArray, List.getElem_cons_succ, List.getElem_cons_zero, List.setIfInBounds_toArray, List.set_cons_zero, List.set_cons_succ])
        refine wpAnyH_take (i := 5) (v := ?_) rfl (by kernel_rfl) (by kernel_rfl) (by kernel_rfl) (fun _ _ _ h => h) (Or.inl ⟨by rfl, ?_⟩) hHeld ?_
        rotate_left
        · intro w hSw; (try dsimp only at hSw); go_simp; (try with_reducible rfl)
        (try simp only [Act.put, List.getElem_toArray, List.getElem_cons_succ, List.getElem_cons_zero, List.setIfInBounds_toArray, List.set_cons_zero, List.set_cons_succ])
        refine wpAnyH_take (i := 6) (v := ?_) rfl (by kernel_rfl) (by kernel_rfl) (by kernel_rfl) (fun _ _ _ h => h) (Or.inl ⟨by rfl, ?_⟩) hHeld ?_
        rotate_left
        · intro w hSw; (try dsimp only at hSw); go_simp; (try with_reducible rfl)
        (try simp only [Act.put, List.getElem_toArray, List.getElem_cons_succ, List.getElem_cons_zero, List.setIfInBounds_toArray, List.set_cons_zero, List.set_cons_succ])
        refine wpAnyH_take (i := 7) (v := ?_) rfl (by kernel_rfl) (by kernel_rfl) (by kernel_rfl) (fun _ _ _ h => h) (Or.inl ⟨by rfl, ?_⟩) hHeld ?_
        rotate_left
        · intro w hSw; (try dsimp only at hSw); go_simp; (try with_reducible rfl)
        (try simp only [Act.put, List.getElem_toArray, List.getElem_cons_succ, List.getElem_cons_zero, List.setIfInBounds_toArray, List.set_cons_zero, List.set_cons_succ])
        refine wpAnyH_take (i := 8) (v := ?_) rfl (by kernel_rfl) (by kernel_rfl) (by kernel_rfl) (fun _ _ _ h => h) (Or.inl ⟨by rfl, ?_⟩) hHeld ?_
        rotate_left
        · intro w hSw; (try dsimp only at hSw); go_simp; (try with_reducible rfl)
        (try simp only [Act.put, List.getElem_toArray, List.getElem_cons_succ, List.getElem_cons_zero, List.setIfInBounds_toArray, List.set_cons_zero, List.set_cons_succ])
        refine wpAnyH_ready (rs := [9]) (by kernel_rfl) (by simp) ?_
        refine (AllReadyH.cons rfl (fun K hK => ?_) AllReadyH.nil)
        go_simp
        refine (bclone_c A2 k2 c2 cm.val HK.out.2.2.2.2.1.symm _ (by omega) ((HK.out.2.2.2.2.2.2.2.1.alloc _).drew)).mono ?_
        rintro e w6 ⟨v6, rfl, hown6, hb6⟩
        rw [HK.out.2.2.2.2.1] at hown6
        obtain ⟨A6, c6, rfl, -, -, -⟩ := own_slice hown6
        have hlta := heap_lt hbx
        have z1 := (hb6.cell (p := ⟨bs, 1, none⟩) (cell_lt sm')).trans sm'
        have z2 := (hb6.cell (p := ⟨wr.heap.size, 0, none⟩) hlta).trans b0
        have z3 := (hb6.cell (p := ⟨wr.heap.size, 1, none⟩) hlta).trans b1
        have rk6 := ((HK.out.2.2.2.2.2.2.1.alloc (.cells #[.slice A1 k1 c1, .slice A2 k2 c2, .bool false] 87)).drew).below hb6
        have z4 := run_convert_rd 0 w6 A1 k1 c1 cm.key HK.out.2.2.2.1.symm rk6
        have hM6 := (HK.out.1.below (bnew wr (.cells #[.slice A1 k1 c1, .slice A2 k2 c2, .bool false] 87)).drew).below hb6
        obtain ⟨W5, hupd, hM5, hk5, hg5, hbm5⟩ := upd_s hM6 HK.out.2.2.2.2.2.1 A6 k2 c6 (own_bs' hown6 HK.out.2.2.2.2.1)
        have HUPD := Lib.hid (And.intro hM5 (And.intro hk5 (And.intro hg5 (And.intro hbm5 (And.intro hb6 rk6))))); clear hM5 hk5 hg5 hbm5 hM6 hown6 rk6 hb6
        go_simp
        refine hK.out _ _ ?_ (fun hHeld2 => ?_)
        · (try dsimp only); (first | (refine ⟨?_, ?_, ?_, ?_⟩ <;> assumption) | go_keep)
        clear hK K hHeld
        rename _ => hHeld
        (try simp only [Act.put, List.getElem_toArray, List.getElem_cons_succ, List.getElem_cons_zero, List.setIfInBounds_toArray, List.set_cons_zero, List.set_cons_succ])
        refine wpAnyH_take (i := 10) (v := ?_) rfl (by kernel_rfl) (by kernel_rfl) (by kernel_rfl) (fun _ _ _ h => h) (Or.inl ⟨by rfl, ?_⟩) hHeld ?_
        rotate_left
        · intro w hSw; (try dsimp only at hSw); go_simp; (try with_reducible rfl)
        (try simp only [Act.put, List.getElem_toArray, List.getElem_cons_succ, List.getElem_cons_zero, List.setIfInBounds_toArray, List.set_cons_zero, List.set_cons_succ])
        refine wpAnyH_ready (rs := [11]) (by kernel_rfl) (by simp) ?_
        refine (AllReadyH.cons rfl (fun K hK => ?_) AllReadyH.nil)
        go_simp
        have y1 := cell_keep HUPD.out.2.2.2.1 HUPD.out.2.1 _ _ _ z1
        have y2 := cell_keep HUPD.out.2.2.2.1 HUPD.out.2.1 _ _ _ z2
        have y3 := cell_keep HUPD.out.2.2.2.1 HUPD.out.2.1 _ _ _ z3
        have y4 := run_convert_rd 0 W5 A1 k1 c1 cm.key HK.out.2.2.2.1.symm (HUPD.out.2.2.2.2.2.keep fun b o v _ hv => cell_keep HUPD.out.2.2.2.1 HUPD.out.2.1 _ _ _ hv)
        refine hK.out _ _ ?_ (fun hHeld2 => ?_)
        · (try dsimp only); (first | (refine ⟨?_, ?_, ?_, ?_⟩ <;> assumption) | go_keep)
        clear hK K hHeld
        rename _ => hHeld
        (try simp only [Act.put, List.getElem_toArray, List.getElem_cons_succ, List.getElem_cons_zero, List.setIfInBounds_toArray, List.set_cons_zero, List.set_cons_succ])
        refine wpAnyH_done (by kernel_rfl) ?_ _
        clear hHeld
        rotate_left 1
        go_wp2_with fail
        refine ⟨⟨k + 1, by omega, rfl, by rw [HK.out.2.2.1]; exact HUPD.out.1, grown_bel HK.out.2.1 (((Below.refl _ _).alloc (Nat.le_refl _) _).drew.trans (HUPD.out.2.2.2.2.1.mono (by simp [World.drew]))) HUPD.out.2.2.1⟩, by simp [intOf]; omega⟩
    · obtain rfl : n = k := by omega
      have hkd : decide ((n : Int) < (n : Int)) = false := by simp
      rw [List.take_of_length_le (by have := HR.out.2.2.1; omega)] at hMk
      have HK := Lib.hid (And.intro hMk hG); clear hMk hG
      go_wp2_with fail
      go_end0
      exact ⟨⟨_, rfl⟩, HK.out.1, HK.out.2⟩
end Go.Proofs.YtnljhabpcoiihaaGreatDoor
