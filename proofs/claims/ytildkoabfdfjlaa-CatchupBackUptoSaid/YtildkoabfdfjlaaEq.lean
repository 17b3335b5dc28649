/- '==' of a vote with itself; conclavelaw15's SameVotes on equal rows. conclavelaw15's SameVotes, on equal rows. conclavelaw15's SameCommit, on equal commits. conclavelaw15's SameBlock, on equal blocks. What CatchupBack calls, in the form in which its walk meets it. -/
import Derived.Test.YtildkoabfdfjlaaDecA
set_option linter.all false
namespace Go.Proofs.Ytildkoabfdfjlaa
open Go.RowKit
open Rlp (It)

section
variable {P : Program}
theorem eqFields_self (d : Nat) (xs : Array Value) (w : World) : ∀ (fs : List Field), (∀ p ∈ fs.map (fun f => (f.type, f.offset)), ∃ v, (part p.1 xs p.2).run P w = .ok v w ∧ (Op.equalIn d p.1 v v).run P w = .ok true w) →
    (Op.eqFields d xs xs fs).run P w = .ok true w
  | [], _ => by simp [Op.eqFields]
  | f :: fs, h => by
    obtain ⟨v, h1, h2⟩ := h (f.type, f.offset) (by simp)
    have ih := eqFields_self d xs w fs (fun p hp => h p (by simp only [List.map_cons, List.mem_cons]; exact Or.inr hp))
    simp only [Op.eqFields]
    split
    · simp only [Sem.run_bind, h1, h2, Result.andThen_ok, Bool.not_true, Bool.false_eq_true, if_false, ih]
    · exact ih
theorem part_int {w : World} {t : TypeId} {k k' : IntKind} {cs : Array Value} {o : Nat} {v : Int} (ht : P.underlying t = some (.int k')) (h : cs[o]? = some (.int k v)) : (part t cs o).run P w = .ok (.int k v) w := by
  simp [part, isAgg, run_underlying ht, h]
theorem part_arr {w : World} {t e : TypeId} {n : Nat} {l a b m : List Value} (ht : P.underlying t = some (.array n e)) (hi : (P.info? t).map (·.size) = some n) (hl : l = a ++ (m ++ b)) (hm : m.length = n) : (part t l.toArray a.length).run P w = .ok (.agg m.toArray) w := by
  cases hq : P.info? t with
  | none => simp [hq] at hi
  | some i =>
    have hs : i.size = n := by simpa [hq] using hi
    have he : List.take n (List.drop a.length l) = m := by
      subst hl hm
      simp
    simp [part, isAgg, run_underlying ht, sizeOf, typeInfo, hq, hs, he]
theorem bytesV_ints (l : List UInt8) : bytesV l = (l.map (fun x => (x.toNat : Int))).map (Value.int .u8) := by simp [bytesV, Function.comp_def]
theorem equal_bytes {w : World} {d : Nat} {t e : TypeId} {n : Nat} {i : TypeInfo} (ht : P.underlying t = some (.array n e)) (he : P.underlying e = some (.int .u8)) (hi : P.info? e = some i) (hs : P.cellsOf e = 1) (l : List UInt8) (hl : l.length = n) :
    (Op.equalIn (d + 2) t (.agg (bytesV l).toArray) (.agg (bytesV l).toArray)).run P w = .ok true w := by
  rw [bytesV_ints, run_equalIn_ints w d t e n i .u8 ht he hi hs _ _ (by simpa using hl) (by simpa using hl)]
  simp
end

theorem vote_fields : (Try.prog.fieldsOf 94).toList.map (fun f => (f.type, f.offset)) = [(3, 0), (22, 1), (3, 2), (24, 3), (3, 35), (92, 36)] := by kernel_rfl
theorem vote_under : Try.prog.underlying 94 = some (.struct (Try.prog.fieldsOf 94)) := by kernel_rfl
theorem info_u8 : ∃ i, Try.prog.info? 5 = some i := by
  cases h : Try.prog.info? 5 with
  | none => exact absurd (show (Try.prog.info? 5).isSome = true by kernel_rfl) (by rw [h]; simp)
  | some i => exact ⟨i, rfl⟩
theorem vote_self (v : VotI) (h : v.Ok) (w : World) : (binOp .neq 94 (.agg v.cells.toArray) (.agg v.cells.toArray)).run Try.prog w = .ok (.bool false) w := by
  obtain ⟨i, hi⟩ := info_u8
  have hb := bytesV_length v.block
  have hs := bytesV_length v.sig
  rw [h.b] at hb
  rw [h.s] at hs
  have hc : v.cells = .int .i64 v.kind :: .int .u64 v.height :: .int .i64 v.round :: (bytesV v.block ++ .int .i64 v.by_ :: bytesV v.sig) := rfl
  have g0 : v.cells.toArray[0]? = some (.int .i64 v.kind) := rfl
  have g1 : v.cells.toArray[1]? = some (.int .u64 v.height) := rfl
  have g2 : v.cells.toArray[2]? = some (.int .i64 v.round) := rfl
  have g35 : v.cells.toArray[35]? = some (.int .i64 v.by_) := by
    rw [List.getElem?_toArray, hc, List.getElem?_cons_succ, List.getElem?_cons_succ, List.getElem?_cons_succ, List.getElem?_append_right (by omega), hb]; rfl
  rw [run_neq_struct, run_equalIn_struct w 9999 _ _ _ vote_under (by kernel_rfl), eqFields_self 9999]
  · rfl
  · rw [vote_fields]
    intro p hp
    simp only [List.mem_cons, List.not_mem_nil, or_false] at hp
    rcases hp with rfl | rfl | rfl | rfl | rfl | rfl
    · exact ⟨_, part_int Try.underlying3 g0, by rw [run_equalIn_int w 9998 _ _ _ _ _ Try.underlying3]; simp⟩
    · exact ⟨_, part_int Try.underlying22 g1, by rw [run_equalIn_int w 9998 _ _ _ _ _ Try.underlying22]; simp⟩
    · exact ⟨_, part_int Try.underlying3 g2, by rw [run_equalIn_int w 9998 _ _ _ _ _ Try.underlying3]; simp⟩
    · refine ⟨_, part_arr (n := 32) (a := [.int .i64 v.kind, .int .u64 v.height, .int .i64 v.round]) (m := bytesV v.block) (b := .int .i64 v.by_ :: bytesV v.sig) Try.underlying24 (by kernel_rfl) hc hb, ?_⟩
      exact equal_bytes (d := 9997) Try.underlying24 Try.underlying5 hi (by kernel_rfl) v.block h.b
    · exact ⟨_, part_int Try.underlying3 g35, by rw [run_equalIn_int w 9998 _ _ _ _ _ Try.underlying3]; simp⟩
    · have := part_arr (P := Try.prog) (w := w) (n := 64) (t := 92) (e := 5) (l := v.cells) (a := [.int .i64 v.kind, .int .u64 v.height, .int .i64 v.round] ++ bytesV v.block ++ [.int .i64 v.by_]) (m := bytesV v.sig) (b := []) Try.underlying92 (by kernel_rfl) (by rw [hc]; simp) hs
      have h36 : ([Value.int .i64 v.kind, Value.int .u64 v.height, Value.int .i64 v.round] ++ bytesV v.block ++ [Value.int .i64 v.by_]).length = 36 := by simp [hb]
      rw [h36] at this
      exact ⟨_, this, equal_bytes (d := 9997) Try.underlying92 Try.underlying5 hi (by kernel_rfl) v.sig h.s⟩
end Go.Proofs.Ytildkoabfdfjlaa
namespace Go.Proofs.Ytildkoabfdfjlaa
open Go.RowKit
open Rlp (It)

section
variable {P : Program}
theorem wp_bin_agg {op : Oper} {a : Act} {w : World} {K : Act → World → Prop} {Q : Exit → Act → World → Prop} (bo : BinOp) (t t2 : TypeId) (x y : Operand) (ho : op.op = .binOp bo t x y t2) (xs ys : Array Value) (hx : a.eval x = .agg xs) (hy : a.eval y = .agg ys)
    (hm : P.eqGuardType P.depth t = false) {v : Value} (hrun : (binOp bo t (.agg xs) (.agg ys)).run P w = .ok v w) (h : K (a.put op.dst v) w) : op.wp P a w K Q := by
  unfold Oper.wp execOp
  simp only [ho, hx, hy, Sem.run_bind, run_eqGuard_agg w bo t x y xs ys hm, Result.andThen_ok, hrun, Sem.run_pure]
  exact h
theorem wpAny_frame {ops : Array Oper} {md : Region.Mode} {Q : Exit → Act → World → Prop} {f : Nat} {l : Array Bool} {a a' : Act} {w : World} (ha : a = a') (h : wpAny P md ops Q f l a' w) : wpAny P md ops Q f l a w := ha ▸ h
theorem wpList_wanted {ops : Array Oper} {o : Oper} {rest : List Oper} {a : Act} {w : World} {Q : Exit → Act → World → Prop} (hw : Region.wanted o (yielded ops a.tmps) = true)
    (h : ∀ K : Act → World → Prop, (∀ a w, wpList P ops Q rest a w → K a w) → o.wp P a w K Q) : wpList P ops Q (o :: rest) a w :=
  wpList_step fun K hK => by rw [if_pos hw]; exact h K hK
theorem wpListG_load {ops : Array Oper} {rest : List Oper} {op : Oper} {a : Act} {w : World} {Q : Exit → Act → World → Prop} (hw : Region.wanted op (yielded ops a.tmps) = true) (ty : TypeId) (x : Operand) (ho : op.op = .load ty x)
    (b o : Nat) (hx : a.eval x = .pointer (some ⟨b, o, none⟩)) (cs : List Value) (d : TypeDesc) (hc : w.rangeAt b o cs)
    (hu : P.underlying ty = some d) (hd : d.isRow = true) (hi : (P.info? ty).map (·.size) = some cs.length)
    (h : wpList P ops Q rest (a.put op.dst (.agg cs.toArray)) w) : wpList P ops Q (op :: rest) a w :=
  wpList_wanted hw fun _ hK => wp_load_mid ty x ho b o hx cs d hc hu hd hi (hK _ _ h)
theorem wpListG_bin {ops : Array Oper} {rest : List Oper} {op : Oper} {a : Act} {w : World} {Q : Exit → Act → World → Prop} (hw : Region.wanted op (yielded ops a.tmps) = true) (bo : BinOp) (t t2 : TypeId) (x y : Operand) (ho : op.op = .binOp bo t x y t2) (xs ys : Array Value) (hx : a.eval x = .agg xs) (hy : a.eval y = .agg ys)
    (hm : P.eqGuardType P.depth t = false) {v : Value} (hrun : (binOp bo t (.agg xs) (.agg ys)).run P w = .ok v w)
    (h : wpList P ops Q rest (a.put op.dst v) w) : wpList P ops Q (op :: rest) a w :=
  wpList_wanted hw fun _ hK => wp_bin_agg bo t t2 x y ho xs ys hx hy hm hrun (hK _ _ h)
end

set_option maxRecDepth 100000 in
set_option maxHeartbeats 2000000 in
theorem sameVotes_c (vs : List VotI) (hok : ∀ v ∈ vs, v.Ok) (A B : Option Addr) (n c d : Nat) (hn : n = vs.length) (hnn : n ≤ 140737488355328) (w : World) (hA : Rd 0 w A (votsV vs)) (hB : Rd 0 w B (votsV vs)) :
    Calls Try.prog 22 #[.slice A n c, .slice B n d] w fun e w' => e = .returned (.bool true) ∧ Below w.heap.size w w' := by
  have HV := Lib.hid (And.intro hok (And.intro hA hB)); clear hok hA hB
  have HN := Lib.hid hn; clear hn
  go_enter Try.func22, Try.ntmps22
  go_wp2_with fail
  go_loopw [5] (fun i wr => ∃ k : Nat, i = .int .i64 k ∧ k ≤ n ∧ Below w.heap.size w wr) (fun i _ => n - (intOf i).toNat)
  case atStart => exact ⟨0, rfl, by omega, Below.refl _ _⟩
  case round =>
    obtain ⟨k, rfl, hk, hBw⟩ := hrel
    have HBW := Lib.hid hBw; clear hBw
    have hn := HN.out
    by_cases hlt : k < n
    · obtain ⟨b, o, rfl, hc⟩ := HV.out.2.1.addr (by rw [votsV_length HV.out.1]; omega)
      obtain ⟨b2, o2, rfl, hc2⟩ := HV.out.2.2.addr (by rw [votsV_length HV.out.1]; omega)
      obtain ⟨v, hvk⟩ : ∃ v, vs[k]? = some v := ⟨_, List.getElem?_eq_getElem (by omega)⟩
      have hrg := votsV_range HV.out.1 hc k v hvk
      have hrg2 := votsV_range HV.out.1 hc2 k v hvk
      have hvo := HV.out.1 v (List.mem_of_getElem? hvk)
      have hlv := VotI.len hvo
      have HR1 : Hid (wr.drew.rangeAt b (o + k * 100) v.cells) := fun j u hj => (HBW.out.drew.cell (p := ⟨b, o + k * 100 + j, none⟩) (cell_lt (hrg j u hj))).trans (hrg j u hj)
      have HR2 : Hid (wr.drew.rangeAt b2 (o2 + k * 100) v.cells) := fun j u hj => (HBW.out.drew.cell (p := ⟨b2, o2 + k * 100 + j, none⟩) (cell_lt (hrg2 j u hj))).trans (hrg2 j u hj)
      clear hc hc2 hrg hrg2
      have HLV := Lib.hid hlv
      have HVS := Lib.hid (vote_self v hvo); clear hvk hvo hlv hn
      have hkm : (k : Int) + 1 ≤ 9223372036854775807 := by omega
      go_wp2_with fail
      refine wp_region_any (by kernel_rfl) ?_
      (try (change wpAny _ _ _ _ _ _ _ (World.drew _)))
      refine wpAny_take (i := 0) (v := ?_) rfl (by kernel_rfl) (by kernel_rfl) (by kernel_rfl) (fun _ _ _ h => h) (Or.inl ⟨by rfl, ?_⟩) ?_
      rotate_left
      · intro w; go_simp; (try with_reducible rfl)
      refine wpAny_take (i := 1) (v := ?_) rfl (by kernel_rfl) (by kernel_rfl) (by kernel_rfl) (fun _ _ _ h => h) (Or.inl ⟨by rfl, ?_⟩) ?_
      rotate_left
      · intro w; go_simp; (try with_reducible rfl)
      refine wpAny_take (i := 4) (v := ?_) rfl (by kernel_rfl) (by kernel_rfl) (by kernel_rfl) (fun _ _ _ h => h) (Or.inl ⟨by rfl, ?_⟩) ?_
      rotate_left
      · intro w; go_simp; (try with_reducible rfl)
      refine wpAny_take (i := 5) (v := ?_) rfl (by kernel_rfl) (by kernel_rfl) (by kernel_rfl) (fun _ _ _ h => h) (Or.inl ⟨by rfl, ?_⟩) ?_
      rotate_left
      · intro w; go_simp; (try with_reducible rfl)
      refine wpAny_take (i := 2) (v := ?_) rfl (by kernel_rfl) (by kernel_rfl) (by kernel_rfl) (fun _ _ _ h => h) (Or.inl ⟨by rfl, ?_⟩) ?_
      rotate_left
      · intro w; go_simp; (try with_reducible rfl)
      refine wpAny_take (i := 6) (v := ?_) rfl (by kernel_rfl) (by kernel_rfl) (by kernel_rfl) (fun _ _ _ h => h) (Or.inl ⟨by rfl, ?_⟩) ?_
      rotate_left
      · intro w; go_simp; (try with_reducible rfl)
      refine wpAny_frame (by simp [Act.put]; rfl) ?_
      refine wpAny_ready (rs := [3, 7]) (by kernel_rfl) (by simp) ?_
      refine (AllReady.cons rfl (fun K hK => ?_) (AllReady.cons rfl (fun K hK => ?_) AllReady.nil))
      · refine step_of rfl (wp_load_mid 94 _ rfl b (o + k * 100) (by simp [Act.eval, Act.put]) v.cells _ HR1.out Try.underlying94 rfl (by rw [HLV.out]; kernel_rfl) ?_)
        go_simp
        refine hK _ _ ?_
        clear hK K
        refine wpAny_ready (rs := [7]) (by kernel_rfl) (by simp) ?_
        refine (AllReady.cons rfl (fun K hK => ?_) AllReady.nil)
        · refine step_of rfl (wp_load_mid 94 _ rfl b2 (o2 + k * 100) (by simp [Act.eval, Act.put]) v.cells _ HR2.out Try.underlying94 rfl (by rw [HLV.out]; kernel_rfl) ?_)
          go_simp
          refine hK _ _ ?_
          clear hK K
          refine wpAny_ready (rs := [8]) (by kernel_rfl) (by simp) ?_
          refine (AllReady.cons rfl (fun K hK => ?_) AllReady.nil)
          · refine step_of rfl (wp_bin_agg .neq 94 _ _ _ rfl v.cells.toArray v.cells.toArray (by simp [Act.eval, Act.put]) (by simp [Act.eval, Act.put]) (by kernel_rfl) (HVS.out _) ?_)
            go_simp
            refine hK _ _ ?_
            clear hK K
            refine wpAny_done (by kernel_rfl) ?_ _
            go_wp2_with fail
            go_roundw
            case rel => exact ⟨k + 1, by go_num, by omega, HBW.out.drew⟩
            case measure => simp [intOf]; omega
      · refine step_of rfl (wp_load_mid 94 _ rfl b2 (o2 + k * 100) (by simp [Act.eval, Act.put]) v.cells _ HR2.out Try.underlying94 rfl (by rw [HLV.out]; kernel_rfl) ?_)
        go_simp
        refine hK _ _ ?_
        clear hK K
        refine wpAny_ready (rs := [3]) (by kernel_rfl) (by simp) ?_
        refine (AllReady.cons rfl (fun K hK => ?_) AllReady.nil)
        · refine step_of rfl (wp_load_mid 94 _ rfl b (o + k * 100) (by simp [Act.eval, Act.put]) v.cells _ HR1.out Try.underlying94 rfl (by rw [HLV.out]; kernel_rfl) ?_)
          go_simp
          refine hK _ _ ?_
          clear hK K
          refine wpAny_ready (rs := [8]) (by kernel_rfl) (by simp) ?_
          refine (AllReady.cons rfl (fun K hK => ?_) AllReady.nil)
          · refine step_of rfl (wp_bin_agg .neq 94 _ _ _ rfl v.cells.toArray v.cells.toArray (by simp [Act.eval, Act.put]) (by simp [Act.eval, Act.put]) (by kernel_rfl) (HVS.out _) ?_)
            go_simp
            refine hK _ _ ?_
            clear hK K
            refine wpAny_done (by kernel_rfl) ?_ _
            go_wp2_with fail
            go_roundw
            case rel => exact ⟨k + 1, by go_num, by omega, HBW.out.drew⟩
            case measure => simp [intOf]; omega
    · obtain rfl : k = n := by omega
      clear hlt hk hn
      go_wp2
      exact bodyPost_ret (v := .bool true) (by simp [results, Try.results22]) rfl ⟨rfl, HBW.out⟩
end Go.Proofs.Ytildkoabfdfjlaa
namespace Go.Proofs.Ytildkoabfdfjlaa
open Go.RowKit
open Rlp (It)

theorem range_part {w : World} {b o : Nat} {X : Array Value} {t : TypeId} {f : Nat × Nat} {m : List Value} (h : w.heap[b]? = some (.cells X t f)) (hm : ∀ j, j < m.length → X[o + j]? = m[j]?) : w.rangeAt b o m := fun j u hj => by
  have hlt := (List.getElem?_eq_some_iff.1 hj).1
  exact cell_of_heap h (by rw [hm j hlt]; exact hj)
theorem two_boxes (w : World) (X Y : Array Value) (t t2 : TypeId) : ((w.alloc (.cells X t)).alloc (.cells Y t2)).heap[w.heap.size]? = some (.cells X t (0, 0)) ∧ ((w.alloc (.cells X t)).alloc (.cells Y t2)).heap[w.heap.size + 1]? = some (.cells Y t2 (0, 0)) := by
  refine ⟨?_, ?_⟩
  · rw [Below.heap_alloc _ _ _ (by simp)]; exact World.alloc_heap_new _ _
  · have := World.alloc_heap_new (w.alloc (.cells X t)) (.cells Y t2)
    rwa [World.size_alloc] at this
theorem hash_self (l : List UInt8) (hl : l.length = 32) (w : World) : (binOp .eql 24 (.agg (bytesV l).toArray) (.agg (bytesV l).toArray)).run Try.prog w = .ok (.bool true) w ∧ (binOp .neq 24 (.agg (bytesV l).toArray) (.agg (bytesV l).toArray)).run Try.prog w = .ok (.bool false) w := by
  obtain ⟨i, hi⟩ := info_u8
  have h := fun w => equal_bytes (P := Try.prog) (w := w) (d := 9998) Try.underlying24 Try.underlying5 hi (by kernel_rfl) l hl
  constructor
  · rw [run_eql_struct, h]; rfl
  · rw [run_neq_struct, h]; rfl
theorem comV_get (c : ComI) (hc : c.Ok) (v : Value) : (comV c.height c.round c.block v).toArray[0]? = some (.int .u64 c.height) ∧ (comV c.height c.round c.block v).toArray[1]? = some (.int .i64 c.round) ∧ (comV c.height c.round c.block v).toArray[34]? = some v ∧ ∀ j, j < (bytesV c.block).length → (comV c.height c.round c.block v).toArray[2 + j]? = (bytesV c.block)[j]? := by
  have hb := bytesV_length c.block
  rw [hc.b] at hb
  refine ⟨rfl, rfl, ?_, ?_⟩
  · rw [List.getElem?_toArray, comV, List.getElem?_cons_succ, List.getElem?_cons_succ, List.getElem?_append_right (by omega), hb]; rfl
  · intro j hj
    rw [List.getElem?_toArray, comV, show 2 + j = j + 1 + 1 by omega, List.getElem?_cons_succ, List.getElem?_cons_succ, List.getElem?_append_left hj]

set_option maxRecDepth 100000 in
set_option maxHeartbeats 2000000 in
theorem sameCommit_c (c : ComI) (hc : c.Ok) (A B : Option Addr) (ca cb : Nat) (w : World) (hA : Rd 0 w A (votsV c.votes)) (hB : Rd 0 w B (votsV c.votes)) :
    Calls Try.prog 9 #[.agg (comV c.height c.round c.block (.slice A c.votes.length ca)).toArray, .agg (comV c.height c.round c.block (.slice B c.votes.length cb)).toArray] w fun e w' => e = .returned (.bool true) ∧ Below w.heap.size w w' := by
  have HSV : Hid (∀ W, Below w.heap.size w W → Calls Try.prog 22 #[.slice A c.votes.length ca, .slice B c.votes.length cb] W fun e w' => e = .returned (.bool true) ∧ Below W.heap.size W w') :=
    fun W hW => sameVotes_c c.votes hc.v A B _ ca cb rfl (by have := hc.n1; omega) W (hA.below hW) (hB.below hW)
  obtain ⟨x0, x1, x34, xr⟩ := comV_get c hc (.slice A c.votes.length ca)
  obtain ⟨y0, y1, y34, yr⟩ := comV_get c hc (.slice B c.votes.length cb)
  obtain ⟨X, hX⟩ : ∃ X, (comV c.height c.round c.block (.slice A c.votes.length ca)).toArray = X := ⟨_, rfl⟩
  obtain ⟨Y, hY⟩ : ∃ X, (comV c.height c.round c.block (.slice B c.votes.length cb)).toArray = X := ⟨_, rfl⟩
  rw [hX] at x0 x1 x34 xr ⊢
  rw [hY] at y0 y1 y34 yr ⊢
  obtain ⟨z1, z2⟩ := two_boxes w X Y 30 30
  have HR1 := Lib.hid (range_part z1 xr)
  have HR2 := Lib.hid (range_part z2 yr)
  have hbl := bytesV_length c.block
  rw [hc.b] at hbl
  have HBL := Lib.hid hbl
  have HH := Lib.hid (hash_self c.block hc.b)
  have HB0 := Lib.hid (bnew2 w (.cells X 30) (.cells Y 30))
  obtain ⟨M, hM⟩ : ∃ M, bytesV c.block = M := ⟨_, rfl⟩
  rw [hM] at HR1 HR2 HBL HH
  obtain ⟨n, hn⟩ : ∃ n, c.votes.length = n := ⟨_, rfl⟩
  obtain ⟨ht, hht⟩ : ∃ n, c.height = n := ⟨_, rfl⟩
  obtain ⟨rd, hrd⟩ : ∃ n, c.round = n := ⟨_, rfl⟩
  rw [hn] at HSV x34 y34
  rw [hht] at x0 y0
  rw [hrd] at x1 y1
  clear hX hY z1 z2 xr yr hbl hA hB hM hn hc hht hrd
  go_enter Try.func9, Try.ntmps9
  go_wp2_with (first
    | (refine wpListG_load (by kernel_rfl) 24 _ rfl w.heap.size 2 rfl M _ HR1.out Try.underlying24 rfl (by rw [HBL.out]; kernel_rfl) ?_)
    | (refine wpListG_load (by kernel_rfl) 24 _ rfl (w.heap.size + 1) 2 rfl M _ HR2.out Try.underlying24 rfl (by rw [HBL.out]; kernel_rfl) ?_)
    | (refine wpListG_bin (by kernel_rfl) .eql 24 _ _ _ rfl M.toArray M.toArray (by simp [Act.eval, Act.put]) (by simp [Act.eval, Act.put]) (by kernel_rfl) (HH.out _).1 ?_)
    | (go_at_call 22; (with_reducible refine (HSV.out _ HB0.out).mono ?_); rintro e w1 ⟨rfl, hB1⟩)
    | fail)
  exact bodyPost_ret (v := .bool true) (by simp [results, Try.results9]) rfl ⟨rfl, bstep HB0.out hB1⟩
end Go.Proofs.Ytildkoabfdfjlaa
namespace Go.Proofs.Ytildkoabfdfjlaa
open Go.RowKit
open Rlp (It)

theorem same_same (A B : Option Addr) (n c d : Nat) (l : List UInt8) (hn : n = l.length) (w : World) (hl : Rd 0 w A (bytesV l)) (hk : Rd 0 w B (bytesV l)) :
    Calls Try.prog 10 #[.slice A n c, .slice B n d] w fun e w' => e = .returned (.bool true) ∧ w' = w := by
  refine (same_c A B n n c d l l hn hn w hl hk).mono ?_
  rintro e w' ⟨rfl, rfl⟩
  simp
theorem blkV_rest (b : BlkI) (hb : b.Ok) (v : Value) : (∀ j, j < (bytesV b.prev).length → (blkV b v).toArray[1 + j]? = (bytesV b.prev)[j]?) ∧ (∀ j, j < (bytesV b.state).length → (blkV b v).toArray[33 + j]? = (bytesV b.state)[j]?) := by
  have hp := bytesV_length b.prev
  have hst := bytesV_length b.state
  rw [hb.p] at hp
  rw [hb.s] at hst
  unfold blkV
  refine ⟨fun j hj => ?_, fun j hj => ?_⟩
  · rw [List.getElem?_toArray, show 1 + j = j + 1 by omega, List.getElem?_cons_succ, List.getElem?_append_left (by omega)]
  · rw [List.getElem?_toArray, show 33 + j = (j + 32) + 1 by omega, List.getElem?_cons_succ, List.getElem?_append_right (by omega), hp, List.getElem?_append_left (by omega)]; congr 1

set_option maxRecDepth 100000 in
set_option maxHeartbeats 4000000 in
theorem sameBlock_c (b : BlkI) (hb : b.Ok) (A B : Option Addr) (ca cb : Nat) (va vb : List Value) (w : World) (hA : Rd 0 w A va) (hsA : StrsR 0 w b.txs va) (hB : Rd 0 w B vb) (hsB : StrsR 0 w b.txs vb) :
    Calls Try.prog 8 #[.agg (blkV b (.slice A b.txs.length ca)).toArray, .agg (blkV b (.slice B b.txs.length cb)).toArray] w fun e w' => e = .returned (.bool true) ∧ Below w.heap.size w w' := by
  have HS := Lib.hid (And.intro (And.intro hA hsA) (And.intro hB hsB)); clear hA hsA hB hsB
  obtain ⟨x0, x65, x66, x67, _⟩ := blkV_get b hb (.slice A b.txs.length ca)
  obtain ⟨y0, y65, y66, y67, _⟩ := blkV_get b hb (.slice B b.txs.length cb)
  obtain ⟨xp, xs⟩ := blkV_rest b hb (.slice A b.txs.length ca)
  obtain ⟨yp, ys⟩ := blkV_rest b hb (.slice B b.txs.length cb)
  rw [← List.getElem?_toArray] at x0 x65 x66 x67 y0 y65 y66 y67
  obtain ⟨X, hX⟩ : ∃ X, (blkV b (.slice A b.txs.length ca)).toArray = X := ⟨_, rfl⟩
  obtain ⟨Y, hY⟩ : ∃ X, (blkV b (.slice B b.txs.length cb)).toArray = X := ⟨_, rfl⟩
  rw [hX] at x0 x65 x66 x67 xp xs ⊢
  rw [hY] at y0 y65 y66 y67 yp ys ⊢
  obtain ⟨z1, z2⟩ := two_boxes w X Y 27 27
  have HR1 := Lib.hid (And.intro (range_part z1 xp) (range_part z1 xs))
  have HR2 := Lib.hid (And.intro (range_part z2 yp) (range_part z2 ys))
  have hpl := bytesV_length b.prev
  rw [hb.p] at hpl
  have hsl := bytesV_length b.state
  rw [hb.s] at hsl
  have HBL := Lib.hid (And.intro hpl hsl)
  have HH := Lib.hid (And.intro (hash_self b.prev hb.p) (hash_self b.state hb.s))
  have HB0 := Lib.hid (bnew2 w (.cells X 27) (.cells Y 27))
  have HZ := Lib.hid (And.intro z1 (And.intro z2 (And.intro x67 y67)))
  have HOK := Lib.hid hb
  obtain ⟨P, hP⟩ : ∃ M, bytesV b.prev = M := ⟨_, rfl⟩
  obtain ⟨S, hS⟩ : ∃ M, bytesV b.state = M := ⟨_, rfl⟩
  rw [hP, hS] at HR1 HR2 HBL HH
  obtain ⟨n, hn⟩ : ∃ n, b.txs.length = n := ⟨_, rfl⟩
  obtain ⟨ht, hht⟩ : ∃ n, b.height = n := ⟨_, rfl⟩
  obtain ⟨pr, hpr⟩ : ∃ n, b.proposer = n := ⟨_, rfl⟩
  obtain ⟨rd, hrd⟩ : ∃ n, b.round = n := ⟨_, rfl⟩
  have hnb : n ≤ 1048576 := by rw [← hn]; exact hb.n1
  rw [hn] at HZ x67 y67
  rw [hht] at x0 y0
  rw [hpr] at x65 y65
  rw [hrd] at x66 y66
  have HN := Lib.hid hn
  clear hX hY z1 z2 xp xs yp ys hpl hsl hP hS hn hht hpr hrd hb
  go_enter Try.func8, Try.ntmps8
  go_wp2_with (first
    | (refine wpListG_load (by kernel_rfl) 24 _ rfl w.heap.size 1 rfl P _ HR1.out.1 Try.underlying24 rfl (by rw [HBL.out.1]; kernel_rfl) ?_)
    | (refine wpListG_load (by kernel_rfl) 24 _ rfl (w.heap.size + 1) 1 rfl P _ HR2.out.1 Try.underlying24 rfl (by rw [HBL.out.1]; kernel_rfl) ?_)
    | (refine wpListG_load (by kernel_rfl) 24 _ rfl w.heap.size 33 rfl S _ HR1.out.2 Try.underlying24 rfl (by rw [HBL.out.2]; kernel_rfl) ?_)
    | (refine wpListG_load (by kernel_rfl) 24 _ rfl (w.heap.size + 1) 33 rfl S _ HR2.out.2 Try.underlying24 rfl (by rw [HBL.out.2]; kernel_rfl) ?_)
    | (refine wpListG_bin (by kernel_rfl) .neq 24 _ _ _ rfl P.toArray P.toArray rfl rfl (by kernel_rfl) (HH.out.1 _).2 ?_)
    | (refine wpListG_bin (by kernel_rfl) .neq 24 _ _ _ rfl S.toArray S.toArray rfl rfl (by kernel_rfl) (HH.out.2 _).2 ?_)
    | fail)
  obtain ⟨W0, hW0⟩ : ∃ W, (w.alloc (.cells X 27)).alloc (.cells Y 27) = W := ⟨_, rfl⟩
  have hsz : W0.heap.size = w.heap.size + 2 := by rw [← hW0]; simp
  rw [hW0] at HB0 HZ ⊢
  have HSZ := Lib.hid hsz
  clear hW0 HR1 HR2 HH HBL x0 x65 x66 x67 y0 y65 y66 y67 hsz
  go_loopw [5] (fun i wr => ∃ k : Nat, i = .int .i64 k ∧ k ≤ n ∧ Below W0.heap.size W0 wr) (fun i _ => n - (intOf i).toNat)
  case atStart => exact ⟨0, rfl, by omega, Below.refl _ _⟩
  case round =>
    obtain ⟨k, rfl, hk, hBw⟩ := hrel
    have z1 : wr.cell? ⟨w.heap.size, 67, none⟩ = some (.slice A n ca) := cell_of_heap ((hBw.block _ (by rw [HSZ.out]; omega)).trans HZ.out.1) HZ.out.2.2.1
    have z2 : wr.cell? ⟨w.heap.size + 1, 67, none⟩ = some (.slice B n cb) := cell_of_heap ((hBw.block _ (by rw [HSZ.out]; omega)).trans HZ.out.2.1) HZ.out.2.2.2
    have HBW := Lib.hid hBw
    by_cases hlt : k < n
    · obtain ⟨t, ht⟩ : ∃ t, b.txs[k]? = some t := ⟨_, List.getElem?_eq_getElem (by rw [HN.out]; exact hlt)⟩
      obtain ⟨A1, cap1, h1, h2, h3⟩ := HS.out.1.2.get ht
      obtain ⟨A2, cap2, h4, h5, h6⟩ := HS.out.2.2.get ht
      obtain ⟨b1, o1, rfl, hc1⟩ := HS.out.1.1.addr (by rw [HS.out.1.2.length, HN.out]; omega)
      obtain ⟨b2, o2, rfl, hc2⟩ := HS.out.2.1.addr (by rw [HS.out.2.2.length, HN.out]; omega)
      have hBB : Below w.heap.size w wr := bstep HB0.out hBw
      have r1 : wr.cell? ⟨b1, o1 + k, none⟩ = some (.slice A1 t.length cap1) := by
        have := (hc1 k (by rw [HS.out.1.2.length, HN.out]; omega)).trans h1
        exact (hBB.cell (p := ⟨b1, o1 + k, none⟩) (cell_lt this)).trans this
      have r2 : wr.cell? ⟨b2, o2 + k, none⟩ = some (.slice A2 t.length cap2) := by
        have := (hc2 k (by rw [HS.out.2.2.length, HN.out]; omega)).trans h4
        exact (hBB.cell (p := ⟨b2, o2 + k, none⟩) (cell_lt this)).trans this
      have HT := Lib.hid (And.intro (h3.below hBB).drew (h6.below hBB).drew)
      have hS0 : wr.drew.cell? ⟨w.heap.size, 67, none⟩ = some (.slice (some ⟨b1, o1, none⟩) n ca) ∧ wr.drew.cell? ⟨w.heap.size + 1, 67, none⟩ = some (.slice (some ⟨b2, o2, none⟩) n cb) ∧ wr.drew.cell? ⟨b1, o1 + k, none⟩ = some (.slice A1 t.length cap1) ∧ wr.drew.cell? ⟨b2, o2 + k, none⟩ = some (.slice A2 t.length cap2) := ⟨z1, z2, r1, r2⟩
      have HS0 := Lib.hid hS0
      have hkm : (k : Int) + 1 ≤ 9223372036854775807 := by omega
      clear h1 h2 h3 h4 h5 h6 hc1 hc2 hBB r1 r2 hBw ht hS0
      go_wp2_with fail
      clear z1 z2
      go_region_held3 (fun W => W.cell? ⟨w.heap.size, 67, none⟩ = some (.slice (some ⟨b1, o1, none⟩) n ca) ∧ W.cell? ⟨w.heap.size + 1, 67, none⟩ = some (.slice (some ⟨b2, o2, none⟩) n cb) ∧ W.cell? ⟨b1, o1 + k, none⟩ = some (.slice A1 t.length cap1) ∧ W.cell? ⟨b2, o2 + k, none⟩ = some (.slice A2 t.length cap2))
        (first
          | exact HS0.out
          | go_keep)
        (first
          | (go_at_call 10; (with_reducible refine (same_same A1 A2 t.length cap1 cap2 t rfl _ HT.out.1 HT.out.2).mono ?_); rintro e w2 ⟨rfl, rfl⟩))
      go_wp2_with fail
      go_roundw
      case rel => exact ⟨k + 1, by go_num, by omega, HBW.out.drew⟩
      case measure => simp [intOf]; omega
    · obtain rfl : k = n := by omega
      clear hlt hk hBw
      go_wp2
      exact bodyPost_ret (v := .bool true) (by simp [results, Try.results8]) rfl ⟨rfl, bstep HB0.out HBW.out⟩
end Go.Proofs.Ytildkoabfdfjlaa
namespace Go.Proofs.Ytildkoabfdfjlaa
open Go.RowKit
open Rlp (It)

theorem ask_some (n : Nat) (h : n ≤ 18446744073709551615) : ∃ y, Rlp.encode (.list [.str (Rlp.short n)]) = some y := by
  have hs : (Rlp.short n).length ≤ 8 := Rlp.short_length_le (k := 8) (by omega)
  have hh : ∀ b k : Nat, k < 56 → (Rlp.head b k).length = 1 := fun b k hk => by simp [Rlp.head, hk]
  have h1 : ∃ z, Rlp.enc (.str (Rlp.short n)) 1 = some z ∧ z.length ≤ 9 := by
    unfold Rlp.enc
    by_cases hc : (Rlp.short n).length = 1 ∧ (Rlp.short n).headD 0 < 0x80
    · rw [if_pos hc]; exact ⟨_, rfl, by omega⟩
    · rw [if_neg hc, if_pos (by unfold Rlp.MaxRlp; omega)]
      exact ⟨_, rfl, by rw [List.length_append, hh _ _ (by omega)]; omega⟩
  obtain ⟨z, hz, hzl⟩ := h1
  have h2 : Rlp.enc (.list [.str (Rlp.short n)]) 0 = some (Rlp.head 0xc0 z.length ++ z) := by
    rw [Rlp.enc, if_pos (by decide)]
    have : Rlp.encs [.str (Rlp.short n)] (0 + 1) [] = some z := by
      rw [Rlp.encs, hz]
      simp only [List.nil_append]
      rw [if_pos (by unfold Rlp.MaxRlp; omega), Rlp.encs]
    rw [this]
    simp only
    rw [if_pos (by unfold Rlp.MaxRlp; omega)]
  refine ⟨Rlp.head 0xc0 z.length ++ z, ?_⟩
  unfold Rlp.encode
  rw [h2]
  simp only
  rw [if_pos (by rw [List.length_append, hh _ _ (by omega)]; unfold Rlp.MaxRlp; omega)]

/-- a call that gives bytes -/
def Bytes1 (w : World) (l : List UInt8) (e : Ending) (w' : World) : Prop := ∃ A cap, e = .returned (.slice A l.length cap) ∧ Hid (l.length ≤ cap ∧ Rd 0 w' A (bytesV l)) ∧ Below w.heap.size w w'
theorem ask_c (n : Nat) (h : n ≤ 18446744073709551615) (y : List UInt8) (hy : Rlp.encode (.list [.str (Rlp.short n)]) = some y) (w : World) :
    Calls Try.prog 5 #[.int .u64 (n : Int)] w (Bytes1 w y) := by
  have hs : (Rlp.short n).length ≤ 8 := Rlp.short_length_le (k := 8) (by omega)
  have e : ((n : Int)).toNat = n := by omega
  refine (encask_c (n : Int) (by omega) (Lib.hid (by omega)) y (Lib.hid (by rw [e]; exact hy)) (Lib.hid (by rw [e]; simp [FitsAll, FitsAlls])) w).mono ?_
  rintro e w' ⟨v, rfl, ⟨A, cap, rfl, h1, h2⟩, h3⟩
  exact ⟨A, cap, rfl, Lib.hid ⟨h1, h2.mono (Nat.zero_le _)⟩, h3⟩
theorem unask_c (n : Nat) (h : n ≤ 18446744073709551615) (y : List UInt8) (hy : Rlp.encode (.list [.str (Rlp.short n)]) = some y) (A : Option Addr) (cap : Nat) (w : World) (hr : Hid (y.length ≤ cap ∧ Rd 0 w A (bytesV y))) :
    Calls Try.prog 4 #[.slice A y.length cap] w fun e w' => e = .returned (.tuple #[.int .u64 (n : Int), .int .i64 0]) ∧ Below w.heap.size w w' := by
  have h1 := decask_c y A y.length cap rfl hr.out.1 w hr.out.2
  have e : ((n : Int)).toNat = n := by omega
  rw [decAsk_enc (n : Int) (by omega) (by omega) (by rw [e]; exact hy), e] at h1
  exact h1

/-- a call that gives bytes and an error, whatever they are -/
def AnyEnc (w : World) (e : Ending) (w' : World) : Prop := ∃ A n cap k, e = .returned (.tuple #[.slice A n cap, .int .i64 k]) ∧ Below w.heap.size w w'
theorem EncPostE.any {w w' : World} {r : Except Int (List UInt8)} {e : Ending} (h : EncPostE w r e w') : AnyEnc w e w' := by
  cases r with
  | ok y => obtain ⟨A, cap, h1, _, _, h2⟩ := h; exact ⟨A, _, cap, _, h1, h2⟩
  | error k => exact ⟨none, 0, 0, k, h.1, h.2⟩
/-- EncodeAnswer's call that gave bytes -/
def Enc1 (w : World) (y : List UInt8) (e : Ending) (w' : World) : Prop := ∃ A cap, e = .returned (.tuple #[.slice A y.length cap, .int .i64 0]) ∧ Hid (y.length ≤ cap ∧ Rd 0 w' A (bytesV y)) ∧ Below w.heap.size w w'
theorem EncPostE.one {w w' : World} {y : List UInt8} {e : Ending} (h : EncPostE w (.ok y) e w') : Enc1 w y e w' := by
  obtain ⟨A, cap, h1, h2, h3, h4⟩ := h
  exact ⟨A, cap, h1, Lib.hid ⟨h2, h3.mono (Nat.zero_le _)⟩, h4⟩
theorem encAns_err {b : BlkI} {c : ComI} {k : Int} (h : encAns b c = .error k) : k ≠ 0 := by
  unfold encAns at h
  split at h
  · cases h; exact encBlk_err (by assumption)
  · split at h
    · cases h; exact encCom_err (by assumption)
    · split at h
      · cases h
      · cases h; decide
theorem decAns_err {l : List UInt8} {k : Int} (h : decAns l = .error k) : k ≠ 0 := by
  unfold decAns at h
  split at h
  · cases h; exact itsOf_err (by assumption)
  · split at h
    · cases h; exact decBlk_err (by assumption)
    · split at h
      · cases h; exact decCom_err (by assumption)
      · cases h
  · cases h; decide
theorem decAns_ok {l : List UInt8} : (blkA (decAns l)).Ok ∧ (comA (decAns l)).Ok := by
  cases h : decAns l with
  | error k => exact ⟨zeroB_ok, zeroC_ok⟩
  | ok p =>
    obtain ⟨b, c⟩ := p
    unfold decAns at h
    split at h
    · cases h
    · rename_i u v _
      cases h1 : decBlk u with
      | error e => simp [h1] at h
      | ok b' =>
        simp only [h1] at h
        cases h2 : decCom v with
        | error e => simp [h2] at h
        | ok c' =>
          simp only [h2, Except.ok.injEq, Prod.mk.injEq] at h
          obtain ⟨rfl, rfl⟩ := h
          exact ⟨decBlk_ok h1, decCom_ok h2⟩
    · cases h

/-- what DecodeAnswer's two values are, as cells -/
structure Two2 (W : World) (b : BlkI) (c : ComI) (L M : List Value) : Prop where
  ok : b.Ok
  okc : c.Ok
  l : L.length = 68
  m : M.length = 35
  l1 : L.toArray.all (·.oneCell') = true
  m1 : M.toArray.all (·.oneCell') = true
  ex : ∃ A cap vals A2 cap2, L = blkV b (.slice A b.txs.length cap) ∧ M = comV c.height c.round c.block (.slice A2 c.votes.length cap2) ∧ Rd 0 W A vals ∧ StrsR 0 W b.txs vals ∧ Rd 0 W A2 (votsV c.votes)
theorem Two2.below {W W' : World} {b : BlkI} {c : ComI} {L M : List Value} (h : Two2 W b c L M) (hb : Below W.heap.size W W') : Two2 W' b c L M := by
  obtain ⟨h1, h2, h3, h4, h5, h6, A, cap, vals, A2, cap2, h7, h8, h9, h10, h11⟩ := h
  exact ⟨h1, h2, h3, h4, h5, h6, A, cap, vals, A2, cap2, h7, h8, h9.below hb, h10.below hb, h11.below hb⟩
theorem Two2.mk' {W : World} {b : BlkI} {c : ComI} (hb : b.Ok) (hc : c.Ok) {A A2 : Option Addr} {cap cap2 : Nat} {vals : List Value} (h1 : Rd 0 W A vals) (h2 : StrsR 0 W b.txs vals) (h3 : Rd 0 W A2 (votsV c.votes)) :
    Two2 W b c (blkV b (.slice A b.txs.length cap)) (comV c.height c.round c.block (.slice A2 c.votes.length cap2)) :=
  ⟨hb, hc, (blkV_get b hb _).2.2.2.2, comV_len c hc _, all_oneCell_toArray (blkV_one _ _ _ _), all_oneCell_toArray (comV_one _ _ _ _ _ _), A, cap, vals, A2, cap2, rfl, rfl, h1, h2, h3⟩
/-- DecodeAnswer -/
def Dec1 (w : World) (b : BlkI) (c : ComI) (k : Int) (e : Ending) (w' : World) : Prop := ∃ L M, e = .returned (.tuple #[.agg L.toArray, .agg M.toArray, .int .i64 k]) ∧ Hid (Two2 w' b c L M) ∧ Below w.heap.size w w'
theorem dec_c (l : List UInt8) (A : Option Addr) (cap : Nat) (w : World) (hr : Hid (l.length ≤ cap ∧ Rd 0 w A (bytesV l))) :
    Calls Try.prog 7 #[.slice A l.length cap] w (Dec1 w (blkA (decAns l)) (comA (decAns l)) (errOf (decAns l))) := by
  refine (decAnswer_c l A l.length cap rfl hr.out.1 w hr.out.2).mono ?_
  rintro e w' ⟨A5, cap5, vals, A6, cap6, rfl, h, hB⟩
  exact ⟨_, _, rfl, Lib.hid (Two2.mk' decAns_ok.1 decAns_ok.2 (h.out.1.mono (Nat.zero_le _)) (StrsR.mono (Nat.zero_le _) h.out.2.1) (h.out.2.2.mono (Nat.zero_le _))), hB⟩
theorem Two2.enc {W : World} {b : BlkI} {c : ComI} {L M : List Value} (h : Two2 W b c L M) : Calls Try.prog 6 #[.agg L.toArray, .agg M.toArray] W (EncPostE W (encAns b c)) := by
  obtain ⟨h1, h2, _, _, _, _, A, cap, vals, A2, cap2, rfl, rfl, h9, h10, h11⟩ := h
  exact encAns_c b h1 A cap vals c h2 A2 cap2 W h9 h10 h11
theorem Two2.sameB {W : World} {b : BlkI} {c c' : ComI} {L M L' M' : List Value} (h : Two2 W b c L M) (h' : Two2 W b c' L' M') : Calls Try.prog 8 #[.agg L.toArray, .agg L'.toArray] W fun e w' => e = .returned (.bool true) ∧ Below W.heap.size W w' := by
  obtain ⟨h1, h2, _, _, _, _, A, cap, vals, A2, cap2, rfl, rfl, h9, h10, h11⟩ := h
  obtain ⟨_, _, _, _, _, _, A', cap', vals', A2', cap2', rfl, rfl, h9', h10', h11'⟩ := h'
  exact sameBlock_c b h1 A A' cap cap' vals vals' W h9 h10 h9' h10'
theorem Two2.sameC {W : World} {b b' : BlkI} {c : ComI} {L M L' M' : List Value} (h : Two2 W b c L M) (h' : Two2 W b' c L' M') : Calls Try.prog 9 #[.agg M.toArray, .agg M'.toArray] W fun e w' => e = .returned (.bool true) ∧ Below W.heap.size W w' := by
  obtain ⟨h1, h2, _, _, _, _, A, cap, vals, A2, cap2, rfl, rfl, h9, h10, h11⟩ := h
  obtain ⟨_, _, _, _, _, _, A', cap', vals', A2', cap2', rfl, rfl, h9', h10', h11'⟩ := h'
  exact sameCommit_c c h2 A2 A2' cap2 cap2' W h11 h11'
theorem gen_wpList {P : Program} {ops rest} {Q : Exit → Act → World → Prop} {a : Act} {w : World} (h : ∀ W, W = w → wpList P ops Q rest a W) : wpList P ops Q rest a w := h w rfl
end Go.Proofs.Ytildkoabfdfjlaa
