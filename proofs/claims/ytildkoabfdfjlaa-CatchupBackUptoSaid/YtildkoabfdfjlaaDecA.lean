/- catchup.DecodeAnswer. -/
import Derived.Test.YtildkoabfdfjlaaDecC
set_option linter.all false
namespace Go.Proofs.Ytildkoabfdfjlaa
open Go.RowKit
open Rlp (It)

def blkA (r : Except Int (Blk × ComN)) : BlkI := match r with | .ok p => p.1.toI | .error _ => zeroB
def comA (r : Except Int (Blk × ComN)) : ComI := match r with | .ok p => p.2.toI | .error _ => zeroC
/-- what DecodeAnswer gives -/
def DecAPost (w : World) (r : Except Int (Blk × ComN)) (e : Ending) (w' : World) : Prop :=
  ∃ A cap vals A2 cap2, e = .returned (.tuple #[.agg (blkV (blkA r) (.slice A (blkA r).txs.length cap)).toArray, .agg (comV (comA r).height (comA r).round (comA r).block (.slice A2 (comA r).votes.length cap2)).toArray, .int .i64 (errOf r)]) ∧
    Hid (Rd w.heap.size w' A vals ∧ StrsR w.heap.size w' (blkA r).txs vals ∧ Rd w.heap.size w' A2 (votsV (comA r).votes)) ∧ Below w.heap.size w w'
theorem DecAPost.no {w w' : World} {k : Int} (h : Below w.heap.size w w') : DecAPost w (.error k) (.returned (.tuple #[.agg Try.zeroCells27, .agg zc, .int .i64 k])) w' := by
  refine ⟨none, 0, [], none, 0, ?_, ⟨Rd.nil _ _ _, rfl, Rd.nil _ _ _⟩, h⟩
  rw [← zeroB_cells]; rfl

theorem results_2c1 {P : Program} {fn : Func} {tmps : Array Value} {w : World} {a a2 a3 : Tmp} {t t2 : TypeId} {p p2 : Addr} {v v2 v3 : Value} (hr : fn.results = #[.cell a t, .cell a2 t2, .tmp a3]) (ha : tmps.getD a undef = .pointer (some p)) (ha2 : tmps.getD a2 undef = .pointer (some p2)) (ha3 : tmps.getD a3 undef = v3)
    (hl : (loadVar t p).run P w = .ok v w) (hl2 : (loadVar t2 p2).run P w = .ok v2 w) :
    (results fn tmps).run P w = .ok (.tuple #[v, v2, v3]) w := by
  unfold results
  rw [hr]
  simp only [List.mapM_toArray, List.mapM_cons, List.mapM_nil, ha, ha2]
  simp [asAddr, hl, hl2, ha3]

/-- DecodeAnswer's two result variables -/
structure TA (w W : World) (c1 c2 : List Value) : Prop where
  be : Below w.heap.size w W
  b : W.heap[w.heap.size]? = some (.cells c1.toArray 27 (0, 0))
  c : W.heap[w.heap.size + 1]? = some (.cells c2.toArray 30 (0, 0))
  s1 : c1.length = 68
  s2 : c2.length = 35
  o1 : c1.toArray.all (·.oneCell') = true
  o2 : c2.toArray.all (·.oneCell') = true
theorem step_of {P : Program} {ops : Array Oper} {o : Oper} {a : Act} {w : World} {K : Act → World → Prop} {Q : Exit → Act → World → Prop} {E : Prop} (hgd : o.guard = none) (h : Oper.wp P o a w K Q) : if Region.wanted o (yielded ops a.tmps) = true then Oper.wp P o a w K Q else E := by
  rw [if_pos (by simp [Region.wanted, hgd])]; exact h
theorem TA.step {w W W' : World} {c1 c2 : List Value} (h : TA w W c1 c2) (hb : Below W.heap.size W W') : TA w W' c1 c2 :=
  ⟨bstep h.be hb, (hb.block _ (Array.getElem?_eq_some_iff.1 h.b).1).trans h.b, (hb.block _ (Array.getElem?_eq_some_iff.1 h.c).1).trans h.c, h.s1, h.s2, h.o1, h.o2⟩
theorem TA.drew {w W : World} {c1 c2 : List Value} (h : TA w W c1 c2) : TA w W.drew c1 c2 := ⟨h.be.drew, h.b, h.c, h.s1, h.s2, h.o1, h.o2⟩
theorem TA.setB {w W : World} {c1 c2 d : List Value} (h : TA w W c1 c2) (hd : d.length = 68) (ho : d.toArray.all (·.oneCell') = true) : TA w (W.setRow w.heap.size d.toArray) d c2 :=
  ⟨below_setRow _ h.be (Nat.le_refl _), heap_setRow_same h.b, (heap_setRow_other _ (by omega)).trans h.c, hd, h.s2, ho, h.o2⟩
theorem TA.setC {w W : World} {c1 c2 d : List Value} (h : TA w W c1 c2) (hd : d.length = 35) (ho : d.toArray.all (·.oneCell') = true) : TA w (W.setRow (w.heap.size + 1) d.toArray) c1 d :=
  ⟨below_setRow _ h.be (by omega), (heap_setRow_other _ (by omega)).trans h.b, heap_setRow_same h.c, h.s1, hd, h.o1, ho⟩
theorem TA.rgB {w W : World} {c1 c2 : List Value} (h : TA w W c1 c2) : W.rangeAt w.heap.size 0 c1 := fun j u hj => by rw [Nat.zero_add]; exact cell_of_heap h.b (by simpa using hj)
theorem TA.rgC {w W : World} {c1 c2 : List Value} (h : TA w W c1 c2) : W.rangeAt (w.heap.size + 1) 0 c2 := fun j u hj => by rw [Nat.zero_add]; exact cell_of_heap h.c (by simpa using hj)
theorem TA.thB {w W : World} {c1 c2 d : List Value} (h : TA w W c1 c2) (hd : d.length = 68) : W.there w.heap.size 0 d.toArray.size := fun j hj => by
  rw [Nat.zero_add]
  exact ⟨by rw [cell_of_heap h.b (Array.getElem?_eq_getElem (by have := h.s1; simp at hj ⊢; omega))]; rfl, by unfold World.frozen?; rw [h.b]; simp⟩
theorem TA.thC {w W : World} {c1 c2 d : List Value} (h : TA w W c1 c2) (hd : d.length = 35) : W.there (w.heap.size + 1) 0 d.toArray.size := fun j hj => by
  rw [Nat.zero_add]
  exact ⟨by rw [cell_of_heap h.c (Array.getElem?_eq_getElem (by have := h.s2; simp at hj ⊢; omega))]; rfl, by unfold World.frozen?; rw [h.c]; simp⟩
theorem TA.rowB {w W : World} {c1 c2 d : List Value} (h : TA w W c1 c2) (hd : d.length = 68) : W.setCells w.heap.size 0 d.toArray.toList = W.setRow w.heap.size d.toArray := by
  have := setCells_row (l := d) h.b (by have := h.s1; simp; omega)
  simpa using this
theorem TA.rowC {w W : World} {c1 c2 d : List Value} (h : TA w W c1 c2) (hd : d.length = 35) : W.setCells (w.heap.size + 1) 0 d.toArray.toList = W.setRow (w.heap.size + 1) d.toArray := by
  have := setCells_row (l := d) h.c (by have := h.s2; simp; omega)
  simpa using this
theorem TA.selfB {w W : World} {c1 c2 : List Value} (h : TA w W c1 c2) : W.setCells w.heap.size 0 c1.toArray.toList = W := setCells_self h.b _ 0 (fun j u hj => by rw [Nat.zero_add]; simpa using hj)
theorem TA.selfC {w W : World} {c1 c2 : List Value} (h : TA w W c1 c2) : W.setCells (w.heap.size + 1) 0 c2.toArray.toList = W := setCells_self h.c _ 0 (fun j u hj => by rw [Nat.zero_add]; simpa using hj)
theorem TA.loadB {w W : World} {c1 c2 : List Value} (h : TA w W c1 c2) : (loadVar 27 ⟨w.heap.size, 0, none⟩).run Try.prog W = .ok (.agg c1.toArray) W := load_block h.b (by rw [List.size_toArray]; exact h.s1)
theorem TA.loadC {w W : World} {c1 c2 : List Value} (h : TA w W c1 c2) : (loadVar 30 ⟨w.heap.size + 1, 0, none⟩).run Try.prog W = .ok (.agg c2.toArray) W := load_commit h.c (by rw [List.size_toArray]; exact h.s2)
theorem TA.atB {w W : World} {c1 c2 : List Value} (h : TA w W c1 c2) : (Instr.loadAt 27 (.pointer (some ⟨w.heap.size, 0, none⟩))).run Try.prog W = .ok (.agg c1.toArray) W := by
  simp only [Instr.loadAt, Instr.sureAddr, Sem.run_bind, Sem.run_pure, Result.andThen_ok, h.loadB]
theorem TA.atC {w W : World} {c1 c2 : List Value} (h : TA w W c1 c2) : (Instr.loadAt 30 (.pointer (some ⟨w.heap.size + 1, 0, none⟩))).run Try.prog W = .ok (.agg c2.toArray) W := by
  simp only [Instr.loadAt, Instr.sureAddr, Sem.run_bind, Sem.run_pure, Result.andThen_ok, h.loadC]

theorem opn_err {l : List UInt8} {k : Int} (h : opn l = .error k) : k ≠ 0 := by
  unfold opn at h
  cases hd : Rlp.decode l with
  | error e => rw [hd] at h; cases h; exact decode_err hd
  | ok x => rw [hd] at h; cases x with
    | str s => cases h; decide
    | list its => cases h
theorem decBlk_err {l : List UInt8} {k : Int} (h : decBlk l = .error k) : k ≠ 0 := by
  unfold decBlk at h
  cases ho : opn l with
  | error e => rw [ho] at h; cases h; exact opn_err ho
  | ok its =>
    rw [ho] at h; simp only at h
    cases hr : rdBlock its with
    | none => rw [hr] at h; cases h; decide
    | some b =>
      rw [hr] at h; simp only at h
      split at h
      · cases h
      · cases h; decide
theorem decCom_err {l : List UInt8} {k : Int} (h : decCom l = .error k) : k ≠ 0 := by
  unfold decCom at h
  cases ho : opn l with
  | error e => rw [ho] at h; cases h; exact opn_err ho
  | ok its =>
    rw [ho] at h; simp only at h
    cases hr : rdCom its with
    | none => rw [hr] at h; cases h; decide
    | some b => rw [hr] at h; cases h
theorem cell_blocks {n : Nat} {w w' : World} (hk : ∀ k, n ≤ k → k < w.heap.size → w'.heap[k]? = w.heap[k]?) {b o : Nat} {v : Value} (hn : n ≤ b) (h : w.cell? ⟨b, o, none⟩ = some v) : w'.cell? ⟨b, o, none⟩ = some v := (World.cell?_of_block (hk b hn (cell_lt h))).trans h

theorem TA.zB {w W : World} {c1 c2 : List Value} (h : TA w W c1 c2) : W.there w.heap.size 0 Try.zeroCells27.size ∧ W.setCells w.heap.size 0 Try.zeroCells27.toList = W.setRow w.heap.size Try.zeroCells27 ∧ TA w (W.setRow w.heap.size Try.zeroCells27) Try.zeroCells27.toList c2 := by
  have h1 : Try.zeroCells27.toList.length = 68 := by rw [Array.length_toList, zeroB_size]
  have h2 := h.thB h1
  have h3 := h.rowB h1
  have h4 := h.setB h1 (by kernel_rfl)
  simp only [Array.toArray_toList] at h2 h3 h4
  exact ⟨h2, h3, h4⟩
theorem TA.zC {w W : World} {c1 c2 : List Value} (h : TA w W c1 c2) : W.there (w.heap.size + 1) 0 zc.size ∧ W.setCells (w.heap.size + 1) 0 zc.toList = W.setRow (w.heap.size + 1) zc ∧ TA w (W.setRow (w.heap.size + 1) zc) c1 zc.toList := by
  have h1 : zc.toList.length = 35 := by rw [Array.length_toList, zc_size]
  have h2 := h.thC h1
  have h3 := h.rowC h1
  have h4 := h.setC h1 (by kernel_rfl)
  simp only [Array.toArray_toList] at h2 h3 h4
  exact ⟨h2, h3, h4⟩

theorem StrsR.drew {n : Nat} {w : World} {l : List (List UInt8)} {cs : List Value} (h : StrsR n w l cs) : StrsR n w.drew l cs := StrsR.blocks (w := w) (w' := w.drew) (fun _ _ _ => rfl) h
theorem decA_start (w : World) : ∀ W, (w.alloc (.cells Try.zeroCells27 27)).alloc (.cells zc 30) = W → TA w W Try.zeroCells27.toList zc.toList ∧ W.heap.size = w.heap.size + 2 := by
    rintro W rfl
    refine ⟨⟨bnew2 _ _ _, ?_, ?_, by rw [Array.length_toList, zeroB_size], by rw [Array.length_toList, zc_size], by kernel_rfl, by kernel_rfl⟩, by simp⟩
    · rw [Below.heap_alloc _ _ _ (by simp)]; simpa using World.alloc_heap_new _ _
    · have := World.alloc_heap_new (w.alloc (.cells Try.zeroCells27 27)) (.cells zc 30)
      simpa using this

set_option maxRecDepth 100000 in
set_option maxHeartbeats 4000000 in
theorem decAnswer_c (l : List UInt8) (A : Option Addr) (n cap : Nat) (hn : n = l.length) (hc : n ≤ cap) (w : World) (hrd : Rd 0 w A (bytesV l)) :
    Calls Try.prog 7 #[.slice A n cap] w (DecAPost w (decAns l)) := by
  have HO : Hid (∀ W, Below w.heap.size w W → Calls Try.prog 12 #[.slice A n cap, .int .i64 2] W (ItsPost W (itsOf l 2))) := fun W hW => its_c l A n cap hn hc 2 W (hrd.below hW)
  have HE0 := Lib.hid (decA_start w)
  clear hrd hn hc
  go_enter Try.func7, Try.ntmps7
  go_wp2_with fail
  refine gen_world fun W0 hW0 => ?_
  have HW0 := Lib.hid (HE0.out W0 (by rw [hW0]; rfl))
  clear hW0 HE0
  refine (HO.out W0 HW0.out.1.be).mono ?_
  obtain ⟨Z, hZ⟩ : ∃ Z, Try.zeroCells27 = Z := ⟨_, rfl⟩
  obtain ⟨ZC, hZC⟩ : ∃ Z, zc = Z := ⟨_, rfl⟩
  rw [hZ, hZC] at HW0
  have HZ := Lib.hid (And.intro hZ hZC); clear hZ hZC
  cases hi : itsOf l 2 with
  | error e0 =>
    have hk : (e0 != 0) = true := by simpa using itsOf_err hi
    have ho : decAns l = .error e0 := by unfold decAns; rw [hi]
    have HO1 := Lib.hid ho; clear hi ho
    rintro e w1 ⟨rfl, hB⟩
    have T1 := HW0.out.1.step hB
    have HT1 := Lib.hid T1
    clear T1 hB
    go_wp2_with fail
    refine wp_region_any (by kernel_rfl) ?_
    (try (change wpAny _ _ _ _ _ _ _ (World.drew _)))
    refine wpAny_take (i := 2) (v := ?_) rfl (by kernel_rfl) (by kernel_rfl) (by kernel_rfl) (fun _ _ _ h => h) (Or.inl ⟨by rfl, ?_⟩) ?_
    rotate_left
    · intro w; go_simp; (try with_reducible rfl)
    refine wpAny_ready (rs := [0, 1]) (by kernel_rfl) (by simp) ?_
    refine (AllReady.cons rfl (fun K hK => ?_) (AllReady.cons rfl (fun K hK => ?_) AllReady.nil))
    · refine step_of rfl (wp_load_mid 27 _ rfl w.heap.size 0 rfl Z.toList _ HT1.out.drew.rgB Try.underlying27 rfl (by rw [HT1.out.s1]; kernel_rfl) ?_)
      go_simp
      refine hK _ _ ?_
      clear hK K
      refine wpAny_ready (rs := [1, 3]) (by kernel_rfl) (by simp) ?_
      refine (AllReady.cons rfl (fun K hK => ?_) (AllReady.cons rfl (fun K hK => ?_) AllReady.nil))
      · refine step_of rfl (wp_load_mid 30 _ rfl (w.heap.size + 1) 0 rfl ZC.toList _ HT1.out.drew.rgC Try.underlying30 rfl (by rw [HT1.out.s2]; kernel_rfl) ?_)
        go_simp
        refine hK _ _ ?_
        clear hK K
        refine wpAny_ready (rs := [3]) (by kernel_rfl) (by simp) ?_
        refine (AllReady.cons rfl (fun K hK => ?_) AllReady.nil)
        · refine step_of rfl (wp_store_mid 27 _ _ rfl w.heap.size 0 Z.toList.toArray (by simp [Act.eval, Act.put]) (by simp [Act.eval, Act.put]) (HT1.out.drew.thB HT1.out.s1) (by rw [List.size_toArray, HT1.out.s1]; kernel_rfl) HT1.out.o1 ?_)
          rw [HT1.out.drew.selfB]
          go_simp
          refine hK _ _ ?_
          clear hK K
          refine wpAny_ready (rs := [4]) (by kernel_rfl) (by simp) ?_
          refine (AllReady.cons rfl (fun K hK => ?_) AllReady.nil)
          · refine step_of rfl (wp_store_mid 30 _ _ rfl (w.heap.size + 1) 0 ZC.toList.toArray (by simp [Act.eval, Act.put]) (by simp [Act.eval, Act.put]) (HT1.out.drew.thC HT1.out.s2) (by rw [List.size_toArray, HT1.out.s2]; kernel_rfl) HT1.out.o2 ?_)
            rw [HT1.out.drew.selfC]
            go_simp
            refine hK _ _ ?_
            clear hK K
            refine wpAny_take (i := 5) (v := ?_) rfl (by kernel_rfl) (by kernel_rfl) (by kernel_rfl) (fun _ _ _ h => h) (Or.inl ⟨by rfl, ?_⟩) ?_
            rotate_left
            · intro w; go_simp; (try with_reducible rfl)
            refine wpAny_done (by kernel_rfl) ?_ _
            go_wp2_with fail
            exact bodyPost_ret (v := _) (results_2c1 Try.results7 rfl rfl rfl HT1.out.drew.loadB HT1.out.drew.loadC) rfl (by rw [HO1.out, ← HZ.out.1, ← HZ.out.2]; exact DecAPost.no HT1.out.drew.be)
      · refine step_of rfl (wp_store_mid 27 _ _ rfl w.heap.size 0 Z.toList.toArray (by simp [Act.eval, Act.put]) (by simp [Act.eval, Act.put]) (HT1.out.drew.thB HT1.out.s1) (by rw [List.size_toArray, HT1.out.s1]; kernel_rfl) HT1.out.o1 ?_)
        rw [HT1.out.drew.selfB]
        go_simp
        refine hK _ _ ?_
        clear hK K
        refine wpAny_ready (rs := [1]) (by kernel_rfl) (by simp) ?_
        refine (AllReady.cons rfl (fun K hK => ?_) AllReady.nil)
        · refine step_of rfl (wp_load_mid 30 _ rfl (w.heap.size + 1) 0 rfl ZC.toList _ HT1.out.drew.rgC Try.underlying30 rfl (by rw [HT1.out.s2]; kernel_rfl) ?_)
          go_simp
          refine hK _ _ ?_
          clear hK K
          refine wpAny_ready (rs := [4]) (by kernel_rfl) (by simp) ?_
          refine (AllReady.cons rfl (fun K hK => ?_) AllReady.nil)
          · refine step_of rfl (wp_store_mid 30 _ _ rfl (w.heap.size + 1) 0 ZC.toList.toArray (by simp [Act.eval, Act.put]) (by simp [Act.eval, Act.put]) (HT1.out.drew.thC HT1.out.s2) (by rw [List.size_toArray, HT1.out.s2]; kernel_rfl) HT1.out.o2 ?_)
            rw [HT1.out.drew.selfC]
            go_simp
            refine hK _ _ ?_
            clear hK K
            refine wpAny_take (i := 5) (v := ?_) rfl (by kernel_rfl) (by kernel_rfl) (by kernel_rfl) (fun _ _ _ h => h) (Or.inl ⟨by rfl, ?_⟩) ?_
            rotate_left
            · intro w; go_simp; (try with_reducible rfl)
            refine wpAny_done (by kernel_rfl) ?_ _
            go_wp2_with fail
            exact bodyPost_ret (v := _) (results_2c1 Try.results7 rfl rfl rfl HT1.out.drew.loadB HT1.out.drew.loadC) rfl (by rw [HO1.out, ← HZ.out.1, ← HZ.out.2]; exact DecAPost.no HT1.out.drew.be)
    · refine step_of rfl (wp_load_mid 30 _ rfl (w.heap.size + 1) 0 rfl ZC.toList _ HT1.out.drew.rgC Try.underlying30 rfl (by rw [HT1.out.s2]; kernel_rfl) ?_)
      go_simp
      refine hK _ _ ?_
      clear hK K
      refine wpAny_ready (rs := [0]) (by kernel_rfl) (by simp) ?_
      refine (AllReady.cons rfl (fun K hK => ?_) AllReady.nil)
      · refine step_of rfl (wp_load_mid 27 _ rfl w.heap.size 0 rfl Z.toList _ HT1.out.drew.rgB Try.underlying27 rfl (by rw [HT1.out.s1]; kernel_rfl) ?_)
        go_simp
        refine hK _ _ ?_
        clear hK K
        refine wpAny_ready (rs := [3]) (by kernel_rfl) (by simp) ?_
        refine (AllReady.cons rfl (fun K hK => ?_) AllReady.nil)
        · refine step_of rfl (wp_store_mid 27 _ _ rfl w.heap.size 0 Z.toList.toArray (by simp [Act.eval, Act.put]) (by simp [Act.eval, Act.put]) (HT1.out.drew.thB HT1.out.s1) (by rw [List.size_toArray, HT1.out.s1]; kernel_rfl) HT1.out.o1 ?_)
          rw [HT1.out.drew.selfB]
          go_simp
          refine hK _ _ ?_
          clear hK K
          refine wpAny_ready (rs := [4]) (by kernel_rfl) (by simp) ?_
          refine (AllReady.cons rfl (fun K hK => ?_) AllReady.nil)
          · refine step_of rfl (wp_store_mid 30 _ _ rfl (w.heap.size + 1) 0 ZC.toList.toArray (by simp [Act.eval, Act.put]) (by simp [Act.eval, Act.put]) (HT1.out.drew.thC HT1.out.s2) (by rw [List.size_toArray, HT1.out.s2]; kernel_rfl) HT1.out.o2 ?_)
            rw [HT1.out.drew.selfC]
            go_simp
            refine hK _ _ ?_
            clear hK K
            refine wpAny_take (i := 5) (v := ?_) rfl (by kernel_rfl) (by kernel_rfl) (by kernel_rfl) (fun _ _ _ h => h) (Or.inl ⟨by rfl, ?_⟩) ?_
            rotate_left
            · intro w; go_simp; (try with_reducible rfl)
            refine wpAny_done (by kernel_rfl) ?_ _
            go_wp2_with fail
            exact bodyPost_ret (v := _) (results_2c1 Try.results7 rfl rfl rfl HT1.out.drew.loadB HT1.out.drew.loadC) rfl (by rw [HO1.out, ← HZ.out.1, ← HZ.out.2]; exact DecAPost.no HT1.out.drew.be)
  | ok its =>
    have hlen := itsOf_len hi
    match its, hlen with
    | [x, y], _ =>
    rintro e w1 ⟨A2, cap2, cs, rfl, hcap, hr, hit, hB⟩
    simp only [ItemsR] at hit
    obtain ⟨c0, c1, c2, cs', rfl, hx, d0, d1, d2, ds', rfl, hy, rfl⟩ := hit
    obtain ⟨f, A1, k1, cp1, B1, m1, e1, rfl, rfl, rfl⟩ := hx.shape
    obtain ⟨g, A3, k3, cp3, B3, m3, e3, rfl, rfl, rfl⟩ := hy.shape
    obtain ⟨b, o, hbn, rfl, hk⟩ := hr.resolve_left (by simp)
    have y0 := hk 0 (by simp)
    have y1 := hk 1 (by simp)
    have y3 := hk 3 (by simp)
    have y4 := hk 4 (by simp)
    simp only [List.getElem?_cons_zero, List.getElem?_cons_succ, Nat.add_zero] at y0 y1 y3 y4
    have T1 := HW0.out.1.step hB
    have HT1 := Lib.hid T1
    have HXY := Lib.hid (And.intro hx (And.intro hy hB)); have HBN := Lib.hid hbn; clear T1 hB hx hy hr hcap hlen hk hbn
    have HI := Lib.hid hi; clear hi
    cases x with
    | list xl =>
      have hf := HXY.out.1
      simp only [ItemR, Value.bool.injEq] at hf
      obtain ⟨rfl, _⟩ := hf
      have HO1 : Hid (decAns l = .error 11) := by show decAns l = _; unfold decAns; rw [HI.out]
      go_wp2_with fail
      refine wp_region_any (by kernel_rfl) ?_
      (try (change wpAny _ _ _ _ _ _ _ (World.drew _)))
      refine wpAny_ready (rs := [0, 1]) (by kernel_rfl) (by simp) ?_
      refine (AllReady.cons rfl (fun K hK => ?_) (AllReady.cons rfl (fun K hK => ?_) AllReady.nil))
      · refine step_of rfl (wp_load_mid 27 _ rfl w.heap.size 0 rfl Z.toList _ HT1.out.drew.rgB Try.underlying27 rfl (by rw [HT1.out.s1]; kernel_rfl) ?_)
        go_simp
        refine hK _ _ ?_
        clear hK K
        refine wpAny_ready (rs := [1, 2]) (by kernel_rfl) (by simp) ?_
        refine (AllReady.cons rfl (fun K hK => ?_) (AllReady.cons rfl (fun K hK => ?_) AllReady.nil))
        · refine step_of rfl (wp_load_mid 30 _ rfl (w.heap.size + 1) 0 rfl ZC.toList _ HT1.out.drew.rgC Try.underlying30 rfl (by rw [HT1.out.s2]; kernel_rfl) ?_)
          go_simp
          refine hK _ _ ?_
          clear hK K
          refine wpAny_ready (rs := [2]) (by kernel_rfl) (by simp) ?_
          refine (AllReady.cons rfl (fun K hK => ?_) AllReady.nil)
          · refine step_of rfl (wp_store_mid 27 _ _ rfl w.heap.size 0 Z.toList.toArray (by simp [Act.eval, Act.put]) (by simp [Act.eval, Act.put]) (HT1.out.drew.thB HT1.out.s1) (by rw [List.size_toArray, HT1.out.s1]; kernel_rfl) HT1.out.o1 ?_)
            rw [HT1.out.drew.selfB]
            go_simp
            refine hK _ _ ?_
            clear hK K
            refine wpAny_ready (rs := [3]) (by kernel_rfl) (by simp) ?_
            refine (AllReady.cons rfl (fun K hK => ?_) AllReady.nil)
            · refine step_of rfl (wp_store_mid 30 _ _ rfl (w.heap.size + 1) 0 ZC.toList.toArray (by simp [Act.eval, Act.put]) (by simp [Act.eval, Act.put]) (HT1.out.drew.thC HT1.out.s2) (by rw [List.size_toArray, HT1.out.s2]; kernel_rfl) HT1.out.o2 ?_)
              rw [HT1.out.drew.selfC]
              go_simp
              refine hK _ _ ?_
              clear hK K
              refine wpAny_take (i := 4) (v := ?_) rfl (by kernel_rfl) (by kernel_rfl) (by kernel_rfl) (fun _ _ _ h => h) (Or.inl ⟨by rfl, ?_⟩) ?_
              rotate_left
              · intro w; go_simp; (try with_reducible rfl)
              refine wpAny_done (by kernel_rfl) ?_ _
              go_wp2_with fail
              exact bodyPost_ret (v := _) (results_2c1 Try.results7 rfl rfl rfl HT1.out.drew.loadB HT1.out.drew.loadC) rfl (by rw [HO1.out, ← HZ.out.1, ← HZ.out.2]; exact DecAPost.no HT1.out.drew.be)
        · refine step_of rfl (wp_store_mid 27 _ _ rfl w.heap.size 0 Z.toList.toArray (by simp [Act.eval, Act.put]) (by simp [Act.eval, Act.put]) (HT1.out.drew.thB HT1.out.s1) (by rw [List.size_toArray, HT1.out.s1]; kernel_rfl) HT1.out.o1 ?_)
          rw [HT1.out.drew.selfB]
          go_simp
          refine hK _ _ ?_
          clear hK K
          refine wpAny_ready (rs := [1]) (by kernel_rfl) (by simp) ?_
          refine (AllReady.cons rfl (fun K hK => ?_) AllReady.nil)
          · refine step_of rfl (wp_load_mid 30 _ rfl (w.heap.size + 1) 0 rfl ZC.toList _ HT1.out.drew.rgC Try.underlying30 rfl (by rw [HT1.out.s2]; kernel_rfl) ?_)
            go_simp
            refine hK _ _ ?_
            clear hK K
            refine wpAny_ready (rs := [3]) (by kernel_rfl) (by simp) ?_
            refine (AllReady.cons rfl (fun K hK => ?_) AllReady.nil)
            · refine step_of rfl (wp_store_mid 30 _ _ rfl (w.heap.size + 1) 0 ZC.toList.toArray (by simp [Act.eval, Act.put]) (by simp [Act.eval, Act.put]) (HT1.out.drew.thC HT1.out.s2) (by rw [List.size_toArray, HT1.out.s2]; kernel_rfl) HT1.out.o2 ?_)
              rw [HT1.out.drew.selfC]
              go_simp
              refine hK _ _ ?_
              clear hK K
              refine wpAny_take (i := 4) (v := ?_) rfl (by kernel_rfl) (by kernel_rfl) (by kernel_rfl) (fun _ _ _ h => h) (Or.inl ⟨by rfl, ?_⟩) ?_
              rotate_left
              · intro w; go_simp; (try with_reducible rfl)
              refine wpAny_done (by kernel_rfl) ?_ _
              go_wp2_with fail
              exact bodyPost_ret (v := _) (results_2c1 Try.results7 rfl rfl rfl HT1.out.drew.loadB HT1.out.drew.loadC) rfl (by rw [HO1.out, ← HZ.out.1, ← HZ.out.2]; exact DecAPost.no HT1.out.drew.be)
      · refine step_of rfl (wp_load_mid 30 _ rfl (w.heap.size + 1) 0 rfl ZC.toList _ HT1.out.drew.rgC Try.underlying30 rfl (by rw [HT1.out.s2]; kernel_rfl) ?_)
        go_simp
        refine hK _ _ ?_
        clear hK K
        refine wpAny_ready (rs := [0]) (by kernel_rfl) (by simp) ?_
        refine (AllReady.cons rfl (fun K hK => ?_) AllReady.nil)
        · refine step_of rfl (wp_load_mid 27 _ rfl w.heap.size 0 rfl Z.toList _ HT1.out.drew.rgB Try.underlying27 rfl (by rw [HT1.out.s1]; kernel_rfl) ?_)
          go_simp
          refine hK _ _ ?_
          clear hK K
          refine wpAny_ready (rs := [2]) (by kernel_rfl) (by simp) ?_
          refine (AllReady.cons rfl (fun K hK => ?_) AllReady.nil)
          · refine step_of rfl (wp_store_mid 27 _ _ rfl w.heap.size 0 Z.toList.toArray (by simp [Act.eval, Act.put]) (by simp [Act.eval, Act.put]) (HT1.out.drew.thB HT1.out.s1) (by rw [List.size_toArray, HT1.out.s1]; kernel_rfl) HT1.out.o1 ?_)
            rw [HT1.out.drew.selfB]
            go_simp
            refine hK _ _ ?_
            clear hK K
            refine wpAny_ready (rs := [3]) (by kernel_rfl) (by simp) ?_
            refine (AllReady.cons rfl (fun K hK => ?_) AllReady.nil)
            · refine step_of rfl (wp_store_mid 30 _ _ rfl (w.heap.size + 1) 0 ZC.toList.toArray (by simp [Act.eval, Act.put]) (by simp [Act.eval, Act.put]) (HT1.out.drew.thC HT1.out.s2) (by rw [List.size_toArray, HT1.out.s2]; kernel_rfl) HT1.out.o2 ?_)
              rw [HT1.out.drew.selfC]
              go_simp
              refine hK _ _ ?_
              clear hK K
              refine wpAny_take (i := 4) (v := ?_) rfl (by kernel_rfl) (by kernel_rfl) (by kernel_rfl) (fun _ _ _ h => h) (Or.inl ⟨by rfl, ?_⟩) ?_
              rotate_left
              · intro w; go_simp; (try with_reducible rfl)
              refine wpAny_done (by kernel_rfl) ?_ _
              go_wp2_with fail
              exact bodyPost_ret (v := _) (results_2c1 Try.results7 rfl rfl rfl HT1.out.drew.loadB HT1.out.drew.loadC) rfl (by rw [HO1.out, ← HZ.out.1, ← HZ.out.2]; exact DecAPost.no HT1.out.drew.be)
    | str u =>
      have hf := HXY.out.1
      simp only [ItemR, Value.bool.injEq] at hf
      obtain ⟨rfl, hu, _⟩ := hf
      have HU := Lib.hid hu; clear hu
      cases y with
      | list yl =>
        have hf := HXY.out.2.1
        simp only [ItemR, Value.bool.injEq] at hf
        obtain ⟨rfl, _⟩ := hf
        have HO1 : Hid (decAns l = .error 11) := by show decAns l = _; unfold decAns; rw [HI.out]
        go_wp2_with fail
        refine wp_region_any (by kernel_rfl) ?_
        (try (change wpAny _ _ _ _ _ _ _ (World.drew _)))
        refine wpAny_ready (rs := [0, 1]) (by kernel_rfl) (by simp) ?_
        refine (AllReady.cons rfl (fun K hK => ?_) (AllReady.cons rfl (fun K hK => ?_) AllReady.nil))
        · refine step_of rfl (wp_load_mid 27 _ rfl w.heap.size 0 rfl Z.toList _ HT1.out.drew.rgB Try.underlying27 rfl (by rw [HT1.out.s1]; kernel_rfl) ?_)
          go_simp
          refine hK _ _ ?_
          clear hK K
          refine wpAny_ready (rs := [1, 2]) (by kernel_rfl) (by simp) ?_
          refine (AllReady.cons rfl (fun K hK => ?_) (AllReady.cons rfl (fun K hK => ?_) AllReady.nil))
          · refine step_of rfl (wp_load_mid 30 _ rfl (w.heap.size + 1) 0 rfl ZC.toList _ HT1.out.drew.rgC Try.underlying30 rfl (by rw [HT1.out.s2]; kernel_rfl) ?_)
            go_simp
            refine hK _ _ ?_
            clear hK K
            refine wpAny_ready (rs := [2]) (by kernel_rfl) (by simp) ?_
            refine (AllReady.cons rfl (fun K hK => ?_) AllReady.nil)
            · refine step_of rfl (wp_store_mid 27 _ _ rfl w.heap.size 0 Z.toList.toArray (by simp [Act.eval, Act.put]) (by simp [Act.eval, Act.put]) (HT1.out.drew.thB HT1.out.s1) (by rw [List.size_toArray, HT1.out.s1]; kernel_rfl) HT1.out.o1 ?_)
              rw [HT1.out.drew.selfB]
              go_simp
              refine hK _ _ ?_
              clear hK K
              refine wpAny_ready (rs := [3]) (by kernel_rfl) (by simp) ?_
              refine (AllReady.cons rfl (fun K hK => ?_) AllReady.nil)
              · refine step_of rfl (wp_store_mid 30 _ _ rfl (w.heap.size + 1) 0 ZC.toList.toArray (by simp [Act.eval, Act.put]) (by simp [Act.eval, Act.put]) (HT1.out.drew.thC HT1.out.s2) (by rw [List.size_toArray, HT1.out.s2]; kernel_rfl) HT1.out.o2 ?_)
                rw [HT1.out.drew.selfC]
                go_simp
                refine hK _ _ ?_
                clear hK K
                refine wpAny_take (i := 4) (v := ?_) rfl (by kernel_rfl) (by kernel_rfl) (by kernel_rfl) (fun _ _ _ h => h) (Or.inl ⟨by rfl, ?_⟩) ?_
                rotate_left
                · intro w; go_simp; (try with_reducible rfl)
                refine wpAny_done (by kernel_rfl) ?_ _
                go_wp2_with fail
                exact bodyPost_ret (v := _) (results_2c1 Try.results7 rfl rfl rfl HT1.out.drew.loadB HT1.out.drew.loadC) rfl (by rw [HO1.out, ← HZ.out.1, ← HZ.out.2]; exact DecAPost.no HT1.out.drew.be)
          · refine step_of rfl (wp_store_mid 27 _ _ rfl w.heap.size 0 Z.toList.toArray (by simp [Act.eval, Act.put]) (by simp [Act.eval, Act.put]) (HT1.out.drew.thB HT1.out.s1) (by rw [List.size_toArray, HT1.out.s1]; kernel_rfl) HT1.out.o1 ?_)
            rw [HT1.out.drew.selfB]
            go_simp
            refine hK _ _ ?_
            clear hK K
            refine wpAny_ready (rs := [1]) (by kernel_rfl) (by simp) ?_
            refine (AllReady.cons rfl (fun K hK => ?_) AllReady.nil)
            · refine step_of rfl (wp_load_mid 30 _ rfl (w.heap.size + 1) 0 rfl ZC.toList _ HT1.out.drew.rgC Try.underlying30 rfl (by rw [HT1.out.s2]; kernel_rfl) ?_)
              go_simp
              refine hK _ _ ?_
              clear hK K
              refine wpAny_ready (rs := [3]) (by kernel_rfl) (by simp) ?_
              refine (AllReady.cons rfl (fun K hK => ?_) AllReady.nil)
              · refine step_of rfl (wp_store_mid 30 _ _ rfl (w.heap.size + 1) 0 ZC.toList.toArray (by simp [Act.eval, Act.put]) (by simp [Act.eval, Act.put]) (HT1.out.drew.thC HT1.out.s2) (by rw [List.size_toArray, HT1.out.s2]; kernel_rfl) HT1.out.o2 ?_)
                rw [HT1.out.drew.selfC]
                go_simp
                refine hK _ _ ?_
                clear hK K
                refine wpAny_take (i := 4) (v := ?_) rfl (by kernel_rfl) (by kernel_rfl) (by kernel_rfl) (fun _ _ _ h => h) (Or.inl ⟨by rfl, ?_⟩) ?_
                rotate_left
                · intro w; go_simp; (try with_reducible rfl)
                refine wpAny_done (by kernel_rfl) ?_ _
                go_wp2_with fail
                exact bodyPost_ret (v := _) (results_2c1 Try.results7 rfl rfl rfl HT1.out.drew.loadB HT1.out.drew.loadC) rfl (by rw [HO1.out, ← HZ.out.1, ← HZ.out.2]; exact DecAPost.no HT1.out.drew.be)
        · refine step_of rfl (wp_load_mid 30 _ rfl (w.heap.size + 1) 0 rfl ZC.toList _ HT1.out.drew.rgC Try.underlying30 rfl (by rw [HT1.out.s2]; kernel_rfl) ?_)
          go_simp
          refine hK _ _ ?_
          clear hK K
          refine wpAny_ready (rs := [0]) (by kernel_rfl) (by simp) ?_
          refine (AllReady.cons rfl (fun K hK => ?_) AllReady.nil)
          · refine step_of rfl (wp_load_mid 27 _ rfl w.heap.size 0 rfl Z.toList _ HT1.out.drew.rgB Try.underlying27 rfl (by rw [HT1.out.s1]; kernel_rfl) ?_)
            go_simp
            refine hK _ _ ?_
            clear hK K
            refine wpAny_ready (rs := [2]) (by kernel_rfl) (by simp) ?_
            refine (AllReady.cons rfl (fun K hK => ?_) AllReady.nil)
            · refine step_of rfl (wp_store_mid 27 _ _ rfl w.heap.size 0 Z.toList.toArray (by simp [Act.eval, Act.put]) (by simp [Act.eval, Act.put]) (HT1.out.drew.thB HT1.out.s1) (by rw [List.size_toArray, HT1.out.s1]; kernel_rfl) HT1.out.o1 ?_)
              rw [HT1.out.drew.selfB]
              go_simp
              refine hK _ _ ?_
              clear hK K
              refine wpAny_ready (rs := [3]) (by kernel_rfl) (by simp) ?_
              refine (AllReady.cons rfl (fun K hK => ?_) AllReady.nil)
              · refine step_of rfl (wp_store_mid 30 _ _ rfl (w.heap.size + 1) 0 ZC.toList.toArray (by simp [Act.eval, Act.put]) (by simp [Act.eval, Act.put]) (HT1.out.drew.thC HT1.out.s2) (by rw [List.size_toArray, HT1.out.s2]; kernel_rfl) HT1.out.o2 ?_)
                rw [HT1.out.drew.selfC]
                go_simp
                refine hK _ _ ?_
                clear hK K
                refine wpAny_take (i := 4) (v := ?_) rfl (by kernel_rfl) (by kernel_rfl) (by kernel_rfl) (fun _ _ _ h => h) (Or.inl ⟨by rfl, ?_⟩) ?_
                rotate_left
                · intro w; go_simp; (try with_reducible rfl)
                refine wpAny_done (by kernel_rfl) ?_ _
                go_wp2_with fail
                exact bodyPost_ret (v := _) (results_2c1 Try.results7 rfl rfl rfl HT1.out.drew.loadB HT1.out.drew.loadC) rfl (by rw [HO1.out, ← HZ.out.1, ← HZ.out.2]; exact DecAPost.no HT1.out.drew.be)
      | str v =>
        have hf := HXY.out.2.1
        simp only [ItemR, Value.bool.injEq] at hf
        obtain ⟨rfl, hv, _⟩ := hf
        obtain ⟨Au, cu, he, hcu, hru⟩ := HU.out
        cases he
        obtain ⟨Av, cv, he, hcv, hrv⟩ := hv
        cases he
        have HW2 : Hid (∀ W, Below w1.heap.size w1 W → ∀ W' : World, (∀ k, W0.heap.size ≤ k → k < W.heap.size → W'.heap[k]? = W.heap[k]?) → W'.cell? ⟨b, o + 3, none⟩ = some (.bool false) ∧ W'.cell? ⟨b, o + 4, none⟩ = some (.slice A3 v.length cp3) ∧ Rd 0 W' A3 (bytesV v)) := by
          intro W hW W' hW'
          refine ⟨cell_blocks hW' HBN.out ((hW.cell (cell_lt y3)).trans y3), cell_blocks hW' HBN.out ((hW.cell (cell_lt y4)).trans y4), ((hrv.below hW).blocks hW').mono (Nat.zero_le _)⟩
        have HDB := Lib.hid (decBlock_c u A1 u.length cp1 rfl hcu w1 (hru.mono (Nat.zero_le _)))
        have HCV := Lib.hid hcv
        clear hcu hru hcv hrv HU
        go_wp2_with fail
        refine HDB.out.mono ?_
        have hbo := blkOf_ok u
        cases hb : decBlk u with
        | error k =>
          have hk0 := decBlk_err hb
          have hk1 : (k != 0) = true := by simpa using hk0
          have hk2 : (k == 0) = false := by simpa using hk0
          rintro e w2 ⟨A5, cap5, vals5, rfl, _, _, hB2⟩
          rw [hb] at hbo
          have hL1 := (blkV_get _ hbo (.slice A5 (blkOf (.error k)).txs.length cap5)).2.2.2.2
          have hL2 := all_oneCell_toArray (blkV_one (blkOf (.error k)) A5 (blkOf (.error k)).txs.length cap5)
          obtain ⟨L, hL⟩ : ∃ L, blkV (blkOf (.error k)) (.slice A5 (blkOf (.error k)).txs.length cap5) = L := ⟨_, rfl⟩
          rw [hL] at hL1 hL2 ⊢
          have HT2 := Lib.hid (HT1.out.step hB2)
          have HT3 := Lib.hid ((HT2.out.setB hL1) hL2)
          have HL := Lib.hid (And.intro hL1 hL2)
          have HO1 : Hid (decAns l = .error k) := by show decAns l = _; unfold decAns; rw [HI.out]; simp only; rw [hb]
          clear hL1 hL2 hL hk0 hB2 hbo hb
          rw [show errOf (Except.error k : Except Int Blk) = k from rfl]
          have HZ3 := Lib.hid HT3.out.zB
          have HZ4 := Lib.hid HZ3.out.2.2.zC
          go_wp2_with (first
            | (refine wpList_store_mid rfl 27 _ _ rfl w.heap.size 0 L.toArray (by simp [Act.eval, Act.put]) (by simp [Act.eval, Act.put]) (HT2.out.thB HL.out.1) (by rw [List.size_toArray, HL.out.1]; kernel_rfl) HL.out.2 ?_; rw [HT2.out.rowB HL.out.1])
            | (refine wpList_store_mid rfl 27 _ _ rfl w.heap.size 0 Try.zeroCells27 (by simp [Act.eval, Act.put]) (by simp [Act.eval, Act.put]) HZ3.out.1 (by kernel_rfl) (by kernel_rfl) ?_; rw [HZ3.out.2.1])
            | (refine wpList_store_mid rfl 30 _ _ rfl (w.heap.size + 1) 0 zc (by simp [Act.eval, Act.put]) (by kernel_rfl) HZ4.out.1 (by kernel_rfl) (by kernel_rfl) ?_; rw [HZ4.out.2.1])
            | fail)
          exact bodyPost_ret (v := _) (results_2c1 Try.results7 rfl rfl rfl HZ4.out.2.2.loadB HZ4.out.2.2.loadC) rfl (by rw [HO1.out]; simp only [Array.toArray_toList]; exact DecAPost.no HZ4.out.2.2.be)
        | ok bk =>
          rintro e w2 ⟨A5, cap5, vals5, rfl, hR5, hS5, hB2⟩
          rw [hb] at hbo
          have hL1 := (blkV_get _ hbo (.slice A5 (blkOf (.ok bk)).txs.length cap5)).2.2.2.2
          have hL2 := all_oneCell_toArray (blkV_one (blkOf (.ok bk)) A5 (blkOf (.ok bk)).txs.length cap5)
          obtain ⟨L, hL⟩ : ∃ L, blkV (blkOf (.ok bk)) (.slice A5 (blkOf (.ok bk)).txs.length cap5) = L := ⟨_, rfl⟩
          rw [hL] at hL1 hL2 ⊢
          have HT2 := Lib.hid (HT1.out.step hB2)
          have hT3 := (HT2.out.setB hL1) hL2
          have HL := Lib.hid (And.intro hL1 (And.intro hL2 hL))
          have hsz : w.heap.size + 2 ≤ w1.heap.size := by have := HW0.out.2; have := HXY.out.2.2.size; omega
          have hsz0 := HW0.out.2
          have hrow := HT2.out.rowB HL.out.1
          obtain ⟨W3, hW3⟩ : ∃ W, w2.setRow w.heap.size L.toArray = W := ⟨_, rfl⟩
          rw [hW3] at hT3 hrow
          have hk3 : ∀ k, W0.heap.size ≤ k → k < w2.heap.size → W3.heap[k]? = w2.heap[k]? := by
            intro k h1 h2; rw [← hW3]; exact heap_setRow_other _ (by omega)
          obtain ⟨_, z4, hrv⟩ := HW2.out w2 hB2 W3 hk3
          have z5 : W3.cell? ⟨b, o + 3 + 1, none⟩ = some (.slice A3 v.length cp3) := z4
          have hk4 : ∀ k, w1.heap.size ≤ k → k < w2.heap.size → W3.heap[k]? = w2.heap[k]? := fun k h1 h2 => hk3 k (by omega) h2
          have HDC := Lib.hid (decCommit_c v A3 v.length cp3 rfl HCV.out W3 hrv)
          have HTX := Lib.hid (And.intro ((hR5.blocks hk4).mono (n' := w.heap.size + 2) hsz) (StrsR.mono (n' := w.heap.size + 2) hsz (hS5.blocks hk4)))
          have HT3 := Lib.hid hT3
          have HROW := Lib.hid hrow
          have HBK := Lib.hid hb
          clear hL1 hL2 hL hB2 hbo hb hR5 hS5 hsz hsz0 hrow hW3 hk3 hk4 hrv hT3 z4 HDB HW2
          rw [show errOf (Except.ok bk : Except Int Blk) = 0 from rfl]
          go_wp2_with (first
            | (refine wpList_store_mid rfl 27 _ _ rfl w.heap.size 0 L.toArray (by simp [Act.eval, Act.put]) (by simp [Act.eval, Act.put]) (HT2.out.thB HL.out.1) (by rw [List.size_toArray, HL.out.1]; kernel_rfl) HL.out.2.1 ?_; rw [HROW.out])
            | fail)
          refine HDC.out.mono ?_
          have hco := comOf_ok v
          cases hcm : decCom v with
          | error k =>
            have hk0 := decCom_err hcm
            have hk1 : (k != 0) = true := by simpa using hk0
            have hk2 : (k == 0) = false := by simpa using hk0
            rintro e w4 ⟨A6, cap6, rfl, _, hB4⟩
            rw [hcm] at hco
            have hM1 := comV_len (comOf (.error k)) hco (.slice A6 (comOf (.error k)).votes.length cap6)
            have hM2 := all_oneCell_toArray (comV_one (comOf (.error k)).height (comOf (.error k)).round (comOf (.error k)).block A6 (comOf (.error k)).votes.length cap6)
            obtain ⟨M, hM⟩ : ∃ L, comV (comOf (.error k)).height (comOf (.error k)).round (comOf (.error k)).block (.slice A6 (comOf (.error k)).votes.length cap6) = L := ⟨_, rfl⟩
            rw [hM] at hM1 hM2 ⊢
            have HT4 := Lib.hid (HT3.out.step hB4)
            have HT5 := Lib.hid ((HT4.out.setC hM1) hM2)
            have HM := Lib.hid (And.intro hM1 hM2)
            have HO1 : Hid (decAns l = .error k) := by show decAns l = _; unfold decAns; rw [HI.out]; simp only; rw [HBK.out]; simp only; rw [hcm]
            clear hM1 hM2 hM hk0 hB4 hco hcm
            rw [show errOf (Except.error k : Except Int ComN) = k from rfl]
            have HZ3 := Lib.hid HT5.out.zB
            have HZ4 := Lib.hid HZ3.out.2.2.zC
            go_wp2_with (first
              | (refine wpList_store_mid rfl 30 _ _ rfl (w.heap.size + 1) 0 M.toArray (by simp [Act.eval, Act.put]) (by simp [Act.eval, Act.put]) (HT4.out.thC HM.out.1) (by rw [List.size_toArray, HM.out.1]; kernel_rfl) HM.out.2 ?_; rw [HT4.out.rowC HM.out.1])
              | (refine wpList_store_mid rfl 27 _ _ rfl w.heap.size 0 Try.zeroCells27 (by simp [Act.eval, Act.put]) (by simp [Act.eval, Act.put]) HZ3.out.1 (by kernel_rfl) (by kernel_rfl) ?_; rw [HZ3.out.2.1])
              | (refine wpList_store_mid rfl 30 _ _ rfl (w.heap.size + 1) 0 zc (by simp [Act.eval, Act.put]) (by kernel_rfl) HZ4.out.1 (by kernel_rfl) (by kernel_rfl) ?_; rw [HZ4.out.2.1])
              | fail)
            exact bodyPost_ret (v := _) (results_2c1 Try.results7 rfl rfl rfl HZ4.out.2.2.loadB HZ4.out.2.2.loadC) rfl (by rw [HO1.out]; simp only [Array.toArray_toList]; exact DecAPost.no HZ4.out.2.2.be)
          | ok cm =>
            rintro e w4 ⟨A6, cap6, rfl, hR6, hB4⟩
            rw [hcm] at hco
            have hM1 := comV_len (comOf (.ok cm)) hco (.slice A6 (comOf (.ok cm)).votes.length cap6)
            have hM2 := all_oneCell_toArray (comV_one (comOf (.ok cm)).height (comOf (.ok cm)).round (comOf (.ok cm)).block A6 (comOf (.ok cm)).votes.length cap6)
            obtain ⟨M, hM⟩ : ∃ L, comV (comOf (.ok cm)).height (comOf (.ok cm)).round (comOf (.ok cm)).block (.slice A6 (comOf (.ok cm)).votes.length cap6) = L := ⟨_, rfl⟩
            rw [hM] at hM1 hM2 ⊢
            have HT4 := Lib.hid (HT3.out.step hB4)
            have hT5 := (HT4.out.setC hM1) hM2
            have hrow := HT4.out.rowC hM1
            have hsz3 : w.heap.size + 2 ≤ W3.heap.size := by
              have := (Array.getElem?_eq_some_iff.1 HT3.out.c).1
              omega
            obtain ⟨W5, hW5⟩ : ∃ W, w4.setRow (w.heap.size + 1) M.toArray = W := ⟨_, rfl⟩
            rw [hW5] at hT5 hrow
            have hk5 : ∀ k, w.heap.size + 2 ≤ k → k < w4.heap.size → W5.heap[k]? = w4.heap[k]? := by
              intro k h1 h2; rw [← hW5]; exact heap_setRow_other _ (by omega)
            have HM := Lib.hid (And.intro hM1 (And.intro hM2 hM))
            have HT5 := Lib.hid hT5
            have HROW2 := Lib.hid hrow
            have HFIN := Lib.hid (And.intro ((HTX.out.1.below hB4).blocks hk5) (And.intro ((HTX.out.2.below hB4).blocks hk5) ((hR6.mono hsz3).blocks hk5)))
            have HO1 : Hid (decAns l = .ok (bk, cm)) := by show decAns l = _; unfold decAns; rw [HI.out]; simp only; rw [HBK.out]; simp only; rw [hcm]
            clear hM1 hM2 hM hB4 hco hcm hR6 hT5 hrow hsz3 hW5 hk5 z5
            rw [show errOf (Except.ok cm : Except Int ComN) = 0 from rfl]
            go_wp2_with (first
              | (refine wpList_store_mid rfl 30 _ _ rfl (w.heap.size + 1) 0 M.toArray (by simp [Act.eval, Act.put]) (by simp [Act.eval, Act.put]) (HT4.out.thC HM.out.1) (by rw [List.size_toArray, HM.out.1]; kernel_rfl) HM.out.2.1 ?_; rw [HROW2.out])
              | fail)
            have HEND : Hid (DecAPost w (decAns l) (.returned (.tuple #[.agg L.toArray, .agg M.toArray, .int .i64 0])) W5.drew) := by
              show DecAPost _ _ _ _
              rw [HO1.out]
              refine ⟨A5, cap5, vals5, A6, cap6, ?_, ⟨HFIN.out.1.drew.mono (by omega), StrsR.mono (by omega) HFIN.out.2.1.drew, HFIN.out.2.2.drew.mono (by omega)⟩, HT5.out.drew.be⟩
              rw [← HL.out.2.2, ← HM.out.2.2]
              rfl
            refine wp_region_any (by kernel_rfl) ?_
            (try (change wpAny _ _ _ _ _ _ _ (World.drew _)))
            refine wpAny_ready (rs := [0, 1]) (by kernel_rfl) (by simp) ?_
            refine (AllReady.cons rfl (fun K hK => ?_) (AllReady.cons rfl (fun K hK => ?_) AllReady.nil))
            · refine step_of rfl (wp_load_mid 27 _ rfl w.heap.size 0 rfl L _ HT5.out.drew.rgB Try.underlying27 rfl (by rw [HT5.out.s1]; kernel_rfl) ?_)
              go_simp
              refine hK _ _ ?_
              clear hK K
              refine wpAny_ready (rs := [1, 2]) (by kernel_rfl) (by simp) ?_
              refine (AllReady.cons rfl (fun K hK => ?_) (AllReady.cons rfl (fun K hK => ?_) AllReady.nil))
              · refine step_of rfl (wp_load_mid 30 _ rfl (w.heap.size + 1) 0 rfl M _ HT5.out.drew.rgC Try.underlying30 rfl (by rw [HT5.out.s2]; kernel_rfl) ?_)
                go_simp
                refine hK _ _ ?_
                clear hK K
                refine wpAny_ready (rs := [2]) (by kernel_rfl) (by simp) ?_
                refine (AllReady.cons rfl (fun K hK => ?_) AllReady.nil)
                · refine step_of rfl (wp_store_mid 27 _ _ rfl w.heap.size 0 L.toArray (by simp [Act.eval, Act.put]) (by simp [Act.eval, Act.put]) (HT5.out.drew.thB HT5.out.s1) (by rw [List.size_toArray, HT5.out.s1]; kernel_rfl) HT5.out.o1 ?_)
                  rw [HT5.out.drew.selfB]
                  go_simp
                  refine hK _ _ ?_
                  clear hK K
                  refine wpAny_ready (rs := [3]) (by kernel_rfl) (by simp) ?_
                  refine (AllReady.cons rfl (fun K hK => ?_) AllReady.nil)
                  · refine step_of rfl (wp_store_mid 30 _ _ rfl (w.heap.size + 1) 0 M.toArray (by simp [Act.eval, Act.put]) (by simp [Act.eval, Act.put]) (HT5.out.drew.thC HT5.out.s2) (by rw [List.size_toArray, HT5.out.s2]; kernel_rfl) HT5.out.o2 ?_)
                    rw [HT5.out.drew.selfC]
                    go_simp
                    refine hK _ _ ?_
                    clear hK K
                    refine wpAny_take (i := 4) (v := ?_) rfl (by kernel_rfl) (by kernel_rfl) (by kernel_rfl) (fun _ _ _ h => h) (Or.inl ⟨by rfl, ?_⟩) ?_
                    rotate_left
                    · intro w; go_simp; (try with_reducible rfl)
                    refine wpAny_done (by kernel_rfl) ?_ _
                    go_wp2_with fail
                    exact bodyPost_ret (v := _) (results_2c1 Try.results7 rfl rfl rfl HT5.out.drew.loadB HT5.out.drew.loadC) rfl HEND.out
              · refine step_of rfl (wp_store_mid 27 _ _ rfl w.heap.size 0 L.toArray (by simp [Act.eval, Act.put]) (by simp [Act.eval, Act.put]) (HT5.out.drew.thB HT5.out.s1) (by rw [List.size_toArray, HT5.out.s1]; kernel_rfl) HT5.out.o1 ?_)
                rw [HT5.out.drew.selfB]
                go_simp
                refine hK _ _ ?_
                clear hK K
                refine wpAny_ready (rs := [1]) (by kernel_rfl) (by simp) ?_
                refine (AllReady.cons rfl (fun K hK => ?_) AllReady.nil)
                · refine step_of rfl (wp_load_mid 30 _ rfl (w.heap.size + 1) 0 rfl M _ HT5.out.drew.rgC Try.underlying30 rfl (by rw [HT5.out.s2]; kernel_rfl) ?_)
                  go_simp
                  refine hK _ _ ?_
                  clear hK K
                  refine wpAny_ready (rs := [3]) (by kernel_rfl) (by simp) ?_
                  refine (AllReady.cons rfl (fun K hK => ?_) AllReady.nil)
                  · refine step_of rfl (wp_store_mid 30 _ _ rfl (w.heap.size + 1) 0 M.toArray (by simp [Act.eval, Act.put]) (by simp [Act.eval, Act.put]) (HT5.out.drew.thC HT5.out.s2) (by rw [List.size_toArray, HT5.out.s2]; kernel_rfl) HT5.out.o2 ?_)
                    rw [HT5.out.drew.selfC]
                    go_simp
                    refine hK _ _ ?_
                    clear hK K
                    refine wpAny_take (i := 4) (v := ?_) rfl (by kernel_rfl) (by kernel_rfl) (by kernel_rfl) (fun _ _ _ h => h) (Or.inl ⟨by rfl, ?_⟩) ?_
                    rotate_left
                    · intro w; go_simp; (try with_reducible rfl)
                    refine wpAny_done (by kernel_rfl) ?_ _
                    go_wp2_with fail
                    exact bodyPost_ret (v := _) (results_2c1 Try.results7 rfl rfl rfl HT5.out.drew.loadB HT5.out.drew.loadC) rfl HEND.out
            · refine step_of rfl (wp_load_mid 30 _ rfl (w.heap.size + 1) 0 rfl M _ HT5.out.drew.rgC Try.underlying30 rfl (by rw [HT5.out.s2]; kernel_rfl) ?_)
              go_simp
              refine hK _ _ ?_
              clear hK K
              refine wpAny_ready (rs := [0]) (by kernel_rfl) (by simp) ?_
              refine (AllReady.cons rfl (fun K hK => ?_) AllReady.nil)
              · refine step_of rfl (wp_load_mid 27 _ rfl w.heap.size 0 rfl L _ HT5.out.drew.rgB Try.underlying27 rfl (by rw [HT5.out.s1]; kernel_rfl) ?_)
                go_simp
                refine hK _ _ ?_
                clear hK K
                refine wpAny_ready (rs := [2]) (by kernel_rfl) (by simp) ?_
                refine (AllReady.cons rfl (fun K hK => ?_) AllReady.nil)
                · refine step_of rfl (wp_store_mid 27 _ _ rfl w.heap.size 0 L.toArray (by simp [Act.eval, Act.put]) (by simp [Act.eval, Act.put]) (HT5.out.drew.thB HT5.out.s1) (by rw [List.size_toArray, HT5.out.s1]; kernel_rfl) HT5.out.o1 ?_)
                  rw [HT5.out.drew.selfB]
                  go_simp
                  refine hK _ _ ?_
                  clear hK K
                  refine wpAny_ready (rs := [3]) (by kernel_rfl) (by simp) ?_
                  refine (AllReady.cons rfl (fun K hK => ?_) AllReady.nil)
                  · refine step_of rfl (wp_store_mid 30 _ _ rfl (w.heap.size + 1) 0 M.toArray (by simp [Act.eval, Act.put]) (by simp [Act.eval, Act.put]) (HT5.out.drew.thC HT5.out.s2) (by rw [List.size_toArray, HT5.out.s2]; kernel_rfl) HT5.out.o2 ?_)
                    rw [HT5.out.drew.selfC]
                    go_simp
                    refine hK _ _ ?_
                    clear hK K
                    refine wpAny_take (i := 4) (v := ?_) rfl (by kernel_rfl) (by kernel_rfl) (by kernel_rfl) (fun _ _ _ h => h) (Or.inl ⟨by rfl, ?_⟩) ?_
                    rotate_left
                    · intro w; go_simp; (try with_reducible rfl)
                    refine wpAny_done (by kernel_rfl) ?_ _
                    go_wp2_with fail
                    exact bodyPost_ret (v := _) (results_2c1 Try.results7 rfl rfl rfl HT5.out.drew.loadB HT5.out.drew.loadC) rfl HEND.out
end Go.Proofs.Ytildkoabfdfjlaa
