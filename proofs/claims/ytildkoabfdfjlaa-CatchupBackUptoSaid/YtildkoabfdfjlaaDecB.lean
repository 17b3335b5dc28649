/- chain.DecodeBlock. -/
import Derived.Test.YtildkoabfdfjlaaDLen
set_option linter.all false
namespace Go.Proofs.Ytildkoabfdfjlaa
open Go.RowKit
open Rlp (It)

/-- what DecodeBlock gives: a block (zero where there is an error), and the error -/
def DecBPost (w : World) (r : Except Int Blk) (e : Ending) (w' : World) : Prop :=
  ∃ A cap vals, e = .returned (.tuple #[.agg (blkV (blkOf r) (.slice A (blkOf r).txs.length cap)).toArray, .int .i64 (errOf r)]) ∧
    Rd w.heap.size w' A vals ∧ StrsR w.heap.size w' (blkOf r).txs vals ∧ Below w.heap.size w w'

theorem DecBPost.no {w w' : World} {k : Int} (h : Below w.heap.size w w') : DecBPost w (.error k) (.returned (.tuple #[.agg Try.zeroCells27, .int .i64 k])) w' := by
  refine ⟨none, 0, [], ?_, Rd.nil _ _ _, rfl, h⟩
  rw [← zeroB_cells]; rfl

theorem strs_of_in {n mm : Nat} {w : World} : ∀ {l : List (List UInt8)} {cs : List Value}, StrsIn n mm w l cs → StrsR n w l cs
  | [], cs, h => h
  | x :: r, cs, h => by
    obtain ⟨A, cap, cs', h1, h2, h3, h4⟩ := h
    exact ⟨A, cap, cs', h1, h2, h3.keep (w' := w) (fun b o v _ h => (cut_cell h).2), strs_of_in h4⟩

theorem Rd.blocks {n : Nat} {w w' : World} {A : Option Addr} {xs : List Value} (h : Rd n w A xs) (hk : ∀ k, n ≤ k → k < w.heap.size → w'.heap[k]? = w.heap[k]?) : Rd n w' A xs :=
  h.keep fun b o v hn hv => (World.cell?_of_block (hk b hn (cell_lt hv))).trans hv
theorem StrsR.blocks {n : Nat} {w w' : World} (hk : ∀ k, n ≤ k → k < w.heap.size → w'.heap[k]? = w.heap[k]?) : ∀ {l : List (List UInt8)} {cs : List Value}, StrsR n w l cs → StrsR n w' l cs
  | [], cs, h => h
  | x :: r, cs, h => by
    obtain ⟨A, cap, cs', h1, h2, h3, h4⟩ := h
    exact ⟨A, cap, cs', h1, h2, h3.blocks hk, StrsR.blocks hk h4⟩
theorem StrsR.mono {n n' : Nat} {w : World} (hn : n' ≤ n) : ∀ {l : List (List UInt8)} {cs : List Value}, StrsR n w l cs → StrsR n' w l cs
  | [], cs, h => h
  | x :: r, cs, h => by
    obtain ⟨A, cap, cs', h1, h2, h3, h4⟩ := h
    exact ⟨A, cap, cs', h1, h2, h3.mono hn, StrsR.mono hn h4⟩
theorem load_block {W : World} {b : Nat} {cur : Array Value} {t : TypeId} {f : Nat × Nat} (h : W.heap[b]? = some (.cells cur t f)) (hs : cur.size = 68) : (loadVar 27 ⟨b, 0, none⟩).run Try.prog W = .ok (.agg cur) W := by
  have := run_loadVar_mid (P := Try.prog) W b 0 27 cur.toList _ (fun j u hj => by rw [Nat.zero_add]; exact cell_of_heap h (by simpa using hj)) Try.underlying27 rfl (by rw [Array.length_toList, hs]; kernel_rfl)
  simpa using this
theorem zeroB_size : Try.zeroCells27.size = 68 := by kernel_rfl

/-- the two result variables, as they stand before a return -/
structure Two (w W : World) (cur : Array Value) : Prop where
  be : Below w.heap.size w W
  b : W.heap[w.heap.size]? = some (.cells cur 27 (0, 0))
  e : W.heap[w.heap.size + 1]? = some (.cells #[.int .i64 0] 32 (0, 0))
theorem Two.step {w W W' : World} {cur : Array Value} (h : Two w W cur) (hb : Below W.heap.size W W') : Two w W' cur :=
  ⟨bstep h.be hb, (hb.block _ (Array.getElem?_eq_some_iff.1 h.b).1).trans h.b, (hb.block _ (Array.getElem?_eq_some_iff.1 h.e).1).trans h.e⟩
theorem Two.low {w W W' : World} {cur : Array Value} {m : Nat} (h : Two w W cur) (hm : w.heap.size + 2 ≤ m) (hb : Below m W W') : Two w W' cur :=
  ⟨h.be.trans (hb.mono (by omega)), (hb.block _ (by omega)).trans h.b, (hb.block _ (by omega)).trans h.e⟩

/-- a panic of chain's, caught by DecodeBlock -/
theorem decB_caught {fn : Func} {tmps : Array Value} {w W : World} {k : Int} {r : Except Int Blk} (hfn : fn.results = #[.cell 2 27, .cell 3 32]) (h2 : tmps.getD 2 undef = .pointer (some ⟨w.heap.size, 0, none⟩)) (h3 : tmps.getD 3 undef = .pointer (some ⟨w.heap.size + 1, 0, none⟩))
    (hr : r = .error k) (h : Two w W Try.zeroCells27) :
    Leaves Try.prog fn tmps (DecBPost w r) [{ target := .fn (.func 35) #[], args := #[.pointer (some ⟨w.heap.size + 1, 0, none⟩)] }] (.panicking (wrg k)) W := by
  subst hr
  have hs1 : (W.setCell ⟨w.heap.size + 1, 0, none⟩ (.int .i64 k)).heap[w.heap.size]? = some (.cells Try.zeroCells27 27 (0, 0)) := (heap_setCell_other _ (by dsimp only; omega)).trans h.b
  have hs2 : (W.setCell ⟨w.heap.size + 1, 0, none⟩ (.int .i64 k)).heap[w.heap.size + 1]? = some (.cells #[.int .i64 k] 32 (0, 0)) := heap_setCell_row h.e
  refine fin_caught (x := 0) (cell_of_heap h.e rfl) (by unfold World.frozen?; rw [h.e]; rfl) (results_2cells hfn h2 h3 (load_block hs1 zeroB_size) (load_errno _ _ _ (cell_of_heap hs2 rfl))) ?_
  exact DecBPost.no (h.be.setCell (p := ⟨w.heap.size + 1, 0, none⟩) (by simp) _)

set_option maxRecDepth 100000 in
set_option maxHeartbeats 1000000 in
theorem decBlock_c (l : List UInt8) (A : Option Addr) (n cap : Nat) (hn : n = l.length) (hc : n ≤ cap) (w : World) (hrd : Rd 0 w A (bytesV l)) :
    Calls Try.prog 20 #[.slice A n cap] w (DecBPost w (decBlk l)) := by
  have HO : Hid (∀ W, Below w.heap.size w W → Calls Try.prog 36 #[.slice A n cap] W (OpnPost W (opn l))) := fun W hW => copened_c l A n cap hn hc W (hrd.below hW)
  have HE0 : Hid (∀ W, (w.alloc (.cells Try.zeroCells27 27)).alloc (.cells #[.int .i64 0] 32) = W → Below w.heap.size w W ∧ W.heap.size = w.heap.size + 2 ∧
      W.heap[w.heap.size]? = some (.cells Try.zeroCells27 27 (0, 0)) ∧ W.heap[w.heap.size + 1]? = some (.cells #[.int .i64 0] 32 (0, 0))) := by
    rintro W rfl
    refine ⟨bnew2 _ _ _, by simp, ?_, ?_⟩
    · rw [Below.heap_alloc _ _ _ (by simp)]; exact World.alloc_heap_new _ _
    · have := World.alloc_heap_new (w.alloc (.cells Try.zeroCells27 27)) (.cells #[.int .i64 0] 32)
      rwa [World.size_alloc] at this
  clear hrd hn hc
  go_enter_defers Try.func20, Try.ntmps20
  go_wp2_with fail
  obtain ⟨W0, hW0⟩ : ∃ W, (w.alloc (.cells Try.zeroCells27 27)).alloc (.cells #[.int .i64 0] 32) = W := ⟨_, rfl⟩
  have HW0 := Lib.hid (HE0.out W0 hW0)
  rw [hW0]; clear hW0 HE0
  have T0 : Two w W0 Try.zeroCells27 := ⟨HW0.out.1, HW0.out.2.2.1, HW0.out.2.2.2⟩
  have HT0 := Lib.hid T0; clear T0
  refine (HO.out W0 HW0.out.1).mono ?_
  cases ho : opn l with
  | error k =>
    rintro e w1 ⟨rfl, hB1⟩
    exact decB_caught Try.results20 rfl rfl (by unfold decBlk; rw [ho]) (HT0.out.step hB1)
  | ok its =>
    rintro e w1 ⟨R, mm, rfl, hR, hC, hB1⟩
    have HC := Lib.hid (And.intro hR (And.intro hC hB1)); clear hR hC hB1
    go_wp2_with fail
    refine (rblock_c W0.heap.size mm W0.heap.size w1 R its HC.out.1 HC.out.2.1 (opn_big ho)).mono ?_
    cases hb : rdBlock its with
    | none =>
      intro e w2 hP
      unfold BlkPost at hP
      rw [hb] at hP
      obtain ⟨rfl, hB2⟩ := hP
      exact decB_caught Try.results20 rfl rfl (by unfold decBlk; rw [ho]; simp only; rw [hb]) ((HT0.out.step HC.out.2.2).low (by have := HW0.out.2.1; omega) hB2)
    | some b =>
      intro e w2 hP
      unfold BlkPost at hP
      rw [hb] at hP
      obtain ⟨v, vals, N, rfl, hN, hown, hin, hB2⟩ := hP
      have T2 := (HT0.out.step HC.out.2.2).low (by have := HW0.out.2.1; omega) hB2
      obtain ⟨A3, cap3, rfl, hcap3, _, _⟩ := own_slice hown
      have HV := Lib.hid (And.intro ((Rd.of_own hown).mono hN) (And.intro (strs_of_in hin) T2))
      have hok := rdBlk_ok ho hb
      have HB := Lib.hid (And.intro hb ho)
      obtain ⟨_, _, _, _, hlen⟩ := blkV_get b.toI hok (.slice A3 b.txs.length cap3)
      have hone := blkV_one b.toI A3 b.txs.length cap3
      obtain ⟨L, hL⟩ : ∃ L, blkV b.toI (.slice A3 b.txs.length cap3) = L := ⟨_, rfl⟩
      rw [show blkCells b (.slice A3 b.txs.length cap3) = L from hL]
      have HRI : Hid (∀ W, Below w2.heap.size w2 W → Calls Try.prog 38 #[.agg L.toArray] W fun e w' => e = .returned (.int .i64 (if rightB b.toI then 0 else 70)) ∧ Below W.heap.size W w') := fun W hW => by
        rw [← hL]
        exact bright_c b.toI hok A3 cap3 vals W ((HV.out.1.below hW).mono (Nat.zero_le _)) ((HV.out.2.1.below hW).mono (Nat.zero_le _))
      rw [hL] at hlen hone
      have HL := Lib.hid (And.intro hL (And.intro hlen hone))
      clear hN hown hin hB2 T2 hb ho hL hlen hone hok
      cases hR : rightB b.toI with
      | false =>
        rw [hR] at HRI
        have HRR := Lib.hid hR; clear hR
        go_wp2_with (first
          | (refine wpList_store_fresh rfl 27 _ _ rfl Try.zeroCells27 27 L.toArray (by simp [Act.eval, Act.put]) (by simp [Act.eval, Act.put]) 68 zeroB_size (by rw [List.size_toArray, HL.out.2.1]) (by kernel_rfl) (all_oneCell_toArray HL.out.2.2) ?_)
          | (refine wpList_load_mid rfl 27 _ rfl w2.heap.size 0 rfl L _ (range_new _ _ _) Try.underlying27 rfl (by rw [HL.out.2.1]; kernel_rfl) ?_)
          | fail)
        refine (HRI.out _ (bnew _ _)).mono ?_
        rintro e w3 ⟨rfl, hB3⟩
        have T3 := HV.out.2.2.step (bstep (bnew w2 _) hB3)
        have x0 : w3.cell? ⟨w.heap.size + 1, 0, none⟩ = some (.int .i64 0) := cell_of_heap T3.e rfl
        have x1 : w3.frozen? ⟨w.heap.size + 1, 0, none⟩ = false := by unfold World.frozen?; rw [T3.e]; rfl
        have hrg : w3.rangeAt w.heap.size 0 Try.zeroCells27.toList := fun j u hj => by rw [Nat.zero_add]; exact cell_of_heap T3.b (by simpa using hj)
        have hth : w3.there w.heap.size 0 Try.zeroCells27.size := fun j hj => by
          rw [Nat.zero_add]
          exact ⟨by rw [cell_of_heap T3.b (Array.getElem?_eq_getElem hj)]; rfl, by unfold World.frozen?; rw [T3.b]; simp⟩
        have hself : w3.setCells w.heap.size 0 Try.zeroCells27.toList = w3 := setCells_self T3.b _ 0 (fun j u hj => by rw [Nat.zero_add]; simpa using hj)
        have HT3 := Lib.hid T3; clear T3 hB3
        have z1c : Try.zeroCells27.all (·.oneCell') = true := by kernel_rfl
        have HZ1 := Lib.hid (And.intro hrg (And.intro hth (And.intro hself z1c))); clear hrg hth hself z1c
        go_wp2_with (first
          | (refine wpList_load_mid rfl 27 _ rfl w.heap.size 0 rfl Try.zeroCells27.toList _ HZ1.out.1 Try.underlying27 rfl (by rw [Array.length_toList, zeroB_size]; kernel_rfl) ?_)
          | (refine wpList_store_mid rfl 27 _ _ rfl w.heap.size 0 Try.zeroCells27 rfl (by simp [Act.eval, Act.put]) HZ1.out.2.1 (by rw [zeroB_size]; kernel_rfl) HZ1.out.2.2.2 ?_; rw [HZ1.out.2.2.1]))
        refine fin_idle (v := .tuple #[.agg Try.zeroCells27, .int .i64 70]) (results_2cells Try.results20 rfl rfl (load_block ((heap_setCell_other _ (by dsimp only; omega)).trans HT3.out.b) zeroB_size) (load_errno _ _ _ (cell_of_heap (heap_setCell_row HT3.out.e) rfl))) ?_
        have hd : decBlk l = .error 70 := by unfold decBlk; rw [HB.out.2]; simp only; rw [HB.out.1]; simp only; rw [HRR.out]; rfl
        rw [hd]
        exact DecBPost.no (HT3.out.be.setCell (p := ⟨w.heap.size + 1, 0, none⟩) (by simp) _)
      | true =>
        rw [hR] at HRI
        have HRR := Lib.hid hR; clear hR
        go_wp2_with (first
          | (refine wpList_store_fresh rfl 27 _ _ rfl Try.zeroCells27 27 L.toArray (by simp [Act.eval, Act.put]) (by simp [Act.eval, Act.put]) 68 zeroB_size (by rw [List.size_toArray, HL.out.2.1]) (by kernel_rfl) (all_oneCell_toArray HL.out.2.2) ?_)
          | (refine wpList_load_mid rfl 27 _ rfl w2.heap.size 0 rfl L _ (range_new _ _ _) Try.underlying27 rfl (by rw [HL.out.2.1]; kernel_rfl) ?_)
          | fail)
        refine (HRI.out _ (bnew _ _)).mono ?_
        rintro e w3 ⟨rfl, hB3⟩
        have T3 := HV.out.2.2.step (bstep (bnew w2 _) hB3)
        have hlt : w.heap.size < w3.heap.size := (Array.getElem?_eq_some_iff.1 T3.b).1
        have hlt2 : w.heap.size + 1 < w3.heap.size := (Array.getElem?_eq_some_iff.1 T3.e).1
        have hrg : w3.rangeAt w2.heap.size 0 L := rangeAt_below (range_new w2 L 27) hB3
        have hth : w3.there w.heap.size 0 L.toArray.size := fun j hj => by
          rw [Nat.zero_add]
          exact ⟨by rw [cell_of_heap T3.b (Array.getElem?_eq_getElem (by rw [zeroB_size]; simp [HL.out.2.1] at hj; exact hj))]; rfl, by unfold World.frozen?; rw [T3.b]; simp⟩
        have hrow : w3.setCells w.heap.size 0 L.toArray.toList = w3.setRow w.heap.size L.toArray := by
          have := setCells_row (l := L) T3.b (by rw [zeroB_size, HL.out.2.1])
          simpa using this
        have x0 : (w3.setRow w.heap.size L.toArray).cell? ⟨w.heap.size + 1, 0, none⟩ = some (.int .i64 0) := cell_of_heap ((heap_setRow_other _ (by omega)).trans T3.e) rfl
        have x1 : (w3.setRow w.heap.size L.toArray).frozen? ⟨w.heap.size + 1, 0, none⟩ = false := by unfold World.frozen?; rw [(heap_setRow_other _ (by omega)).trans T3.e]; rfl
        have h1c := all_oneCell_toArray HL.out.2.2
        have HZ1 := Lib.hid (And.intro hrg (And.intro hth (And.intro hrow h1c))); clear hrg hth hrow h1c
        have HT3 := Lib.hid (And.intro T3 hB3); clear T3 hB3
        obtain ⟨W4, hW4⟩ : ∃ W, w3.setRow w.heap.size L.toArray = W := ⟨_, rfl⟩
        rw [hW4] at HZ1 x0 x1
        have HW4 := Lib.hid hW4; clear hW4
        go_wp2_with (first
          | (refine wpList_load_mid rfl 27 _ rfl w2.heap.size 0 rfl L _ HZ1.out.1 Try.underlying27 rfl (by rw [HL.out.2.1]; kernel_rfl) ?_)
          | (refine wpList_store_mid rfl 27 _ _ rfl w.heap.size 0 L.toArray rfl (by simp [Act.eval, Act.put]) HZ1.out.2.1 (by rw [List.size_toArray, HL.out.2.1]; kernel_rfl) HZ1.out.2.2.2 ?_; rw [HZ1.out.2.2.1]))
        have hb4 : W4.heap[w.heap.size]? = some (.cells L.toArray 27 (0, 0)) := by rw [← HW4.out]; exact heap_setRow_same HT3.out.1.b
        have he4 : W4.heap[w.heap.size + 1]? = some (.cells #[.int .i64 0] 32 (0, 0)) := by rw [← HW4.out]; exact (heap_setRow_other _ (by omega)).trans HT3.out.1.e
        have hbe : Below w.heap.size w W4 := by rw [← HW4.out]; exact below_setRow _ HT3.out.1.be (Nat.le_refl _)
        refine fin_idle (v := .tuple #[.agg L.toArray, .int .i64 0]) (results_2cells Try.results20 rfl rfl (load_block ((heap_setCell_other _ (by dsimp only; omega)).trans hb4) (by rw [List.size_toArray]; exact HL.out.2.1)) (load_errno _ _ _ (cell_of_heap (heap_setCell_row he4) rfl))) ?_
        have HK : ∀ k, W0.heap.size ≤ k → k < w2.heap.size → (W4.setCell ⟨w.heap.size + 1, 0, none⟩ (.int .i64 0)).heap[k]? = w2.heap[k]? := by
          intro k h1 h2
          have := HW0.out.2.1
          rw [heap_setCell_other _ (by dsimp only; omega), ← HW4.out, heap_setRow_other _ (by omega), HT3.out.2.block k (by simp; omega), Below.heap_alloc _ _ _ h2]
        have hd : decBlk l = .ok b := by unfold decBlk; rw [HB.out.2]; simp only; rw [HB.out.1]; simp only; rw [HRR.out]; rfl
        rw [hd]
        refine ⟨A3, cap3, vals, ?_, ?_, ?_, hbe.setCell (p := ⟨w.heap.size + 1, 0, none⟩) (by simp) _⟩
        · rw [← HL.out.1]; rfl
        · exact (HV.out.1.blocks HK).mono (by have := HW0.out.2.1; omega)
        · exact (HV.out.2.1.blocks HK).mono (by have := HW0.out.2.1; omega)
end Go.Proofs.Ytildkoabfdfjlaa
