/- chain's 'item' of a commit. -/
import Derived.Test.YtildkoabfdfjlaaLaw
set_option linter.all false
namespace Go.Proofs.Ytildkoabfdfjlaa
open Go.RowKit
open Rlp (It)

theorem item4 (n : Nat) (w : World) {n0 n1 n2 n3 : Nat} {w0 w1 w2 w3 : World} {x0 x1 x2 x3 : It}
    {f0 f1 f2 f3 : Bool} {A0 A1 A2 A3 B0 B1 B2 B3 : Option Addr} {k0 k1 k2 k3 c0 c1 c2 c3 m0 m1 m2 m3 d0 d1 d2 d3 : Nat}
    (h0 : ItemR n0 w0 x0 (.bool f0) (.slice A0 k0 c0) (.slice B0 m0 d0)) (b0 : Below w0.heap.size w0 w) (e0 : n ≤ n0)
    (h1 : ItemR n1 w1 x1 (.bool f1) (.slice A1 k1 c1) (.slice B1 m1 d1)) (b1 : Below w1.heap.size w1 w) (e1 : n ≤ n1)
    (h2 : ItemR n2 w2 x2 (.bool f2) (.slice A2 k2 c2) (.slice B2 m2 d2)) (b2 : Below w2.heap.size w2 w) (e2 : n ≤ n2)
    (h3 : ItemR n3 w3 x3 (.bool f3) (.slice A3 k3 c3) (.slice B3 m3 d3)) (b3 : Below w3.heap.size w3 w) (e3 : n ≤ n3) :
    ItemsR n w [x0, x1, x2, x3] [.bool f0, .slice A0 k0 c0, .slice B0 m0 d0, .bool f1, .slice A1 k1 c1, .slice B1 m1 d1, .bool f2, .slice A2 k2 c2, .slice B2 m2 d2, .bool f3, .slice A3 k3 c3, .slice B3 m3 d3] := by
  simp only [ItemsR]
  exact ⟨_, _, _, _, rfl, ItemR.mono e0 _ _ _ _ (ItemR.below b0 _ _ _ _ h0), _, _, _, _, rfl, ItemR.mono e1 _ _ _ _ (ItemR.below b1 _ _ _ _ h1), _, _, _, _, rfl, ItemR.mono e2 _ _ _ _ (ItemR.below b2 _ _ _ _ h2),
    _, _, _, _, rfl, ItemR.mono e3 _ _ _ _ (ItemR.below b3 _ _ _ _ h3), rfl⟩

set_option maxRecDepth 100000 in
set_option maxHeartbeats 1000000 in
theorem citem_c (c : ComI) (hb : c.Ok) (A : Option Addr) (cap : Nat) (w : World) (hr : Rd 0 w A (votsV c.votes)) :
    Calls Try.prog 82 #[.agg (comV c.height c.round c.block (.slice A c.votes.length cap)).toArray] w (GivesItem w (comIt c)) := by
  have HS := Lib.hid hr; clear hr
  have HOK := Lib.hid hb
  have hl := hb.n1
  clear hb
  obtain ⟨n, hn⟩ : ∃ n, c.votes.length = n := ⟨_, rfl⟩
  rw [hn] at hl ⊢
  have HN := Lib.hid hn; clear hn
  obtain ⟨cs, hcs⟩ : ∃ cs, (comV c.height c.round c.block (.slice A n cap)).toArray = cs := ⟨_, rfl⟩
  have hp := bytesV_length c.block
  rw [HOK.out.b] at hp
  have e34 : cs[34]? = some (.slice A n cap) := by
    rw [← hcs]; unfold comV
    rw [List.getElem?_toArray, List.getElem?_cons_succ, List.getElem?_cons_succ, List.getElem?_append_right (by omega), hp]; rfl
  have HE : Hid (cs[0]? = some (.int .u64 c.height) ∧ cs[1]? = some (.int .i64 c.round) ∧ (∀ j, j < 32 → cs[2 + j]? = (bytesV c.block)[j]?)) := by
    refine Lib.hid ?_
    rw [← hcs]; unfold comV
    refine ⟨rfl, rfl, fun j hj => ?_⟩
    rw [List.getElem?_toArray, show 2 + j = j + 1 + 1 by omega, List.getElem?_cons_succ, List.getElem?_cons_succ, List.getElem?_append_left (by omega)]
  rw [hcs]
  clear hcs hp
  obtain ⟨iI, hiI, hzI0, hzI1, hzI2⟩ := info_parts item_info
  go_enter Try.func82, Try.ntmps82
  go_wp2_with fail
  obtain ⟨W0, hW0⟩ : ∃ W, (w.alloc (.cells cs 79)).alloc (.cells #[.bool false, .slice none 0 0, .slice none 0 0] 50) = W := ⟨_, rfl⟩
  have hB0 : Below w.heap.size w W0 := by rw [← hW0]; exact bnew2 _ _ _
  have hz0 : W0.heap.size = w.heap.size + 2 := by rw [← hW0]; simp
  have hbx0 : W0.heap[w.heap.size]? = some (.cells cs 79 (0, 0)) := by
    rw [← hW0, Below.heap_alloc _ _ _ (by simp)]; exact World.alloc_heap_new _ _
  have hit0 : W0.heap[w.heap.size + 1]? = some (.cells #[.bool false, .slice none 0 0, .slice none 0 0] 50 (0, 0)) := by
    rw [← hW0]
    have := World.alloc_heap_new (w.alloc (.cells cs 79)) (.cells #[.bool false, .slice none 0 0, .slice none 0 0] 50)
    rwa [World.size_alloc] at this
  have z34 : W0.cell? ⟨w.heap.size, 34, none⟩ = some (.slice A n cap) := cell_of_heap hbx0 e34
  rw [hW0]
  have HW := Lib.hid (And.intro hB0 (And.intro hz0 (And.intro hbx0 hit0)))
  clear hW0 hB0 hz0 hbx0 hit0 e34
  go_wp2_with fail
  go_loopw [3, 9] (fun v i wr => ItRel (w.heap.size + 2) W0 (c.votes.map votIt) v i wr) (fun _ i _ => n - (intOf i).toNat)
  case atStart => exact ⟨0, Nat.zero_le _, rfl, by simpa using ItI.nil (w.heap.size + 2) W0 (by rw [HW.out.2.1]; omega)⟩
  case round =>
    obtain ⟨k, hk, rfl, hI⟩ := hrel
    rw [List.length_map, HN.out] at hk
    have HI := Lib.hid hI; clear hI
    by_cases hlt : k < n
    · obtain ⟨t, ht⟩ : ∃ t, c.votes[k]? = some t := ⟨_, List.getElem?_eq_getElem (by rw [HN.out]; exact hlt)⟩
      obtain ⟨bb, o, hA, hc⟩ := HS.out.addr (by rw [votsV_length HOK.out.v, HN.out]; omega)
      subst hA
      have hBw : Below w.heap.size w wr := HW.out.1.trans (HI.out.be.mono (by omega))
      have hrg := votsV_range HOK.out.v hc k t ht
      have hrg2 : wr.rangeAt bb (o + k * 100) t.cells := fun j u hj => (hBw.cell (p := ⟨bb, o + k * 100 + j, none⟩) (cell_lt (hrg j u hj))).trans (hrg j u hj)
      have htok := HOK.out.v t (List.mem_of_getElem? ht)
      have HT := Lib.hid (And.intro ht (And.intro htok (VotI.len htok)))
      have hkm : (k : Int) + 1 ≤ 9223372036854775807 := by omega
      clear ht hc hBw hrg htok
      obtain ⟨vs, hown, hst⟩ := HI.out.own
      have HO := Lib.hid (And.intro hown hst); clear hown hst
      have hkl : (List.take k (c.votes.map votIt)).length = k := by rw [List.length_take, List.length_map, HN.out]; omega
      have HKL := Lib.hid hkl; clear hkl
      go_wp2_with (first
        | (refine wpList_load_mid rfl 94 _ rfl bb (o + k * 100) rfl t.cells _ hrg2 Try.underlying94 rfl (by rw [HT.out.2.2]; kernel_rfl) ?_)
        | (refine wpList_store_fresh rfl 94 _ _ rfl Try.zeroCells94 94 t.cells.toArray (by simp [Act.eval, Act.put]) (by simp [Act.eval, Act.put]) 100 (by kernel_rfl) (by rw [List.size_toArray, HT.out.2.2]) (by kernel_rfl) (all_oneCell_toArray t.one) ?_)
        | (refine wpList_load_mid rfl 94 _ rfl wr.heap.size 0 rfl t.cells _ (range_new _ _ _) Try.underlying94 rfl (by rw [HT.out.2.2]; kernel_rfl) ?_)
        | (go_at_call 84; (with_reducible refine gives_at (vitem_c t HT.out.2.1 _) _ ?_); intro f1 B1 m1 c1 C1 d1 e1 w1 HIt hB1)
        | (at_builtin; refine wpList_append_rd _ rfl _ _ 45 rfl (w.heap.size + 2) 50 iI _ 3 56 Try.underlying45 hiI hzI0 hzI1 hzI2 rfl (by decide) _ _ vs rfl (own_below HO.out.1 (bstep (bstep (bnew wr _) hB1) (bnew w1 _))) 0 (some ⟨w1.heap.size, 0, none⟩) 1 1 [.bool f1, .slice B1 m1 c1, .slice C1 d1 e1] rfl rfl (rd_new w1 _ _) (by simp [Value.oneCell']) (by rw [HKL.out]; unfold maxLen; omega) (by rw [HKL.out]; omega) (by have := HI.out.sz; have := hB1.size; simp at this ⊢; omega) (fun h => by cases h) ?_
           intro v' w3 hown3 hgrow3 hblk3))
      have hstep := Lib.hid (ItI.step HI.out HO.out (ItemR.mono (by simp) _ _ _ _ HIt.out) (bstep (bnew wr _) hB1) hown3 hgrow3 hblk3)
      clear hown3 hgrow3 hblk3
      go_wp2
      go_roundw
      case rel =>
        refine ⟨k + 1, by rw [List.length_map, HN.out]; omega, by go_num, ?_⟩
        rw [take_get_snoc (c.votes.map votIt) k (votIt t) (by rw [List.getElem?_map, HT.out.1]; rfl)]
        exact hstep.out
      case measure => simp [intOf]; omega
    · obtain rfl : k = n := by omega
      clear hlt hk
      have hall : List.take k (c.votes.map votIt) = c.votes.map votIt := List.take_of_length_le (by rw [List.length_map, HN.out]; omega)
      have HI2 := HI.out
      rw [hall] at HI2
      have HI3 := Lib.hid HI2; clear HI2 HI hall
      obtain ⟨vs, hown, hst⟩ := HI3.out.own
      have hkl : (c.votes.map votIt).length = k := by rw [List.length_map, HN.out]
      rw [hkl] at hown
      obtain ⟨A3, cap3, rfl, hcap3, _, _⟩ := own_slice hown
      have hA3 : A3 = none → k = 0 := by
        intro h
        obtain ⟨hl0, ⟨_, h0⟩ | ⟨g, cp, cur, hv, _⟩⟩ := hown
        · exact h0
        · injection hv with hv _ _; rw [h] at hv; cases hv
      have HTX := Lib.hid (And.intro hkl (And.intro (Rd.of_own hown) hst.here))
      have hsz0 := HI3.out.sz
      have hBw : Below w.heap.size w wr := HW.out.1.trans (HI3.out.be.mono (by omega))
      have hbx : wr.heap[w.heap.size]? = some (.cells cs 79 (0, 0)) := (HI3.out.be.block _ (by omega)).trans HW.out.2.2.1
      have hit : wr.heap[w.heap.size + 1]? = some (.cells #[.bool false, .slice none 0 0, .slice none 0 0] 50 (0, 0)) := (HI3.out.be.block _ (by omega)).trans HW.out.2.2.2
      have HBX : Hid (∀ W : World, Below wr.heap.size wr W →
          (W.cell? ⟨w.heap.size, 0, none⟩ = some (.int .u64 c.height) ∧ W.cell? ⟨w.heap.size, 1, none⟩ = some (.int .i64 c.round)) ∧
          Rd 0 W (some ⟨w.heap.size, 2, none⟩) (bytesV c.block)) := by
        intro W hW
        have hb := (hW.block _ (by omega)).trans hbx
        refine ⟨⟨cell_of_heap hb HE.out.1, cell_of_heap hb HE.out.2.1⟩, Or.inr ⟨_, _, Nat.zero_le _, rfl, fun j hj => ?_⟩⟩
        rw [bytesV_length, HOK.out.b] at hj
        rw [← HE.out.2.2 j hj]; simp [World.cell?, hb]
      have HIT : Hid (∀ W : World, Below wr.heap.size wr W → ZeroItem (w.heap.size + 1) W) := fun W hW => ZeroItem.of ((hW.block _ (by omega)).trans hit)
      obtain ⟨⟨q0, q1⟩, _⟩ := HBX.out wr (Below.refl _ _)
      have HZ := Lib.hid (And.intro hBw hsz0)
      have H0 := HOK.out.h0
      have H1 := Lib.hid HOK.out.h1
      have R1 := HOK.out.r1
      obtain ⟨HT, hHT⟩ : ∃ x, c.height = x := ⟨_, rfl⟩
      obtain ⟨RD, hRD⟩ : ∃ x, c.round = x := ⟨_, rfl⟩
      have HNM := Lib.hid (And.intro hHT hRD)
      rw [hHT] at q0 H0 H1 HBX
      rw [hRD] at q1 R1 HBX
      clear hown hst hkl hsz0 hBw hbx hit HI3 HE hHT hRD hiI hzI0 hzI1 hzI2 HW
      go_wp2_with fail
      go_region_held3 (fun w' => w'.cell? ⟨w.heap.size, 0, none⟩ = some (.int .u64 HT) ∧ w'.cell? ⟨w.heap.size, 1, none⟩ = some (.int .i64 RD))
        (first
          | exact (HBX.out _ HbG).1
          | exact (HBX.out _ (HbF.alloc HbF.size _)).1
          | exact (HBX.out _ HbF).1
          | exact (HBX.out _ HbC).1
          | exact (HBX.out _ HbB).1
          | exact (HBX.out _ HbA).1
          | go_keep)
        (first
          | (go_at_call 59; (with_reducible refine gives_at (cnum_c RD R1 _) _ ?_); intro fB AB kB cB BB mB dB wB HB hB; have HbB : Below wr.heap.size wr wB := bstep HbA hB)
          | (go_at_call 16; (with_reducible refine gives_at (num_c HT H0 H1 _) _ ?_); intro fA AA kA cA BA mA dA wA HA hA; have HbA : Below wr.heap.size wr wA := bstep ((Below.refl _ wr).drew) hA)
          | (go_at_call 19; (with_reducible refine gives_at (strN_c (some ⟨w.heap.size, 2, none⟩) 32 32 c.block HOK.out.b (by decide) _ (HBX.out _ HbB).2) _ ?_); intro fC AC kC cC BC mC dC wC HC hC; have HbC : Below wr.heap.size wr wC := bstep HbB hC)
          | (go_at_call 15; first
              | ((with_reducible refine (listN_c A3 cap3 k (c.votes.map votIt) vs _ HTX.out.1 (by omega) (Lib.hid ⟨(HTX.out.2.1.below HbC).mono (Nat.zero_le _), ItemsR.mono (Nat.zero_le _) _ _ (ItemsR.below HbC _ _ HTX.out.2.2)⟩) hA3).mono ?_); rintro e wF ⟨AF, cF, rfl, hcF, hrF, hF⟩; have HbF : Below wr.heap.size wr wF := bstep HbC hF
                 have HF : Hid (ItemR (w.heap.size + 2) wF (.list (c.votes.map votIt)) (.bool true) (.slice none 0 0) (.slice AF k cF)) := by
                   have hh := ItemR.mk_list (n := w.heap.size + 2) (w := wF) (A := AF) (cap := cF) (its := c.votes.map votIt) (cs := vs) (by rw [HTX.out.1]; exact hcF) (hrF.mono (by have := HZ.out.2; have := HbC.size; omega)) (ItemsR.below HbF _ _ HTX.out.2.2) none 0
                   rw [HTX.out.1] at hh; exact hh
                 clear hcF hrF)
              | (have HI6 := Lib.hid (item4 (w.heap.size + 2) (wF.alloc (.cells #[.bool fA, .slice AA kA cA, .slice BA mA dA, .bool fB, .slice AB kB cB, .slice BB mB dB, .bool fC, .slice AC kC cC, .slice BC mC dC, .bool true, .slice none 0 0, .slice AF k cF] 50)) HA.out (bstep (bstep (bstep hB hC) hF) (bnew wF _)) HZ.out.2 HB.out (bstep (bstep hC hF) (bnew wF _)) (by have := HZ.out.2; have := HbA.size; omega) HC.out (bstep hF (bnew wF _)) (by have := HZ.out.2; have := HbB.size; omega) HF.out (bnew wF _) (Nat.le_refl _))
                 clear HA HB HC HF hA hB hC hF HbA HbB HbC
                 (with_reducible refine (listN_c (some ⟨wF.heap.size, 0, none⟩) 4 4 [.str (Rlp.short HT.toNat), .str (Rlp.short RD.toNat), .str c.block, .list (c.votes.map votIt)] _ _ rfl (by decide) (Lib.hid ⟨rd_new wF _ _, ItemsR.mono (Nat.zero_le _) _ _ HI6.out⟩) (fun h => by cases h)).mono ?_)
                 rintro e wG ⟨A', cap', rfl, hcap, hR, hG⟩; have HbG : Below wr.heap.size wr wG := bstep (bstep HbF (bnew wF _)) hG; obtain ⟨g0, g1, g2, g3, g4, g5⟩ := HIT.out _ HbG
                 have HL := Lib.hid (And.intro hcap (And.intro hR (ItemsR.below hG _ _ HI6.out))); clear hcap hR hG HI6)))
      have hszF := HbF.size
      have hfin : ItemR (w.heap.size + 1 + 1) wG (comIt c) (.bool true) (.slice none 0 0) (.slice A' 4 cap') := by
        have := ItemR.mk_list HL.out.1 (HL.out.2.1.mono (by have := HZ.out.2; simp; omega)) HL.out.2.2 none 0
        unfold comIt
        rw [HNM.out.1, HNM.out.2]
        exact this
      obtain ⟨r1, r2⟩ := item_ret (w := w) (w.heap.size + 1) (by omega) hfin (HZ.out.1.trans (HbG.mono (by have := HZ.out.2; omega)))
      have HR1 := Lib.hid (And.intro r1 r2); clear r1 r2 hfin
      go_wp2
      exact bodyPost_ret (v := .agg #[.bool true, .slice none 0 0, .slice A' 4 cap']) (by simp [results, Try.results82, go_sem, g0, g1, g2]) rfl ⟨_, _, _, rfl, HR1.out.1, HR1.out.2⟩
end Go.Proofs.Ytildkoabfdfjlaa
