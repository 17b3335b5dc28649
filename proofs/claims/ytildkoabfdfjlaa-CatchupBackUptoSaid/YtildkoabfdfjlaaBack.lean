/- CatchupBack: every call of it returns true. -/
import Derived.Test.YtildkoabfdfjlaaEq
set_option linter.all false
namespace Go.Proofs.Ytildkoabfdfjlaa
open Go.RowKit
open Rlp (It)

set_option maxRecDepth 100000 in
set_option maxHeartbeats 8000000 in
theorem back_c (h : Nat) (hh : h ≤ 18446744073709551615) (b : BlkI) (c : ComI) (L M : List Value) (x : List UInt8) (A3 : Option Addr) (cap3 : Nat) (w : World) (hL : Two2 w b c L M) (hx : Hid (x.length ≤ cap3 ∧ Rd 0 w A3 (bytesV x))) :
    Calls Try.prog 3 #[.int .u64 (h : Int), .agg L.toArray, .agg M.toArray, .slice A3 x.length cap3] w fun e w' => e = .returned (.bool true) ∧ Below w.heap.size w w' := by
  obtain ⟨y0, hy0⟩ := ask_some h hh
  have HASK : Hid (∀ W, Calls Try.prog 5 #[.int .u64 (h : Int)] W (Bytes1 W y0)) := fun W => ask_c h hh y0 hy0 W
  have HUN : Hid (∀ A cap W, Hid (y0.length ≤ cap ∧ Rd 0 W A (bytesV y0)) → Calls Try.prog 4 #[.slice A y0.length cap] W fun e w' => e = .returned (.tuple #[.int .u64 (h : Int), .int .i64 0]) ∧ Below W.heap.size W w') := fun A cap W hr => unask_c h hh y0 hy0 A cap W hr
  clear hy0 hh
  have HL := Lib.hid hL; clear hL
  have HX0 := Lib.hid hx; clear hx
  go_enter Try.func3, Try.ntmps3
  go_wp2_with fail
  refine gen_world fun W0 hW0 => ?_
  have HW0 : Hid (Below w.heap.size w W0 ∧ W0.rangeAt w.heap.size 0 L ∧ W0.rangeAt (w.heap.size + 1) 0 M) := by
    subst hW0
    refine Lib.hid ⟨bnew2 _ _ _, World.rangeAt_alloc (range_new _ _ _) _, ?_⟩
    have := range_new (w.alloc (.cells L.toArray 27)) M 30
    rwa [World.size_alloc] at this
  clear hW0
  have HX : Hid (∀ W, Below W0.heap.size W0 W → Hid (x.length ≤ cap3 ∧ Rd 0 W A3 (bytesV x))) := fun W hW => Lib.hid ⟨HX0.out.out.1, HX0.out.out.2.below (bstep HW0.out.1 hW)⟩
  have HDX : Hid (∀ W, Below W0.heap.size W0 W → Calls Try.prog 4 #[.slice A3 x.length cap3] W fun e w' => e = .returned (.tuple #[.int .u64 ((decAsk x).1 : Int), .int .i64 (decAsk x).2]) ∧ Below W.heap.size W w') := fun W hW => decask_c x A3 x.length cap3 rfl (HX.out W hW).out.1 W (HX.out W hW).out.2
  have HDAX : Hid (∀ W, Below W0.heap.size W0 W → Calls Try.prog 7 #[.slice A3 x.length cap3] W (Dec1 W (blkA (decAns x)) (comA (decAns x)) (errOf (decAns x)))) := fun W hW => dec_c x A3 cap3 W (HX.out W hW)
  have HLL : Hid (∀ W, Below W0.heap.size W0 W → Two2 W b c L M) := fun W hW => HL.out.below (bstep HW0.out.1 hW)
  refine (HASK.out W0).mono ?_
  rintro e w1 ⟨A1, cap1, rfl, HR1, hB1⟩
  go_wp2_with (first
    | (go_at_call 4; (with_reducible refine (HUN.out A1 cap1 _ HR1).mono ?_); rintro e w2 ⟨rfl, hB2⟩; have hW2 : Below W0.heap.size W0 w2 := bstep hB1 hB2)
    | (refine wpListG_load (by kernel_rfl) 27 _ rfl w.heap.size 0 rfl L _ (rangeAt_below HW0.out.2.1 hW2) Try.underlying27 rfl (by rw [HL.out.l]; kernel_rfl) ?_)
    | (refine wpListG_load (by kernel_rfl) 30 _ rfl (w.heap.size + 1) 0 rfl M _ (rangeAt_below HW0.out.2.2 hW2) Try.underlying30 rfl (by rw [HL.out.m]; kernel_rfl) ?_)
    | fail)
  refine ((HLL.out _ hW2).enc).mono ?_
  cases hen : encAns b c with
  | error k =>
    have hk2 : (k == 0) = false := by simpa using encAns_err hen
    rintro e w3 ⟨rfl, hB3⟩
    have hW3 : Below W0.heap.size W0 w3 := bstep hW2 hB3
    clear hen
    go_wp2_with fail
    refine (HDX.out w3 hW3).mono ?_
    obtain ⟨m, i, hmi⟩ : ∃ m i, decAsk x = (m, i) := ⟨_, _, rfl⟩
    rw [hmi]
    rintro e v1 ⟨rfl, hv1⟩
    have hV1 : Below W0.heap.size W0 v1 := bstep hW3 hv1
    simp only
    by_cases hi : i = 0
    · subst hi
      obtain ⟨hen, hm⟩ := enc_decAsk hmi
      have HEM : Hid (∀ W, Calls Try.prog 5 #[.int .u64 (m : Int)] W (Bytes1 W x)) := fun W => ask_c m hm x hen W
      clear hmi hen hm
      go_wp2_with (first
        | (go_at_call 5; (with_reducible refine (HEM.out _).mono ?_); rintro e v2 ⟨A5, cap5, rfl, HR5, hv2⟩; have hV2 : Below W0.heap.size W0 v2 := bstep hV1 hv2)
        | (go_at_call 10; (with_reducible refine (same_same A5 A3 x.length cap5 cap3 x rfl _ HR5.out.2 (HX.out _ hV2).out.2).mono ?_); rintro e v3 ⟨rfl, rfl⟩)
        | fail)
      refine (HDAX.out _ hV2).mono ?_
      cases hr : decAns x with
      | error k =>
        have hk1 : (k != 0) = true := by simpa using decAns_err hr
        rintro e u ⟨L5, M5, rfl, HD5, hu⟩
        have hU : Below W0.heap.size W0 u := bstep hV2 hu
        rw [show errOf (Except.error k : Except Int (Blk × ComN)) = k from rfl]
        clear hr
        go_wp2_with (first
          | (refine gen_wpList fun hSw hhSw => ?_; have hST := decA_start u hSw (by rw [hhSw]; rfl); have hS1 := hST.1.setB HD5.out.l HD5.out.l1; refine wpList_store_mid rfl 27 _ _ rfl u.heap.size 0 L5.toArray rfl rfl (hST.1.thB HD5.out.l) (by rw [List.size_toArray, HD5.out.l]; kernel_rfl) HD5.out.l1 ?_; rw [hST.1.rowB HD5.out.l]; have hS2 := hS1.setC HD5.out.m HD5.out.m1; clear hST hhSw)
          | (refine wpList_store_mid rfl 30 _ _ rfl (u.heap.size + 1) 0 M5.toArray rfl rfl (hS1.thC HD5.out.m) (by rw [List.size_toArray, HD5.out.m]; kernel_rfl) HD5.out.m1 ?_; rw [hS1.rowC HD5.out.m]; refine gen_wpList fun hSv hhSv => ?_; rw [← hhSv] at hS2; have hSB : Below u.heap.size u hSv := hS2.be; clear hS1 hhSv)
          | (refine wpListG_load (by kernel_rfl) 27 _ rfl u.heap.size 0 rfl L5 _ (rangeAt_below hS2.rgB ?h) Try.underlying27 rfl (by rw [HD5.out.l]; kernel_rfl) ?_; (case h => exact Below.refl _ _))
          | (refine wpListG_load (by kernel_rfl) 30 _ rfl (u.heap.size + 1) 0 rfl M5 _ (rangeAt_below hS2.rgC ?h) Try.underlying30 rfl (by rw [HD5.out.m]; kernel_rfl) ?_; (case h => first | exact Below.refl _ _ | exact hQ1))
          | (go_at_call 6; (with_reducible refine ((HD5.out.below hSB).enc).mono ?_); intro e u2 hAny; obtain ⟨A7, n7, cap7, k7, rfl, hu2⟩ := hAny.any)
          | (go_at_call 11; (with_reducible refine (alive_c _).mono ?_); rintro e u3 ⟨rfl, hu3⟩)
          | fail)
        exact bodyPost_ret (v := .bool true) (by simp [results, Try.results3]) rfl ⟨rfl, bstep HW0.out.1 (bstep (bstep (bstep hU hSB) hu2) hu3)⟩
      | ok p =>
        obtain ⟨b', c'⟩ := p
        have hEX := encAns_decAns hr
        rintro e u ⟨L5, M5, rfl, HD5, hu⟩
        have hU : Below W0.heap.size W0 u := bstep hV2 hu
        rw [show errOf (Except.ok (b', c') : Except Int (Blk × ComN)) = 0 from rfl]
        have HE5 : Hid (∀ W, Below u.heap.size u W → Calls Try.prog 6 #[.agg L5.toArray, .agg M5.toArray] W (Enc1 W x)) := fun W hW => by
          have := (HD5.out.below hW).enc
          rw [show encAns (blkA (.ok (b', c'))) (comA (.ok (b', c'))) = .ok x from hEX] at this
          exact this.mono fun e w' h => h.one
        clear hr hEX
        go_wp2_with (first
          | (refine gen_wpList fun hSw hhSw => ?_; have hST := decA_start u hSw (by rw [hhSw]; rfl); have hS1 := hST.1.setB HD5.out.l HD5.out.l1; refine wpList_store_mid rfl 27 _ _ rfl u.heap.size 0 L5.toArray rfl rfl (hST.1.thB HD5.out.l) (by rw [List.size_toArray, HD5.out.l]; kernel_rfl) HD5.out.l1 ?_; rw [hST.1.rowB HD5.out.l]; have hS2 := hS1.setC HD5.out.m HD5.out.m1; clear hST hhSw)
          | (refine wpList_store_mid rfl 30 _ _ rfl (u.heap.size + 1) 0 M5.toArray rfl rfl (hS1.thC HD5.out.m) (by rw [List.size_toArray, HD5.out.m]; kernel_rfl) HD5.out.m1 ?_; rw [hS1.rowC HD5.out.m]; refine gen_wpList fun hSv hhSv => ?_; rw [← hhSv] at hS2; have hSB : Below u.heap.size u hSv := hS2.be; clear hS1 hhSv)
          | (refine wpListG_load (by kernel_rfl) 27 _ rfl u.heap.size 0 rfl L5 _ (rangeAt_below hS2.rgB ?h) Try.underlying27 rfl (by rw [HD5.out.l]; kernel_rfl) ?_; (case h => exact Below.refl _ _))
          | (refine wpListG_load (by kernel_rfl) 30 _ rfl (u.heap.size + 1) 0 rfl M5 _ (rangeAt_below hS2.rgC ?h) Try.underlying30 rfl (by rw [HD5.out.m]; kernel_rfl) ?_; (case h => first | exact Below.refl _ _ | exact hQ1))
          | (go_at_call 6; (with_reducible refine (HE5.out _ hSB).mono ?_); rintro e u2 ⟨A7, cap7, rfl, HR7, hu2⟩)
          | (go_at_call 10; (with_reducible refine (same_same A7 A3 x.length cap7 cap3 x rfl _ HR7.out.2 (HX.out _ (bstep (bstep hU hSB) hu2)).out.2).mono ?_); rintro e u4 ⟨rfl, rfl⟩)
          | (go_at_call 11; (with_reducible refine (alive_c _).mono ?_); rintro e u3 ⟨rfl, hu3⟩)
          | fail)
        exact bodyPost_ret (v := .bool true) (by simp [results, Try.results3]) rfl ⟨rfl, bstep HW0.out.1 (bstep (bstep (bstep hU hSB) hu2) hu3)⟩
    · have hi1 : (i == 0) = false := by simpa using hi
      clear hmi hi
      go_wp2_with fail
      refine (HDAX.out _ hV1).mono ?_
      cases hr : decAns x with
      | error k =>
        have hk1 : (k != 0) = true := by simpa using decAns_err hr
        rintro e u ⟨L5, M5, rfl, HD5, hu⟩
        have hU : Below W0.heap.size W0 u := bstep hV1 hu
        rw [show errOf (Except.error k : Except Int (Blk × ComN)) = k from rfl]
        clear hr
        go_wp2_with (first
          | (refine gen_wpList fun hSw hhSw => ?_; have hST := decA_start u hSw (by rw [hhSw]; rfl); have hS1 := hST.1.setB HD5.out.l HD5.out.l1; refine wpList_store_mid rfl 27 _ _ rfl u.heap.size 0 L5.toArray rfl rfl (hST.1.thB HD5.out.l) (by rw [List.size_toArray, HD5.out.l]; kernel_rfl) HD5.out.l1 ?_; rw [hST.1.rowB HD5.out.l]; have hS2 := hS1.setC HD5.out.m HD5.out.m1; clear hST hhSw)
          | (refine wpList_store_mid rfl 30 _ _ rfl (u.heap.size + 1) 0 M5.toArray rfl rfl (hS1.thC HD5.out.m) (by rw [List.size_toArray, HD5.out.m]; kernel_rfl) HD5.out.m1 ?_; rw [hS1.rowC HD5.out.m]; refine gen_wpList fun hSv hhSv => ?_; rw [← hhSv] at hS2; have hSB : Below u.heap.size u hSv := hS2.be; clear hS1 hhSv)
          | (refine wpListG_load (by kernel_rfl) 27 _ rfl u.heap.size 0 rfl L5 _ (rangeAt_below hS2.rgB ?h) Try.underlying27 rfl (by rw [HD5.out.l]; kernel_rfl) ?_; (case h => exact Below.refl _ _))
          | (refine wpListG_load (by kernel_rfl) 30 _ rfl (u.heap.size + 1) 0 rfl M5 _ (rangeAt_below hS2.rgC ?h) Try.underlying30 rfl (by rw [HD5.out.m]; kernel_rfl) ?_; (case h => first | exact Below.refl _ _ | exact hQ1))
          | (go_at_call 6; (with_reducible refine ((HD5.out.below hSB).enc).mono ?_); intro e u2 hAny; obtain ⟨A7, n7, cap7, k7, rfl, hu2⟩ := hAny.any)
          | (go_at_call 11; (with_reducible refine (alive_c _).mono ?_); rintro e u3 ⟨rfl, hu3⟩)
          | fail)
        exact bodyPost_ret (v := .bool true) (by simp [results, Try.results3]) rfl ⟨rfl, bstep HW0.out.1 (bstep (bstep (bstep hU hSB) hu2) hu3)⟩
      | ok p =>
        obtain ⟨b', c'⟩ := p
        have hEX := encAns_decAns hr
        rintro e u ⟨L5, M5, rfl, HD5, hu⟩
        have hU : Below W0.heap.size W0 u := bstep hV1 hu
        rw [show errOf (Except.ok (b', c') : Except Int (Blk × ComN)) = 0 from rfl]
        have HE5 : Hid (∀ W, Below u.heap.size u W → Calls Try.prog 6 #[.agg L5.toArray, .agg M5.toArray] W (Enc1 W x)) := fun W hW => by
          have := (HD5.out.below hW).enc
          rw [show encAns (blkA (.ok (b', c'))) (comA (.ok (b', c'))) = .ok x from hEX] at this
          exact this.mono fun e w' h => h.one
        clear hr hEX
        go_wp2_with (first
          | (refine gen_wpList fun hSw hhSw => ?_; have hST := decA_start u hSw (by rw [hhSw]; rfl); have hS1 := hST.1.setB HD5.out.l HD5.out.l1; refine wpList_store_mid rfl 27 _ _ rfl u.heap.size 0 L5.toArray rfl rfl (hST.1.thB HD5.out.l) (by rw [List.size_toArray, HD5.out.l]; kernel_rfl) HD5.out.l1 ?_; rw [hST.1.rowB HD5.out.l]; have hS2 := hS1.setC HD5.out.m HD5.out.m1; clear hST hhSw)
          | (refine wpList_store_mid rfl 30 _ _ rfl (u.heap.size + 1) 0 M5.toArray rfl rfl (hS1.thC HD5.out.m) (by rw [List.size_toArray, HD5.out.m]; kernel_rfl) HD5.out.m1 ?_; rw [hS1.rowC HD5.out.m]; refine gen_wpList fun hSv hhSv => ?_; rw [← hhSv] at hS2; have hSB : Below u.heap.size u hSv := hS2.be; clear hS1 hhSv)
          | (refine wpListG_load (by kernel_rfl) 27 _ rfl u.heap.size 0 rfl L5 _ (rangeAt_below hS2.rgB ?h) Try.underlying27 rfl (by rw [HD5.out.l]; kernel_rfl) ?_; (case h => exact Below.refl _ _))
          | (refine wpListG_load (by kernel_rfl) 30 _ rfl (u.heap.size + 1) 0 rfl M5 _ (rangeAt_below hS2.rgC ?h) Try.underlying30 rfl (by rw [HD5.out.m]; kernel_rfl) ?_; (case h => first | exact Below.refl _ _ | exact hQ1))
          | (go_at_call 6; (with_reducible refine (HE5.out _ hSB).mono ?_); rintro e u2 ⟨A7, cap7, rfl, HR7, hu2⟩)
          | (go_at_call 10; (with_reducible refine (same_same A7 A3 x.length cap7 cap3 x rfl _ HR7.out.2 (HX.out _ (bstep (bstep hU hSB) hu2)).out.2).mono ?_); rintro e u4 ⟨rfl, rfl⟩)
          | (go_at_call 11; (with_reducible refine (alive_c _).mono ?_); rintro e u3 ⟨rfl, hu3⟩)
          | fail)
        exact bodyPost_ret (v := .bool true) (by simp [results, Try.results3]) rfl ⟨rfl, bstep HW0.out.1 (bstep (bstep (bstep hU hSB) hu2) hu3)⟩
  | ok y =>
    intro e w3 hP
    obtain ⟨A4, cap4, rfl, HR4, hB3⟩ := hP.one
    have hW3 : Below W0.heap.size W0 w3 := bstep hW2 hB3
    have HDY : Hid (∀ W, Hid (y.length ≤ cap4 ∧ Rd 0 W A4 (bytesV y)) → Calls Try.prog 7 #[.slice A4 y.length cap4] W (Dec1 W b c 0)) := fun W hW => by
      have h1 := dec_c y A4 cap4 W hW
      obtain ⟨h2, h3, h4⟩ := decAns_encAns HL.out.ok HL.out.okc hen
      rw [h2] at h1
      rw [show blkA (.ok (b.toN, c.toN)) = b from h3, show comA (.ok (b.toN, c.toN)) = c from h4] at h1
      exact h1
    clear hen hP
    go_wp2_with (first
      | (go_at_call 7; (with_reducible refine (HDY.out _ HR4).mono ?_); rintro e q ⟨L4, M4, rfl, HD4, hq⟩; have hQ : Below W0.heap.size W0 q := bstep hW3 hq)
      | (refine gen_wpList fun hZw hhZw => ?_; have hZT := decA_start q hZw (by rw [hhZw]; rfl); have hZ1 := hZT.1.setB HD4.out.l HD4.out.l1; refine wpList_store_mid rfl 27 _ _ rfl q.heap.size 0 L4.toArray rfl rfl (hZT.1.thB HD4.out.l) (by rw [List.size_toArray, HD4.out.l]; kernel_rfl) HD4.out.l1 ?_; rw [hZT.1.rowB HD4.out.l]; have hZ2 := hZ1.setC HD4.out.m HD4.out.m1; clear hZT hhZw)
      | (refine wpList_store_mid rfl 30 _ _ rfl (q.heap.size + 1) 0 M4.toArray rfl rfl (hZ1.thC HD4.out.m) (by rw [List.size_toArray, HD4.out.m]; kernel_rfl) HD4.out.m1 ?_; rw [hZ1.rowC HD4.out.m]; refine gen_wpList fun hZv hhZv => ?_; rw [← hhZv] at hZ2; have hZB : Below q.heap.size q hZv := hZ2.be; clear hZ1 hhZv)
      | (refine wpListG_load (by kernel_rfl) 27 _ rfl q.heap.size 0 rfl L4 _ (rangeAt_below hZ2.rgB ?h) Try.underlying27 rfl (by rw [HD4.out.l]; kernel_rfl) ?_; (case h => exact Below.refl _ _))
      | (refine wpListG_load (by kernel_rfl) 30 _ rfl (q.heap.size + 1) 0 rfl M4 _ (rangeAt_below hZ2.rgC ?h) Try.underlying30 rfl (by rw [HD4.out.m]; kernel_rfl) ?_; (case h => first | exact Below.refl _ _ | exact hQ1))
      | (refine wpListG_load (by kernel_rfl) 27 _ rfl w.heap.size 0 rfl L _ (rangeAt_below HW0.out.2.1 (bstep hQ hZB)) Try.underlying27 rfl (by rw [HL.out.l]; kernel_rfl) ?_)
      | (refine wpListG_load (by kernel_rfl) 30 _ rfl (w.heap.size + 1) 0 rfl M _ (rangeAt_below HW0.out.2.2 (bstep hQ hZB)) Try.underlying30 rfl (by rw [HL.out.m]; kernel_rfl) ?_)
      | (refine wpListG_load (by kernel_rfl) 27 _ rfl w.heap.size 0 rfl L _ (rangeAt_below HW0.out.2.1 (bstep (bstep hQ hZB) hQ1)) Try.underlying27 rfl (by rw [HL.out.l]; kernel_rfl) ?_)
      | (refine wpListG_load (by kernel_rfl) 30 _ rfl (w.heap.size + 1) 0 rfl M _ (rangeAt_below HW0.out.2.2 (bstep (bstep hQ hZB) hQ1)) Try.underlying30 rfl (by rw [HL.out.m]; kernel_rfl) ?_)
      | (go_at_call 8; (with_reducible refine ((HD4.out.below hZB).sameB (HLL.out _ (bstep hQ hZB))).mono ?_); rintro e q1 ⟨rfl, hQ1⟩)
      | (go_at_call 9; (with_reducible refine (((HD4.out.below hZB).below hQ1).sameC (HLL.out _ (bstep (bstep hQ hZB) hQ1))).mono ?_); rintro e q2 ⟨rfl, hQ2⟩)
      | fail)
    have hW8 : Below W0.heap.size W0 q2 := bstep (bstep (bstep hQ hZB) hQ1) hQ2
    refine (HDX.out q2 hW8).mono ?_
    obtain ⟨m, i, hmi⟩ : ∃ m i, decAsk x = (m, i) := ⟨_, _, rfl⟩
    rw [hmi]
    rintro e v1 ⟨rfl, hv1⟩
    have hV1 : Below W0.heap.size W0 v1 := bstep hW8 hv1
    simp only
    by_cases hi : i = 0
    · subst hi
      obtain ⟨hen, hm⟩ := enc_decAsk hmi
      have HEM : Hid (∀ W, Calls Try.prog 5 #[.int .u64 (m : Int)] W (Bytes1 W x)) := fun W => ask_c m hm x hen W
      clear hmi hen hm
      go_wp2_with (first
        | (go_at_call 5; (with_reducible refine (HEM.out _).mono ?_); rintro e v2 ⟨A5, cap5, rfl, HR5, hv2⟩; have hV2 : Below W0.heap.size W0 v2 := bstep hV1 hv2)
        | (go_at_call 10; (with_reducible refine (same_same A5 A3 x.length cap5 cap3 x rfl _ HR5.out.2 (HX.out _ hV2).out.2).mono ?_); rintro e v3 ⟨rfl, rfl⟩)
        | fail)
      refine (HDAX.out _ hV2).mono ?_
      cases hr : decAns x with
      | error k =>
        have hk1 : (k != 0) = true := by simpa using decAns_err hr
        rintro e u ⟨L5, M5, rfl, HD5, hu⟩
        have hU : Below W0.heap.size W0 u := bstep hV2 hu
        rw [show errOf (Except.error k : Except Int (Blk × ComN)) = k from rfl]
        clear hr
        go_wp2_with (first
          | (refine gen_wpList fun hSw hhSw => ?_; have hST := decA_start u hSw (by rw [hhSw]; rfl); have hS1 := hST.1.setB HD5.out.l HD5.out.l1; refine wpList_store_mid rfl 27 _ _ rfl u.heap.size 0 L5.toArray rfl rfl (hST.1.thB HD5.out.l) (by rw [List.size_toArray, HD5.out.l]; kernel_rfl) HD5.out.l1 ?_; rw [hST.1.rowB HD5.out.l]; have hS2 := hS1.setC HD5.out.m HD5.out.m1; clear hST hhSw)
          | (refine wpList_store_mid rfl 30 _ _ rfl (u.heap.size + 1) 0 M5.toArray rfl rfl (hS1.thC HD5.out.m) (by rw [List.size_toArray, HD5.out.m]; kernel_rfl) HD5.out.m1 ?_; rw [hS1.rowC HD5.out.m]; refine gen_wpList fun hSv hhSv => ?_; rw [← hhSv] at hS2; have hSB : Below u.heap.size u hSv := hS2.be; clear hS1 hhSv)
          | (refine wpListG_load (by kernel_rfl) 27 _ rfl u.heap.size 0 rfl L5 _ (rangeAt_below hS2.rgB ?h) Try.underlying27 rfl (by rw [HD5.out.l]; kernel_rfl) ?_; (case h => exact Below.refl _ _))
          | (refine wpListG_load (by kernel_rfl) 30 _ rfl (u.heap.size + 1) 0 rfl M5 _ (rangeAt_below hS2.rgC ?h) Try.underlying30 rfl (by rw [HD5.out.m]; kernel_rfl) ?_; (case h => first | exact Below.refl _ _ | exact hQ1))
          | (go_at_call 6; (with_reducible refine ((HD5.out.below hSB).enc).mono ?_); intro e u2 hAny; obtain ⟨A7, n7, cap7, k7, rfl, hu2⟩ := hAny.any)
          | (go_at_call 11; (with_reducible refine (alive_c _).mono ?_); rintro e u3 ⟨rfl, hu3⟩)
          | fail)
        exact bodyPost_ret (v := .bool true) (by simp [results, Try.results3]) rfl ⟨rfl, bstep HW0.out.1 (bstep (bstep (bstep hU hSB) hu2) hu3)⟩
      | ok p =>
        obtain ⟨b', c'⟩ := p
        have hEX := encAns_decAns hr
        rintro e u ⟨L5, M5, rfl, HD5, hu⟩
        have hU : Below W0.heap.size W0 u := bstep hV2 hu
        rw [show errOf (Except.ok (b', c') : Except Int (Blk × ComN)) = 0 from rfl]
        have HE5 : Hid (∀ W, Below u.heap.size u W → Calls Try.prog 6 #[.agg L5.toArray, .agg M5.toArray] W (Enc1 W x)) := fun W hW => by
          have := (HD5.out.below hW).enc
          rw [show encAns (blkA (.ok (b', c'))) (comA (.ok (b', c'))) = .ok x from hEX] at this
          exact this.mono fun e w' h => h.one
        clear hr hEX
        go_wp2_with (first
          | (refine gen_wpList fun hSw hhSw => ?_; have hST := decA_start u hSw (by rw [hhSw]; rfl); have hS1 := hST.1.setB HD5.out.l HD5.out.l1; refine wpList_store_mid rfl 27 _ _ rfl u.heap.size 0 L5.toArray rfl rfl (hST.1.thB HD5.out.l) (by rw [List.size_toArray, HD5.out.l]; kernel_rfl) HD5.out.l1 ?_; rw [hST.1.rowB HD5.out.l]; have hS2 := hS1.setC HD5.out.m HD5.out.m1; clear hST hhSw)
          | (refine wpList_store_mid rfl 30 _ _ rfl (u.heap.size + 1) 0 M5.toArray rfl rfl (hS1.thC HD5.out.m) (by rw [List.size_toArray, HD5.out.m]; kernel_rfl) HD5.out.m1 ?_; rw [hS1.rowC HD5.out.m]; refine gen_wpList fun hSv hhSv => ?_; rw [← hhSv] at hS2; have hSB : Below u.heap.size u hSv := hS2.be; clear hS1 hhSv)
          | (refine wpListG_load (by kernel_rfl) 27 _ rfl u.heap.size 0 rfl L5 _ (rangeAt_below hS2.rgB ?h) Try.underlying27 rfl (by rw [HD5.out.l]; kernel_rfl) ?_; (case h => exact Below.refl _ _))
          | (refine wpListG_load (by kernel_rfl) 30 _ rfl (u.heap.size + 1) 0 rfl M5 _ (rangeAt_below hS2.rgC ?h) Try.underlying30 rfl (by rw [HD5.out.m]; kernel_rfl) ?_; (case h => first | exact Below.refl _ _ | exact hQ1))
          | (go_at_call 6; (with_reducible refine (HE5.out _ hSB).mono ?_); rintro e u2 ⟨A7, cap7, rfl, HR7, hu2⟩)
          | (go_at_call 10; (with_reducible refine (same_same A7 A3 x.length cap7 cap3 x rfl _ HR7.out.2 (HX.out _ (bstep (bstep hU hSB) hu2)).out.2).mono ?_); rintro e u4 ⟨rfl, rfl⟩)
          | (go_at_call 11; (with_reducible refine (alive_c _).mono ?_); rintro e u3 ⟨rfl, hu3⟩)
          | fail)
        exact bodyPost_ret (v := .bool true) (by simp [results, Try.results3]) rfl ⟨rfl, bstep HW0.out.1 (bstep (bstep (bstep hU hSB) hu2) hu3)⟩
    · have hi1 : (i == 0) = false := by simpa using hi
      clear hmi hi
      go_wp2_with fail
      refine (HDAX.out _ hV1).mono ?_
      cases hr : decAns x with
      | error k =>
        have hk1 : (k != 0) = true := by simpa using decAns_err hr
        rintro e u ⟨L5, M5, rfl, HD5, hu⟩
        have hU : Below W0.heap.size W0 u := bstep hV1 hu
        rw [show errOf (Except.error k : Except Int (Blk × ComN)) = k from rfl]
        clear hr
        go_wp2_with (first
          | (refine gen_wpList fun hSw hhSw => ?_; have hST := decA_start u hSw (by rw [hhSw]; rfl); have hS1 := hST.1.setB HD5.out.l HD5.out.l1; refine wpList_store_mid rfl 27 _ _ rfl u.heap.size 0 L5.toArray rfl rfl (hST.1.thB HD5.out.l) (by rw [List.size_toArray, HD5.out.l]; kernel_rfl) HD5.out.l1 ?_; rw [hST.1.rowB HD5.out.l]; have hS2 := hS1.setC HD5.out.m HD5.out.m1; clear hST hhSw)
          | (refine wpList_store_mid rfl 30 _ _ rfl (u.heap.size + 1) 0 M5.toArray rfl rfl (hS1.thC HD5.out.m) (by rw [List.size_toArray, HD5.out.m]; kernel_rfl) HD5.out.m1 ?_; rw [hS1.rowC HD5.out.m]; refine gen_wpList fun hSv hhSv => ?_; rw [← hhSv] at hS2; have hSB : Below u.heap.size u hSv := hS2.be; clear hS1 hhSv)
          | (refine wpListG_load (by kernel_rfl) 27 _ rfl u.heap.size 0 rfl L5 _ (rangeAt_below hS2.rgB ?h) Try.underlying27 rfl (by rw [HD5.out.l]; kernel_rfl) ?_; (case h => exact Below.refl _ _))
          | (refine wpListG_load (by kernel_rfl) 30 _ rfl (u.heap.size + 1) 0 rfl M5 _ (rangeAt_below hS2.rgC ?h) Try.underlying30 rfl (by rw [HD5.out.m]; kernel_rfl) ?_; (case h => first | exact Below.refl _ _ | exact hQ1))
          | (go_at_call 6; (with_reducible refine ((HD5.out.below hSB).enc).mono ?_); intro e u2 hAny; obtain ⟨A7, n7, cap7, k7, rfl, hu2⟩ := hAny.any)
          | (go_at_call 11; (with_reducible refine (alive_c _).mono ?_); rintro e u3 ⟨rfl, hu3⟩)
          | fail)
        exact bodyPost_ret (v := .bool true) (by simp [results, Try.results3]) rfl ⟨rfl, bstep HW0.out.1 (bstep (bstep (bstep hU hSB) hu2) hu3)⟩
      | ok p =>
        obtain ⟨b', c'⟩ := p
        have hEX := encAns_decAns hr
        rintro e u ⟨L5, M5, rfl, HD5, hu⟩
        have hU : Below W0.heap.size W0 u := bstep hV1 hu
        rw [show errOf (Except.ok (b', c') : Except Int (Blk × ComN)) = 0 from rfl]
        have HE5 : Hid (∀ W, Below u.heap.size u W → Calls Try.prog 6 #[.agg L5.toArray, .agg M5.toArray] W (Enc1 W x)) := fun W hW => by
          have := (HD5.out.below hW).enc
          rw [show encAns (blkA (.ok (b', c'))) (comA (.ok (b', c'))) = .ok x from hEX] at this
          exact this.mono fun e w' h => h.one
        clear hr hEX
        go_wp2_with (first
          | (refine gen_wpList fun hSw hhSw => ?_; have hST := decA_start u hSw (by rw [hhSw]; rfl); have hS1 := hST.1.setB HD5.out.l HD5.out.l1; refine wpList_store_mid rfl 27 _ _ rfl u.heap.size 0 L5.toArray rfl rfl (hST.1.thB HD5.out.l) (by rw [List.size_toArray, HD5.out.l]; kernel_rfl) HD5.out.l1 ?_; rw [hST.1.rowB HD5.out.l]; have hS2 := hS1.setC HD5.out.m HD5.out.m1; clear hST hhSw)
          | (refine wpList_store_mid rfl 30 _ _ rfl (u.heap.size + 1) 0 M5.toArray rfl rfl (hS1.thC HD5.out.m) (by rw [List.size_toArray, HD5.out.m]; kernel_rfl) HD5.out.m1 ?_; rw [hS1.rowC HD5.out.m]; refine gen_wpList fun hSv hhSv => ?_; rw [← hhSv] at hS2; have hSB : Below u.heap.size u hSv := hS2.be; clear hS1 hhSv)
          | (refine wpListG_load (by kernel_rfl) 27 _ rfl u.heap.size 0 rfl L5 _ (rangeAt_below hS2.rgB ?h) Try.underlying27 rfl (by rw [HD5.out.l]; kernel_rfl) ?_; (case h => exact Below.refl _ _))
          | (refine wpListG_load (by kernel_rfl) 30 _ rfl (u.heap.size + 1) 0 rfl M5 _ (rangeAt_below hS2.rgC ?h) Try.underlying30 rfl (by rw [HD5.out.m]; kernel_rfl) ?_; (case h => first | exact Below.refl _ _ | exact hQ1))
          | (go_at_call 6; (with_reducible refine (HE5.out _ hSB).mono ?_); rintro e u2 ⟨A7, cap7, rfl, HR7, hu2⟩)
          | (go_at_call 10; (with_reducible refine (same_same A7 A3 x.length cap7 cap3 x rfl _ HR7.out.2 (HX.out _ (bstep (bstep hU hSB) hu2)).out.2).mono ?_); rintro e u4 ⟨rfl, rfl⟩)
          | (go_at_call 11; (with_reducible refine (alive_c _).mono ?_); rintro e u3 ⟨rfl, hu3⟩)
          | fail)
        exact bodyPost_ret (v := .bool true) (by simp [results, Try.results3]) rfl ⟨rfl, bstep HW0.out.1 (bstep (bstep (bstep hU hSB) hu2) hu3)⟩
end Go.Proofs.Ytildkoabfdfjlaa
