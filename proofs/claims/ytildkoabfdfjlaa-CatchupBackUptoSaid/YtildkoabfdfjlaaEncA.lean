/- catchup.EncodeAnswer. -/
import Derived.Test.YtildkoabfdfjlaaEncC
set_option linter.all false
namespace Go.Proofs.Ytildkoabfdfjlaa
open Go.RowKit
open Rlp (It)

theorem encode_len {x : It} {y : List UInt8} (h : Rlp.encode x = some y) : y.length ≤ 65536 := by
  unfold Rlp.encode at h
  split at h
  · split at h
    · cases h; assumption
    · cases h
  · cases h
theorem encBlk_err {b : BlkI} {k : Int} (h : encBlk b = .error k) : k ≠ 0 := by
  unfold encBlk at h
  split at h
  · split at h
    · cases h
    · cases h; decide
  · cases h; decide
theorem encBlk_len {b : BlkI} {y : List UInt8} (h : encBlk b = .ok y) : y.length ≤ 65536 := by
  unfold encBlk at h
  split at h
  · split at h
    · cases h; exact encode_len (by assumption)
    · cases h
  · cases h
theorem encCom_err {c : ComI} {k : Int} (h : encCom c = .error k) : k ≠ 0 := by
  unfold encCom at h
  split at h
  · split at h
    · cases h
    · cases h; decide
  · cases h; decide
theorem encCom_len {c : ComI} {y : List UInt8} (h : encCom c = .ok y) : y.length ≤ 65536 := by
  unfold encCom at h
  split at h
  · split at h
    · cases h; exact encode_len (by assumption)
    · cases h
  · cases h

theorem item2 (n : Nat) (w : World) {n0 n1 : Nat} {w0 w1 : World} {x0 x1 : It}
    {f0 f1 : Bool} {A0 A1 B0 B1 : Option Addr} {k0 k1 c0 c1 m0 m1 d0 d1 : Nat}
    (h0 : ItemR n0 w0 x0 (.bool f0) (.slice A0 k0 c0) (.slice B0 m0 d0)) (b0 : Below w0.heap.size w0 w) (e0 : n ≤ n0)
    (h1 : ItemR n1 w1 x1 (.bool f1) (.slice A1 k1 c1) (.slice B1 m1 d1)) (b1 : Below w1.heap.size w1 w) (e1 : n ≤ n1) :
    ItemsR n w [x0, x1] [.bool f0, .slice A0 k0 c0, .slice B0 m0 d0, .bool f1, .slice A1 k1 c1, .slice B1 m1 d1] := by
  simp only [ItemsR]
  exact ⟨_, _, _, _, rfl, ItemR.mono e0 _ _ _ _ (ItemR.below b0 _ _ _ _ h0), _, _, _, _, rfl, ItemR.mono e1 _ _ _ _ (ItemR.below b1 _ _ _ _ h1), rfl⟩

set_option maxRecDepth 100000 in
set_option maxHeartbeats 1000000 in
theorem encAns_c (b : BlkI) (hb : b.Ok) (A : Option Addr) (cap : Nat) (vals : List Value) (c : ComI) (hc : c.Ok) (A2 : Option Addr) (cap2 : Nat) (w : World) (hr : Rd 0 w A vals) (hs : StrsR 0 w b.txs vals) (hr2 : Rd 0 w A2 (votsV c.votes)) :
    Calls Try.prog 6 #[.agg (blkV b (.slice A b.txs.length cap)).toArray, .agg (comV c.height c.round c.block (.slice A2 c.votes.length cap2)).toArray] w (EncPostE w (encAns b c)) := by
  have HEB : Hid (∀ W, Below w.heap.size w W → Calls Try.prog 17 #[.agg (blkV b (.slice A b.txs.length cap)).toArray] W (EncPostE W (encBlk b))) :=
    fun W hW => encBlock_c b hb A cap vals W (hr.below hW) (hs.below hW)
  have HEC : Hid (∀ W, Below w.heap.size w W → Calls Try.prog 18 #[.agg (comV c.height c.round c.block (.slice A2 c.votes.length cap2)).toArray] W (EncPostE W (encCom c))) :=
    fun W hW => encCommit_c c hc A2 cap2 W (hr2.below hW)
  obtain ⟨_, _, _, _, hlen1⟩ := blkV_get b hb (.slice A b.txs.length cap)
  have hlen2 := comV_len c hc (.slice A2 c.votes.length cap2)
  obtain ⟨L, hL⟩ : ∃ L, blkV b (.slice A b.txs.length cap) = L := ⟨_, rfl⟩
  obtain ⟨M, hM⟩ : ∃ M, comV c.height c.round c.block (.slice A2 c.votes.length cap2) = M := ⟨_, rfl⟩
  rw [hL] at hlen1 HEB ⊢
  rw [hM] at hlen2 HEC ⊢
  have HL := Lib.hid (And.intro hlen1 hlen2)
  have HR2 : Hid (((w.alloc (.cells L.toArray 27)).alloc (.cells M.toArray 30)).rangeAt (w.heap.size + 1) 0 M) := by
    have := range_new (w.alloc (.cells L.toArray 27)) M 30
    rwa [World.size_alloc] at this
  have HB0 : Hid (Below w.heap.size w ((w.alloc (.cells L.toArray 27)).alloc (.cells M.toArray 30))) := bnew2 _ _ _
  clear hr hs hr2 hL hM hlen1 hlen2
  cases h1 : encBlk b with
  | error k =>
    rw [h1] at HEB
    have hk : (k != 0) = true := by simpa using encBlk_err h1
    have HE := Lib.hid (show encAns b c = .error k by unfold encAns; rw [h1])
    clear h1
    go_enter Try.func6, Try.ntmps6
    go_wp2_with (first
      | (refine wpList_load_mid rfl 27 _ rfl w.heap.size 0 rfl L _ (World.rangeAt_alloc (range_new _ _ _) _) Try.underlying27 rfl (by rw [HL.out.1]; kernel_rfl) ?_)
      | (go_at_call 17; (with_reducible refine (HEB.out _ HB0.out).mono ?_); rintro e w1 ⟨rfl, hB1⟩))
    go_ret2
    exact EncPostE.no HE.out (bstep HB0.out hB1)
  | ok x =>
    rw [h1] at HEB
    have hxl := encBlk_len h1
    have hxl2 : x.length ≤ 140737488355328 := by omega
    cases h2 : encCom c with
    | error k =>
      rw [h2] at HEC
      have hk : (k != 0) = true := by simpa using encCom_err h2
      have HE := Lib.hid (show encAns b c = .error k by unfold encAns; rw [h1]; simp only; rw [h2])
      clear h1 h2
      go_enter Try.func6, Try.ntmps6
      go_wp2_with (first
        | (refine wpList_load_mid rfl 27 _ rfl w.heap.size 0 rfl L _ (World.rangeAt_alloc (range_new _ _ _) _) Try.underlying27 rfl (by rw [HL.out.1]; kernel_rfl) ?_)
        | (go_at_call 17; (with_reducible refine (HEB.out _ HB0.out).mono ?_); rintro e w1 ⟨A1, c1, rfl, h1, h2, hB1⟩; have HY := Lib.hid (And.intro h1 h2); clear h1 h2)
        | (refine wpList_load_mid rfl 30 _ rfl (w.heap.size + 1) 0 rfl M _ (rangeAt_below HR2.out hB1) Try.underlying30 rfl (by rw [HL.out.2]; kernel_rfl) ?_)
        | (go_at_call 18; (with_reducible refine (HEC.out _ (bstep HB0.out hB1)).mono ?_); rintro e w2 ⟨rfl, hB2⟩))
      go_ret2
      exact EncPostE.no HE.out (bstep (bstep HB0.out hB1) hB2)
    | ok y =>
      rw [h2] at HEC
      have hyl := encCom_len h2
      have hyl2 : y.length ≤ 140737488355328 := by omega
      have HFT : Hid (FitsAll (.list [.str x, .str y])) := by simp [FitsAll, FitsAlls, Hid]
      cases he : Rlp.encode (.list [.str x, .str y]) with
      | none =>
        have HE := Lib.hid (show encAns b c = .error 3 by unfold encAns; rw [h1]; simp only; rw [h2]; simp only; rw [he])
        have HENC : Hid (∀ W c0 c1 c2, ItemR 0 W (.list [.str x, .str y]) c0 c1 c2 → Calls Try.prog 14 #[.agg #[c0, c1, c2]] W fun e w' => e = .returned (.tuple #[.slice none 0 0, .int .i64 3]) ∧ Below W.heap.size W w') := fun W c0 c1 c2 h => by
          have := encode_c (.list [.str x, .str y]) HFT.out c0 c1 c2 W h
          rw [he] at this; exact this
        clear h1 h2 he
        go_enter Try.func6, Try.ntmps6
        go_wp2_with (first
          | (refine wpList_load_mid rfl 27 _ rfl w.heap.size 0 rfl L _ (World.rangeAt_alloc (range_new _ _ _) _) Try.underlying27 rfl (by rw [HL.out.1]; kernel_rfl) ?_)
          | (go_at_call 17; (with_reducible refine (HEB.out _ HB0.out).mono ?_); rintro e w1 ⟨A1, c1, rfl, h1, h2, hB1⟩; have HX := Lib.hid (And.intro h1 h2); clear h1 h2)
          | (refine wpList_load_mid rfl 30 _ rfl (w.heap.size + 1) 0 rfl M _ (rangeAt_below HR2.out hB1) Try.underlying30 rfl (by rw [HL.out.2]; kernel_rfl) ?_)
          | (go_at_call 18; (with_reducible refine (HEC.out _ (bstep HB0.out hB1)).mono ?_); rintro e w2 ⟨A2', c2, rfl, h1, h2, hB2⟩; have HY := Lib.hid (And.intro h1 h2); clear h1 h2)
          | (go_at_call 19; first
              | ((with_reducible refine gives_at (strN_c A1 c1 x.length x rfl hxl2 _ ((HX.out.2.below hB2).mono (Nat.zero_le _))) _ ?_); intro f3 A3 k3 cp3 B3 m3 d3 w3 HI3 hB3)
              | ((with_reducible refine gives_at (strN_c A2' c2 y.length y rfl hyl2 _ ((HY.out.2.below hB3).mono (Nat.zero_le _))) _ ?_); intro f4 A4 k4 cp4 B4 m4 d4 w4 HI4 hB4))
          | (go_at_call 15
             have HI2 := Lib.hid (item2 0 (w4.alloc (.cells #[.bool f3, .slice A3 k3 cp3, .slice B3 m3 d3, .bool f4, .slice A4 k4 cp4, .slice B4 m4 d4] 50)) HI3.out (bstep hB4 (bnew w4 _)) (Nat.zero_le _) HI4.out (bnew w4 _) (Nat.zero_le _))
             (with_reducible refine (listN_c (some ⟨w4.heap.size, 0, none⟩) 2 2 [.str x, .str y] _ _ rfl (by decide) (Lib.hid ⟨rd_new w4 _ _, HI2.out⟩) (fun h => by cases h)).mono ?_)
             rintro e w5 ⟨A5, c5, rfl, hc5, hR5, hB5⟩
             have HI5 : Hid (ItemR 0 w5 (.list [.str x, .str y]) (.bool true) (.slice none 0 0) (.slice A5 2 c5)) := ItemR.mk_list hc5 (hR5.mono (Nat.zero_le _)) (ItemsR.below hB5 _ _ HI2.out) none 0
             clear hc5 hR5 HI2)
          | (go_at_call 14; (with_reducible refine (HENC.out _ _ _ _ HI5.out).mono ?_); rintro e w6 ⟨rfl, hB6⟩))
        go_ret2
        exact EncPostE.no HE.out (bstep (bstep (bstep (bstep (bstep (bstep (bstep HB0.out hB1) hB2) hB3) hB4) (bnew w4 _)) hB5) hB6)
      | some z =>
        have HE := Lib.hid (show encAns b c = .ok z by unfold encAns; rw [h1]; simp only; rw [h2]; simp only; rw [he])
        have HENC : Hid (∀ W c0 c1 c2, ItemR 0 W (.list [.str x, .str y]) c0 c1 c2 → Calls Try.prog 14 #[.agg #[c0, c1, c2]] W fun e w' => ∃ A cap, e = .returned (.tuple #[.slice A z.length cap, .int .i64 0]) ∧ Hid (z.length ≤ cap ∧ Rd W.heap.size w' A (bytesV z)) ∧ Below W.heap.size W w') := fun W c0 c1 c2 h => by
          have := encode_c (.list [.str x, .str y]) HFT.out c0 c1 c2 W h
          rw [he] at this
          refine this.mono ?_
          rintro e w' ⟨v, rfl, ⟨A, cap, rfl, h1, h2⟩, hB⟩
          exact ⟨A, cap, rfl, ⟨h1, h2⟩, hB⟩
        clear h1 h2 he
        go_enter Try.func6, Try.ntmps6
        go_wp2_with (first
          | (refine wpList_load_mid rfl 27 _ rfl w.heap.size 0 rfl L _ (World.rangeAt_alloc (range_new _ _ _) _) Try.underlying27 rfl (by rw [HL.out.1]; kernel_rfl) ?_)
          | (go_at_call 17; (with_reducible refine (HEB.out _ HB0.out).mono ?_); rintro e w1 ⟨A1, c1, rfl, h1, h2, hB1⟩; have HX := Lib.hid (And.intro h1 h2); clear h1 h2)
          | (refine wpList_load_mid rfl 30 _ rfl (w.heap.size + 1) 0 rfl M _ (rangeAt_below HR2.out hB1) Try.underlying30 rfl (by rw [HL.out.2]; kernel_rfl) ?_)
          | (go_at_call 18; (with_reducible refine (HEC.out _ (bstep HB0.out hB1)).mono ?_); rintro e w2 ⟨A2', c2, rfl, h1, h2, hB2⟩; have HY := Lib.hid (And.intro h1 h2); clear h1 h2)
          | (go_at_call 19; first
              | ((with_reducible refine gives_at (strN_c A1 c1 x.length x rfl hxl2 _ ((HX.out.2.below hB2).mono (Nat.zero_le _))) _ ?_); intro f3 A3 k3 cp3 B3 m3 d3 w3 HI3 hB3)
              | ((with_reducible refine gives_at (strN_c A2' c2 y.length y rfl hyl2 _ ((HY.out.2.below hB3).mono (Nat.zero_le _))) _ ?_); intro f4 A4 k4 cp4 B4 m4 d4 w4 HI4 hB4))
          | (go_at_call 15
             have HI2 := Lib.hid (item2 0 (w4.alloc (.cells #[.bool f3, .slice A3 k3 cp3, .slice B3 m3 d3, .bool f4, .slice A4 k4 cp4, .slice B4 m4 d4] 50)) HI3.out (bstep hB4 (bnew w4 _)) (Nat.zero_le _) HI4.out (bnew w4 _) (Nat.zero_le _))
             (with_reducible refine (listN_c (some ⟨w4.heap.size, 0, none⟩) 2 2 [.str x, .str y] _ _ rfl (by decide) (Lib.hid ⟨rd_new w4 _ _, HI2.out⟩) (fun h => by cases h)).mono ?_)
             rintro e w5 ⟨A5, c5, rfl, hc5, hR5, hB5⟩
             have HI5 : Hid (ItemR 0 w5 (.list [.str x, .str y]) (.bool true) (.slice none 0 0) (.slice A5 2 c5)) := ItemR.mk_list hc5 (hR5.mono (Nat.zero_le _)) (ItemsR.below hB5 _ _ HI2.out) none 0
             clear hc5 hR5 HI2)
          | (go_at_call 14; (with_reducible refine (HENC.out _ _ _ _ HI5.out).mono ?_); rintro e w6 ⟨A6, c6, rfl, HZ, hB6⟩))
        go_ret2
        have hBB := bstep (bstep (bstep (bstep (bstep (bstep HB0.out hB1) hB2) hB3) hB4) (bnew w4 (.cells #[.bool f3, .slice A3 k3 cp3, .slice B3 m3 d3, .bool f4, .slice A4 k4 cp4, .slice B4 m4 d4] 50))) hB5
        exact EncPostE.ok HE.out HZ.out.1 (HZ.out.2.mono hBB.size) (bstep hBB hB6)
end Go.Proofs.Ytildkoabfdfjlaa
