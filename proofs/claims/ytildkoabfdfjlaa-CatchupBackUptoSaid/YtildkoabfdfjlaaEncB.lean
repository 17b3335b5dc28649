/- chain's encode and EncodeBlock. -/
import Derived.Test.YtildkoabfdfjlaaBRight
set_option linter.all false
namespace Go.Proofs.Ytildkoabfdfjlaa
open Go.RowKit
open Rlp (It)

theorem rangeAt_below {W W' : World} {b o : Nat} {cs : List Value} (h : W.rangeAt b o cs) (hB : Below W.heap.size W W') : W'.rangeAt b o cs := fun j u hj =>
  (hB.cell (p := ⟨b, o + j, none⟩) (cell_lt (h j u hj))).trans (h j u hj)
theorem meth_B_right (k : Nat) (W : World) (cs : Array Value) : (method (k + 1) 77 (.agg cs) "conclave/chain.right").run Try.prog W = .ok (38, .agg cs) W := by kernel_rfl
theorem meth_B_item (k : Nat) (W : World) (cs : Array Value) : (method (k + 1) 77 (.agg cs) "conclave/chain.item").run Try.prog W = .ok (54, .agg cs) W := by kernel_rfl
theorem meth_C_right (k : Nat) (W : World) (cs : Array Value) : (method (k + 1) 79 (.agg cs) "conclave/chain.right").run Try.prog W = .ok (83, .agg cs) W := by kernel_rfl
theorem meth_C_item (k : Nat) (W : World) (cs : Array Value) : (method (k + 1) 79 (.agg cs) "conclave/chain.item").run Try.prog W = .ok (82, .agg cs) W := by kernel_rfl

set_option maxRecDepth 100000 in
set_option maxHeartbeats 1000000 in
theorem encodeB_c (b : BlkI) (hb : b.Ok) (A : Option Addr) (cap : Nat) (vals : List Value) (w : World) (hr : Rd 0 w A vals) (hs : StrsR 0 w b.txs vals) :
    Calls Try.prog 33 #[.agg (blkV b (.slice A b.txs.length cap)).toArray] w (EncPostE w (encBlk b)) := by
  have HIT : Hid (∀ W, Below w.heap.size w W → Calls Try.prog 54 #[.agg (blkV b (.slice A b.txs.length cap)).toArray] W (GivesItem W (blkIt b))) :=
    fun W hW => bitem_c b hb A cap vals W (hr.below hW) (hs.below hW)
  have HRI : Hid (∀ W, Below w.heap.size w W → Calls Try.prog 38 #[.agg (blkV b (.slice A b.txs.length cap)).toArray] W fun e w' => e = .returned (.int .i64 (if rightB b then 0 else 70)) ∧ Below W.heap.size W w') :=
    fun W hW => bright_c b hb A cap vals W (hr.below hW) (hs.below hW)
  obtain ⟨e0, e65, e66, e67, hlen⟩ := blkV_get b hb (.slice A b.txs.length cap)
  have HFT := Lib.hid (blk_fits hb)
  obtain ⟨L, hL⟩ : ∃ L, blkV b (.slice A b.txs.length cap) = L := ⟨_, rfl⟩
  rw [hL] at hlen HIT HRI ⊢
  have HLEN := Lib.hid hlen
  clear hr hs hL e0 e65 e66 e67 hlen
  cases hR : rightB b with
  | false =>
    have hE : encBlk b = .error 70 := by unfold encBlk; rw [hR]; rfl
    have HE := Lib.hid hE
    rw [hR] at HRI
    clear hE hR
    go_enter Try.func33, Try.ntmps33
    have hm1 := meth_B_right
    go_wp2_with (first
      | (refine wpList_load_mid rfl 77 _ rfl w.heap.size 0 rfl L _ (range_new _ _ _) Try.underlying77 rfl (by rw [HLEN.out]; kernel_rfl) ?_)
      | (go_at_call 38; (with_reducible refine (HRI.out _ (bnew _ _)).mono ?_); rintro e w1 ⟨rfl, hB1⟩))
    go_ret2
    exact EncPostE.no HE.out (bstep (bnew _ _) hB1)
  | true =>
    obtain ⟨y, hy⟩ : ∃ y, Rlp.encode (blkIt b) = some y := by
      cases he : Rlp.encode (blkIt b) with
      | none => simp [rightB, he] at hR
      | some y => exact ⟨y, rfl⟩
    have hE : encBlk b = .ok y := by unfold encBlk; rw [hR, hy]; rfl
    have HE := Lib.hid hE
    rw [hR] at HRI
    have HENC : Hid (∀ W c0 c1 c2, ItemR 0 W (blkIt b) c0 c1 c2 → Calls Try.prog 14 #[.agg #[c0, c1, c2]] W fun e w' => ∃ A cap, e = .returned (.tuple #[.slice A y.length cap, .int .i64 0]) ∧ Hid (y.length ≤ cap ∧ Rd W.heap.size w' A (bytesV y)) ∧ Below W.heap.size W w') := fun W c0 c1 c2 h => by
      have := encode_c (blkIt b) HFT.out c0 c1 c2 W h
      rw [hy] at this
      refine this.mono ?_
      rintro e w' ⟨v, rfl, ⟨A, cap, rfl, h1, h2⟩, hB⟩
      exact ⟨A, cap, rfl, ⟨h1, h2⟩, hB⟩
    clear hE hR hy
    have hm1 := meth_B_right
    have hm2 := meth_B_item
    go_enter Try.func33, Try.ntmps33
    go_wp2_with (first
      | (refine wpList_load_mid rfl 77 _ rfl w.heap.size 0 rfl L _ (range_new _ _ _) Try.underlying77 rfl (by rw [HLEN.out]; kernel_rfl) ?_)
      | (go_at_call 38; (with_reducible refine (HRI.out _ (bnew _ _)).mono ?_); rintro e w1 ⟨rfl, hB1⟩)
      | (refine wpList_load_mid rfl 77 _ rfl w.heap.size 0 rfl L _ (rangeAt_below (range_new _ _ _) hB1) Try.underlying77 rfl (by rw [HLEN.out]; kernel_rfl) ?_)
      | (go_at_call 54; (with_reducible refine gives_at (HIT.out _ (bstep (bnew _ _) hB1)) _ ?_); intro f1 B1 m1 c1 C1 d1 e1 w2 HI2 hB2)
      | (go_at_call 14; (with_reducible refine (HENC.out _ _ _ _ (ItemR.mono (Nat.zero_le _) _ _ _ _ HI2.out)).mono ?_); rintro e w3 ⟨A3, c3, rfl, HY, hB3⟩))
    go_ret2
    have hBB := bstep (bstep (bnew w _) hB1) hB2
    exact EncPostE.ok HE.out HY.out.1 (HY.out.2.mono hBB.size) (bstep hBB hB3)

set_option maxRecDepth 100000 in
set_option maxHeartbeats 1000000 in
theorem encBlock_c (b : BlkI) (hb : b.Ok) (A : Option Addr) (cap : Nat) (vals : List Value) (w : World) (hr : Rd 0 w A vals) (hs : StrsR 0 w b.txs vals) :
    Calls Try.prog 17 #[.agg (blkV b (.slice A b.txs.length cap)).toArray] w (EncPostE w (encBlk b)) := by
  have HEN : Hid (∀ W, Below w.heap.size w W → Calls Try.prog 33 #[.agg (blkV b (.slice A b.txs.length cap)).toArray] W (EncPostE W (encBlk b))) :=
    fun W hW => encodeB_c b hb A cap vals W (hr.below hW) (hs.below hW)
  obtain ⟨e0, e65, e66, e67, hlen⟩ := blkV_get b hb (.slice A b.txs.length cap)
  obtain ⟨L, hL⟩ : ∃ L, blkV b (.slice A b.txs.length cap) = L := ⟨_, rfl⟩
  rw [hL] at hlen HEN ⊢
  have HLEN := Lib.hid hlen
  clear hr hs hL e0 e65 e66 e67 hlen
  obtain ⟨r, hr⟩ : ∃ r, encBlk b = r := ⟨_, rfl⟩
  rw [hr] at HEN ⊢
  clear hr
  cases r with
  | error k =>
    go_enter Try.func17, Try.ntmps17
    go_wp2_with (first
      | (refine wpList_load_mid rfl 27 _ rfl w.heap.size 0 rfl L _ (range_new _ _ _) Try.underlying27 rfl (by rw [HLEN.out]; kernel_rfl) ?_)
      | (go_at_call 33; (with_reducible refine (HEN.out _ (bnew _ _)).mono ?_); rintro e w1 ⟨rfl, hB1⟩))
    go_ret2
    exact EncPostE.no rfl (bstep (bnew _ _) hB1)
  | ok y =>
    go_enter Try.func17, Try.ntmps17
    go_wp2_with (first
      | (refine wpList_load_mid rfl 27 _ rfl w.heap.size 0 rfl L _ (range_new _ _ _) Try.underlying27 rfl (by rw [HLEN.out]; kernel_rfl) ?_)
      | (go_at_call 33; (with_reducible refine (HEN.out _ (bnew _ _)).mono ?_); rintro e w1 ⟨A1, c1, rfl, h1, h2, hB1⟩; have HY := Lib.hid (And.intro h1 h2); clear h1 h2))
    go_ret2
    exact EncPostE.ok rfl HY.out.1 (HY.out.2.mono (bnew w _).size) (bstep (bnew _ _) hB1)
end Go.Proofs.Ytildkoabfdfjlaa
