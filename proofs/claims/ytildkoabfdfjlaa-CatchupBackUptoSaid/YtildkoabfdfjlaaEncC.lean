/- chain's encode of a commit and EncodeCommit. -/
import Derived.Test.YtildkoabfdfjlaaEncB
set_option linter.all false
namespace Go.Proofs.Ytildkoabfdfjlaa
open Go.RowKit
open Rlp (It)

theorem vot_fits (v : VotI) : FitsAll (votIt v) := by simp [votIt, FitsAll, FitsAlls]
theorem com_fits {c : ComI} (h : c.Ok) : FitsAll (comIt c) := by
  have := h.n1
  have hv : FitsAlls (c.votes.map votIt) := FitsAlls.of_mem fun x hx => by
    obtain ⟨v, _, rfl⟩ := List.mem_map.1 hx
    exact vot_fits v
  simp [comIt, FitsAll, FitsAlls, hv]
  omega
theorem comV_len (c : ComI) (hb : c.Ok) (v : Value) : (comV c.height c.round c.block v).length = 35 := by
  have hp := bytesV_length c.block
  rw [hb.b] at hp
  simp [comV, hp]
theorem comV_one (h r : Int) (b : List UInt8) (A : Option Addr) (n c : Nat) : ∀ u ∈ comV h r b (.slice A n c), u.oneCell' = true := by
  intro u hu
  simp only [comV, List.mem_cons, List.mem_append, List.not_mem_nil, or_false] at hu
  rcases hu with rfl | rfl | hu | rfl
  · rfl
  · rfl
  · exact bytesV_one _ u hu
  · rfl

set_option maxRecDepth 100000 in
set_option maxHeartbeats 1000000 in
theorem encodeC_c (c : ComI) (hb : c.Ok) (A : Option Addr) (cap : Nat) (w : World) (hr : Rd 0 w A (votsV c.votes)) :
    Calls Try.prog 34 #[.agg (comV c.height c.round c.block (.slice A c.votes.length cap)).toArray] w (EncPostE w (encCom c)) := by
  have HIT : Hid (∀ W, Below w.heap.size w W → Calls Try.prog 82 #[.agg (comV c.height c.round c.block (.slice A c.votes.length cap)).toArray] W (GivesItem W (comIt c))) :=
    fun W hW => citem_c c hb A cap W (hr.below hW)
  have HRI : Hid (∀ W, Below w.heap.size w W → Calls Try.prog 83 #[.agg (comV c.height c.round c.block (.slice A c.votes.length cap)).toArray] W fun e w' => e = .returned (.int .i64 (if rightC c then 0 else 71)) ∧ Below W.heap.size W w') :=
    fun W hW => cright_c c.height c.round c.block hb.b c.votes hb.v A cap (by have := hb.n1; omega) W (hr.below hW)
  have hlen := comV_len c hb (.slice A c.votes.length cap)
  have HFT := Lib.hid (com_fits hb)
  obtain ⟨L, hL⟩ : ∃ L, comV c.height c.round c.block (.slice A c.votes.length cap) = L := ⟨_, rfl⟩
  rw [hL] at hlen HIT HRI ⊢
  have HLEN := Lib.hid hlen
  clear hr hL hlen
  cases hR : rightC c with
  | false =>
    have hE : encCom c = .error 71 := by unfold encCom; rw [hR]; rfl
    have HE := Lib.hid hE
    rw [hR] at HRI
    clear hE hR
    have hm1 := meth_C_right
    go_enter Try.func34, Try.ntmps34
    go_wp2_with (first
      | (refine wpList_load_mid rfl 79 _ rfl w.heap.size 0 rfl L _ (range_new _ _ _) Try.underlying79 rfl (by rw [HLEN.out]; kernel_rfl) ?_)
      | (go_at_call 83; (with_reducible refine (HRI.out _ (bnew _ _)).mono ?_); rintro e w1 ⟨rfl, hB1⟩))
    go_ret2
    exact EncPostE.no HE.out (bstep (bnew _ _) hB1)
  | true =>
    rw [hR] at HRI
    have hm1 := meth_C_right
    have hm2 := meth_C_item
    cases hy : Rlp.encode (comIt c) with
    | none =>
      have hE : encCom c = .error 3 := by unfold encCom; rw [hR, hy]; rfl
      have HE := Lib.hid hE
      have HENC : Hid (∀ W c0 c1 c2, ItemR 0 W (comIt c) c0 c1 c2 → Calls Try.prog 14 #[.agg #[c0, c1, c2]] W fun e w' => e = .returned (.tuple #[.slice none 0 0, .int .i64 3]) ∧ Below W.heap.size W w') := fun W c0 c1 c2 h => by
        have := encode_c (comIt c) HFT.out c0 c1 c2 W h
        rw [hy] at this; exact this
      clear hE hR hy
      go_enter Try.func34, Try.ntmps34
      go_wp2_with (first
        | (refine wpList_load_mid rfl 79 _ rfl w.heap.size 0 rfl L _ (range_new _ _ _) Try.underlying79 rfl (by rw [HLEN.out]; kernel_rfl) ?_)
        | (go_at_call 83; (with_reducible refine (HRI.out _ (bnew _ _)).mono ?_); rintro e w1 ⟨rfl, hB1⟩)
        | (refine wpList_load_mid rfl 79 _ rfl w.heap.size 0 rfl L _ (rangeAt_below (range_new _ _ _) hB1) Try.underlying79 rfl (by rw [HLEN.out]; kernel_rfl) ?_)
        | (go_at_call 82; (with_reducible refine gives_at (HIT.out _ (bstep (bnew _ _) hB1)) _ ?_); intro f1 B1 m1 c1 C1 d1 e1 w2 HI2 hB2)
        | (go_at_call 14; (with_reducible refine (HENC.out _ _ _ _ (ItemR.mono (Nat.zero_le _) _ _ _ _ HI2.out)).mono ?_); rintro e w3 ⟨rfl, hB3⟩))
      go_ret2
      exact EncPostE.no HE.out (bstep (bstep (bstep (bnew w _) hB1) hB2) hB3)
    | some y =>
      have hE : encCom c = .ok y := by unfold encCom; rw [hR, hy]; rfl
      have HE := Lib.hid hE
      have HENC : Hid (∀ W c0 c1 c2, ItemR 0 W (comIt c) c0 c1 c2 → Calls Try.prog 14 #[.agg #[c0, c1, c2]] W fun e w' => ∃ A cap, e = .returned (.tuple #[.slice A y.length cap, .int .i64 0]) ∧ Hid (y.length ≤ cap ∧ Rd W.heap.size w' A (bytesV y)) ∧ Below W.heap.size W w') := fun W c0 c1 c2 h => by
        have := encode_c (comIt c) HFT.out c0 c1 c2 W h
        rw [hy] at this
        refine this.mono ?_
        rintro e w' ⟨v, rfl, ⟨A, cap, rfl, h1, h2⟩, hB⟩
        exact ⟨A, cap, rfl, ⟨h1, h2⟩, hB⟩
      clear hE hR hy
      go_enter Try.func34, Try.ntmps34
      go_wp2_with (first
        | (refine wpList_load_mid rfl 79 _ rfl w.heap.size 0 rfl L _ (range_new _ _ _) Try.underlying79 rfl (by rw [HLEN.out]; kernel_rfl) ?_)
        | (go_at_call 83; (with_reducible refine (HRI.out _ (bnew _ _)).mono ?_); rintro e w1 ⟨rfl, hB1⟩)
        | (refine wpList_load_mid rfl 79 _ rfl w.heap.size 0 rfl L _ (rangeAt_below (range_new _ _ _) hB1) Try.underlying79 rfl (by rw [HLEN.out]; kernel_rfl) ?_)
        | (go_at_call 82; (with_reducible refine gives_at (HIT.out _ (bstep (bnew _ _) hB1)) _ ?_); intro f1 B1 m1 c1 C1 d1 e1 w2 HI2 hB2)
        | (go_at_call 14; (with_reducible refine (HENC.out _ _ _ _ (ItemR.mono (Nat.zero_le _) _ _ _ _ HI2.out)).mono ?_); rintro e w3 ⟨A3, c3, rfl, HY, hB3⟩))
      go_ret2
      have hBB := bstep (bstep (bnew w _) hB1) hB2
      exact EncPostE.ok HE.out HY.out.1 (HY.out.2.mono hBB.size) (bstep hBB hB3)

set_option maxRecDepth 100000 in
set_option maxHeartbeats 1000000 in
theorem encCommit_c (c : ComI) (hb : c.Ok) (A : Option Addr) (cap : Nat) (w : World) (hr : Rd 0 w A (votsV c.votes)) :
    Calls Try.prog 18 #[.agg (comV c.height c.round c.block (.slice A c.votes.length cap)).toArray] w (EncPostE w (encCom c)) := by
  have HEN : Hid (∀ W, Below w.heap.size w W → Calls Try.prog 34 #[.agg (comV c.height c.round c.block (.slice A c.votes.length cap)).toArray] W (EncPostE W (encCom c))) :=
    fun W hW => encodeC_c c hb A cap W (hr.below hW)
  have hlen := comV_len c hb (.slice A c.votes.length cap)
  obtain ⟨L, hL⟩ : ∃ L, comV c.height c.round c.block (.slice A c.votes.length cap) = L := ⟨_, rfl⟩
  rw [hL] at hlen HEN ⊢
  have HLEN := Lib.hid hlen
  clear hr hL hlen
  obtain ⟨r, hr⟩ : ∃ r, encCom c = r := ⟨_, rfl⟩
  rw [hr] at HEN ⊢
  clear hr
  cases r with
  | error k =>
    go_enter Try.func18, Try.ntmps18
    go_wp2_with (first
      | (refine wpList_load_mid rfl 30 _ rfl w.heap.size 0 rfl L _ (range_new _ _ _) Try.underlying30 rfl (by rw [HLEN.out]; kernel_rfl) ?_)
      | (go_at_call 34; (with_reducible refine (HEN.out _ (bnew _ _)).mono ?_); rintro e w1 ⟨rfl, hB1⟩))
    go_ret2
    exact EncPostE.no rfl (bstep (bnew _ _) hB1)
  | ok y =>
    go_enter Try.func18, Try.ntmps18
    go_wp2_with (first
      | (refine wpList_load_mid rfl 30 _ rfl w.heap.size 0 rfl L _ (range_new _ _ _) Try.underlying30 rfl (by rw [HLEN.out]; kernel_rfl) ?_)
      | (go_at_call 34; (with_reducible refine (HEN.out _ (bnew _ _)).mono ?_); rintro e w1 ⟨A1, c1, rfl, h1, h2, hB1⟩; have HY := Lib.hid (And.intro h1 h2); clear h1 h2))
    go_ret2
    exact EncPostE.ok rfl HY.out.1 (HY.out.2.mono (bnew w _).size) (bstep (bnew _ _) hB1)
end Go.Proofs.Ytildkoabfdfjlaa
