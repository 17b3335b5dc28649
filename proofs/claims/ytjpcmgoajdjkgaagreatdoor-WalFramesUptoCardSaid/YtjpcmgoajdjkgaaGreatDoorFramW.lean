/- WalFrames by the contracts. -/
import Derived.Test.YtjpcmgoajdjkgaaGreatDoorAlW
import Derived.Test.YtjpcmgoajdjkgaaGreatDoorRefF
import Derived.Test.YtjpcmgoajdjkgaaGreatDoorRefN
set_option linter.all false
namespace Go.Proofs.YtjpcmgoajdjkgaaGreatDoor
open Go.RowKit
open Wal (crc frameB nextB nameB fileB)

theorem bel_of_drewN {w w' : World} (h : ∃ q, w' = w.drewN q) : Below w.heap.size w w' := by
  obtain ⟨q, rfl⟩ := h
  exact bdrewQ w q

set_option maxRecDepth 100000 in
set_option maxHeartbeats 800000 in
theorem frames_law_c (A : Option Addr) (n cap : Nat) (l : List UInt8) (hn : n = l.length) (hm : n ≤ 1048576) (hc : n ≤ cap) (s : List UInt8) (hs : s.length ≤ 1048576) (k : Int) (hk0 : -9223372036854775808 ≤ k) (hk1 : k ≤ 9223372036854775807)
    (w : World) (hg : Glob w.heap.size w) (hr : Rd 0 w A (bytesV l)) :
    Calls Tryz.prog 3 #[.slice A n cap, .string ⟨s.toArray⟩, .int .i64 k] w fun e w' => e = .returned (.bool true) ∧ Below w.heap.size w w' := by
  subst hn
  have HG := Lib.hid (And.intro hg (And.intro hr (And.intro hc hm))); clear hg hr hc hm
  go_enter Tryz.func3, Tryz.ntmps3
  go_wp2_with fail
  refine (next_c A l.length cap l rfl (by have := HG.out.2.2.2; omega) HG.out.2.2.1 w HG.out.2.1).mono ?_
  rintro e w1 ⟨v1, rfl, hv1, hb1⟩
  generalize hN : nextB l = NB at hv1 ⊢
  obtain ⟨A1, c1, rfl, hr1⟩ : ∃ A c, v1 = .slice A (NB.1.getD []).length c ∧ Rd 0 w1 A (bytesV (NB.1.getD [])) := by
    obtain ⟨A, c, h1, _, h2⟩ := hv1.toR
    exact ⟨A, c, h1, h2⟩
  have H1 := Lib.hid (And.intro hr1 (And.intro hb1 hN)); clear hv1 hr1 hb1 hN
  go_wp2_with fail
  refine (rnext_c A l.length cap l rfl (by have := HG.out.2.2.2; omega) HG.out.2.2.1 w1 (HG.out.2.1.below H1.out.2.1)).mono ?_
  rintro e w2 ⟨v2, rfl, hv2, hb2⟩
  rw [H1.out.2.2] at hv2 ⊢
  obtain ⟨A2, c2, rfl, hr2⟩ : ∃ A c, v2 = .slice A (NB.1.getD []).length c ∧ Rd 0 w2 A (bytesV (NB.1.getD [])) := by
    obtain ⟨A, c, h1, _, h2⟩ := hv2.toR
    exact ⟨A, c, h1, h2⟩
  have H2 := Lib.hid (And.intro hr2 (And.intro (bstep H1.out.2.1 hb2) (H1.out.1.below hb2))); clear hv2 hr2 hb2
  go_wp2_with fail
  refine (frame_c A l.length cap l rfl (by have := HG.out.2.2.2; omega) HG.out.2.2.1 w2 (HG.out.2.1.below H2.out.2.1)).mono ?_
  rintro e w3 ⟨v3, rfl, hown3, hb3⟩
  obtain ⟨A3, c3, rfl, _, _, _⟩ := own_slice hown3
  have H3 := Lib.hid (And.intro ((Rd.of_own hown3).mono (Nat.zero_le _)) (And.intro (bstep H2.out.2.1 hb3) (And.intro (H2.out.2.2.below hb3) (H2.out.1.below hb3)))); clear hown3 hb3
  go_wp2_with fail
  refine (rframe_c A l.length cap l rfl (by have := HG.out.2.2.2; omega) w3 (HG.out.2.1.below H3.out.2.1)).mono ?_
  rintro e w4 ⟨v4, rfl, hown4, hb4⟩
  obtain ⟨A4, c4, rfl, _, _, _⟩ := own_slice hown4
  have H4 := Lib.hid (And.intro ((Rd.of_own hown4).mono (Nat.zero_le _)) (And.intro (bstep H3.out.2.1 hb4) (And.intro (H3.out.1.below hb4) (And.intro (H3.out.2.2.1.below hb4) (H3.out.2.2.2.below hb4))))); clear hown4 hb4
  go_wp2_with fail
  refine (same_c A3 A4 _ _ c3 c4 (frameB l) (frameB l) rfl rfl w4 H4.out.2.2.1 H4.out.1).mono ?_
  rintro e w5 ⟨rfl, rfl⟩
  rw [beq_self_eq_true]
  go_wp2_with fail
  refine (same_c A1 A2 _ _ c1 c2 (NB.1.getD []) (NB.1.getD []) rfl rfl w5 H4.out.2.2.2.1 H4.out.2.2.2.2).mono ?_
  rintro e w6 ⟨rfl, rfl⟩
  rw [beq_self_eq_true]
  go_wp2_with fail
  refine (sum_c A cap l l.length rfl (by have := HG.out.2.2.2; omega) w6 (HG.out.2.1.below H4.out.2.1)).mono ?_
  rintro e w7 ⟨rfl, rfl⟩
  go_wp2_with fail
  refine (rsum_c A cap l l.length rfl (by have := HG.out.2.2.2; omega) w7 (HG.out.2.1.below H4.out.2.1)).mono ?_
  rintro e w8 ⟨rfl, rfl⟩
  go_wp2_with fail
  refine (name_c s (by omega) w8).mono ?_
  rintro e w9 ⟨rfl, hb9⟩
  have H9 := Lib.hid (bstep H4.out.2.1 hb9); clear hb9
  go_wp2_with fail
  refine (rname_c s (by omega) w9).mono ?_
  rintro e w10 ⟨rfl, hb10⟩
  have H10 := Lib.hid (bstep H9.out (bel_of_drewN hb10)); clear hb10
  go_wp2_with fail
  refine (file_c w.heap.size s (by omega) k hk0 hk1 w10 (HG.out.1.below H10.out)).mono ?_
  rintro e w11 ⟨rfl, hb11⟩
  have H11 := Lib.hid (bstep H10.out hb11); clear hb11
  go_wp2_with fail
  refine (rfile_c s (by omega) k hk0 hk1 w11).mono ?_
  rintro e w12 ⟨rfl, hb12⟩
  have H12 := Lib.hid (bstep H11.out hb12); clear hb12
  go_wp2_with fail
  refine (alive_c w12 ((HG.out.1.below H12.out).mono H12.out.size)).mono ?_
  rintro e w13 ⟨rfl, hb13⟩
  have H13 := Lib.hid (bstep H12.out hb13); clear hb13
  go_wp2_with fail
  go_ret
  exact ⟨rfl, H13.out⟩
end Go.Proofs.YtjpcmgoajdjkgaaGreatDoor
