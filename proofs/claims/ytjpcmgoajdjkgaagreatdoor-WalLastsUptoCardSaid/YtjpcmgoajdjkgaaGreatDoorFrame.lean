/- A record's frame. -/
import Derived.Test.YtjpcmgoajdjkgaaGreatDoorCat
set_option linter.all false
namespace Go.Proofs.YtjpcmgoajdjkgaaGreatDoor
open Go.RowKit
open Wal (crc fourB numB frameB)

theorem rd_new4 (w : World) (T : TypeId) (a b c d : Value) : Rd 0 (w.alloc (.cells #[a, b, c, d] T)) (some ⟨w.heap.size, 0, none⟩) [a, b, c, d] := by
  refine .inr ⟨w.heap.size, 0, Nat.zero_le _, rfl, fun k hk => ?_⟩
  rw [Joins.cell_of_block (heap_alloc_new w _)]
  simp
theorem bsl4 {w : World} {v1 v2 v3 v4 : Value} {l1 l2 l3 l4 : List UInt8} (h1 : BytesR 0 w v1 l1) (h2 : BytesR 0 w v2 l2) (h3 : BytesR 0 w v3 l3) (h4 : BytesR 0 w v4 l4) : Bsl w [v1, v2, v3, v4] [l1, l2, l3, l4] := by
  refine ⟨rfl, fun k v l hv hl => ?_⟩
  match k with
  | 0 => simp at hv hl; subst hv hl; exact h1
  | 1 => simp at hv hl; subst hv hl; exact h2
  | 2 => simp at hv hl; subst hv hl; exact h3
  | 3 => simp at hv hl; subst hv hl; exact h4
  | k + 4 => simp at hv

theorem own_rd {w : World} {base n : Nat} {A : Option Addr} {c : Nat} {l : List UInt8} {e : TypeId} (h : w.ownsRow base e 1 (.slice A n c) n (bytesV l)) (hn : n = l.length) : BytesR 0 w (.slice A n c) l := by
  subst hn
  exact (BytesR.of_own h).mono (Nat.zero_le _)

/-- four, its result as a slice -/
theorem four_s (x : Nat) (hx : x < 4294967296) (w : World) :
    Calls Tryz.prog 41 #[.int .u32 (x : Nat)] w fun e w' => ∃ A c, e = .returned (.slice A 4 c) ∧ w'.ownsRow w.heap.size 5 1 (.slice A 4 c) 4 (bytesV (fourB x)) ∧ Below w.heap.size w w' :=
  (four_c x hx w).mono fun e w' ⟨v, h1, h2, h3⟩ => by
    obtain ⟨A, c, rfl, _⟩ := own_slice h2
    exact ⟨A, c, h1, h2, h3⟩
theorem rfour_s (x : Nat) (hx : x < 4294967296) (w : World) :
    Calls Tryz.prog 45 #[.int .u32 (x : Nat)] w fun e w' => ∃ A c, e = .returned (.slice A 4 c) ∧ w'.ownsRow w.heap.size 5 1 (.slice A 4 c) 4 (bytesV (fourB x)) ∧ Below w.heap.size w w' :=
  (rfour_c x hx w).mono fun e w' ⟨v, h1, h2, h3⟩ => by
    obtain ⟨A, c, rfl, _⟩ := own_slice h2
    exact ⟨A, c, h1, h2, h3⟩

set_option maxRecDepth 100000 in
set_option maxHeartbeats 400000 in
theorem frame_c (A : Option Addr) (n cap : Nat) (l : List UInt8) (hn : n = l.length) (hm : n ≤ 140737488351232) (hc : n ≤ cap) (w : World) (hr : Rd 0 w A (bytesV l)) :
    Calls Tryz.prog 11 #[.slice A n cap] w fun e w' => ∃ v, e = .returned v ∧ w'.ownsRow w.heap.size 5 1 v (frameB l).length (bytesV (frameB l)) ∧ Below w.heap.size w w' := by
  have HR := Lib.hid (And.intro hn hr); clear hn hr
  obtain ⟨F, hF⟩ : ∃ F, frameB l = F := ⟨_, rfl⟩
  rw [hF]
  have HF := Lib.hid hF; clear hF
  obtain ⟨K, hK, hK2⟩ : ∃ K : Nat, IntKind.u32.wrap (n : Int) = (K : Int) ∧ K = n % 4294967296 := ⟨n % 4294967296, by rw [IntKind.wrap_u32']; omega, rfl⟩
  have hKlt : K < 4294967296 := by omega
  obtain ⟨N4, hN4⟩ : ∃ N4, fourB K = N4 := ⟨_, rfl⟩
  have hN4l : N4.length = 4 := by rw [← hN4]; rfl
  have HK := Lib.hid (And.intro hK2 (And.intro hKlt (And.intro hN4 hN4l))); clear hK2 hKlt hN4 hN4l
  go_enter Tryz.func11, Tryz.ntmps11
  go_wp2_with fail
  refine (four_s K HK.out.2.1 _).mono ?_
  rintro e w1 ⟨A1, c1, rfl, hown1, hb1⟩
  have H1 := Lib.hid (And.intro hown1 hb1); clear hown1 hb1
  go_wp2_with fail
  refine (sum_c A1 c1 (fourB K) 4 rfl (by omega) w1 ((Rd.of_own H1.out.1).mono (Nat.zero_le _))).mono ?_
  rintro e w2 ⟨rfl, rfl⟩
  go_wp2_with fail
  refine (four_s (crc (fourB K)) (Wal.crc_lt _) _).mono ?_
  rintro e w3 ⟨A3, c3, rfl, hown3, hb3⟩
  have H3 := Lib.hid (And.intro hown3 hb3); clear hown3 hb3
  go_wp2_with fail
  refine (sum_c A cap l n HR.out.1 (by omega) w3 (HR.out.2.below (bstep H1.out.2 H3.out.2))).mono ?_
  rintro e w4 ⟨rfl, rfl⟩
  go_wp2_with fail
  refine (four_s (crc l) (Wal.crc_lt _) _).mono ?_
  rintro e w5 ⟨A5, c5, rfl, hown5, hb5⟩
  have H5 := Lib.hid (And.intro hown5 hb5); clear hown5 hb5
  go_wp2_with fail
  have hb6 := bnew w5 (.cells #[.slice A1 4 c1, .slice A3 4 c3, .slice A5 4 c5, .slice A n cap] 22)
  have hcat := concat_c (some ⟨w5.heap.size, 0, none⟩) 4 4 [.slice A1 4 c1, .slice A3 4 c3, .slice A5 4 c5, .slice A n cap] [fourB K, fourB (crc (fourB K)), fourB (crc l), l] rfl (by omega)
    (by simp [Wal.fourB_length]; have := HR.out.1; omega) _ (rd_new4 w5 22 _ _ _ _)
    (bsl4 ((own_rd H1.out.1 rfl).below (bstep (bstep H3.out.2 H5.out.2) hb6)) ((own_rd H3.out.1 rfl).below (bstep H5.out.2 hb6)) ((own_rd H5.out.1 rfl).below hb6)
      ⟨A, cap, by rw [HR.out.1], by rw [← HR.out.1]; exact hc, HR.out.2.below (bstep (bstep (bstep H1.out.2 H3.out.2) H5.out.2) hb6)⟩)
  refine hcat.mono ?_
  rintro e w6 ⟨v, rfl, hown, hb7⟩
  have H6 := Lib.hid (And.intro hown (And.intro hb6 hb7)); clear hown hb6 hb7
  go_wp2_with fail
  go_ret
  have e1 : ([fourB K, fourB (crc (fourB K)), fourB (crc l), l] : List (List UInt8)).flatten = F := by
    rw [← HF.out, frameB, ← HR.out.1, ← HK.out.1]
    simp
  have hown := H6.out.1
  rw [e1] at hown
  have hb := bstep (bstep (bstep (bstep H1.out.2 H3.out.2) H5.out.2) H6.out.2.1) H6.out.2.2
  refine ⟨v, rfl, own_base hown ?_, hb⟩
  have := H1.out.2.size; have := H3.out.2.size; have := H5.out.2.size
  simp; omega
end Go.Proofs.YtjpcmgoajdjkgaaGreatDoor
