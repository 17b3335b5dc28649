/- rlp's 'opened': what a head tells. -/
import Derived.Test.YtildkoabfdfjlaaUint
set_option linter.all false
namespace Go.Proofs.Ytildkoabfdfjlaa
open Go.RowKit
def OpenedPost (w : World) (r : Except Int (Nat × Nat)) (e : Ending) (w' : World) : Prop :=
  match r with
  | .ok p => e = .returned (.tuple #[.int .i64 (p.1 : Int), .int .i64 (p.2 : Int)]) ∧ Below w.heap.size w w'
  | .error k => e = .panicked (flt k) ∧ Below w.heap.size w w'
set_option maxRecDepth 100000 in
set_option maxHeartbeats 400000 in
theorem opened_small (b0 : UInt8) (r : List UInt8) (base : Nat) (hb : base ≤ b0.toNat) (hs : b0.toNat - base < 56) (b o cap : Nat) (w : World)
    (h0 : w.cell? ⟨b, o, none⟩ = some (.int .u8 (b0.toNat : Int))) :
    Calls Try.prog 60 #[.slice (some ⟨b, o, none⟩) (r.length + 1) cap, .int .u8 base] w (OpenedPost w (.ok (1, b0.toNat - base))) := by
  have h1 : (b0.toNat : Int) - (base : Int) < 56 := by omega
  have h2 : (0 : Int) ≤ (b0.toNat : Int) - (base : Int) := by omega
  go_enter Try.func60, Try.ntmps60
  go_wp2_with fail
  go_ret2
  refine ⟨?_, Below.refl _ _⟩
  rw [show ((b0.toNat - base : Nat) : Int) = (b0.toNat : Int) - (base : Int) by omega]
  rfl
set_option maxRecDepth 100000 in
set_option maxHeartbeats 400000 in
theorem opened_end (b0 : UInt8) (n k : Nat) (base : Nat) (hk : b0.toNat = base + 55 + k) (hk1 : 1 ≤ k) (hn : n ≤ k) (b o cap : Nat) (w : World)
    (h0 : w.cell? ⟨b, o, none⟩ = some (.int .u8 (b0.toNat : Int))) (hn0 : 0 < n) :
    Calls Try.prog 60 #[.slice (some ⟨b, o, none⟩) n cap, .int .u8 base] w (OpenedPost w (.error 10)) := by
  have h1 : ¬ ((b0.toNat : Int) - (base : Int) < 56) := by omega
  have h2 : (0 : Int) ≤ (b0.toNat : Int) - (base : Int) := by omega
  have h3 : (b0.toNat : Int) - (base : Int) ≤ 255 := by have := b0.toNat_lt; omega
  have hd : decide ((b0.toNat : Int) - (base : Int) - 55 < (n : Int)) = false := by rw [decide_eq_false_iff_not]; omega
  have HK := Lib.hid hk; clear hk
  go_enter Try.func60, Try.ntmps60
  go_wp2_with (go_at_call 28; (with_reducible refine (ask_f _ _).mono ?_); rintro e w1 ⟨rfl, rfl⟩)
  exact ⟨rfl, rfl, Below.refl _ _⟩
set_option maxRecDepth 100000 in
set_option maxHeartbeats 400000 in
theorem opened_zero (b0 : UInt8) (n k : Nat) (base : Nat) (hk : b0.toNat = base + 55 + k) (hk1 : 1 ≤ k) (hn : k < n) (b o cap : Nat) (w : World)
    (h0 : w.cell? ⟨b, o, none⟩ = some (.int .u8 (b0.toNat : Int))) (h00 : w.cell? ⟨b, o + 1, none⟩ = some (.int .u8 0)) :
    Calls Try.prog 60 #[.slice (some ⟨b, o, none⟩) n cap, .int .u8 base] w (OpenedPost w (.error 11)) := by
  have h1 : ¬ ((b0.toNat : Int) - (base : Int) < 56) := by omega
  have h2 : (0 : Int) ≤ (b0.toNat : Int) - (base : Int) := by omega
  have h3 : (b0.toNat : Int) - (base : Int) ≤ 255 := by have := b0.toNat_lt; omega
  have hd : decide ((b0.toNat : Int) - (base : Int) - 55 < (n : Int)) = true := by rw [decide_eq_true_iff]; omega
  have h1n : 1 < n := by omega
  have HK := Lib.hid hk; clear hk
  go_enter Try.func60, Try.ntmps60
  go_wp2_with (go_at_call 28; first | ((with_reducible refine (ask_t _ _).mono ?_); rintro e w1 ⟨rfl, rfl⟩) | ((with_reducible refine (ask_f _ _).mono ?_); rintro e w1 ⟨rfl, rfl⟩))
  exact ⟨rfl, rfl, Below.refl _ _⟩
set_option maxRecDepth 100000 in
set_option maxHeartbeats 800000 in
theorem opened_read (b0 b1 : UInt8) (r : List UInt8) (n k : Nat) (base : Nat) (hk : b0.toNat = base + 55 + k) (hk1 : 1 ≤ k) (hk8 : k ≤ 8) (hn : n = r.length + 2) (hkn : k < n) (b o cap : Nat) (w : World) (hcap : n ≤ cap)
    (h0 : w.cell? ⟨b, o, none⟩ = some (.int .u8 (b0.toNat : Int))) (h00 : w.cell? ⟨b, o + 1, none⟩ = some (.int .u8 (b1.toNat : Int))) (hb1 : b1 ≠ 0) (hr : Rd 0 w (some ⟨b, o, none⟩) (bytesV (b0 :: b1 :: r)))
    (v : Nat) (hv : Hid (v = Rlp.readBE ((b1 :: r).take k))) (res : Except Int (Nat × Nat)) (hres : Hid (res = if v < 56 then .error 11 else .ok (1 + k, if 65536 < v then 65537 else v))) :
    Calls Try.prog 60 #[.slice (some ⟨b, o, none⟩) n cap, .int .u8 base] w (OpenedPost w res) := by
  obtain ⟨i0, hi0, hz0, hz1, hz2⟩ := info_parts u8_info
  have h1 : ¬ ((b0.toNat : Int) - (base : Int) < 56) := by omega
  have h2 : (0 : Int) ≤ (b0.toNat : Int) - (base : Int) := by omega
  have h3 : (b0.toNat : Int) - (base : Int) ≤ 255 := by have := b0.toNat_lt; omega
  have hd : decide ((b0.toNat : Int) - (base : Int) - 55 < (n : Int)) = true := by rw [decide_eq_true_iff]; omega
  have hnz : ((b1.toNat : Int) != 0) = true := by
    rw [bne_iff_ne]; intro h; apply hb1; exact UInt8.toNat_inj.1 (by simpa using h)
  have h1n : 1 < n := by omega
  have hrd : Rd 0 w (fromAddr 1 (some ⟨b, o, none⟩) cap 1) (bytesV ((b1 :: r).take k)) := by
    have := (hr.from 1 cap 1 (by rw [bytesV_length]; simp only [List.length_cons]; omega)).take k
    simpa [bytesV, List.map_take] using this
  have hlen : ((b1 :: r).take k).length = k := by rw [List.length_take]; simp only [List.length_cons]; omega
  have hv' := hv.out
  obtain ⟨y, hy⟩ : ∃ y, y = (b1 :: r).take k := ⟨_, rfl⟩
  rw [← hy] at hrd hlen hv'
  have hsl : ∀ w : World, (Instr.slice 31 (.slice (some ⟨b, o, none⟩) n cap) (some (.int .i64 1)) (some (.int .i64 (1 + ((b0.toNat : Int) - (base : Int) - 55)))) none).run Try.prog w = .ok (.slice (fromAddr 1 (some ⟨b, o, none⟩) cap 1) y.length (cap - 1)) w := fun w => by
    have := run_slice_range w 31 5 i0 1 Try.underlying31 hi0 hz1 (some ⟨b, o, none⟩) n cap .i64 .i64 1 (1 + ((b0.toNat : Int) - (base : Int) - 55)) 1 (1 + k) (by omega) (by omega) (by omega) (by omega)
    rw [hlen]
    rwa [show 1 + k - 1 = k by omega] at this
  have HX := Lib.hid (And.intro hk (And.intro hn (And.intro hr (And.intro hrd (And.intro hlen hv'))))); clear hk hn hr hrd hlen hi0 hz0 hz1 hz2 hy hv hv'
  have hvy := HX.out.2.2.2.2.2
  rcases (show v < 56 ∨ (56 ≤ v ∧ 65536 < v) ∨ (56 ≤ v ∧ v ≤ 65536) by omega) with hc | ⟨hc, hc2⟩ | ⟨hc, hc2⟩
  · have q1 : decide ((56 : Int) ≤ ((Rlp.readBE y : Nat) : Int)) = false := by rw [← hvy, decide_eq_false_iff_not]; omega
    have HR := hres.out
    rw [if_pos hc] at HR
    have HRR := Lib.hid HR; clear HR hc hvy
    go_enter Try.func60, Try.ntmps60
    go_wp2_with (first
      | (go_at_call 28; first | ((with_reducible refine (ask_t _ _).mono ?_); rintro e w1 ⟨rfl, rfl⟩) | ((with_reducible refine (ask_f _ _).mono ?_); rintro e w1 ⟨rfl, rfl⟩))
      | (go_at_call 47; (with_reducible refine (read8_c _ _ _ (by rw [HX.out.2.2.2.2.1]; exact hk8) _ HX.out.2.2.2.1).mono ?_); rintro e w2 ⟨rfl, hB2⟩)
      | (go_at_call 63; (with_reducible refine (uint_c _ _).mono ?_); rintro e w3 ⟨rfl, hB3⟩))
    rw [HRR.out]
    exact ⟨rfl, rfl, bstep ((hB2.alloc hB2.size _)) hB3⟩
  · have q1 : decide ((56 : Int) ≤ ((Rlp.readBE y : Nat) : Int)) = true := by rw [← hvy, decide_eq_true_iff]; omega
    have q2 : decide ((65536 : Int) < ((Rlp.readBE y : Nat) : Int)) = true := by rw [← hvy, decide_eq_true_iff]; omega
    have HR := hres.out
    rw [if_neg (by omega), if_pos hc2] at HR
    have HRR := Lib.hid HR; clear HR hc hc2 hvy
    go_enter Try.func60, Try.ntmps60
    go_wp2_with (first
      | (go_at_call 28; first | ((with_reducible refine (ask_t _ _).mono ?_); rintro e w1 ⟨rfl, rfl⟩) | ((with_reducible refine (ask_f _ _).mono ?_); rintro e w1 ⟨rfl, rfl⟩))
      | (go_at_call 47; (with_reducible refine (read8_c _ _ _ (by rw [HX.out.2.2.2.2.1]; exact hk8) _ HX.out.2.2.2.1).mono ?_); rintro e w2 ⟨rfl, hB2⟩)
      | (go_at_call 63; (with_reducible refine (uint_c _ _).mono ?_); rintro e w3 ⟨rfl, hB3⟩))
    go_ret2
    rw [HRR.out]
    refine ⟨?_, bstep ((hB2.alloc hB2.size _)) hB3⟩
    have := HX.out.1
    rw [show ((1 + k : Nat) : Int) = 1 + ((b0.toNat : Int) - (base : Int) - 55) by omega]
    rfl
  · have q1 : decide ((56 : Int) ≤ ((Rlp.readBE y : Nat) : Int)) = true := by rw [← hvy, decide_eq_true_iff]; omega
    have q2 : decide ((65536 : Int) < ((Rlp.readBE y : Nat) : Int)) = false := by rw [← hvy, decide_eq_false_iff_not]; omega
    have HR := hres.out
    rw [if_neg (by omega), if_neg (by omega)] at HR
    have HRR := Lib.hid HR
    have hvv := Lib.hid hvy
    have hby : ((Rlp.readBE y : Nat) : Int) ≤ 65536 := by omega
    clear HR hc hc2 hvy
    go_enter Try.func60, Try.ntmps60
    go_wp2_with (first
      | (go_at_call 28; first | ((with_reducible refine (ask_t _ _).mono ?_); rintro e w1 ⟨rfl, rfl⟩) | ((with_reducible refine (ask_f _ _).mono ?_); rintro e w1 ⟨rfl, rfl⟩))
      | (go_at_call 47; (with_reducible refine (read8_c _ _ _ (by rw [HX.out.2.2.2.2.1]; exact hk8) _ HX.out.2.2.2.1).mono ?_); rintro e w2 ⟨rfl, hB2⟩)
      | (go_at_call 63; (with_reducible refine (uint_c _ _).mono ?_); rintro e w3 ⟨rfl, hB3⟩))
    go_ret2
    rw [HRR.out]
    refine ⟨?_, bstep ((hB2.alloc hB2.size _)) hB3⟩
    have := HX.out.1
    rw [show ((1 + k : Nat) : Int) = 1 + ((b0.toNat : Int) - (base : Int) - 55) by omega, hvv.out]
    rfl

/-- 'opened' does what Rlp.opened tells -/
theorem opened_c (b0 : UInt8) (r : List UInt8) (base : Nat) (hb : base ≤ b0.toNat) (hb2 : b0.toNat < base + 64) (A : Option Addr) (cap : Nat) (w : World) (hc : r.length + 1 ≤ cap) (hr : Rd 0 w A (bytesV (b0 :: r))) :
    Calls Try.prog 60 #[.slice A (r.length + 1) cap, .int .u8 base] w (OpenedPost w (Rlp.opened b0 r base)) := by
  obtain ⟨b, o, rfl, hk⟩ := hr.addr (by simp [bytesV])
  have h0 := hk 0 (by simp [bytesV])
  rw [bytesV_get _ _ (by simp)] at h0
  simp only [List.getElem_cons_zero, Nat.add_zero] at h0
  by_cases hs : b0.toNat - base < 56
  · have : Rlp.opened b0 r base = .ok (1, b0.toNat - base) := by unfold Rlp.opened; rw [if_pos hs]
    rw [this]
    exact opened_small b0 r base hb hs b o cap w h0
  · obtain ⟨k, hkk⟩ : ∃ k, b0.toNat = base + 55 + k := ⟨b0.toNat - base - 55, by omega⟩
    have hk1 : 1 ≤ k := by omega
    have hk8 : k ≤ 8 := by omega
    have ek : b0.toNat - base - 55 = k := by omega
    by_cases he : r.length + 1 ≤ k
    · have : Rlp.opened b0 r base = .error 10 := by unfold Rlp.opened; rw [if_neg hs, ek, if_pos he]; rfl
      rw [this]
      exact opened_end b0 (r.length + 1) k base hkk hk1 he b o cap w h0 (by omega)
    · match r, hr, hc, hk, he with
      | [], _, _, _, he => simp at he; omega
      | b1 :: r, hr, hc, hk, he =>
        have h00 := hk 1 (by simp [bytesV])
        rw [bytesV_get _ _ (by simp)] at h00
        simp only [List.getElem_cons_succ, List.getElem_cons_zero] at h00
        by_cases hz : b1 = 0
        · subst hz
          have : Rlp.opened b0 (0 :: r) base = .error 11 := by unfold Rlp.opened; rw [if_neg hs, ek, if_neg he, if_pos (show ((0 :: r : List UInt8).headD 0) = 0 from rfl)]; rfl
          rw [this]
          exact opened_zero b0 _ k base hkk hk1 (by omega) b o cap w h0 h00
        · refine opened_read b0 b1 r _ k base hkk hk1 hk8 (by simp) (by omega) b o cap w hc h0 h00 hz hr (Rlp.readBE ((b1 :: r).take k)) rfl _ ?_
          unfold Rlp.opened
          rw [if_neg hs, ek, if_neg he, if_neg (show ¬ ((b1 :: r).headD 0) = 0 from hz)]
          rfl
end Go.Proofs.Ytildkoabfdfjlaa
