/- The number of a word, its bytes and its length. -/
import Derived.Test.YtildkoabfdfjlaaRlp
import Derived.Test.YtildkoabfdfjlaaWord
set_option linter.all false
namespace Go.Proofs.Ytildkoabfdfjlaa
open Go.RowKit
theorem bitLenAux_lt : ∀ f n, n < 2 ^ f → n < 2 ^ Lib.bitLenAux f n ∧ (n ≠ 0 → 2 ^ (Lib.bitLenAux f n - 1) ≤ n ∧ 0 < Lib.bitLenAux f n) := by
  intro f
  induction f with
  | zero => intro n h; simp at h; subst h; simp [Lib.bitLenAux]
  | succ f ih =>
    intro n h
    simp only [Lib.bitLenAux]
    by_cases h0 : n = 0
    · subst h0; simp
    · rw [if_neg h0]
      obtain ⟨h1, h2⟩ := ih (n / 2) (by rw [Nat.pow_succ] at h; omega)
      refine ⟨by rw [Nat.add_comm, Nat.pow_succ]; omega, fun _ => ⟨?_, by omega⟩⟩
      rw [Nat.add_sub_cancel_left]
      by_cases hh : n / 2 = 0
      · have : n = 1 := by omega
        subst this
        have : Lib.bitLenAux f 0 = 0 := by cases f <;> simp [Lib.bitLenAux]
        simp [this]
      · obtain ⟨h3, h4⟩ := h2 hh
        have : Lib.bitLenAux f (n / 2) = (Lib.bitLenAux f (n / 2) - 1) + 1 := by omega
        rw [this, Nat.pow_succ]; omega
theorem bitLen_lt (n : Nat) (h : n < 18446744073709551616) : n < 2 ^ Lib.bitLen n ∧ (n ≠ 0 → 2 ^ (Lib.bitLen n - 1) ≤ n ∧ 0 < Lib.bitLen n) := bitLenAux_lt 64 n h

/-- the number of a word of four limbs -/
def wnum (a b c d : Int) : Nat := a.toNat + 18446744073709551616 * b.toNat + 18446744073709551616 ^ 2 * c.toNat + 18446744073709551616 ^ 3 * d.toNat
def wtop (a b c d : Int) : Nat → Nat
  | 0 => 0
  | k + 1 => wtop a b c d k + 18446744073709551616 ^ k * (limb a b c d k).toNat
theorem wtop4 (a b c d : Int) : wtop a b c d 4 = wnum a b c d := by simp [wtop, wnum, limb]

theorem wtop_lt (a b c d : Int) (hle : ∀ k, limb a b c d k ≤ 18446744073709551615) (k : Nat) : wtop a b c d k < 18446744073709551616 ^ k := by
  induction k with
  | zero => simp [wtop]
  | succ k ih =>
    have h := hle k
    have h2 : (limb a b c d k).toNat ≤ 18446744073709551615 := by omega
    have h3 := Nat.mul_le_mul_left (18446744073709551616 ^ k) h2
    simp only [wtop, Nat.pow_succ]
    omega

theorem width_spec (a b c d : Int) (hle : ∀ k, limb a b c d k ≤ 18446744073709551615) (h0 : ∀ k, 0 ≤ limb a b c d k) (k : Nat) :
    wtop a b c d k < 2 ^ (widthTo a b c d k).toNat ∧ (wtop a b c d k ≠ 0 → 2 ^ ((widthTo a b c d k).toNat - 1) ≤ wtop a b c d k ∧ 0 < (widthTo a b c d k).toNat) := by
  induction k with
  | zero => simp [wtop, widthTo]
  | succ k ih =>
    unfold widthTo
    by_cases hz : limb a b c d k = 0
    · rw [if_pos hz]; simp only [wtop, hz]; simpa using ih
    · rw [if_neg hz]
      have hl := hle k
      have hn := h0 k
      have hlt := wtop_lt a b c d hle k
      obtain ⟨h1, h2⟩ := bitLen_lt (limb a b c d k).toNat (by omega)
      obtain ⟨h2, h3⟩ := h2 (by omega)
      have e : (64 * (k : Int) + (Lib.bitLen (limb a b c d k).toNat : Int)).toNat = 64 * k + Lib.bitLen (limb a b c d k).toNat := by omega
      rw [e]
      have hp : (18446744073709551616 : Nat) ^ k = 2 ^ (64 * k) := by rw [Nat.pow_mul]
      simp only [wtop]
      rw [hp] at hlt ⊢
      refine ⟨?_, fun _ => ⟨?_, by omega⟩⟩
      · rw [Nat.pow_add]
        have := Nat.mul_le_mul_left (2 ^ (64 * k)) (show (limb a b c d k).toNat + 1 ≤ 2 ^ Lib.bitLen (limb a b c d k).toNat by omega)
        rw [Nat.mul_add] at this
        omega
      · rw [show 64 * k + Lib.bitLen (limb a b c d k).toNat - 1 = 64 * k + (Lib.bitLen (limb a b c d k).toNat - 1) by omega, Nat.pow_add]
        have := Nat.mul_le_mul_left (2 ^ (64 * k)) h2
        omega

theorem lenOf_short (a b c d : Int) (hle : ∀ k, limb a b c d k ≤ 18446744073709551615) (h0 : ∀ k, 0 ≤ limb a b c d k) : lenOf a b c d = ((Rlp.short (wnum a b c d)).length : Int) := by
  obtain ⟨h1, h2⟩ := width_spec a b c d hle h0 4
  rw [wtop4] at h1 h2
  have hb := widthTo_bd a b c d 4
  unfold lenOf
  obtain ⟨W, hW⟩ : ∃ W : Nat, widthTo a b c d 4 = W := ⟨(widthTo a b c d 4).toNat, by omega⟩
  rw [hW] at h1 h2 ⊢
  rw [Int.toNat_natCast] at h1 h2
  have key : (Rlp.short (wnum a b c d)).length = (W + 7) / 8 := by
    apply Nat.le_antisymm
    · apply Rlp.short_length_le
      rw [show (256 : Nat) = 2 ^ 8 by rfl, ← Nat.pow_mul]
      exact Nat.lt_of_lt_of_le h1 (Nat.pow_le_pow_right (by decide) (by omega))
    · by_cases hz : wnum a b c d = 0
      · have : W = 0 := by
          rcases Nat.eq_zero_or_pos W with h | h
          · exact h
          · exfalso
            have hw := hW
            -- a width above 0 comes of a limb that is not 0
            have hall : ∀ k, k < 4 → limb a b c d k = 0 := by
              intro k hk
              have hs := hz
              unfold wnum at hs
              have e0 := h0 0; have e1 := h0 1; have e2 := h0 2; have e3 := h0 3
              simp only [limb] at e0 e1 e2 e3
              have k4 : k = 0 ∨ k = 1 ∨ k = 2 ∨ k = 3 := by omega
              rcases k4 with rfl | rfl | rfl | rfl <;> simp only [limb] <;> omega
            simp only [widthTo, hall 0 (by omega), hall 1 (by omega), hall 2 (by omega), hall 3 (by omega), if_true] at hw
            omega
        subst this; simp
      · obtain ⟨h3, h4⟩ := h2 hz
        have := Rlp.short_length_ge (n := wnum a b c d) (k := (W + 7) / 8 - 1) (by
          rw [show (256 : Nat) = 2 ^ 8 by rfl, ← Nat.pow_mul]
          exact Nat.le_trans (Nat.pow_le_pow_right (by decide) (by omega)) h3)
        omega
  rw [key]; omega

theorem byte_of_limb (y : Nat) (r : Nat) (hr : r < 8) : (y % 18446744073709551616) / 2 ^ (8 * r) % 256 = y / 256 ^ r % 256 := by
  have h : r = 0 ∨ r = 1 ∨ r = 2 ∨ r = 3 ∨ r = 4 ∨ r = 5 ∨ r = 6 ∨ r = 7 := by omega
  rcases h with rfl | rfl | rfl | rfl | rfl | rfl | rfl | rfl <;> simp <;> omega

theorem limb_of_num (a b c d : Int) (hle : ∀ k, limb a b c d k ≤ 18446744073709551615) (h0 : ∀ k, 0 ≤ limb a b c d k) (q : Nat) (hq : q < 4) :
    (limb a b c d q).toNat = wnum a b c d / 18446744073709551616 ^ q % 18446744073709551616 := by
  have e0 := h0 0; have e1 := h0 1; have e2 := h0 2; have e3 := h0 3
  have f0 := hle 0; have f1 := hle 1; have f2 := hle 2; have f3 := hle 3
  simp only [limb] at e0 e1 e2 e3 f0 f1 f2 f3
  have k4 : q = 0 ∨ q = 1 ∨ q = 2 ∨ q = 3 := by omega
  rcases k4 with rfl | rfl | rfl | rfl <;> simp only [limb, wnum] <;> omega

theorem wbyte_num (a b c d : Int) (hle : ∀ k, limb a b c d k ≤ 18446744073709551615) (h0 : ∀ k, 0 ≤ limb a b c d k) (m : Nat) (hm : m < 32) :
    wbyte a b c d m = ((wnum a b c d / 256 ^ m % 256 : Nat) : Int) := by
  have hl := limb_of_num a b c d hle h0 (m / 8) (by omega)
  have hb := byte_of_limb (wnum a b c d / 18446744073709551616 ^ (m / 8)) (m % 8) (by omega)
  rw [← hl] at hb
  unfold wbyte
  have e : wnum a b c d / 256 ^ m = wnum a b c d / 18446744073709551616 ^ (m / 8) / 256 ^ (m % 8) := by
    rw [Nat.div_div_eq_div_mul, show (18446744073709551616 : Nat) = 256 ^ 8 by rfl, ← Nat.pow_mul, ← Nat.pow_add]
    congr 2; omega
  rw [e, ← hb]
  have h00 := h0 (m / 8)
  conv => lhs; rw [← Int.toNat_of_nonneg h00]
  rw [Int.natCast_emod, Int.natCast_ediv, Int.natCast_pow]
  rfl

theorem short_get (n : Nat) : ∀ k, k < (Rlp.short n).length → ((Rlp.short n)[(Rlp.short n).length - 1 - k]?) = some (UInt8.ofNat (n / 256 ^ k % 256)) := by
  induction n using Nat.strongRecOn with
  | _ n ih =>
    intro k hk
    by_cases h0 : n = 0
    · subst h0; rw [Rlp.short_zero] at hk; simp at hk
    · rw [Rlp.short_pos h0] at hk ⊢
      rw [List.length_append, List.length_singleton] at hk ⊢
      by_cases hk0 : k = 0
      · subst hk0
        rw [List.getElem?_append_right (by omega)]
        simp
      · rw [List.getElem?_append_left (by omega)]
        have := ih (n / 256) (by omega) (k - 1) (by omega)
        rw [show (Rlp.short (n / 256)).length + 1 - 1 - k = (Rlp.short (n / 256)).length - 1 - (k - 1) by omega, this, Nat.div_div_eq_div_mul, ← Nat.pow_succ']
        congr 5; omega
end Go.Proofs.Ytildkoabfdfjlaa
