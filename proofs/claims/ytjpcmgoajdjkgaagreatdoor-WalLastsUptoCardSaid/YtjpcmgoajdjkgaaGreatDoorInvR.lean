/- One byte that is another one in a log that is synced is told (plain). -/
import Derived.Test.YtjpcmgoajdjkgaaGreatDoorInvB
set_option linter.all false
namespace Go.Proofs.YtjpcmgoajdjkgaaGreatDoor
open Go.RowKit
open Wal (frameB fourB numB nextB crc fileB crcFrom byteStep bitStep)

theorem xor_cancel {a b c : Nat} (h : a ^^^ b = a ^^^ c) : b = c := by
  have := congrArg (fun x => a ^^^ x) h
  simpa [← Nat.xor_assoc, Nat.xor_self] using this
theorem bitStep_inj {c d : Nat} (hc : c < 4294967296) (hd : d < 4294967296) (h : bitStep c = bitStep d) : c = d := by
  have hx : ∀ c, c < 4294967296 → 2147483648 ≤ (c / 2) ^^^ 3988292384 := fun c hc => by
    have h1 : c / 2 < 2 ^ 31 := by omega
    have e : (c / 2) ^^^ 3988292384 = ((c / 2) ^^^ 1840808736) + 2 ^ 31 := by
      have h2 : (1840808736 : Nat) < 2 ^ 31 := by decide
      have h3 := Nat.xor_lt_two_pow h1 h2
      have e1 : (3988292384 : Nat) = 2 ^ 31 * 1 + 1840808736 := by decide
      have e2 : (3988292384 : Nat) = 2 ^ 31 * 1 ||| 1840808736 := by decide
      have e3 : (2 ^ 31 * 1 ||| 1840808736 : Nat) = 2 ^ 31 ^^^ 1840808736 := by decide
      rw [e2, e3, ← Nat.xor_assoc, Nat.xor_comm (c / 2), Nat.xor_assoc]
      have e4 : (2 ^ 31 ^^^ ((c / 2) ^^^ 1840808736)) = 2 ^ 31 * 1 + ((c / 2) ^^^ 1840808736) := by
        rw [Nat.two_pow_add_eq_or_of_lt h3 1, Nat.mul_one]
        apply Nat.eq_of_testBit_eq
        intro i
        rw [Nat.testBit_xor, Nat.testBit_or]
        by_cases hi : i = 31
        · subst hi
          rw [Nat.testBit_lt_two_pow h3]
          simp
        · have : (2 ^ 31 : Nat).testBit i = false := by rw [Nat.testBit_two_pow]; simp; omega
          rw [this]; simp
      rw [e4]; omega
    rw [e]; omega
  unfold bitStep at h
  by_cases h1 : c % 2 = 1
  · rw [if_pos h1] at h
    by_cases h2 : d % 2 = 1
    · rw [if_pos h2] at h
      have := xor_cancel (a := 3988292384) (b := c / 2) (c := d / 2) (by rw [Nat.xor_comm 3988292384 (c / 2), Nat.xor_comm 3988292384 (d / 2)]; exact h)
      omega
    · rw [if_neg h2] at h
      have := hx c hc
      omega
  · rw [if_neg h1] at h
    by_cases h2 : d % 2 = 1
    · rw [if_pos h2] at h
      have := hx d hd
      omega
    · rw [if_neg h2] at h
      omega
theorem bits_inj {c d : Nat} (hc : c < 4294967296) (hd : d < 4294967296) : ∀ k, Wal.bits c k = Wal.bits d k → c = d
  | 0, h => h
  | k + 1, h => bits_inj hc hd k (bitStep_inj (Wal.bits_lt hc k) (Wal.bits_lt hd k) h)
theorem byteStep_inj {c d : Nat} (hc : c < 4294967296) (hd : d < 4294967296) (x : UInt8) (h : byteStep c x = byteStep d x) : c = d := by
  have := bits_inj (Wal.xor_byte_lt hc x) (Wal.xor_byte_lt hd x) 8 h
  exact xor_cancel (a := x.toNat) (by rw [Nat.xor_comm x.toNat, Nat.xor_comm x.toNat]; exact this)
theorem byteStep_byte {c : Nat} (hc : c < 4294967296) {x y : UInt8} (h : byteStep c x = byteStep c y) : x = y := by
  have := bits_inj (Wal.xor_byte_lt hc x) (Wal.xor_byte_lt hc y) 8 h
  exact UInt8.toNat_inj.1 (xor_cancel (a := c) this)
theorem crcFrom_inj : ∀ (l : List UInt8) {c d : Nat}, c < 4294967296 → d < 4294967296 → crcFrom c l = crcFrom d l → c = d
  | [], _, _, _, _, h => h
  | x :: r, _, _, hc, hd, h => byteStep_inj hc hd x (crcFrom_inj r (Wal.byteStep_lt hc x) (Wal.byteStep_lt hd x) h)
theorem crc_ne (a c : List UInt8) {x y : UInt8} (h : x ≠ y) : crc (a ++ x :: c) ≠ crc (a ++ y :: c) := by
  intro e
  have hl : ∀ l, crcFrom 4294967295 l < 4294967296 := fun l => Wal.crcFrom_lt l (by omega)
  have e2 : crcFrom 4294967295 (a ++ x :: c) = crcFrom 4294967295 (a ++ y :: c) := by
    unfold crc at e
    have := hl (a ++ x :: c)
    have := hl (a ++ y :: c)
    omega
  have ha : ∀ z, crcFrom 4294967295 (a ++ z :: c) = crcFrom (byteStep (crcFrom 4294967295 a) z) c := fun z => by
    simp only [crcFrom, List.foldl_append, List.foldl_cons]
  rw [ha, ha] at e2
  exact h (byteStep_byte (hl a) (crcFrom_inj c (Wal.byteStep_lt (hl a) x) (Wal.byteStep_lt (hl a) y) e2))
theorem four_inj {a b : Nat} (ha : a < 4294967296) (hb : b < 4294967296) (h : fourB a = fourB b) : a = b := by
  have := congrArg numB h
  rwa [Wal.numB_four a ha, Wal.numB_four b hb] at this

/-- a list is one behind the other around one of its places -/
theorem split_at {α : Type} (l : List α) (i : Nat) (h : i < l.length) : l = l.take i ++ l[i] :: l.drop (i + 1) := by
  rw [← List.drop_eq_getElem_cons h, List.take_append_drop]
theorem set_split {α : Type} (l : List α) (i : Nat) (h : i < l.length) (y : α) : l.set i y = l.take i ++ y :: l.drop (i + 1) := by
  rw [List.set_eq_take_append_cons_drop, if_pos h]
theorem crc_set {l : List UInt8} {i : Nat} (h : i < l.length) {y : UInt8} (hy : y ≠ l[i]) : crc (l.set i y) ≠ crc l := by
  have e := split_at l i h
  rw [set_split l i h y]
  conv => rhs; rw [e]
  exact crc_ne _ _ hy
theorem set_ne {α : Type} {l : List α} {i : Nat} (h : i < l.length) {y : α} (hy : y ≠ l[i]) : l.set i y ≠ l := by
  intro e
  have : (l.set i y)[i]'(by simpa using h) = l[i] := by congr 1
  rw [List.getElem_set_self] at this
  exact hy this

theorem nextB_rot (b r : List UInt8) (hb : b.length ≤ 65536) (i : Nat) (hi : i < 12 + b.length) (y : UInt8) (hy : ∀ h : i < (frameB b).length, y ≠ (frameB b)[i]) :
    nextB ((frameB b).set i y ++ r) = (none, 0, 34) := by
  have hm : b.length % 4294967296 = b.length := by omega
  have hF : (frameB b).length = 12 + b.length := Wal.frameB_length b
  have hlen : ((frameB b).set i y ++ r).length = 12 + b.length + r.length := by rw [List.length_append, List.length_set, hF]
  have hy := hy (by omega)
  obtain ⟨A, hA⟩ : ∃ A, A = fourB b.length := ⟨_, rfl⟩
  obtain ⟨B, hB⟩ : ∃ B, B = fourB (crc (fourB b.length)) := ⟨_, rfl⟩
  obtain ⟨C, hC⟩ : ∃ C, C = fourB (crc b) := ⟨_, rfl⟩
  have hfr : frameB b = A ++ (B ++ (C ++ b)) := by unfold frameB; rw [hm, ← hA, hB, hC, hA]; simp [List.append_assoc]
  have lA : A.length = 4 := by rw [hA]; rfl
  have lB : B.length = 4 := by rw [hB]; rfl
  have lC : C.length = 4 := by rw [hC]; rfl
  unfold nextB
  rw [hlen, if_neg (by omega)]
  rcases Nat.lt_or_ge i 4 with h4 | h4
  · have e : (frameB b).set i y ++ r = A.set i y ++ (B ++ (C ++ (b ++ r))) := by
      rw [hfr, List.set_append_left _ _ (by omega)]; simp [List.append_assoc]
    have hyA : y ≠ A[i]'(by omega) := by
      intro e2
      refine hy (e2.trans ?_)
      simp only [hfr]
      rw [List.getElem_append_left (by omega)]
    rw [e, tke (n := 4) (A := A.set i y) (by rw [List.length_set, lA]), drp (n := 4) (A := A.set i y) (by rw [List.length_set, lA]), tke (n := 4) (A := B) lB]
    refine if_pos (.inl ?_)
    rw [hB]
    intro e2
    have e3 := four_inj (Wal.crc_lt _) (Wal.crc_lt _) e2
    rw [← hA] at e3
    exact crc_set (by omega) hyA e3
  rcases Nat.lt_or_ge i 8 with h8 | h8
  · have e : (frameB b).set i y ++ r = A ++ (B.set (i - 4) y ++ (C ++ (b ++ r))) := by
      rw [hfr, List.set_append_right _ _ (by omega), lA, List.set_append_left _ _ (by omega)]; simp [List.append_assoc]
    have hyB : y ≠ B[i - 4]'(by omega) := by
      intro e2
      refine hy (e2.trans ?_)
      simp only [hfr]
      rw [List.getElem_append_right (by omega), List.getElem_append_left (by omega)]
      try simp only [lA]
    rw [e, tke (n := 4) (A := A) lA, drp (n := 4) (A := A) lA, tke (n := 4) (A := B.set (i - 4) y) (by rw [List.length_set, lB])]
    refine if_pos (.inl ?_)
    rw [hA, ← hB]
    exact fun e2 => set_ne (by omega) hyB e2.symm
  have hNum : numB A = b.length := by rw [hA]; exact Wal.numB_four _ (by omega)
  rcases Nat.lt_or_ge i 12 with h12 | h12
  · have e : (frameB b).set i y ++ r = A ++ (B ++ (C.set (i - 8) y ++ (b ++ r))) := by
      rw [hfr, List.set_append_right _ _ (by omega), lA, List.set_append_right _ _ (by omega), lB, List.set_append_left _ _ (by omega)]; simp [List.append_assoc, Nat.sub_sub]
    have hyC : y ≠ C[i - 8]'(by omega) := by
      intro e2
      refine hy (e2.trans ?_)
      simp only [hfr]
      rw [List.getElem_append_right (by omega), List.getElem_append_right (by omega), List.getElem_append_left (by omega)]
      try simp only [lA, lB, Nat.sub_sub]
    have e8 : (A ++ (B ++ (C.set (i - 8) y ++ (b ++ r)))).drop 8 = C.set (i - 8) y ++ (b ++ r) := by
      rw [← List.append_assoc]; exact drp (by rw [List.length_append]; omega)
    have e12 : (A ++ (B ++ (C.set (i - 8) y ++ (b ++ r)))).drop 12 = b ++ r := by
      rw [← List.append_assoc, ← List.append_assoc]; exact drp (by rw [List.length_append, List.length_append, List.length_set]; omega)
    rw [e, tke (n := 4) (A := A) lA, drp (n := 4) (A := A) lA, tke (n := 4) (A := B) lB, e8, e12, hNum, tke (n := b.length) (A := b) rfl, tke (n := 4) (A := C.set (i - 8) y) (by rw [List.length_set, lC])]
    rw [if_neg (by rw [hA, hB]; simp; omega), if_neg (by omega), if_pos ?_]
    rw [← hC]
    exact fun e2 => set_ne (by omega) hyC e2.symm
  · have e : (frameB b).set i y ++ r = A ++ (B ++ (C ++ (b.set (i - 12) y ++ r))) := by
      rw [hfr, List.set_append_right _ _ (by omega), lA, List.set_append_right _ _ (by omega), lB, List.set_append_right _ _ (by omega), lC]; simp [List.append_assoc, Nat.sub_sub]
    have hyb : y ≠ b[i - 12]'(by omega) := by
      intro e2
      refine hy (e2.trans ?_)
      simp only [hfr]
      rw [List.getElem_append_right (by omega), List.getElem_append_right (by omega), List.getElem_append_right (by omega)]
      try simp only [lA, lB, lC, Nat.sub_sub]
    have e8 : (A ++ (B ++ (C ++ (b.set (i - 12) y ++ r)))).drop 8 = C ++ (b.set (i - 12) y ++ r) := by
      rw [← List.append_assoc]; exact drp (by rw [List.length_append]; omega)
    have e12 : (A ++ (B ++ (C ++ (b.set (i - 12) y ++ r)))).drop 12 = b.set (i - 12) y ++ r := by
      rw [← List.append_assoc, ← List.append_assoc]; exact drp (by rw [List.length_append, List.length_append]; omega)
    rw [e, tke (n := 4) (A := A) lA, drp (n := 4) (A := A) lA, tke (n := 4) (A := B) lB, e8, e12, hNum, tke (n := b.length) (A := b.set (i - 12) y) (by rw [List.length_set]), tke (n := 4) (A := C) lC]
    rw [if_neg (by rw [hA, hB]; simp; omega), if_neg (by omega), if_pos ?_]
    rw [hC]
    exact fun e2 => crc_set (by omega) hyb (four_inj (Wal.crc_lt _) (Wal.crc_lt _) e2)
end Go.Proofs.YtjpcmgoajdjkgaaGreatDoor
