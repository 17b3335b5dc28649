/- The plain law of the log's frames: the check sum as numbers, four bytes of a number, a frame, and which record bytes begin with. -/
import Derived.WalkKit
import Derived.Lib.ItoaNum
set_option linter.all false
namespace Go.Proofs.YtnljhabpcoiihaaGreatDoor.Wal

/-- one bit of the check sum -/
def bitStep (c : Nat) : Nat := if c % 2 = 1 then (c / 2) ^^^ 3988292384 else c / 2
def bits (c : Nat) : Nat → Nat
  | 0 => c
  | k + 1 => bitStep (bits c k)
def byteStep (c : Nat) (x : UInt8) : Nat := bits (c ^^^ x.toNat) 8
def crcFrom (c : Nat) (l : List UInt8) : Nat := l.foldl byteStep c
def crc (l : List UInt8) : Nat := 4294967295 - crcFrom 4294967295 l

theorem crcFrom_nil (c : Nat) : crcFrom c [] = c := rfl
theorem bits_zero (c : Nat) : bits c 0 = c := rfl
theorem bitStep_lt {c : Nat} (h : c < 4294967296) : bitStep c < 4294967296 := by
  unfold bitStep
  split
  · exact Nat.xor_lt_two_pow (n := 32) (by omega) (by omega)
  · omega
theorem bits_lt {c : Nat} (h : c < 4294967296) : ∀ k, bits c k < 4294967296
  | 0 => h
  | k + 1 => bitStep_lt (bits_lt h k)
theorem xor_byte_lt {c : Nat} (h : c < 4294967296) (x : UInt8) : c ^^^ x.toNat < 4294967296 :=
  Nat.xor_lt_two_pow (n := 32) (by omega) (by have := x.toNat_lt; omega)
theorem byteStep_lt {c : Nat} (h : c < 4294967296) (x : UInt8) : byteStep c x < 4294967296 := bits_lt (xor_byte_lt h x) 8
theorem crcFrom_lt : ∀ (l : List UInt8) {c : Nat}, c < 4294967296 → crcFrom c l < 4294967296
  | [], _, h => h
  | x :: r, _, h => crcFrom_lt r (byteStep_lt h x)
theorem crc_lt (l : List UInt8) : crc l < 4294967296 := by
  unfold crc; omega
theorem crcFrom_take_succ (c : Nat) (l : List UInt8) (k : Nat) (h : k < l.length) : crcFrom c (l.take (k + 1)) = byteStep (crcFrom c (l.take k)) l[k] := by
  rw [List.take_succ_eq_append_getElem h, crcFrom, List.foldl_append]
  rfl

/-- a number as four bytes -/
def fourB (n : Nat) : List UInt8 := [UInt8.ofNat (n / 16777216), UInt8.ofNat (n / 65536), UInt8.ofNat (n / 256), UInt8.ofNat n]
theorem fourB_length (n : Nat) : (fourB n).length = 4 := rfl
/-- .. and back -/
def numB (l : List UInt8) : Nat := l.foldl (fun n x => n * 256 + x.toNat) 0
theorem numB_four (n : Nat) (h : n < 4294967296) : numB (fourB n) = n := by
  simp only [numB, fourB, List.foldl, UInt8.toNat_ofNat']
  omega
theorem numB_append_one (l : List UInt8) (x : UInt8) : numB (l ++ [x]) = numB l * 256 + x.toNat := by simp [numB]
theorem fold_lt : ∀ (l : List UInt8) (n : Nat), l.foldl (fun n x => n * 256 + x.toNat) n < (n + 1) * 256 ^ l.length
  | [], n => by simp
  | x :: r, n => by
    have h := fold_lt r (n * 256 + x.toNat)
    have hx := x.toNat_lt
    refine Nat.lt_of_lt_of_le h ?_
    rw [List.length_cons, Nat.pow_succ, Nat.mul_comm (256 ^ r.length), ← Nat.mul_assoc]
    exact Nat.mul_le_mul_right _ (by omega)
theorem numB_lt (l : List UInt8) : numB l < 256 ^ l.length := by simpa [numB] using fold_lt l 0
theorem four_numB {a b c d : UInt8} : fourB (numB [a, b, c, d]) = [a, b, c, d] := by
  have ha := a.toNat_lt; have hb := b.toNat_lt; have hc := c.toNat_lt; have hd := d.toNat_lt
  simp only [numB, fourB, List.foldl, List.cons.injEq, and_true]
  refine ⟨?_, ?_, ?_, ?_⟩ <;> (apply UInt8.toNat_inj.1; simp only [UInt8.toNat_ofNat']; omega)
theorem four_eq_iff {n : Nat} (h : n < 4294967296) {l : List UInt8} (hl : l.length = 4) : fourB n = l ↔ n = numB l := by
  match l, hl with
  | [a, b, c, d], _ =>
    constructor
    · intro e; rw [← e, numB_four n h]
    · rintro rfl; exact four_numB

def frameB (b : List UInt8) : List UInt8 := fourB (b.length % 4294967296) ++ fourB (crc (fourB (b.length % 4294967296))) ++ fourB (crc b) ++ b
theorem frameB_length (b : List UInt8) : (frameB b).length = 12 + b.length := by simp [frameB, fourB_length]; omega

/-- the record that bytes begin with (none: there is none), how long its frame is, the error -/
def nextB (b : List UInt8) : Option (List UInt8) × Nat × Nat :=
  if b.length < 12 then (none, 0, 10)
  else if fourB (crc (b.take 4)) ≠ (b.drop 4).take 4 ∨ 65536 < numB (b.take 4) then (none, 0, 34)
  else if b.length - 12 < numB (b.take 4) then (none, 0, 10)
  else if fourB (crc ((b.drop 12).take (numB (b.take 4)))) ≠ (b.drop 8).take 4 then (none, 0, 34)
  else (some ((b.drop 12).take (numB (b.take 4))), 12 + numB (b.take 4), 0)

/-- a letter or a digit -/
def plainB (c : Nat) : Bool := (decide (97 ≤ c) && decide (c ≤ 122)) || (decide (65 ≤ c) && decide (c ≤ 90)) || (decide (48 ≤ c) && decide (c ≤ 57))
/-- a log's name -/
def nameB (s : List UInt8) : Bool := decide (1 ≤ s.length) && decide (s.length ≤ 16) && s.all fun c => plainB c.toNat
/-- a log's file -/
def fileB (s : List UInt8) (n : Int) : List UInt8 := if n < 0 ∨ 1000000000 ≤ n then [] else s ++ [46] ++ Go.Lib.decDigits n.toNat
end Go.Proofs.YtnljhabpcoiihaaGreatDoor.Wal
