/- Plain laws: a text in which no rune is odd is one in which no byte is (where all runes from 128 on are odd). -/
import Derived.Test.YtnljhabpcoiihaaGreatDoorCrc
import Derived.Shelf.GgClosure.StringsIndexFunc
set_option linter.all false
namespace Go.Proofs.YtnljhabpcoiihaaGreatDoor
open Go.RowKit

theorem decode_small {s : ByteArray} {i : Nat} (h : (s.get! i).toNat < 128) : Utf8.decode s i = ((s.get! i).toNat, 1) := by
  unfold Utf8.decode
  simp [h]
theorem decode_great {s : ByteArray} {i : Nat} (h : ¬ (s.get! i).toNat < 128) : 128 ≤ (Utf8.decode s i).1 := by
  unfold Utf8.decode
  simp only [Nat.add_zero, h, if_false, Utf8.runeError]
  split
  · split <;> simp_all
  · split
    · split
      · rename_i h2; simp at h2; simp; omega
      · simp
    · split
      · split
        · rename_i h2; simp at h2; simp; omega
        · simp
      · simp

theorem idx_from (p : Nat → Bool) (hp : ∀ c, 128 ≤ c → p c = true) (s : ByteArray) : ∀ (f pos : Nat), s.size ≤ f + pos →
    (0 ≤ Go.Lib.idxFuncFrom p true s f pos ↔ ∃ k, pos ≤ k ∧ k < s.size ∧ p (s.get! k).toNat = true)
  | 0, pos, h => by
    simp only [Go.Lib.idxFuncFrom]
    constructor
    · intro h; omega
    · rintro ⟨k, h1, h2, _⟩; omega
  | f + 1, pos, h => by
    simp only [Go.Lib.idxFuncFrom]
    by_cases hps : pos < s.size
    · rw [if_pos hps]
      by_cases hb : (s.get! pos).toNat < 128
      · rw [decode_small hb]
        by_cases hpb : p (s.get! pos).toNat = true
        · rw [if_pos hpb]
          exact ⟨fun _ => ⟨pos, Nat.le_refl _, hps, hpb⟩, fun _ => by omega⟩
        · rw [if_neg hpb, idx_from p hp s f (pos + 1) (by omega)]
          constructor
          · rintro ⟨k, h1, h2, h3⟩; exact ⟨k, by omega, h2, h3⟩
          · rintro ⟨k, h1, h2, h3⟩
            refine ⟨k, ?_, h2, h3⟩
            rcases Nat.lt_or_ge pos k with hk | hk
            · omega
            · obtain rfl : k = pos := by omega
              exact absurd h3 hpb
      · rw [if_pos (hp _ (decode_great hb))]
        exact ⟨fun _ => ⟨pos, Nat.le_refl _, hps, hp _ (by omega)⟩, fun _ => by omega⟩
    · rw [if_neg hps]
      constructor
      · intro h; omega
      · rintro ⟨k, h1, h2, _⟩; omega

theorem idx_any (p : Nat → Bool) (hp : ∀ c, 128 ≤ c → p c = true) (l : List UInt8) :
    decide (0 ≤ Go.Lib.idxFunc p true ⟨l.toArray⟩) = l.any fun b => p b.toNat := by
  have h := idx_from p hp ⟨l.toArray⟩ (ByteArray.size ⟨l.toArray⟩) 0 (by omega)
  rw [Bool.eq_iff_iff, decide_eq_true_iff]
  show 0 ≤ Go.Lib.idxFuncFrom p true _ _ 0 ↔ _
  rw [h, List.any_eq_true]
  have hg : ∀ k (hk : k < l.length), ByteArray.get! ⟨l.toArray⟩ k = l[k] := fun k hk => by
    simp [ByteArray.get!, hk]
  constructor
  · rintro ⟨k, _, h2, h3⟩
    have hk : k < l.length := by simpa [ByteArray.size] using h2
    rw [hg k hk] at h3
    exact ⟨l[k], List.getElem_mem hk, h3⟩
  · rintro ⟨b, hb, h3⟩
    obtain ⟨k, hk, rfl⟩ := List.getElem_of_mem hb
    exact ⟨k, Nat.zero_le _, by simpa [ByteArray.size] using hk, by rw [hg k hk]; exact h3⟩

/-- what a log's name may not have -/
def oddW (c : Nat) : Bool := !Wal.plainB c
theorem oddW_great (c : Nat) (h : 128 ≤ c) : oddW c = true := by
  unfold oddW Wal.plainB
  simp
  omega
/-- what a file's name may not have -/
def oddD (c : Nat) : Bool := decide (c < 33) || decide (126 < c)
theorem oddD_great (c : Nat) (h : 128 ≤ c) : oddD c = true := by
  unfold oddD
  simp
  omega
/-- a file's name -/
def dnameB (s : List UInt8) : Bool := decide (1 ≤ s.length) && decide (s.length ≤ 32) && !(s.any fun b => oddD b.toNat)
theorem nameB_any (s : List UInt8) : Wal.nameB s = (decide (1 ≤ s.length) && decide (s.length ≤ 16) && !(s.any fun b => oddW b.toNat)) := by
  unfold Wal.nameB oddW
  rw [List.not_any_eq_all_not]
  simp
end Go.Proofs.YtnljhabpcoiihaaGreatDoor
