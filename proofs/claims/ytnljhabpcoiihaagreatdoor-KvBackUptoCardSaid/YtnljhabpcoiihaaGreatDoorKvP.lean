/- Batches of changes, plain. -/
import Derived.Test.YtnljhabpcoiihaaGreatDoorCrc
set_option linter.all false
namespace Go.Proofs.YtnljhabpcoiihaaGreatDoor
open Wal (fourB numB)

structure ChM where
  key : List UInt8
  val : List UInt8
  gone : Bool
  deriving DecidableEq

def ChM.tail (c : ChM) : List UInt8 := if c.gone = true then [255, 255, 255, 255] else fourB c.val.length ++ c.val
def ChM.enc (c : ChM) : List UInt8 := [UInt8.ofNat (c.key.length / 256), UInt8.ofNat (c.key.length % 256)] ++ c.key ++ c.tail
def encL (l : List ChM) : List UInt8 := l.flatMap ChM.enc
def ChM.size (c : ChM) : Nat := 6 + c.key.length + if c.gone = true then 0 else c.val.length
def sizeL (l : List ChM) : Nat := (l.map ChM.size).sum
def ChM.ok (c : ChM) : Bool := decide (1 ≤ c.key.length) && decide (c.key.length ≤ 64)
/-- Batch: the bytes, the error -/
def batchM (l : List ChM) : List UInt8 × Int :=
  if l.all ChM.ok = false then ([], 1) else if 65536 < 1 + sizeL l then ([], 3) else (encL l, 0)
def ChM.clean (c : ChM) : ChM := if c.gone = true then { c with val := [] } else c

/-- the first change of a record -/
def changeM (b : List UInt8) : Option (ChM × List UInt8) :=
  if b.length < 2 then none
  else if (numB (b.take 2) < 1 ∨ 64 < numB (b.take 2)) ∨ b.length < 6 + numB (b.take 2) then none
  else if numB ((b.drop (2 + numB (b.take 2))).take 4) = 4294967295 then
    some (⟨(b.drop 2).take (numB (b.take 2)), [], true⟩, b.drop (6 + numB (b.take 2)))
  else if (b.drop (6 + numB (b.take 2))).length < numB ((b.drop (2 + numB (b.take 2))).take 4) then none
  else some (⟨(b.drop 2).take (numB (b.take 2)), (b.drop (6 + numB (b.take 2))).take (numB ((b.drop (2 + numB (b.take 2))).take 4)), false⟩,
    (b.drop (6 + numB (b.take 2))).drop (numB ((b.drop (2 + numB (b.take 2))).take 4)))
def unbF : Nat → List UInt8 → Option (List ChM)
  | 0, _ => some []
  | f + 1, b => if b = [] then some [] else match changeM b with
    | none => none
    | some (c, r) => (unbF f r).map (c :: ·)
def unbatchM (b : List UInt8) : Option (List ChM) := unbF (b.length + 1) b

theorem ChM.enc_length (c : ChM) : c.enc.length = c.size := by
  unfold ChM.enc ChM.size ChM.tail
  split <;> simp [Wal.fourB_length] <;> omega
theorem encL_length (l : List ChM) : (encL l).length = sizeL l := by
  induction l with
  | nil => rfl
  | cons c r ih =>
    simp only [encL, sizeL, List.flatMap_cons, List.length_append, List.map_cons, List.sum_cons, ChM.enc_length] at ih ⊢
    rw [ih]
theorem take_app {α : Type} {l₁ l₂ : List α} {n : Nat} (h : l₁.length = n) : (l₁ ++ l₂).take n = l₁ := by subst h; simp
theorem drop_app {α : Type} {l₁ l₂ : List α} {n : Nat} (h : l₁.length = n) : (l₁ ++ l₂).drop n = l₂ := by subst h; simp
theorem two_num (n : Nat) (h : n < 65536) : numB [UInt8.ofNat (n / 256), UInt8.ofNat (n % 256)] = n := by
  simp only [numB, List.foldl, UInt8.toNat_ofNat']
  omega
theorem num_two {a b : UInt8} : [UInt8.ofNat (numB [a, b] / 256), UInt8.ofNat (numB [a, b] % 256)] = [a, b] := by
  have ha := a.toNat_lt; have hb := b.toNat_lt
  simp only [numB, List.foldl, List.cons.injEq, and_true]
  refine ⟨?_, ?_⟩ <;> (apply UInt8.toNat_inj.1; simp only [UInt8.toNat_ofNat']; omega)
theorem ff_num : numB [255, 255, 255, 255] = 4294967295 := by decide
theorem tail_length (c : ChM) : 4 ≤ c.tail.length := by
  unfold ChM.tail
  split <;> simp [Wal.fourB_length]
theorem change_enc {c : ChM} (hk : c.ok = true) (hv : c.gone = false → c.val.length < 4294967295) (r : List UInt8) : changeM (c.enc ++ r) = some (c.clean, r) := by
  simp only [ChM.ok, Bool.and_eq_true, decide_eq_true_eq] at hk
  have htl := tail_length c
  have h2 : (c.enc ++ r).take 2 = [UInt8.ofNat (c.key.length / 256), UInt8.ofNat (c.key.length % 256)] := by
    unfold ChM.enc
    rw [List.append_assoc, List.append_assoc]
    exact take_app rfl
  have hd2 : (c.enc ++ r).drop 2 = c.key ++ (c.tail ++ r) := by
    unfold ChM.enc
    rw [List.append_assoc, List.append_assoc]
    exact drop_app rfl
  have hdn : (c.enc ++ r).drop (2 + c.key.length) = c.tail ++ r := by
    rw [← List.drop_drop, hd2]
    exact drop_app rfl
  have hd6 : (c.enc ++ r).drop (6 + c.key.length) = (c.tail ++ r).drop 4 := by
    rw [show 6 + c.key.length = (2 + c.key.length) + 4 by omega, ← List.drop_drop, hdn]
  have hlen : (c.enc ++ r).length = 2 + c.key.length + c.tail.length + r.length := by
    unfold ChM.enc; simp; omega
  unfold changeM
  rw [h2, two_num _ (by omega), if_neg (by omega), if_neg (by omega), hdn, hd2, hd6]
  have hkey : (c.key ++ (c.tail ++ r)).take c.key.length = c.key := take_app rfl
  rw [hkey]
  cases hg : c.gone with
  | true =>
    have ht : c.tail = [255, 255, 255, 255] := by unfold ChM.tail; rw [hg]; rfl
    rw [ht, take_app (by rfl), ff_num, if_pos rfl, drop_app (by rfl)]
    simp [ChM.clean, hg]
  | false =>
    have ht : c.tail = fourB c.val.length ++ c.val := by unfold ChM.tail; rw [hg]; rfl
    rw [ht, List.append_assoc, take_app (Wal.fourB_length _), Wal.numB_four _ (by have := hv hg; omega), if_neg (by have := hv hg; omega), drop_app (Wal.fourB_length _), if_neg (by simp), take_app rfl, drop_app rfl]
    obtain ⟨k, v, g⟩ := c
    simp only at hg
    subst hg
    rfl
theorem list2 {b : List UInt8} (h : 2 ≤ b.length) : ∃ x y r, b = x :: y :: r := by
  match b, h with
  | x :: y :: r, _ => exact ⟨x, y, r, rfl⟩
theorem list4 {b : List UInt8} (h : b.length = 4) : ∃ x y z u, b = [x, y, z, u] := by
  match b, h with
  | [x, y, z, u], _ => exact ⟨x, y, z, u, rfl⟩
theorem enc_change {b : List UInt8} {c : ChM} {r : List UInt8} (h : changeM b = some (c, r)) : c.enc ++ r = b ∧ c.ok = true ∧ (c.gone = true → c.val = []) ∧ c.val.length < 4294967295 := by
  unfold changeM at h
  split at h
  · cases h
  rename_i h2
  obtain ⟨x, y, b', rfl⟩ := list2 (b := b) (by omega)
  have ht2 : (x :: y :: b').take 2 = [x, y] := rfl
  rw [ht2] at h
  obtain ⟨n, hn⟩ : ∃ n, numB [x, y] = n := ⟨_, rfl⟩
  rw [hn] at h
  split at h
  · cases h
  rename_i h3
  have hd2 : (x :: y :: b').drop 2 = b' := rfl
  have hlen : 4 + n ≤ b'.length := by simp at h3; omega
  have hdn : (x :: y :: b').drop (2 + n) = b'.drop n := by rw [Nat.add_comm]; rfl
  have hd6 : (x :: y :: b').drop (6 + n) = b'.drop (4 + n) := by rw [show 6 + n = (4 + n) + 2 by omega]; rfl
  rw [hd2, hdn, hd6] at h
  have hkl : (b'.take n).length = n := by rw [List.length_take]; omega
  obtain ⟨p, q, s, u, h4⟩ := list4 (b := (b'.drop n).take 4) (by rw [List.length_take, List.length_drop]; omega)
  have hsplit : b' = b'.take n ++ ([p, q, s, u] ++ b'.drop (4 + n)) := by
    conv => lhs; rw [← List.take_append_drop n b', ← List.take_append_drop 4 (b'.drop n), h4, List.drop_drop, Nat.add_comm n 4]
  rw [h4] at h
  have hxy : [UInt8.ofNat (n / 256), UInt8.ofNat (n % 256)] = [x, y] := by rw [← hn]; exact num_two
  have hok : (decide (1 ≤ (b'.take n).length) && decide ((b'.take n).length ≤ 64)) = true := by
    rw [hkl]
    simp only [Bool.and_eq_true, decide_eq_true_eq]
    omega
  split at h
  · rename_i hff
    cases h
    refine ⟨?_, hok, fun _ => rfl, by rw [List.length_nil]; decide⟩
    have he : [p, q, s, u] = [255, 255, 255, 255] := by
      have h1 := Wal.four_numB (a := p) (b := q) (c := s) (d := u)
      rw [hff] at h1
      rw [← h1]; decide
    unfold ChM.enc ChM.tail
    rw [if_pos rfl, hkl, hxy, ← he, List.append_assoc, List.append_assoc]
    show [x, y] ++ _ = [x, y] ++ b'
    rw [← hsplit]
  · rename_i hff
    split at h
    · cases h
    · rename_i hle
      cases h
      have hm : ((b'.drop (4 + n)).take (numB [p, q, s, u])).length = numB [p, q, s, u] := by rw [List.length_take]; omega
      have hlt := Wal.numB_lt [p, q, s, u]
      rw [show [p, q, s, u].length = 4 from rfl, show (256 : Nat) ^ 4 = 4294967296 by decide] at hlt
      refine ⟨?_, hok, ?_, by rw [hm]; omega⟩
      rotate_left
      · intro h; cases h
      unfold ChM.enc ChM.tail
      simp only [Bool.false_eq_true, if_false]
      rw [hkl, hxy, hm, Wal.four_numB, List.append_assoc, List.append_assoc, List.append_assoc, List.take_append_drop]
      show [x, y] ++ _ = [x, y] ++ b'
      rw [← hsplit]
theorem change_shorter {b : List UInt8} {c : ChM} {r : List UInt8} (h : changeM b = some (c, r)) : r.length + 7 ≤ b.length := by
  obtain ⟨h1, h2, _⟩ := enc_change h
  simp only [ChM.ok, Bool.and_eq_true, decide_eq_true_eq] at h2
  have h3 := congrArg List.length h1
  rw [List.length_append, ChM.enc_length] at h3
  unfold ChM.size at h3
  omega
theorem unbF_enc : ∀ (l : List ChM) (f : Nat), l.length < f → (∀ c ∈ l, c.ok = true ∧ (c.gone = false → c.val.length < 4294967295)) → unbF f (encL l) = some (l.map ChM.clean)
  | [], f + 1, _, _ => by simp [unbF, encL]
  | c :: r, f + 1, hf, h => by
    obtain ⟨h1, h2⟩ := h c (by simp)
    have he : encL (c :: r) = c.enc ++ encL r := rfl
    unfold unbF
    rw [he, if_neg (by intro e; have := congrArg List.length e; simp [ChM.enc] at this), change_enc h1 h2]
    simp only
    rw [unbF_enc r f (by simpa using hf) fun x hx => h x (by simp [hx])]
    rfl
theorem encL_ge : ∀ (l : List ChM), l.length ≤ (encL l).length
  | [] => by simp
  | c :: r => by
    have he : encL (c :: r) = c.enc ++ encL r := rfl
    have := encL_ge r
    rw [he, List.length_append, ChM.enc_length]
    unfold ChM.size
    simp only [List.length_cons]
    omega
theorem size_mem {l : List ChM} {c : ChM} (h : c ∈ l) : c.size ≤ sizeL l := by
  induction l with
  | nil => simp at h
  | cons x r ih =>
    simp only [sizeL, List.map_cons, List.sum_cons] at ih ⊢
    rcases List.mem_cons.1 h with rfl | h
    · omega
    · have := ih h; omega
/-- a batch, read again -/
theorem unbatch_batch {l : List ChM} {x : List UInt8} (h : batchM l = (x, 0)) : unbatchM x = some (l.map ChM.clean) := by
  unfold batchM at h
  split at h
  · cases h
  · split at h
    · cases h
    · rename_i h1 h2
      cases h
      refine unbF_enc l _ (by have := encL_ge l; omega) fun c hc => ⟨?_, ?_⟩
      · have := (Bool.not_eq_false _ ▸ h1 : l.all ChM.ok = true)
        exact List.all_eq_true.1 this c hc
      · intro hg
        have h3 := size_mem hc
        have h4 : c.val.length ≤ c.size := by unfold ChM.size; rw [hg]; simp only [Bool.false_eq_true, if_false]; omega
        omega
/-- a record, written again -/
theorem enc_unbF : ∀ (f : Nat) (b : List UInt8) (u : List ChM), b.length < f → unbF f b = some u → encL u = b ∧ ∀ c ∈ u, c.ok = true ∧ (c.gone = true → c.val = [])
  | f + 1, b, u, hf, h => by
    unfold unbF at h
    split at h
    · rename_i hb
      cases h
      exact ⟨by rw [hb]; rfl, by simp⟩
    · cases hc : changeM b with
      | none => rw [hc] at h; cases h
      | some p =>
        obtain ⟨c, r⟩ := p
        rw [hc] at h
        simp only at h
        cases hu : unbF f r with
        | none => rw [hu] at h; cases h
        | some u' =>
          rw [hu] at h
          cases h
          have hs := change_shorter hc
          obtain ⟨h1, h2, h3, h4⟩ := enc_change hc
          obtain ⟨k1, k2⟩ := enc_unbF f r u' (by omega) hu
          refine ⟨?_, fun x hx => ?_⟩
          · show c.enc ++ encL u' = b
            rw [k1, h1]
          · rcases List.mem_cons.1 hx with rfl | hx
            · exact ⟨h2, h3⟩
            · exact k2 x hx
theorem batch_unbatch {b : List UInt8} {u : List ChM} (h : unbatchM b = some u) : batchM u = if 65536 < 1 + b.length then ([], 3) else (b, 0) := by
  obtain ⟨h1, h2⟩ := enc_unbF _ b u (by omega) h
  have hall : u.all ChM.ok = true := List.all_eq_true.2 fun c hc => (h2 c hc).1
  unfold batchM
  rw [if_neg (by rw [hall]; simp), ← encL_length, h1]
end Go.Proofs.YtnljhabpcoiihaaGreatDoor
