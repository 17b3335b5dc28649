/- What word's functions that rlp needs return: numbers as bytes, and back. -/
import Derived.Test.YtildkoabfdfjlaaBase
import Derived.Test.YtildkoabfdfjlaaShelf
set_option linter.all false
namespace Go.Proofs.Ytildkoabfdfjlaa
open Go.RowKit
/-- the limb of a word by its number -/
def limb (a b c d : Int) : Nat → Int
  | 0 => a | 1 => b | 2 => c | _ => d
/-- byte m of a word, the lowest first -/
def wbyte (a b c d : Int) (m : Nat) : Int := limb a b c d (m / 8) / 2 ^ (8 * (m % 8)) % 256
def outArr (a b c d : Int) : Nat → Array Value
  | 0 => (List.replicate 32 (.int .u8 0)).toArray
  | k + 1 => (outArr a b c d k).setIfInBounds (31 - k) (.int .u8 (limb a b c d (k / 8) / 2 ^ (8 * (k % 8)) % 256))
theorem outArr_size (a b c d : Int) (k : Nat) : (outArr a b c d k).size = 32 := by
  induction k with
  | zero => rfl
  | succ k ih => simp [outArr, ih]
theorem outArr_get (a b c d : Int) (k : Nat) (hk : k ≤ 32) : ∀ j, j < k → (outArr a b c d k)[31 - j]? = some (.int .u8 (wbyte a b c d j)) := by
  induction k with
  | zero => intro j hj; omega
  | succ k ih =>
    intro j hj
    rw [outArr, Array.getElem?_setIfInBounds]
    by_cases h : j = k
    · subst h
      rw [if_pos rfl, if_pos (by rw [outArr_size]; omega)]; rfl
    · rw [if_neg (by omega)]; exact ih (by omega) j (by omega)
theorem limb_nonneg {a b c d : Int} (ha : 0 ≤ a) (hb : 0 ≤ b) (hc : 0 ≤ c) (hd : 0 ≤ d) (j : Nat) : 0 ≤ limb a b c d j := by
  unfold limb; split <;> assumption
theorem limb_cell (w : World) (a b c d : Int) (k : Nat) (hk : k < 32) :
    (w.alloc (.cells #[.int .u64 a, .int .u64 b, .int .u64 c, .int .u64 d] 65)).cell? ⟨w.heap.size, k / 8, none⟩ = some (.int .u64 (limb a b c d (k / 8))) := by
  rw [Joins.cell_alloc_mark_at _ _ _ _ _ _ rfl]
  have h : k / 8 = 0 ∨ k / 8 = 1 ∨ k / 8 = 2 ∨ k / 8 = 3 := by omega
  rcases h with h | h | h | h <;> rw [h] <;> rfl

theorem of_c (n : Int) (w : World) :
    Calls Try.prog 32 #[.int .u64 n] w fun e w' => e = .returned (.agg #[.int .u64 n, .int .u64 0, .int .u64 0, .int .u64 0]) ∧ Below w.heap.size w w' := by
  go_enter Try.func32, Try.ntmps32
  go_wp2
  exact bodyPost_ret (v := .agg #[.int .u64 n, .int .u64 0, .int .u64 0, .int .u64 0]) (by simp [results, Try.results32, go_sem]) rfl ⟨rfl, (Below.refl _ _).alloc (Nat.le_refl _) _⟩

set_option maxRecDepth 100000 in
set_option maxHeartbeats 400000 in
theorem bytes_c (a b c d : Int) (ha : 0 ≤ a) (hb : 0 ≤ b) (hc : 0 ≤ c) (hd : 0 ≤ d) (w : World) :
    Calls Try.prog 57 #[.agg #[.int .u64 a, .int .u64 b, .int .u64 c, .int .u64 d]] w fun e w' =>
      ∃ g, e = .returned (.slice (some ⟨g, 0, none⟩) 32 32) ∧ (∀ k, k < 32 → w'.cell? ⟨g, 31 - k, none⟩ = some (.int .u8 (wbyte a b c d k))) ∧ w.heap.size ≤ g ∧ Below w.heap.size w w' := by
  have hmk : ∀ w, (Instr.makeSlice 31 (.int .i64 32) (.int .i64 32)).run Try.prog w = .ok (.slice (some ⟨w.heap.size, 0, none⟩) 32 32) (w.alloc (.cells (outArr a b c d 0) 5)) := fun w => by kernel_rfl
  go_enter Try.func57, Try.ntmps57
  go_wp2
  go_loopw [6] (fun i wr => ∃ k : Nat, k ≤ 32 ∧ i = .int .i64 k ∧ wr = (w.alloc (.cells #[.int .u64 a, .int .u64 b, .int .u64 c, .int .u64 d] 65)).alloc (.cells (outArr a b c d k) 5)) (fun i _ => 32 - (intOf i).toNat)
  case atStart => exact ⟨0, by omega, rfl, rfl⟩
  case round =>
    obtain ⟨k, hk, rfl, rfl⟩ := hrel
    by_cases hlt : k < 32
    · have hcell := Lib.cell?_alloc_some (.cells (outArr a b c d k) 5) (limb_cell w a b c d k hlt)
      have hn := limb_nonneg ha hb hc hd (k / 8)
      have hv : ∃ v, (outArr a b c d k)[31 - k]? = some v := ⟨_, Array.getElem?_eq_getElem (by rw [outArr_size]; omega)⟩
      obtain ⟨v, hv⟩ := hv
      go_wp2
      go_roundw
      case rel => exact ⟨k + 1, by omega, by go_num, by simp [outArr]⟩
      case measure => simp [intOf]; omega
    · obtain rfl : k = 32 := by omega
      go_wp2
      go_ret
      refine ⟨w.heap.size + 1, rfl, fun k hk => ?_, by omega, ?_⟩
      · rw [Joins.cell_alloc_mark_at _ _ _ _ _ _ (by simp)]
        exact outArr_get a b c d 32 (Nat.le_refl _) k hk
      · exact ((Below.refl _ _).alloc (Nat.le_refl _) _).alloc (by simp) _
end Go.Proofs.Ytildkoabfdfjlaa
namespace Go.Proofs.Ytildkoabfdfjlaa
open Go.RowKit
def widthTo (a b c d : Int) : Nat → Int
  | 0 => 0
  | k + 1 => if limb a b c d k = 0 then widthTo a b c d k else 64 * (k : Int) + Lib.bitLen (limb a b c d k).toNat
theorem bitLenAux_le : ∀ f n, Lib.bitLenAux f n ≤ f := by
  intro f
  induction f with
  | zero => intro n; simp [Lib.bitLenAux]
  | succ f ih => intro n; simp only [Lib.bitLenAux]; split <;> (try have := ih (n / 2)); all_goals omega
theorem bitLen_le (n : Nat) : Lib.bitLen n ≤ 64 := bitLenAux_le 64 n
set_option maxRecDepth 100000 in
set_option maxHeartbeats 400000 in
theorem width_c (g cap : Nat) (a b c d : Int) (ha : 0 ≤ a) (hb : 0 ≤ b) (hc : 0 ≤ c) (hd : 0 ≤ d) (hle : ∀ k, limb a b c d k ≤ 18446744073709551615) (w : World)
    (hcell : ∀ k, k < 4 → w.cell? ⟨g, k, none⟩ = some (.int .u64 (limb a b c d k))) :
    Calls Try.prog 62 #[.slice (some ⟨g, 0, none⟩) 4 cap] w fun e w' => e = .returned (.int .i64 (widthTo a b c d 4)) ∧ w = w' := by
  have HC := Lib.hid hcell; clear hcell
  have HL := Lib.hid hle; clear hle
  go_enter Try.func62, Try.ntmps62
  go_wp2
  go_loop [3] (fun i => ∃ k : Nat, k ≤ 4 ∧ i = .int .i64 ((k : Int) - 1) ∧ widthTo a b c d 4 = widthTo a b c d k) (fun i => (intOf i + 1).toNat)
  case atStart => exact ⟨4, by omega, rfl, rfl⟩
  case round =>
    obtain ⟨k, hk, rfl, hw⟩ := hrel
    have HW := Lib.hid hw; clear hw
    by_cases hk0 : k = 0
    · subst hk0
      go_wp2
      go_ret
      exact ⟨by rw [HW.out]; rfl, rfl⟩
    · obtain ⟨j, rfl⟩ : ∃ j, k = j + 1 := ⟨k - 1, by omega⟩
      have h1 := HC.out j (by omega)
      have h2 := limb_nonneg ha hb hc hd j
      by_cases hz : limb a b c d j = 0
      · have hz' : (limb a b c d j != 0) = false := by simp [hz]
        have HZ := Lib.hid hz; clear hz
        go_wp2_with fail
        go_round
        case rel => exact ⟨j, by omega, by go_num, by rw [HW.out, widthTo, if_pos HZ.out]⟩
        case measure => simp [intOf]
      · have hz' : (limb a b c d j != 0) = true := by simpa using hz
        have HZ := Lib.hid hz; clear hz
        have hbl := bitLen_le (limb a b c d j).toNat
        go_wp2_with (go_at_call 65; refine (Try.bits_Len64 _ _ h2 (HL.out j)).mono ?_; rintro e w' ⟨rfl, rfl⟩)
        go_ret
        exact ⟨by rw [HW.out, widthTo, if_neg HZ.out]; go_num, rfl⟩
end Go.Proofs.Ytildkoabfdfjlaa
namespace Go.Proofs.Ytildkoabfdfjlaa
open Go.RowKit
theorem widthTo_bd (a b c d : Int) (k : Nat) : 0 ≤ widthTo a b c d k ∧ widthTo a b c d k ≤ 64 * k := by
  induction k with
  | zero => simp [widthTo]
  | succ k ih =>
    unfold widthTo
    have := bitLen_le (limb a b c d k).toNat
    split <;> omega
/-- how many bytes a word's number has -/
def lenOf (a b c d : Int) : Int := (widthTo a b c d 4 + 7) / 8
theorem lenOf_bd (a b c d : Int) : 0 ≤ lenOf a b c d ∧ lenOf a b c d ≤ 32 := by
  have := widthTo_bd a b c d 4
  unfold lenOf; omega
theorem limb4_cell (w : World) (a b c d : Int) (k : Nat) (hk : k < 4) :
    (w.alloc (.cells #[.int .u64 a, .int .u64 b, .int .u64 c, .int .u64 d] 65)).cell? ⟨w.heap.size, k, none⟩ = some (.int .u64 (limb a b c d k)) := by
  rw [Joins.cell_alloc_mark_at _ _ _ _ _ _ rfl]
  have h : k = 0 ∨ k = 1 ∨ k = 2 ∨ k = 3 := by omega
  rcases h with h | h | h | h <;> rw [h] <;> rfl
set_option maxRecDepth 100000 in
set_option maxHeartbeats 400000 in
theorem len_c (a b c d : Int) (ha : 0 ≤ a) (hb : 0 ≤ b) (hc : 0 ≤ c) (hd : 0 ≤ d) (hle : Hid (∀ k, limb a b c d k ≤ 18446744073709551615)) (w : World) :
    Calls Try.prog 58 #[.agg #[.int .u64 a, .int .u64 b, .int .u64 c, .int .u64 d]] w fun e w' =>
      e = .returned (.int .i64 (lenOf a b c d)) ∧ Below w.heap.size w w' := by
  obtain ⟨hw0, hw1⟩ := widthTo_bd a b c d 4
  go_enter Try.func58, Try.ntmps58
  go_wp2_with (go_at_call 62; refine (width_c _ _ a b c d ha hb hc hd hle.out _ (limb4_cell w a b c d)).mono ?_; rintro e w' ⟨rfl, rfl⟩)
  go_ret
  exact ⟨by unfold lenOf; go_num, (Below.refl _ _).alloc (Nat.le_refl _) _⟩
theorem len_n (n : Nat) (a b c d : Int) (hn : Hid (lenOf a b c d = n)) (ha : 0 ≤ a) (hb : 0 ≤ b) (hc : 0 ≤ c) (hd : 0 ≤ d) (hle : Hid (∀ k, limb a b c d k ≤ 18446744073709551615)) (w : World) :
    Calls Try.prog 58 #[.agg #[.int .u64 a, .int .u64 b, .int .u64 c, .int .u64 d]] w fun e w' =>
      e = .returned (.int .i64 (n : Int)) ∧ Below w.heap.size w w' :=
  (len_c a b c d ha hb hc hd hle w).mono fun e w' ⟨h1, h2⟩ => ⟨by rw [h1, hn.out], h2⟩
theorem u8_info : (Try.prog.info? 5).map (fun i => (i.zero, i.size, i.bytes)) = some (some (.int .u8 0), 1, 1) := by kernel_rfl
set_option maxRecDepth 100000 in
set_option maxHeartbeats 400000 in
theorem short_n (n : Nat) (hn1 : n ≤ 32) (a b c d : Int) (hn : Hid (lenOf a b c d = n)) (ha : 0 ≤ a) (hb : 0 ≤ b) (hc : 0 ≤ c) (hd : 0 ≤ d) (hle : Hid (∀ k, limb a b c d k ≤ 18446744073709551615)) (w : World) :
    Calls Try.prog 51 #[.agg #[.int .u64 a, .int .u64 b, .int .u64 c, .int .u64 d]] w fun e w' =>
      ∃ g, e = .returned (.slice (fromAddr 1 (some ⟨g, 0, none⟩) 32 (32 - n)) n n) ∧ (∀ k, k < 32 → w'.cell? ⟨g, 31 - k, none⟩ = some (.int .u8 (wbyte a b c d k))) ∧ w.heap.size ≤ g ∧ Below w.heap.size w w' := by
  obtain ⟨i0, hi0, hz0, hz1, hz2⟩ := info_parts u8_info
  have hsl : ∀ w g, (Instr.slice 31 (.slice (some ⟨g, 0, none⟩) 32 32) (some (.int .i64 (32 - (n : Int)))) none none).run Try.prog w = .ok (.slice (fromAddr 1 (some ⟨g, 0, none⟩) 32 (32 - n)) n n) w := fun w g => by
    have := run_slice_from w 31 5 i0 1 Try.underlying31 hi0 hz1 (some ⟨g, 0, none⟩) 32 32 .i64 (32 - (n : Int)) (32 - n) (by omega) (by omega)
    rwa [show 32 - (32 - n) = n by omega] at this
  clear hi0 hz0 hz1 hz2
  have hwr : IntKind.i64.wrap (32 - (n : Int)) = 32 - (n : Int) := IntWalk.i64_in _ (by omega)
  go_enter Try.func51, Try.ntmps51
  go_wp2_with fail
  go_region_held3 (fun w' => w'.cell? ⟨w.heap.size, 0, none⟩ = some (.int .u64 a) ∧ w'.cell? ⟨w.heap.size, 1, none⟩ = some (.int .u64 b) ∧ w'.cell? ⟨w.heap.size, 2, none⟩ = some (.int .u64 c) ∧ w'.cell? ⟨w.heap.size, 3, none⟩ = some (.int .u64 d))
    (first
      | go_keep
      | (go_split_ands; refine ⟨?_, ?_, ?_, ?_⟩ <;> (rw [hk1 _ _ (by simp)]; assumption))
      | (go_split_ands; refine ⟨?_, ?_, ?_, ?_⟩ <;> (rw [hk3 _ _ (by have := hb1.size; simp at this; omega)]; assumption)))
    (first
      | (go_at_call 57; refine (bytes_c a b c d ha hb hc hd _).mono ?_; rintro e w1 ⟨g, rfl, hg, hgn, hb1⟩; have HG := Lib.hid hg; clear hg; obtain ⟨hk1, hk2⟩ := keptCells hb1)
      | (go_at_call 58; refine (len_n n a b c d hn ha hb hc hd hle _).mono ?_; rintro e w2 ⟨rfl, hb2⟩; obtain ⟨hk3, hk4⟩ := keptCells hb2))
  go_wp2
  go_ret
  refine ⟨g, rfl, fun k hk => ?_, by simp at hgn; omega, ?_⟩
  · have h := HG.out k hk
    rw [hk3 _ _ (cell_lt h)]; exact h
  · exact bstep (bstep (bnew w _).drew hb1) hb2
end Go.Proofs.Ytildkoabfdfjlaa
