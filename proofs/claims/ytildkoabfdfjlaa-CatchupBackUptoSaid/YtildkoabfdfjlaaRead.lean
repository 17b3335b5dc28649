/- word.Read: bytes as a number. -/
import Derived.Test.YtildkoabfdfjlaaRlpA
import Derived.Laws.Bits64b
set_option linter.all false
namespace Go.Proofs.Ytildkoabfdfjlaa
open Go.RowKit
/-- the four limbs of a number, as cells -/
def limbArr (v : Nat) : Array Value := #[.int .u64 ((v % 18446744073709551616 : Nat) : Int), .int .u64 ((v / 18446744073709551616 % 18446744073709551616 : Nat) : Int), .int .u64 ((v / 18446744073709551616 ^ 2 % 18446744073709551616 : Nat) : Int), .int .u64 ((v / 18446744073709551616 ^ 3 % 18446744073709551616 : Nat) : Int)]
theorem limbArr_zero : limbArr 0 = #[.int .u64 0, .int .u64 0, .int .u64 0, .int .u64 0] := by simp [limbArr]
def limbN (v q : Nat) : Nat := v / 18446744073709551616 ^ q % 18446744073709551616
theorem limbArr_eq (v : Nat) : limbArr v = #[.int .u64 (limbN v 0 : Int), .int .u64 (limbN v 1 : Int), .int .u64 (limbN v 2 : Int), .int .u64 (limbN v 3 : Int)] := by simp [limbArr, limbN]
theorem limbArr_get (v q : Nat) (hq : q < 4) : (limbArr v)[q]? = some (.int .u64 (limbN v q : Int)) := by
  have h : q = 0 ∨ q = 1 ∨ q = 2 ∨ q = 3 := by omega
  rcases h with rfl | rfl | rfl | rfl <;> simp [limbArr, limbN]
/-- the number of the last k bytes -/
def lastN (l : List UInt8) (k : Nat) : Nat := Rlp.readBE (l.drop (l.length - k))
theorem readBE_cons (a : UInt8) (r : List UInt8) : Rlp.readBE (a :: r) = a.toNat * 256 ^ r.length + Rlp.readBE r := by
  have key : ∀ (r : List UInt8) (z : Nat), r.foldl (fun a b => a * 256 + b.toNat) z = z * 256 ^ r.length + r.foldl (fun a b => a * 256 + b.toNat) 0 := by
    intro r
    induction r with
    | nil => intro z; simp
    | cons b r ih =>
      intro z
      simp only [List.foldl_cons, List.length_cons]
      rw [ih (z * 256 + b.toNat), ih (0 * 256 + b.toNat), Nat.pow_succ, Nat.add_mul, Nat.zero_mul, Nat.zero_add, Nat.mul_assoc, Nat.mul_comm 256, Nat.add_assoc]
  simp only [Rlp.readBE, List.foldl_cons]
  rw [key]
  simp
theorem lastN_succ (l : List UInt8) (k : Nat) (hk : k < l.length) : lastN l (k + 1) = l[l.length - 1 - k].toNat * 256 ^ k + lastN l k := by
  unfold lastN
  rw [List.drop_eq_getElem_cons (show l.length - (k + 1) < l.length by omega), readBE_cons]
  have e : l.length - (k + 1) + 1 = l.length - k := by omega
  have e2 : l.length - (k + 1) = l.length - 1 - k := by omega
  rw [e, List.length_drop, show l.length - (l.length - k) = k by omega]
  simp only [e2]
theorem lastN_lt (l : List UInt8) (k : Nat) (hk : k ≤ l.length) : lastN l k < 256 ^ k := by
  have := Rlp.readBE_lt (l.drop (l.length - k))
  rw [List.length_drop, show l.length - (l.length - k) = k by omega] at this
  exact this
theorem pow64 (q : Nat) : (18446744073709551616 : Nat) ^ q = 256 ^ (8 * q) := by
  rw [Nat.pow_mul]
theorem limbN_add (V x k j : Nat) (hV : V < 256 ^ k) (hx : x < 256) : limbN (x * 256 ^ k + V) j = if j = k / 8 then x * 256 ^ (k % 8) + limbN V j else limbN V j := by
  unfold limbN
  rw [pow64]
  by_cases h1 : j = k / 8
  · rw [if_pos h1]
    have hk : 8 * j ≤ k := by omega
    have e : x * 256 ^ k = 256 ^ (8 * j) * (x * 256 ^ (k % 8)) := by
      rw [Nat.mul_left_comm, ← Nat.pow_add]; congr 2; omega
    rw [e, Nat.mul_add_div (Nat.pow_pos (by decide))]
    have hq : V / 256 ^ (8 * j) < 256 ^ (k % 8) := by
      apply Nat.div_lt_of_lt_mul
      rw [← Nat.pow_add, show 8 * j + k % 8 = k by omega]; exact hV
    have hle : (256 : Nat) ^ (k % 8 + 1) ≤ 256 ^ 8 := Nat.pow_le_pow_right (by decide) (by omega)
    rw [Nat.pow_succ] at hle
    have h3 : x * 256 ^ (k % 8) ≤ 255 * 256 ^ (k % 8) := Nat.mul_le_mul_right _ (by omega)
    have h4 : (256 : Nat) ^ 8 = 18446744073709551616 := by decide
    rw [Nat.mod_eq_of_lt (a := x * 256 ^ (k % 8) + V / 256 ^ (8 * j)) (by omega), Nat.mod_eq_of_lt (a := V / 256 ^ (8 * j)) (by omega)]
  · rw [if_neg h1]
    rcases Nat.lt_or_ge j (k / 8) with h2 | h2
    · have e : x * 256 ^ k = 256 ^ (8 * j) * (18446744073709551616 * (x * 256 ^ (k - 8 * j - 8))) := by
        rw [show (18446744073709551616 : Nat) = 256 ^ 8 by decide, ← Nat.mul_assoc, ← Nat.pow_add, Nat.mul_left_comm, ← Nat.pow_add]
        congr 2; omega
      rw [e, Nat.mul_add_div (Nat.pow_pos (by decide)), Nat.mul_add_mod]
    · have hp : (256 : Nat) ^ (k + 1) ≤ 256 ^ (8 * j) := Nat.pow_le_pow_right (by decide) (by omega)
      have h3 : x * 256 ^ k ≤ 255 * 256 ^ k := Nat.mul_le_mul_right _ (by omega)
      rw [Nat.pow_succ] at hp
      rw [Nat.div_eq_of_lt (by omega), Nat.div_eq_of_lt (by omega)]
theorem limb_step (V x k : Nat) (hk : k < 32) (hV : V < 256 ^ k) (hx : x < 256) :
    (limbArr V).setIfInBounds (k / 8) (.int .u64 (bits BinOp.or .u64 (limbN V (k / 8) : Int) (IntKind.u64.wrap (IntKind.u64.wrap (x : Int) * 2 ^ (8 * (k % 8)))))) = limbArr (x * 256 ^ k + V) := by
  have h1 : x * 256 ^ (k % 8) < 18446744073709551616 := by
    have hle : (256 : Nat) ^ (k % 8 + 1) ≤ 256 ^ 8 := Nat.pow_le_pow_right (by decide) (by omega)
    rw [Nat.pow_succ] at hle
    have h3 : x * 256 ^ (k % 8) ≤ 255 * 256 ^ (k % 8) := Nat.mul_le_mul_right _ (by omega)
    have h4 : (256 : Nat) ^ 8 = 18446744073709551616 := by decide
    have h5 : 0 < (256 : Nat) ^ (k % 8) := Nat.pow_pos (by decide)
    omega
  have e1 : IntKind.u64.wrap (IntKind.u64.wrap (x : Int) * 2 ^ (8 * (k % 8))) = ((x * 256 ^ (k % 8) : Nat) : Int) := by
    rw [IntWalk.u64_in (x : Int) (by omega)]
    have : (x : Int) * 2 ^ (8 * (k % 8)) = ((x * 256 ^ (k % 8) : Nat) : Int) := by
      rw [Int.natCast_mul, Int.natCast_pow, show ((256 : Nat) : Int) = 2 ^ 8 by rfl, ← Int.pow_mul]
    rw [this]
    exact IntWalk.u64_in _ (by omega)
  have hq : limbN V (k / 8) < 256 ^ (k % 8) := by
    unfold limbN
    rw [pow64]
    refine Nat.lt_of_le_of_lt (Nat.mod_le _ _) ?_
    apply Nat.div_lt_of_lt_mul
    rw [← Nat.pow_add, show 8 * (k / 8) + k % 8 = k by omega]; exact hV
  have e2 : bits BinOp.or .u64 (limbN V (k / 8) : Int) ((x * 256 ^ (k % 8) : Nat) : Int) = ((x * 256 ^ (k % 8) + limbN V (k / 8) : Nat) : Int) := by
    rw [bits_or_u64_nat (limbN V (k / 8)) _ (by unfold limbN; exact Nat.mod_lt _ (by decide)) h1]
    congr 1
    rw [show (256 : Nat) ^ (k % 8) = 2 ^ (8 * (k % 8)) by rw [Nat.pow_mul]] at hq ⊢
    rw [Nat.or_comm, Nat.mul_comm x, ← Nat.two_pow_add_eq_or_of_lt hq]
  rw [e1, e2]
  apply Array.ext_getElem?
  intro j
  rw [Array.getElem?_setIfInBounds]
  by_cases hj : j < 4
  · rw [limbArr_get _ _ hj, limbArr_get _ _ hj, limbN_add V x k j hV hx]
    by_cases h : k / 8 = j
    · rw [if_pos h, if_pos (by show k / 8 < (limbArr V).size; simp [limbArr]; omega), if_pos h.symm, ← h]
    · rw [if_neg h, if_neg (fun e => h e.symm)]
  · rw [if_neg (by omega), Array.getElem?_eq_none (by simp [limbArr]; omega), Array.getElem?_eq_none (by simp [limbArr]; omega)]

set_option maxRecDepth 100000 in
set_option maxHeartbeats 400000 in
theorem read_c (A : Option Addr) (cap : Nat) (l : List UInt8) (hl : l.length ≤ 32) (w : World) (hr : Rd 0 w A (bytesV l)) :
    Calls Try.prog 47 #[.slice A l.length cap] w fun e w' => e = .returned (.tuple #[.agg (limbArr (Rlp.readBE l)), .int .i64 0]) ∧ Below w.heap.size w w' := by
  have HR := Lib.hid hr; clear hr
  have hl' : ¬ ((32 : Int) < l.length) := by omega
  go_enter Try.func47, Try.ntmps47
  go_wp2_with fail
  go_loopw [13] (fun i wr => ∃ (k : Nat), k ≤ l.length ∧ i = .int .i64 k ∧ Below w.heap.size w wr ∧ wr.heap[w.heap.size + 1]? = some (.cells (limbArr (lastN l k)) 65 (0, 0)) ∧ wr.heap[w.heap.size]? = some (.cells (limbArr 0) 65 (0, 0))) (fun i _ => l.length - (intOf i).toNat)
  case atStart =>
    refine ⟨0, by omega, rfl, bnew2 _ _ _, ?_, (Below.heap_alloc _ _ _ (by simp)).trans (by rw [limbArr_zero]; exact heap_alloc_new w _)⟩
    have := heap_alloc_new (w.alloc (.cells #[.int .u64 0, .int .u64 0, .int .u64 0, .int .u64 0] 65)) (.cells #[.int .u64 0, .int .u64 0, .int .u64 0, .int .u64 0] 65)
    rw [World.size_alloc] at this
    rw [this]
    have e : lastN l 0 = 0 := by simp [lastN, Rlp.readBE]
    rw [e, limbArr_zero]
  case round =>
    obtain ⟨k, hk, rfl, hB, hb1, hb0⟩ := hrel
    by_cases hlt : k < l.length
    · obtain ⟨b, o, hA, hcell⟩ := HR.out.addr (by rw [bytesV_length]; omega)
      have q0 := (hcell (l.length - 1 - k) (by rw [bytesV_length]; omega)).trans (bytesV_get l (l.length - 1 - k) (by omega))
      clear hcell
      subst hA
      have r0 := (hB.cell (p := ⟨b, _, none⟩) (cell_lt q0)).trans q0
      have hbl := cell_lt q0
      clear q0
      have c1 : wr.cell? ⟨w.heap.size + 1, k / 8, none⟩ = some (.int .u64 (limbN (lastN l k) (k / 8) : Int)) := (Joins.cell_of_block hb1 (k / 8)).trans (limbArr_get _ _ (by omega))
      have f1 : wr.frozen? ⟨w.heap.size + 1, k / 8, none⟩ = false := Joins.unfrozen_of_block hb1 _
      have HB := Lib.hid (And.intro hb1 hb0); clear hb1 hb0
      go_wp2_with fail
      go_region
      go_wp2_with fail
      go_roundw
      case rel =>
        obtain ⟨hb1, hb0⟩ := HB.out
        refine ⟨k + 1, by omega, by go_num, ((hB.setCell (p := ⟨w.heap.size + 1, k / 8, none⟩) (by simp) _).drew), ?_, ?_⟩
        · rw [lastN_succ l k hlt, ← limb_step (lastN l k) _ k (by omega) (lastN_lt l k hk) (UInt8.toNat_lt _)]
          exact Joins.block_setCell hb1 _
        · exact (Below.heap_setCell _ _ _ _ (by simp)).trans hb0
      case measure => simp [intOf]; omega
    · obtain rfl : k = l.length := by omega
      have z0 := Joins.cell_of_block hb0
      have z1 := Joins.cell_of_block hb1
      have zf := Joins.unfrozen_of_block hb0
      have e0 : lastN l l.length = Rlp.readBE l := by unfold lastN; simp
      rw [e0] at z1
      have l0 := z1 0; have l1 := z1 1; have l2 := z1 2; have l3 := z1 3
      have m0 := z0 0; have m1 := z0 1; have m2 := z0 2; have m3 := z0 3
      rw [limbArr_get _ _ (by omega)] at l0 l1 l2 l3 m0 m1 m2 m3
      have f0 := zf 0; have f1 := zf 1; have f2 := zf 2; have f3 := zf 3
      clear z0 z1 zf hb0 hb1 e0
      go_wp2_with fail
      rw [limbArr_eq]
      have hBB := (((hB.setCell (p := ⟨w.heap.size, 0, none⟩) (Nat.le_refl _) (.int .u64 (limbN (Rlp.readBE l) 0))).setCell (p := ⟨w.heap.size, 1, none⟩) (Nat.le_refl _) (.int .u64 (limbN (Rlp.readBE l) 1))).setCell (p := ⟨w.heap.size, 2, none⟩) (Nat.le_refl _) (.int .u64 (limbN (Rlp.readBE l) 2))).setCell (p := ⟨w.heap.size, 3, none⟩) (Nat.le_refl _) (.int .u64 (limbN (Rlp.readBE l) 3))
      exact bodyPost_ret (v := .tuple #[.agg #[.int .u64 (limbN (Rlp.readBE l) 0), .int .u64 (limbN (Rlp.readBE l) 1), .int .u64 (limbN (Rlp.readBE l) 2), .int .u64 (limbN (Rlp.readBE l) 3)], .int .i64 0]) (by simp [results, Try.results47, go_sem, m0, m1, m2, m3]) rfl ⟨rfl, hBB⟩
end Go.Proofs.Ytildkoabfdfjlaa
