/- four and number: a number as four bytes, and back. -/
import Derived.Test.YtjpcmgoajdjkgaaGreatDoorSum
set_option linter.all false
namespace Go.Proofs.YtjpcmgoajdjkgaaGreatDoor
open Go.RowKit
open Wal (fourB numB)

theorem info8_parts : (Tryz.prog.info? 5).map (fun i => (i.zero, i.size, i.bytes)) = some (some (.int .u8 0), 1, 1) := by kernel_rfl

theorem own_new (w : World) (e : TypeId) (xs : Array Value) (n : Nat) (hn : xs.size = n) (hm : n ≤ maxLen) :
    (w.alloc (.cells xs e)).ownsRow w.heap.size e 1 (.slice (some ⟨w.heap.size, 0, none⟩) n n) n xs.toList :=
  ⟨by simp [hn], .inr ⟨w.heap.size, n, xs, rfl, Nat.le_refl _, heap_alloc_new _ _, Nat.le_refl _, hm, by omega, by
    rw [Nat.mul_one, ← hn, List.take_of_length_le (by simp)]⟩⟩

theorem four_cells (x : Nat) (hx : x < 4294967296) :
    (#[.int .u8 ((x : Int) / 16777216), .int .u8 ((x : Int) / 65536 % 256), .int .u8 ((x : Int) / 256 % 256), .int .u8 ((x : Int) % 256)] : Array Value).toList = bytesV (fourB x) := by
  simp only [bytesV, fourB, List.map, UInt8.toNat_ofNat', List.cons.injEq, Value.int.injEq, true_and, and_true]
  refine ⟨?_, ?_, ?_, ?_⟩ <;> omega

set_option maxRecDepth 100000 in
set_option maxHeartbeats 400000 in
theorem four_c (x : Nat) (hx : x < 4294967296) (w : World) :
    Calls Tryz.prog 41 #[.int .u32 (x : Nat)] w fun e w' => ∃ v, e = .returned v ∧ w'.ownsRow w.heap.size 5 1 v 4 (bytesV (fourB x)) ∧ Below w.heap.size w w' := by
  go_enter Tryz.func41, Tryz.ntmps41
  go_wp2
  go_ret
  refine ⟨_, rfl, ?_, bnew _ _⟩
  rw [← four_cells x hx]
  exact own_new _ _ _ 4 rfl (by simp [maxLen])

set_option maxRecDepth 100000 in
set_option maxHeartbeats 400000 in
theorem rfour_c (x : Nat) (hx : x < 4294967296) (w : World) :
    Calls Tryz.prog 45 #[.int .u32 (x : Nat)] w fun e w' => ∃ v, e = .returned v ∧ w'.ownsRow w.heap.size 5 1 v 4 (bytesV (fourB x)) ∧ Below w.heap.size w w' := by
  go_enter Tryz.func45, Tryz.ntmps45
  go_wp2
  go_ret
  refine ⟨_, rfl, ?_, bnew _ _⟩
  rw [← four_cells x hx]
  exact own_new _ _ _ 4 rfl (by simp [maxLen])

theorem or4_int (a b c d : UInt8) :
    bits .or .u32 (bits .or .u32 (bits .or .u32 ((a.toNat : Int) % 4294967296 * 16777216 % 4294967296) ((b.toNat : Int) % 4294967296 * 65536 % 4294967296)) ((c.toNat : Int) % 4294967296 * 256 % 4294967296)) ((d.toNat : Int) % 4294967296)
      = ((numB [a, b, c, d] : Nat) : Int) := by
  have ha := a.toNat_lt; have hb := b.toNat_lt; have hc := c.toNat_lt; have hd := d.toNat_lt
  have e1 : (a.toNat : Int) % 4294967296 * 16777216 % 4294967296 = ((2 ^ 24 * a.toNat : Nat) : Int) := by omega
  have e2 : (b.toNat : Int) % 4294967296 * 65536 % 4294967296 = ((2 ^ 16 * b.toNat : Nat) : Int) := by omega
  have e3 : (c.toNat : Int) % 4294967296 * 256 % 4294967296 = ((2 ^ 8 * c.toNat : Nat) : Int) := by omega
  have e4 : (d.toNat : Int) % 4294967296 = ((d.toNat : Nat) : Int) := by omega
  rw [e1, e2, e3, e4]
  rw [u32_or_nat _ _ (by omega) (by omega), ← Nat.two_pow_add_eq_or_of_lt (by omega) a.toNat]
  rw [show 2 ^ 24 * a.toNat + 2 ^ 16 * b.toNat = 2 ^ 16 * (256 * a.toNat + b.toNat) by omega]
  rw [u32_or_nat _ _ (by omega) (by omega), ← Nat.two_pow_add_eq_or_of_lt (by omega) (256 * a.toNat + b.toNat)]
  rw [show 2 ^ 16 * (256 * a.toNat + b.toNat) + 2 ^ 8 * c.toNat = 2 ^ 8 * (256 * (256 * a.toNat + b.toNat) + c.toNat) by omega]
  rw [u32_or_nat _ _ (by omega) (by omega), ← Nat.two_pow_add_eq_or_of_lt (by omega) (256 * (256 * a.toNat + b.toNat) + c.toNat)]
  simp only [numB, List.foldl]
  congr 1
  omega

set_option maxRecDepth 100000 in
set_option maxHeartbeats 400000 in
theorem number_c (A : Option Addr) (cap : Nat) (l : List UInt8) (n : Nat) (hn : n = l.length) (h4 : 4 ≤ n) (w : World) (hr : Rd 0 w A (bytesV l)) :
    Calls Tryz.prog 43 #[.slice A n cap] w fun e w' => e = .returned (.int .u32 (numB (l.take 4) : Nat)) ∧ ∃ k, w' = w.drewN k := by
  subst hn
  match l, h4 with
  | a :: b :: c :: d :: r, _ =>
    obtain ⟨bb, o, hA, hcell⟩ := hr.addr (by simp [bytesV])
    subst hA
    have q0 := hcell 0 (by simp [bytesV])
    have q1 := hcell 1 (by simp [bytesV])
    have q2 := hcell 2 (by simp [bytesV])
    have q3 := hcell 3 (by simp [bytesV])
    simp only [bytesV, List.map, List.getElem?_cons_zero, List.getElem?_cons_succ, Nat.add_zero] at q0 q1 q2 q3
    clear hcell hr
    have HL : 4 ≤ (a :: b :: c :: d :: r).length := by simp
    generalize (a :: b :: c :: d :: r).length = n at HL
    go_enter Tryz.func43, Tryz.ntmps43
    go_wp2_with fail
    go_region
    go_wp2
    rw [or4_int]
    go_ret
    exact ⟨rfl, 1, rfl⟩
end Go.Proofs.YtjpcmgoajdjkgaaGreatDoor
