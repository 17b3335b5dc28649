/- wal's Sum and the reference's: both are the plain check sum of the bytes. four and number: a number as four bytes, and back. -/
import Derived.Test.YtnljhabpcoiihaaGreatDoorTurn
import Derived.Test.YtnljhabpcoiihaaGreatDoorCrc
import Derived.Test.YtnljhabpcoiihaaGreatDoorProg
import Derived.Laws.BitsAll
set_option linter.all false
namespace Go.Proofs.YtnljhabpcoiihaaGreatDoor
open Go.RowKit
open Wal (crc crcFrom byteStep bitStep)

/-- a bit of the program's loop is a bit of the plain law -/
theorem bit_prog (c : Nat) (h : c < 4294967296) : (c / 2) ^^^ (3988292384 &&& ((4294967296 - c % 2) % 4294967296)) = bitStep c := by
  unfold bitStep
  split
  · rename_i h1
    rw [h1]
    rfl
  · rename_i h1
    have : c % 2 = 0 := by omega
    rw [this]
    simp

theorem and_one_int (c : Nat) (h : c < 4294967296) : bits .and .u32 (c : Int) 1 = ((c % 2 : Nat) : Int) := by
  have := u32_and_nat c 1 h (by omega)
  rw [Nat.and_one_is_mod] at this
  exact this
theorem bit_int (c : Nat) (h : c < 4294967296) :
    bits .xor .u32 ((c : Int) / 2) (bits .and .u32 3988292384 (-bits .and .u32 (c : Int) 1 % 4294967296)) = ((bitStep c : Nat) : Int) := by
  have e1 : bits .and .u32 (c : Int) 1 = ((c % 2 : Nat) : Int) := by
    have := u32_and_nat c 1 h (by omega)
    rw [Nat.and_one_is_mod] at this
    exact this
  rw [e1]
  have e2 : -((c % 2 : Nat) : Int) % 4294967296 = (((4294967296 - c % 2) % 4294967296 : Nat) : Int) := by omega
  rw [e2]
  have e3 := u32_and_nat 3988292384 ((4294967296 - c % 2) % 4294967296) (by omega) (by omega)
  rw [show ((3988292384 : Nat) : Int) = (3988292384 : Int) from rfl] at e3
  rw [e3, show ((c : Int) / 2) = ((c / 2 : Nat) : Int) by omega]
  rw [u32_xor_nat _ _ (by omega) (Nat.lt_of_le_of_lt Nat.and_le_left (by omega)), bit_prog c h]

theorem not_int (c : Nat) (h : c < 4294967296) : bits .xor .u32 (IntKind.u32).max (c : Int) = ((4294967295 - c : Nat) : Int) := by
  have e := u32_xor_nat 4294967295 c (by omega) h
  rw [show ((4294967295 : Nat) : Int) = (IntKind.u32).max from rfl] at e
  rw [e]
  congr 1
  have h1 : (BitVec.allOnes 32 ^^^ BitVec.ofNat 32 c).toNat = 4294967295 - c := by
    rw [BitVec.allOnes_xor, BitVec.toNat_not, BitVec.toNat_ofNat]
    omega
  rw [← h1, BitVec.toNat_xor, BitVec.toNat_ofNat, BitVec.toNat_allOnes]
  congr 1
  omega

set_option maxRecDepth 100000 in
set_option maxHeartbeats 400000 in
theorem sum_c (A : Option Addr) (cap : Nat) (l : List UInt8) (n : Nat) (hn : n = l.length) (hm : n ≤ 4611686018427387904) (w : World) (hr : Rd 0 w A (bytesV l)) :
    Calls Tryz.prog 145 #[.slice A n cap] w fun e w' => e = .returned (.int .u32 (crc l : Nat)) ∧ w' = w := by
  have HR := Lib.hid hr; clear hr
  have HN := Lib.hid hn; clear hn
  go_enter Tryz.func145, Tryz.ntmps145
  go_wp2
  go_loopw [3, 8] (fun c i wr => ∃ (k : Nat), k ≤ n ∧ i = .int .i64 k ∧ c = .int .u32 (crcFrom 4294967295 (l.take k) : Nat) ∧ wr = w) (fun _ i _ => n - (intOf i).toNat)
  case atStart =>
    exact ⟨0, by omega, rfl, by rw [List.take_zero, Wal.crcFrom_nil]; rfl, rfl⟩
  case round =>
    obtain ⟨k, hk, rfl, rfl, rfl⟩ := hrel
    by_cases hlt : k < n
    · obtain ⟨b, o, hA, hcell⟩ := HR.out.addr (by rw [bytesV_length, ← HN.out]; omega)
      have q0 := (hcell k (by rw [bytesV_length, ← HN.out]; omega)).trans (bytesV_get l k (by rw [← HN.out]; omega))
      clear hcell
      subst hA
      have hc0 : crcFrom 4294967295 (l.take k) < 4294967296 := Wal.crcFrom_lt _ (by omega)
      have HC := Lib.hid hc0; clear hc0
      generalize hcc : crcFrom 4294967295 (l.take k) = c0 at HC ⊢
      go_wp2
      have hx8 := UInt8.toNat_lt l[k]
      have e1 : bits .xor .u32 (c0 : Int) ((l[k].toNat : Int) % 4294967296) = ((c0 ^^^ l[k].toNat : Nat) : Int) := by
        rw [show ((l[k].toNat : Int) % 4294967296) = ((l[k].toNat : Nat) : Int) by omega]
        exact u32_xor_nat _ _ HC.out (by omega)
      rw [e1]
      have HD := Lib.hid (Wal.xor_byte_lt HC.out l[k])
      generalize hdd : c0 ^^^ l[k].toNat = d0 at HD ⊢
      go_loopw [3, 16] (fun c i w2 => ∃ (j : Nat), j ≤ 8 ∧ i = .int .i64 j ∧ c = .int .u32 (Wal.bits d0 j : Nat) ∧ w2 = wr) (fun _ i _ => 8 - (intOf i).toNat)
      case atStart => exact ⟨0, by omega, rfl, by rw [Wal.bits_zero], rfl⟩
      case round =>
        obtain ⟨j, hj, rfl, rfl, rfl⟩ := hrel
        have HB := Lib.hid (Wal.bits_lt HD.out j)
        by_cases hl2 : j < 8
        · generalize hee : Wal.bits d0 j = e0 at HB ⊢
          go_wp2
          rw [bit_int e0 HB.out]
          refine ⟨⟨j + 1, by omega, by go_num, ?_, trivial⟩, by simp [intOf]; omega⟩
          rw [Wal.bits, hee]
        · obtain rfl : j = 8 := by omega
          go_wp2
          refine ⟨⟨k + 1, by omega, rfl, ?_, trivial⟩, by simp [intOf]; omega⟩
          rw [Wal.crcFrom_take_succ _ _ _ (by rw [← HN.out]; omega), hcc, byteStep, hdd]
    · obtain rfl : k = n := by omega
      go_wp2
      rw [not_int _ (Wal.crcFrom_lt _ (by omega))]
      have e1 : l.take k = l := by rw [HN.out]; exact List.take_length
      rw [e1]
      go_ret
      exact ⟨rfl, rfl⟩

set_option maxRecDepth 100000 in
set_option maxHeartbeats 400000 in
theorem rsum_c (A : Option Addr) (cap : Nat) (l : List UInt8) (n : Nat) (hn : n = l.length) (hm : n ≤ 4611686018427387904) (w : World) (hr : Rd 0 w A (bytesV l)) :
    Calls Tryz.prog 40 #[.slice A n cap] w fun e w' => e = .returned (.int .u32 (crc l : Nat)) ∧ w' = w := by
  have HR := Lib.hid hr; clear hr
  have HN := Lib.hid hn; clear hn
  go_enter Tryz.func40, Tryz.ntmps40
  go_wp2
  go_loopw [3, 4] (fun c i wr => ∃ (k : Nat), k ≤ n ∧ i = .int .i64 k ∧ c = .int .u32 (crcFrom 4294967295 (l.take k) : Nat) ∧ wr = w) (fun _ i _ => n - (intOf i).toNat)
  case atStart =>
    exact ⟨0, by omega, rfl, by rw [List.take_zero, Wal.crcFrom_nil]; rfl, rfl⟩
  case round =>
    obtain ⟨k, hk, rfl, rfl, rfl⟩ := hrel
    by_cases hlt : k < n
    · obtain ⟨b, o, hA, hcell⟩ := HR.out.addr (by rw [bytesV_length, ← HN.out]; omega)
      have q0 := (hcell k (by rw [bytesV_length, ← HN.out]; omega)).trans (bytesV_get l k (by rw [← HN.out]; omega))
      clear hcell
      subst hA
      have hc0 : crcFrom 4294967295 (l.take k) < 4294967296 := Wal.crcFrom_lt _ (by omega)
      have HC := Lib.hid hc0; clear hc0
      generalize hcc : crcFrom 4294967295 (l.take k) = c0 at HC ⊢
      go_wp2
      have hx8 := UInt8.toNat_lt l[k]
      have e1 : bits .xor .u32 (c0 : Int) ((l[k].toNat : Int) % 4294967296) = ((c0 ^^^ l[k].toNat : Nat) : Int) := by
        rw [show ((l[k].toNat : Int) % 4294967296) = ((l[k].toNat : Nat) : Int) by omega]
        exact u32_xor_nat _ _ HC.out (by omega)
      rw [e1]
      have HD := Lib.hid (Wal.xor_byte_lt HC.out l[k])
      generalize hdd : c0 ^^^ l[k].toNat = d0 at HD ⊢
      go_loopw [3, 5] (fun c i w2 => ∃ (j : Nat), j ≤ 8 ∧ i = .int .i64 j ∧ c = .int .u32 (Wal.bits d0 j : Nat) ∧ w2 = wr) (fun _ i _ => 8 - (intOf i).toNat)
      case atStart => exact ⟨0, by omega, rfl, by rw [Wal.bits_zero], rfl⟩
      case round =>
        obtain ⟨j, hj, rfl, rfl, rfl⟩ := hrel
        have HB := Lib.hid (Wal.bits_lt HD.out j)
        by_cases hl2 : j < 8
        · generalize hee : Wal.bits d0 j = e0 at HB ⊢
          have ea := and_one_int e0 HB.out
          by_cases hodd : e0 % 2 = 1
          · rw [hodd] at ea
            go_wp2
            refine ⟨⟨j + 1, by omega, rfl, ?_, trivial⟩, by simp [intOf]; omega⟩
            have HE := HB.out
            rw [Wal.bits, hee, bitStep, if_pos hodd, ← u32_xor_nat _ _ (by omega) (by omega)]
            rfl
          · have hev : e0 % 2 = 0 := by omega
            rw [hev] at ea
            go_wp2
            refine ⟨⟨j + 1, by omega, rfl, ?_, trivial⟩, by simp [intOf]; omega⟩
            rw [Wal.bits, hee, bitStep, if_neg hodd]
            rfl
        · obtain rfl : j = 8 := by omega
          go_wp2
          refine ⟨⟨k + 1, by omega, rfl, ?_, trivial⟩, by simp [intOf]; omega⟩
          rw [Wal.crcFrom_take_succ _ _ _ (by rw [← HN.out]; omega), hcc, byteStep, hdd]
    · obtain rfl : k = n := by omega
      go_wp2
      rw [not_int _ (Wal.crcFrom_lt _ (by omega))]
      have e1 : l.take k = l := by rw [HN.out]; exact List.take_length
      rw [e1]
      go_ret
      exact ⟨rfl, rfl⟩
end Go.Proofs.YtnljhabpcoiihaaGreatDoor
set_option linter.all false
namespace Go.Proofs.YtnljhabpcoiihaaGreatDoor
open Go.RowKit
open Wal (fourB numB)

theorem info8_parts : (Tryz.prog.info? 5).map (fun i => (i.zero, i.size, i.bytes)) = some (some (.int .u8 0), 1, 1) := by kernel_rfl

theorem own_new (w : World) (e : TypeId) (xs : Array Value) (n : Nat) (hn : xs.size = n) (hm : n ≤ maxLen) :
    (w.alloc (.cells xs e)).ownsRow w.heap.size e 1 (.slice (some ⟨w.heap.size, 0, none⟩) n n) n xs.toList :=
  ⟨by simp [hn], .inr ⟨w.heap.size, n, xs, rfl, Nat.le_refl _, heap_alloc_new _ _, Nat.le_refl _, hm, by omega, by
    rw [Nat.mul_one, ← hn, List.take_of_length_le (by simp)]⟩⟩

theorem four_cells (x : Nat) (hx : x < 4294967296) :
    (#[.int .u8 ((x : Int) / 16777216), .int .u8 ((x : Int) / 65536 % 256), .int .u8 ((x : Int) / 256 % 256), .int .u8 ((x : Int) % 256)] : Array Value).toList = bytesV (fourB x) := by
  simp only [bytesV, fourB, List.map, UInt8.toNat_ofNat', List.cons.injEq, Value.int.injEq, true_and, and_true]
  refine ⟨?_, ?_, ?_, ?_⟩ <;> omega

set_option maxRecDepth 100000 in
set_option maxHeartbeats 400000 in
theorem four_c (x : Nat) (hx : x < 4294967296) (w : World) :
    Calls Tryz.prog 144 #[.int .u32 (x : Nat)] w fun e w' => ∃ v, e = .returned v ∧ w'.ownsRow w.heap.size 5 1 v 4 (bytesV (fourB x)) ∧ Below w.heap.size w w' := by
  go_enter Tryz.func144, Tryz.ntmps144
  go_wp2
  go_ret
  refine ⟨_, rfl, ?_, bnew _ _⟩
  rw [← four_cells x hx]
  exact own_new _ _ _ 4 rfl (by simp [maxLen])

set_option maxRecDepth 100000 in
set_option maxHeartbeats 400000 in
theorem rfour_c (x : Nat) (hx : x < 4294967296) (w : World) :
    Calls Tryz.prog 39 #[.int .u32 (x : Nat)] w fun e w' => ∃ v, e = .returned v ∧ w'.ownsRow w.heap.size 5 1 v 4 (bytesV (fourB x)) ∧ Below w.heap.size w w' := by
  go_enter Tryz.func39, Tryz.ntmps39
  go_wp2
  go_ret
  refine ⟨_, rfl, ?_, bnew _ _⟩
  rw [← four_cells x hx]
  exact own_new _ _ _ 4 rfl (by simp [maxLen])

theorem or4_int (a b c d : UInt8) :
    bits .or .u32 (bits .or .u32 (bits .or .u32 ((a.toNat : Int) % 4294967296 * 16777216 % 4294967296) ((b.toNat : Int) % 4294967296 * 65536 % 4294967296)) ((c.toNat : Int) % 4294967296 * 256 % 4294967296)) ((d.toNat : Int) % 4294967296)
      = ((numB [a, b, c, d] : Nat) : Int) := by
  have ha := a.toNat_lt; have hb := b.toNat_lt; have hc := c.toNat_lt; have hd := d.toNat_lt
  have e1 : (a.toNat : Int) % 4294967296 * 16777216 % 4294967296 = ((2 ^ 24 * a.toNat : Nat) : Int) := by omega
  have e2 : (b.toNat : Int) % 4294967296 * 65536 % 4294967296 = ((2 ^ 16 * b.toNat : Nat) : Int) := by omega
  have e3 : (c.toNat : Int) % 4294967296 * 256 % 4294967296 = ((2 ^ 8 * c.toNat : Nat) : Int) := by omega
  have e4 : (d.toNat : Int) % 4294967296 = ((d.toNat : Nat) : Int) := by omega
  rw [e1, e2, e3, e4]
  rw [u32_or_nat _ _ (by omega) (by omega), ← Nat.two_pow_add_eq_or_of_lt (by omega) a.toNat]
  rw [show 2 ^ 24 * a.toNat + 2 ^ 16 * b.toNat = 2 ^ 16 * (256 * a.toNat + b.toNat) by omega]
  rw [u32_or_nat _ _ (by omega) (by omega), ← Nat.two_pow_add_eq_or_of_lt (by omega) (256 * a.toNat + b.toNat)]
  rw [show 2 ^ 16 * (256 * a.toNat + b.toNat) + 2 ^ 8 * c.toNat = 2 ^ 8 * (256 * (256 * a.toNat + b.toNat) + c.toNat) by omega]
  rw [u32_or_nat _ _ (by omega) (by omega), ← Nat.two_pow_add_eq_or_of_lt (by omega) (256 * (256 * a.toNat + b.toNat) + c.toNat)]
  simp only [numB, List.foldl]
  congr 1
  omega

set_option maxRecDepth 100000 in
set_option maxHeartbeats 400000 in
theorem number_c (A : Option Addr) (cap : Nat) (l : List UInt8) (n : Nat) (hn : n = l.length) (h4 : 4 ≤ n) (w : World) (hr : Rd 0 w A (bytesV l)) :
    Calls Tryz.prog 113 #[.slice A n cap] w fun e w' => e = .returned (.int .u32 (numB (l.take 4) : Nat)) ∧ ∃ k, w' = w.drewN k := by
  subst hn
  match l, h4 with
  | a :: b :: c :: d :: r, _ =>
    obtain ⟨bb, o, hA, hcell⟩ := hr.addr (by simp [bytesV])
    subst hA
    have q0 := hcell 0 (by simp [bytesV])
    have q1 := hcell 1 (by simp [bytesV])
    have q2 := hcell 2 (by simp [bytesV])
    have q3 := hcell 3 (by simp [bytesV])
    simp only [bytesV, List.map, List.getElem?_cons_zero, List.getElem?_cons_succ, Nat.add_zero] at q0 q1 q2 q3
    clear hcell hr
    have HL : 4 ≤ (a :: b :: c :: d :: r).length := by simp
    generalize (a :: b :: c :: d :: r).length = n at HL
    go_enter Tryz.func113, Tryz.ntmps113
    go_wp2_with fail
    go_region
    go_wp2
    rw [or4_int]
    go_ret
    exact ⟨rfl, 1, rfl⟩
end Go.Proofs.YtnljhabpcoiihaaGreatDoor
