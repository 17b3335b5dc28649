/- word.Uint of a small number; rlp.number, rlp.Uint. -/
import Derived.Test.YtildkoabfdfjlaaRead
import Derived.Test.YtildkoabfdfjlaaArr
set_option linter.all false
namespace Go.Proofs.Ytildkoabfdfjlaa
open Go.RowKit
open Rlp (It)
theorem u64_info : (Try.prog.info? 22).map (fun i => (i.zero, i.size, i.bytes)) = some (some (.int .u64 0), 1, 8) := by kernel_rfl
theorem neq_word (n : Int) (w : World) : (binOp .neq 65 (.agg #[.int .u64 n, .int .u64 0, .int .u64 0, .int .u64 0]) (.agg #[.int .u64 n, .int .u64 0, .int .u64 0, .int .u64 0])).run Try.prog w = .ok (.bool false) w := by
  obtain ⟨i, hi, _, _, _⟩ := info_parts u64_info
  have := run_neq_ints (P := Try.prog) w 65 22 4 i .u64 Try.underlying65 Try.underlying22 hi (by kernel_rfl) [n, 0, 0, 0] [n, 0, 0, 0] rfl rfl
  simpa using this
set_option maxRecDepth 100000 in
set_option maxHeartbeats 400000 in
theorem uint_c (n : Int) (w : World) :
    Calls Try.prog 63 #[.agg #[.int .u64 n, .int .u64 0, .int .u64 0, .int .u64 0]] w fun e w' => e = .returned (.tuple #[.int .u64 n, .bool true]) ∧ Below w.heap.size w w' := by
  have hq := fun w => neq_word n w
  go_enter Try.func63, Try.ntmps63
  go_wp2_with fail
  go_ret2
  exact ⟨rfl, bnew w _⟩
/-- bytes of at most eight as a number -/
theorem limbArr_small (v : Nat) (h : v < 18446744073709551616) : limbArr v = #[.int .u64 (v : Int), .int .u64 0, .int .u64 0, .int .u64 0] := by
  have h1 : v / 18446744073709551616 = 0 := Nat.div_eq_of_lt h
  have h2 : v / 18446744073709551616 ^ 2 = 0 := Nat.div_eq_of_lt (by omega)
  have h3 : v / 18446744073709551616 ^ 3 = 0 := Nat.div_eq_of_lt (by omega)
  simp [limbArr, h1, h2, h3, Nat.mod_eq_of_lt h]
theorem readBE_small {l : List UInt8} (h : l.length ≤ 8) : Rlp.readBE l < 18446744073709551616 := by
  have h1 := Rlp.readBE_lt l
  have h2 : (256 : Nat) ^ l.length ≤ 256 ^ 8 := Nat.pow_le_pow_right (by decide) h
  have h3 : (256 : Nat) ^ 8 = 18446744073709551616 := by decide
  omega
theorem read8_c (A : Option Addr) (cap : Nat) (l : List UInt8) (hl : l.length ≤ 8) (w : World) (hr : Rd 0 w A (bytesV l)) :
    Calls Try.prog 47 #[.slice A l.length cap] w fun e w' => e = .returned (.tuple #[.agg #[.int .u64 (Rlp.readBE l : Int), .int .u64 0, .int .u64 0, .int .u64 0], .int .i64 0]) ∧ Below w.heap.size w w' := by
  have := read_c A cap l (by omega) w hr
  rw [limbArr_small _ (readBE_small hl)] at this
  exact this

/-- what rlp.Uint tells of an item: the number, and the error -/
def uintPair : It → Nat × Int
  | .list _ => (0, 1)
  | .str b => if 8 < b.length then (0, 3) else if b.headD 1 = 0 then (0, 11) else (Rlp.readBE b, 0)
/-- what 'number' gives: a word with the number p -/
def NumPost (w : World) (p : Nat × Int) (e : Ending) (w' : World) : Prop :=
  e = .returned (.tuple #[.agg #[.int .u64 (p.1 : Int), .int .u64 0, .int .u64 0, .int .u64 0], .int .i64 p.2]) ∧ Below w.heap.size w w'

theorem num_ret {w w1 : World} (B : Nat) (hB0 : w.heap.size ≤ B) (hb : Below w.heap.size w w1) (a b c d : Value) :
    Below w.heap.size w ((((w1.setCell ⟨B, 0, none⟩ a).setCell ⟨B, 1, none⟩ b).setCell ⟨B, 2, none⟩ c).setCell ⟨B, 3, none⟩ d) :=
  (((hb.setCell (p := ⟨B, 0, none⟩) hB0 _).setCell (p := ⟨B, 1, none⟩) hB0 _).setCell (p := ⟨B, 2, none⟩) hB0 _).setCell (p := ⟨B, 3, none⟩) hB0 _

set_option maxRecDepth 100000 in
set_option maxHeartbeats 400000 in
theorem number_list (A : Option Addr) (n cap : Nat) (B : Option Addr) (m cp : Nat) (w : World) :
    Calls Try.prog 24 #[.agg #[.bool true, .slice B m cp, .slice A n cap], .int .i64 8] w (NumPost w (0, 1)) := by
  go_enter Try.func24, Try.ntmps24
  go_wp2_with fail
  exact bodyPost_ret (v := .tuple #[.agg #[.int .u64 0, .int .u64 0, .int .u64 0, .int .u64 0], .int .i64 1]) (by simp [results, Try.results24, go_sem]) rfl ⟨rfl, bnew2 _ _ _⟩
set_option maxRecDepth 100000 in
set_option maxHeartbeats 400000 in
theorem number_big (l : List UInt8) (hl : Hid (8 < l.length)) (A : Option Addr) (n cap : Nat) (B : Option Addr) (cp : Nat) (w : World) :
    Calls Try.prog 24 #[.agg #[.bool false, .slice B l.length cp, .slice A n cap], .int .i64 8] w (NumPost w (0, 3)) := by
  have h1 : decide ((8 : Int) < l.length) = true := by have := hl.out; simp; omega
  go_enter Try.func24, Try.ntmps24
  go_wp2_with fail
  exact bodyPost_ret (v := .tuple #[.agg #[.int .u64 0, .int .u64 0, .int .u64 0, .int .u64 0], .int .i64 3]) (by simp [results, Try.results24, go_sem]) rfl ⟨rfl, bnew2 _ _ _⟩
set_option maxRecDepth 100000 in
set_option maxHeartbeats 400000 in
theorem number_zero (l : List UInt8) (hl : (l.length + 1 : Nat) ≤ 8) (A : Option Addr) (n cap : Nat) (B : Option Addr) (cp : Nat) (w : World) (hr : Rd 0 w B (bytesV (0 :: l))) :
    Calls Try.prog 24 #[.agg #[.bool false, .slice B (l.length + 1) cp, .slice A n cap], .int .i64 8] w (NumPost w (0, 11)) := by
  have h1 : decide ((8 : Int) < (l.length : Int) + 1) = false := by rw [decide_eq_false_iff_not]; omega
  have h2 : decide ((0 : Int) < (l.length : Int) + 1) = true := by rw [decide_eq_true_iff]; omega
  obtain ⟨b, o, rfl, hk⟩ := hr.addr (by simp [bytesV])
  have h0 := hk 0 (by simp [bytesV])
  clear hk hr
  rw [bytesV_get _ _ (by simp)] at h0
  simp only [List.getElem_cons_zero, Nat.add_zero] at h0
  have hbl := cell_lt h0
  have h3 : (((0 : UInt8).toNat : Int) == 0) = true := by decide
  go_enter Try.func24, Try.ntmps24
  go_wp2_with fail
  exact bodyPost_ret (v := .tuple #[.agg #[.int .u64 0, .int .u64 0, .int .u64 0, .int .u64 0], .int .i64 11]) (by simp [results, Try.results24, go_sem]) rfl ⟨rfl, bnew2 _ _ _⟩
set_option maxRecDepth 100000 in
set_option maxHeartbeats 400000 in
theorem number_nil (A : Option Addr) (n cap : Nat) (B : Option Addr) (cp : Nat) (w : World) :
    Calls Try.prog 24 #[.agg #[.bool false, .slice B 0 cp, .slice A n cap], .int .i64 8] w (NumPost w (0, 0)) := by
  go_enter Try.func24, Try.ntmps24
  go_wp2_with (go_at_call 47; have hrd := read8_c B cp [] (by simp) ((w.alloc (.cells #[.bool false, .slice B 0 cp, .slice A n cap] 50)).alloc (.cells #[.int .u64 0, .int .u64 0, .int .u64 0, .int .u64 0] 65)) (Rd.nil _ _ _); simp only [List.length_nil] at hrd; refine hrd.mono ?_; clear hrd; rintro e w1 ⟨rfl, hB⟩; obtain ⟨hk1, hk2⟩ := keptCells hB)
  exact bodyPost_ret (v := .tuple #[.agg #[.int .u64 (Rlp.readBE [] : Int), .int .u64 0, .int .u64 0, .int .u64 0], .int .i64 0]) (by simp [results, Try.results24, go_sem, hk1]) rfl ⟨rfl, num_ret (w.heap.size + 1) (by omega) (bstep (bnew2 w _ _) hB) _ _ _ _⟩
set_option maxRecDepth 100000 in
set_option maxHeartbeats 400000 in
theorem number_ok (a : UInt8) (l : List UInt8) (ha : a ≠ 0) (hl : (l.length + 1 : Nat) ≤ 8) (A : Option Addr) (n cap : Nat) (B : Option Addr) (cp : Nat) (w : World) (hr : Rd 0 w B (bytesV (a :: l))) :
    Calls Try.prog 24 #[.agg #[.bool false, .slice B (l.length + 1) cp, .slice A n cap], .int .i64 8] w (NumPost w (Rlp.readBE (a :: l), 0)) := by
  have HR := Lib.hid hr
  have h1 : decide ((8 : Int) < (l.length : Int) + 1) = false := by rw [decide_eq_false_iff_not]; omega
  have h2 : decide ((0 : Int) < (l.length : Int) + 1) = true := by rw [decide_eq_true_iff]; omega
  obtain ⟨b, o, rfl, hk⟩ := hr.addr (by simp [bytesV])
  have h0 := hk 0 (by simp [bytesV])
  clear hk hr
  rw [bytesV_get _ _ (by simp)] at h0
  simp only [List.getElem_cons_zero, Nat.add_zero] at h0
  have hbl := cell_lt h0
  have h3 : ((a.toNat : Int) == 0) = false := by
    rw [beq_eq_false_iff_ne]; intro h; apply ha; exact UInt8.toNat_inj.1 (by simpa using h)
  go_enter Try.func24, Try.ntmps24
  go_wp2_with (go_at_call 47; refine (read8_c _ cp (a :: l) (by simpa using hl) _ ((HR.out.alloc _).alloc _)).mono ?_; rintro e w1 ⟨rfl, hB⟩; obtain ⟨hk1, hk2⟩ := keptCells hB)
  exact bodyPost_ret (v := .tuple #[.agg #[.int .u64 (Rlp.readBE (a :: l) : Int), .int .u64 0, .int .u64 0, .int .u64 0], .int .i64 0]) (by simp [results, Try.results24, go_sem, hk1]) rfl ⟨rfl, num_ret (w.heap.size + 1) (by omega) (bstep (bnew2 w _ _) hB) _ _ _ _⟩

theorem number_c (x : It) (c0 c1 c2 : Value) (w : World) (h : ItemR 0 w x c0 c1 c2) :
    Calls Try.prog 24 #[.agg #[c0, c1, c2], .int .i64 8] w (NumPost w (uintPair x)) := by
  cases x with
  | list its =>
    simp only [ItemR] at h
    obtain ⟨rfl, ⟨B, cp, rfl⟩, A, cap, cs, rfl, _⟩ := h
    exact number_list A _ cap B 0 cp w
  | str l =>
    simp only [ItemR] at h
    obtain ⟨rfl, ⟨A, cap, rfl, hc, hr⟩, B, cap', rfl⟩ := h
    by_cases h8 : 8 < l.length
    · simp only [uintPair, if_pos h8]
      exact number_big l h8 B 0 cap' A cap w
    · simp only [uintPair, if_neg h8]
      match l, h8, hr with
      | [], _, _ => exact number_nil B 0 cap' A cap w
      | a :: l, h8, hr =>
        by_cases ha : a = 0
        · subst ha
          rw [if_pos (show (0 :: l : List UInt8).headD 1 = 0 from rfl)]
          exact number_zero l (by simp at h8; omega) B 0 cap' A cap w hr
        · rw [if_neg (show ¬ (a :: l).headD 1 = 0 from ha)]
          exact number_ok a l ha (by simp at h8; omega) B 0 cap' A cap w hr

set_option maxRecDepth 100000 in
set_option maxHeartbeats 400000 in
theorem uint_item_c (x : It) (c0 c1 c2 : Value) (w : World) (h : ItemR 0 w x c0 c1 c2) :
    Calls Try.prog 13 #[.agg #[c0, c1, c2]] w fun e w' => e = .returned (.tuple #[.int .u64 ((uintPair x).1 : Int), .int .i64 (uintPair x).2]) ∧ Below w.heap.size w w' := by
  obtain ⟨f, A1, k1, cp1, B1, m1, d1, rfl, rfl, rfl⟩ := h.shape
  have HI := Lib.hid h; clear h
  go_enter Try.func13, Try.ntmps13
  go_wp2_with (go_at_call 24; refine (number_c x _ _ _ _ (ItemR.below (bnew _ _) _ _ _ _ HI.out)).mono ?_; rintro e w1 ⟨rfl, hB⟩; obtain ⟨hk1, hk2⟩ := keptCells hB)
  go_ret2
  exact ⟨rfl, (bstep (bnew w _) hB).alloc (bstep (bnew w _) hB).size _⟩
end Go.Proofs.Ytildkoabfdfjlaa
