/- What rlp's List, ask and head do. -/
import Derived.Test.YtildkoabfdfjlaaItem
set_option linter.all false
namespace Go.Proofs.Ytildkoabfdfjlaa
open Go.RowKit
open Rlp (It)
/-- the panic that 'ask' raises -/
def flt (e : Int) : List PanicEntry := [{ v := .iface 101 (.int .i64 e), recovered := false }]
theorem ask_t (e : Int) (w : World) : Calls Try.prog 28 #[.bool true, .int .i64 e] w fun r w' => r = .returned (.tuple #[]) ∧ w = w' := by
  go_enter Try.func28, Try.ntmps28
  go_wp2
  go_end0
  exact ⟨rfl, rfl⟩
theorem ask_f (e : Int) (w : World) : Calls Try.prog 28 #[.bool false, .int .i64 e] w fun r w' => r = .panicked (flt e) ∧ w = w' := by
  go_enter Try.func28, Try.ntmps28
  go_wp2
  exact ⟨rfl, rfl, rfl⟩

theorem list_c (A : Option Addr) (cap : Nat) (l : List It) (cs : List Value) (w : World) (hl : Hid (l.length * 56 ≤ 140737488355328)) (hr : Hid (Rd 0 w A cs ∧ ItemsR 0 w l cs)) (hA : Hid (A = none → l.length = 0)) :
    Calls Try.prog 15 #[.slice A l.length cap] w fun e w' => ∃ A' cap', e = .returned (.agg #[.bool true, .slice none 0 0, .slice A' l.length cap']) ∧ l.length ≤ cap' ∧ Rd w.heap.size w' A' cs ∧ Below w.heap.size w w' := by
  go_enter Try.func15, Try.ntmps15
  go_wp2_with (go_at_call 30; refine (clone_items_c A cap l cs _ hl ⟨hr.out.1.alloc _, ItemsR.below (bnew w _) _ _ hr.out.2⟩ hA.out).mono ?_; rintro e w1 ⟨v, rfl, hown, hB⟩; obtain ⟨hk1, hk2⟩ := keptCells hB; obtain ⟨A', cap', rfl, hcap, _, _⟩ := own_slice hown)
  have hR := (((Rd.of_own hown).setCell (p := ⟨w.heap.size, 0, none⟩) (by simp) (.bool true)).setCell (p := ⟨w.heap.size, 1, none⟩) (by simp) (.slice none 0 0)).setCell (p := ⟨w.heap.size, 2, none⟩) (by simp) (.slice A' l.length cap')
  refine bodyPost_ret (v := .agg #[.bool true, .slice none 0 0, .slice A' l.length cap']) (by simp [results, Try.results15, go_sem, hk1]) rfl ⟨_, _, rfl, hcap, hR.mono (by simp), ?_⟩
  exact (((bstep (bnew w _) hB).setCell (p := ⟨w.heap.size, 0, none⟩) (Nat.le_refl _) _).setCell (p := ⟨w.heap.size, 1, none⟩) (Nat.le_refl _) _).setCell (p := ⟨w.heap.size, 2, none⟩) (Nat.le_refl _) _

/-- a call returned a row of its own with these bytes -/
def GivesOwn (w : World) (l : List UInt8) (e : Ending) (w' : World) : Prop := ∃ v, e = .returned v ∧ w'.ownsRow w.heap.size 5 1 v l.length (bytesV l) ∧ Below w.heap.size w w'

theorem head_small (base n : Nat) (hn : n < 56) (hb : base ≤ 192) (w : World) :
    Calls Try.prog 50 #[.int .u8 base, .int .i64 n] w (GivesOwn w (Rlp.head base n)) := by
  have hh : Rlp.head base n = [UInt8.ofNat (base + n)] := by unfold Rlp.head; rw [if_pos hn]
  have HH := Lib.hid hh; clear hh
  go_enter Try.func50, Try.ntmps50
  go_wp2_with fail
  go_ret
  refine ⟨_, rfl, ?_, bnew w _⟩
  have := World.ownsRow_lit (base := w.heap.size) (e := 5) (size := 1) w #[.int .u8 ((base : Int) + n)] 1 (Nat.le_refl _) (by simp [maxLen]) rfl
  rw [HH.out]
  simpa [bytesV, UInt8.toNat_ofNat', show (base + n) % 256 = base + n by omega] using this
set_option maxRecDepth 100000 in
set_option maxHeartbeats 400000 in
theorem head_big (base n : Nat) (hn : 56 ≤ n) (hn2 : n ≤ 65536) (hb : base ≤ 192) (w : World) :
    Calls Try.prog 50 #[.int .u8 base, .int .i64 n] w (GivesOwn w (Rlp.head base n)) := by
  have hs := Rlp.short_length_le (n := n) (k := 3) (by omega)
  have hh : Rlp.head base n = UInt8.ofNat (base + 55 + (Rlp.short n).length) :: Rlp.short n := by unfold Rlp.head; rw [if_neg (by omega)]
  have HH := Lib.hid hh; clear hh
  obtain ⟨i0, hi0, hz0, hz1, hz2⟩ := info_parts u8_info
  go_enter Try.func50, Try.ntmps50
  go_wp2_with (first
    | (go_at_call 32; refine (of_c n _).mono ?_; rintro e w1 ⟨rfl, hB⟩)
    | (go_at_call 51; refine (short_c n 0 0 0 (by omega) (by omega) (by omega) (by omega) (of_limbs n (by omega)) _).mono ?_; rintro e w2 ⟨v, rfl, hv, hB2⟩; rw [of_num, Int.toNat_natCast] at hv; obtain ⟨A2, cap2, rfl, hc2, hr2⟩ := hv; have HR := Lib.hid hr2; clear hr2)
    | (at_builtin; refine wpList_append_rd _ rfl _ _ 31 rfl w.heap.size 5 i0 _ 1 1 Try.underlying31 hi0 hz0 hz1 hz2 rfl (by decide) _ 1 [.int .u8 ((base : Int) + 55 + (Rlp.short n).length)] rfl
        (World.ownsRow_lit w2 #[.int .u8 ((base : Int) + 55 + (Rlp.short n).length)] 1 ?q0 (by simp [maxLen]) rfl) _ A2 (Rlp.short n).length cap2 (bytesV (Rlp.short n)) rfl (by rw [bytesV_length]; omega) (HR.out.alloc _) (bytesV_one _) ?q1 ?q2 ?q3 ?q4 ?_))
  case q0 => exact Nat.le_trans hB.size hB2.size
  case q1 => unfold maxLen; omega
  case q2 => omega
  case q3 => have := Nat.le_trans hB.size hB2.size; simp; omega
  case q4 => intro h; have := HR.out.none_len h; rw [← bytesV_length, this]; rfl
  intro v' w3 hown hgrow hblk
  obtain ⟨A', cap', rfl, _, _, _⟩ := own_slice hown
  go_wp2
  go_ret
  refine ⟨_, rfl, ?_, ?_⟩
  · rw [HH.out]
    have e : 1 + (Rlp.short n).length = (UInt8.ofNat (base + 55 + (Rlp.short n).length) :: Rlp.short n).length := by simp; omega
    have e2 : Value.int .u8 ((base : Int) + 55 + (Rlp.short n).length) :: bytesV (Rlp.short n) = bytesV (UInt8.ofNat (base + 55 + (Rlp.short n).length) :: Rlp.short n) := by
      simp [bytesV, UInt8.toNat_ofNat', show (base + 55 + (Rlp.short n).length) % 256 = base + 55 + (Rlp.short n).length by omega]
    rw [← e, ← e2]
    exact hown
  · exact (((bstep hB hB2).alloc (Nat.le_trans hB.size hB2.size) _).grown hgrow (by have := Nat.le_trans hB.size hB2.size; simp; omega) (by intro k hk; simp [Value.ownBlock] at hk; have := Nat.le_trans hB.size hB2.size; omega))
theorem head_c (base n : Nat) (hn2 : n ≤ 65536) (hb : base ≤ 192) (w : World) :
    Calls Try.prog 50 #[.int .u8 base, .int .i64 n] w (GivesOwn w (Rlp.head base n)) := by
  by_cases h : n < 56
  · exact head_small base n h hb w
  · exact head_big base n (by omega) hn2 hb w
end Go.Proofs.Ytildkoabfdfjlaa
