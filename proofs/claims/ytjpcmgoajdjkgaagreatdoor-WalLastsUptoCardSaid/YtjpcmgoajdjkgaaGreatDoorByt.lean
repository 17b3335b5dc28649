/- Rows of bytes: Clone, Equal, Grow, Concat. -/
import Derived.Test.YtjpcmgoajdjkgaaGreatDoorStep
import Derived.Test.YtjpcmgoajdjkgaaGreatDoorFour
import Derived.Test.YtjpcmgoajdjkgaaGreatDoorIter
import Derived.Laws.IdiomStrings
import Derived.Laws.BytesArg
set_option linter.all false
namespace Go.Proofs.YtjpcmgoajdjkgaaGreatDoor
open Go.RowKit

theorem wrap_id (x : Int) (h0 : 0 ≤ x) (h1 : x < 9223372036854775808) : wrap64 x = x := by unfold wrap64; omega

theorem info8 : ∃ i0, Tryz.prog.info? 5 = some i0 ∧ i0.zero = some (.int .u8 0) ∧ i0.size = 1 ∧ i0.bytes = 1 := info_parts info8_parts

theorem bclone_c (A : Option Addr) (n cap : Nat) (l : List UInt8) (hn : n = l.length) (w : World) (hl : n ≤ 140737488355328) (hr : Rd 0 w A (bytesV l)) :
    Calls Tryz.prog 42 #[.slice A n cap] w (fun e w' => ∃ v, e = .returned v ∧ w'.ownsRow w.heap.size 5 1 v l.length (bytesV l) ∧ Below w.heap.size w w') := by
  subst hn
  cases A with
  | none =>
    have : l = [] := by
      rcases hr with h | ⟨b, o, _, h, _⟩
      · simpa [bytesV] using h
      · cases h
    subst this
    refine (Tryz.bytes_Clone_nil _ _ w).mono ?_
    rintro e w' ⟨rfl, rfl⟩
    exact ⟨_, rfl, World.ownsRow_nil _ _ _ _, Below.refl _ _⟩
  | some a =>
    refine (Tryz.bytes_Clone_at a l.length cap (l.map fun x => (x.toNat : Int)) w (by simp) hl ?_).mono ?_
    · intro i hi
      obtain ⟨b, o, hA, hc⟩ := hr.addr (by rw [bytesV_length]; omega)
      injection hA with hA
      subst hA
      have := hc i (by rw [bytesV_length]; exact hi)
      rw [bytesV_get l i hi] at this
      have e : (l.map fun x => (x.toNat : Int)).getD i 0 = (l[i].toNat : Int) := by simp [List.getD_eq_getElem?_getD, List.getElem?_eq_getElem hi]
      rw [e, ← this]
      by_cases h0 : i = 0
      · subst h0; rfl
      · simp [Addr.add, h0]
    · rintro e w' ⟨v, rfl, hown, _, hB⟩
      refine ⟨v, rfl, ?_, hB⟩
      have : (l.map fun x => (x.toNat : Int)).map (Value.int .u8) = bytesV l := by simp [bytesV]
      rwa [this] at hown

set_option maxRecDepth 100000 in
set_option maxHeartbeats 400000 in
theorem clone_c (A : Option Addr) (n cap : Nat) (l : List UInt8) (hn : n = l.length) (w : World) (hl : n ≤ 140737488355328) (hr : Rd 0 w A (bytesV l)) :
    Calls Tryz.prog 63 #[.slice A n cap] w (fun e w' => ∃ v, e = .returned v ∧ w'.ownsRow w.heap.size 5 1 v l.length (bytesV l) ∧ Below w.heap.size w w') := by
  have HR := Lib.hid hr
  cases A with
  | none =>
    have : l = [] := by
      rcases hr with h | ⟨b, o, _, h, _⟩
      · simpa [bytesV] using h
      · cases h
    subst this
    obtain rfl : n = 0 := hn
    clear hr
    have q : ∀ (w : World) (a : Option Addr) (n c n' c' : Nat), (binOp .eql 22 (.slice a n c) (.slice none n' c')).run Tryz.prog w = .ok (.bool a.isNone) w := fun w a n c n' c' => Lib.run_eql_slice_nil w _ _ a n c n' c' Tryz.underlying22
    go_enter Tryz.func63, Tryz.ntmps63
    go_wp2
    go_ret
    exact ⟨_, rfl, World.ownsRow_nil _ _ _ _, Below.refl _ _⟩
  | some a =>
    clear hr
    obtain ⟨i0, hi0, hz0, hz1, hz2⟩ := info8
    have HN := Lib.hid hn; clear hn
    have q : ∀ (w : World) (a : Option Addr) (n c n' c' : Nat), (binOp .eql 22 (.slice a n c) (.slice none n' c')).run Tryz.prog w = .ok (.bool a.isNone) w := fun w a n c n' c' => Lib.run_eql_slice_nil w _ _ a n c n' c' Tryz.underlying22
    go_enter Tryz.func63, Tryz.ntmps63
    go_wp2_with (at_builtin; refine wpList_append_rd _ rfl _ _ 22 rfl w.heap.size 5 i0 _ 1 1 Tryz.underlying22 hi0 hz0 hz1 hz2 rfl (by decide) _ _ [] rfl (own_new w 5 #[] 0 rfl (by simp)) _ (some a) n cap (bytesV l) rfl (by rw [bytesV_length, HN.out]; omega) (HR.out.alloc _) (bytesV_one _) ?q1 ?q2 ?q3 ?q4 ?_)
    case q1 => unfold maxLen; omega
    case q2 => omega
    case q3 => simp
    case q4 => intro h; cases h
    intro v' w3 hown3 hgrow hblk
    have hown3 : w3.ownsRow w.heap.size 5 1 v' l.length (bytesV l) := by have h := hown3; rw [HN.out] at h; simpa using h
    obtain ⟨A3, cap3, rfl, hc3, _, _⟩ := own_slice hown3
    go_wp2
    go_ret
    exact ⟨_, rfl, hown3, (bnew w _).grown hgrow (by simp) (fun k hk => by simp [Value.ownBlock] at hk; omega)⟩

theorem run_convert_rd (b : Nat) (w : World) (A : Option Addr) (n cap : Nat) (l : List UInt8) (hn : n = l.length) (hr : Rd b w A (bytesV l)) :
    (convert 22 9 (.slice A n cap)).run Tryz.prog w = .ok (.string ⟨l.toArray⟩) w := by
  subst hn
  have u8_und : Tryz.prog.underlying 5 = some (.int .u8) := by kernel_rfl
  have string_und : Tryz.prog.underlying 9 = some .string := by kernel_rfl
  cases l with
  | nil =>
    rw [run_convert_bytes_string w _ _ _ _ _ cap Tryz.underlying22 u8_und string_und]
    cases A <;> simp [Conv.bytesToString, loadCells]
    all_goals rfl
  | cons x r =>
    obtain ⟨bb, o, rfl, hk⟩ := hr.addr (by simp [bytesV])
    refine run_convert_bytes_back w _ _ _ ⟨bb, o, none⟩ cap (x :: r) Tryz.underlying22 u8_und string_und ?_
    intro j hj
    have := hk j (by simpa [bytesV] using hj)
    rw [bytesV_get _ _ hj] at this
    rw [← this]
    have hadd : (⟨bb, o, none⟩ : Addr).add j = ⟨bb, o + j, none⟩ := by unfold Addr.add; split <;> simp_all
    rw [hadd]

set_option maxRecDepth 100000 in
set_option maxHeartbeats 400000 in
theorem equal_c (A B : Option Addr) (n m c d : Nat) (l k : List UInt8) (hn : n = l.length) (hm : m = k.length) (w : World) (hl : Rd 0 w A (bytesV l)) (hk : Rd 0 w B (bytesV k)) :
    Calls Tryz.prog 40 #[.slice A n c, .slice B m d] w fun e w' => e = .returned (.bool (l == k)) ∧ w' = w := by
  have h1 := run_convert_rd 0 w A n c l hn hl
  have h2 := run_convert_rd 0 w B m d k hm hk
  clear hl hk hn hm
  go_enter Tryz.func40, Tryz.ntmps40
  go_wp2
  go_ret
  exact ⟨rfl, rfl⟩
set_option maxRecDepth 100000 in
set_option maxHeartbeats 400000 in
theorem same_c (A B : Option Addr) (n m c d : Nat) (l k : List UInt8) (hn : n = l.length) (hm : m = k.length) (w : World) (hl : Rd 0 w A (bytesV l)) (hk : Rd 0 w B (bytesV k)) :
    Calls Tryz.prog 10 #[.slice A n c, .slice B m d] w fun e w' => e = .returned (.bool (l == k)) ∧ w' = w := by
  have h1 := run_convert_rd 0 w A n c l hn hl
  have h2 := run_convert_rd 0 w B m d k hm hk
  clear hl hk hn hm
  go_enter Tryz.func10, Tryz.ntmps10
  go_wp2
  go_ret
  exact ⟨rfl, rfl⟩

/-- slices.Grow of nil -/
theorem grow_c (n : Nat) (hn : n ≤ 140737488355328) (w : World) :
    Calls Tryz.prog 67 #[.slice none 0 0, .int .i64 n] w fun e w' => ∃ A c, e = .returned (.slice A 0 c) ∧ w'.ownsRow w.heap.size 5 1 (.slice A 0 c) 0 [] ∧ Below w.heap.size w w' := by
  obtain ⟨i0, hi0, hz0, hz1, hz2⟩ := info8
  by_cases h0 : n = 0
  · subst h0
    refine (Any8.slices_Grow_room Tryz.grow67 none 0 0 0 w (by omega) (by omega) (by omega) (by omega)).mono ?_
    rintro e w' ⟨rfl, rfl⟩
    exact ⟨_, _, rfl, World.ownsRow_nil _ _ _ _, Below.refl _ _⟩
  · refine (Any8.slices_Grow_grow Tryz.grow67 i0 _ hi0 hz0 (by omega) none 0 0 n [] w (by omega) (by omega) (by rw [hz2]; omega) (by omega) (by simp) (fun _ => rfl) (fun a h => by cases h)).mono ?_
    rintro e w' ⟨rfl, rfl⟩
    refine ⟨_, _, rfl, ⟨rfl, .inr ⟨w.heap.size, _, _, rfl, Nat.le_refl _, heap_alloc_new w.drew _, Nat.zero_le _, grownCap_le_maxLen w _ _ _ (by unfold maxLen; omega), ?_, rfl⟩⟩, ?_⟩
    · have := grownCap_ge w (0 + n) 0 (Tryz.grow67_ren.t 25)
      simp [Builtin.zeroCells, Value.cells] at this ⊢
      omega
    · exact (Below.drew (Below.refl _ w)).alloc (Nat.le_refl _) _
end Go.Proofs.YtjpcmgoajdjkgaaGreatDoor
