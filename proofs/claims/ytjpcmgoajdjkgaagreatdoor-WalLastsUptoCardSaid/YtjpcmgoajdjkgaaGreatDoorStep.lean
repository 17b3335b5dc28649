/- The names of files and logs, and a disk's step. -/
import Derived.Test.YtjpcmgoajdjkgaaGreatDoorDsk
import Derived.Test.YtjpcmgoajdjkgaaGreatDoorShelf
import Derived.LoopN
set_option linter.all false
namespace Go.Proofs.YtjpcmgoajdjkgaaGreatDoor
open Go.RowKit

theorem pred_odd (w : World) : PredAt Tryz.prog 46 #[] encR oddW w := fun W x _ => odd_c x W
theorem pred_dodd (w : World) : PredAt Tryz.prog 87 #[] encR oddD w := fun W x _ => dodd_c x W

theorem contains_odd (s : List UInt8) (w : World) :
    Calls Tryz.prog 47 #[.string ⟨s.toArray⟩, .func (.func 46) #[] #[]] w fun e w' => e = .returned (.bool (s.any fun b => oddW b.toNat)) ∧ Below w.heap.size w w' := by
  have h := Tryz.strings_ContainsFunc 46 #[] (enters_of Tryz.func46 (by kernel_rfl) rfl) oddW ⟨s.toArray⟩ w (pred_odd w)
  rw [idx_any _ oddW_great] at h
  exact h
theorem contains_dodd (s : List UInt8) (w : World) :
    Calls Tryz.prog 47 #[.string ⟨s.toArray⟩, .func (.func 87) #[] #[]] w fun e w' => e = .returned (.bool (s.any fun b => oddD b.toNat)) ∧ Below w.heap.size w w' := by
  have h := Tryz.strings_ContainsFunc 87 #[] (enters_of Tryz.func87 (by kernel_rfl) rfl) oddD ⟨s.toArray⟩ w (pred_dodd w)
  rw [idx_any _ oddD_great] at h
  exact h

set_option maxRecDepth 100000 in
set_option maxHeartbeats 400000 in
theorem name_c (s : List UInt8) (hm : s.length ≤ 4611686018427387904) (w : World) :
    Calls Tryz.prog 15 #[.string ⟨s.toArray⟩] w fun e w' => e = .returned (.bool (Wal.nameB s)) ∧ Below w.heap.size w w' := by
  rw [nameB_any]
  obtain ⟨a, ha⟩ : ∃ a, (s.any fun b => oddW b.toNat) = a := ⟨_, rfl⟩
  have hc := fun w => contains_odd s w
  rw [ha] at hc ⊢
  have HC := Lib.hid hc; clear hc
  clear ha
  go_enter Tryz.func15, Tryz.ntmps15
  go_wp2_with (go_at_call 47; refine (HC.out _).mono ?_; rintro e w1 ⟨rfl, hb1⟩)
  all_goals
    go_ret
    refine ⟨congrArg (fun b => Ending.returned (.bool b)) ?_, by first | exact hb1 | exact Below.refl _ _⟩
    first
      | (cases s <;> simp_all; done)
      | (cases s <;> simp_all; omega)
      | simp_all

set_option maxRecDepth 100000 in
set_option maxHeartbeats 400000 in
theorem dname_c (s : List UInt8) (hm : s.length ≤ 4611686018427387904) (w : World) :
    Calls Tryz.prog 72 #[.string ⟨s.toArray⟩] w fun e w' => e = .returned (.bool (dnameB s)) ∧ Below w.heap.size w w' := by
  unfold dnameB
  obtain ⟨a, ha⟩ : ∃ a, (s.any fun b => oddD b.toNat) = a := ⟨_, rfl⟩
  have hc := fun w => contains_dodd s w
  rw [ha] at hc ⊢
  have HC := Lib.hid hc; clear hc
  clear ha
  go_enter Tryz.func72, Tryz.ntmps72
  go_wp2_with (go_at_call 47; refine (HC.out _).mono ?_; rintro e w1 ⟨rfl, hb1⟩)
  all_goals
    go_ret
    refine ⟨congrArg (fun b => Ending.returned (.bool b)) ?_, by first | exact hb1 | exact Below.refl _ _⟩
    first
      | (cases s <;> simp_all; done)
      | (cases s <;> simp_all; omega)
      | simp_all

set_option maxRecDepth 100000 in
set_option maxHeartbeats 400000 in
theorem nok_c (s : List UInt8) (hm : s.length ≤ 4611686018427387904) (w : World) :
    Calls Tryz.prog 71 #[.string ⟨s.toArray⟩] w fun e w' => e = .returned (.bool (!dnameB s)) ∧ Below w.heap.size w w' := by
  go_enter Tryz.func71, Tryz.ntmps71
  go_wp2_with (go_at_call 72; refine (dname_c s hm _).mono ?_; rintro e w1 ⟨rfl, hb1⟩)
  go_ret
  exact ⟨rfl, hb1⟩

set_option maxRecDepth 100000 in
set_option maxHeartbeats 400000 in
theorem idxf_c (s : List UInt8) (hm : s.length ≤ 4611686018427387904) (b o c : Nat) (w : World) (hc : w.cell? ⟨b, o, none⟩ = some (.string ⟨s.toArray⟩)) :
    Calls Tryz.prog 86 #[.slice (some ⟨b, o, none⟩) 1 c, .func (.func 71) #[] #[]] w fun e w' => e = .returned (.int .i64 (if dnameB s then -1 else 0)) ∧ Below w.heap.size w w' := by
  go_enter Tryz.func86, Tryz.ntmps86
  go_wp2
  refine wp_loop_rounds 2 ?_
  rw [rounds_succ]
  go_wp2_with fail
  refine (nok_c s hm _).mono ?_
  cases hd : dnameB s with
  | true =>
    rintro e w1 ⟨rfl, hb1⟩
    go_wp2
    rw [rounds_succ]
    go_wp2
    go_ret
    exact ⟨rfl, hb1⟩
  | false =>
    rintro e w1 ⟨rfl, hb1⟩
    go_wp2
    all_goals
      go_ret
      exact ⟨rfl, hb1⟩

set_option maxRecDepth 100000 in
set_option maxHeartbeats 400000 in
theorem cf_c (s : List UInt8) (hm : s.length ≤ 4611686018427387904) (b o c : Nat) (w : World) (hc : w.cell? ⟨b, o, none⟩ = some (.string ⟨s.toArray⟩)) :
    Calls Tryz.prog 70 #[.slice (some ⟨b, o, none⟩) 1 c, .func (.func 71) #[] #[]] w fun e w' => e = .returned (.bool (!dnameB s)) ∧ Below w.heap.size w w' := by
  go_enter Tryz.func70, Tryz.ntmps70
  have hI := idxf_c s hm b o c w hc
  cases hd : dnameB s with
  | true =>
    rw [hd] at hI
    go_wp2_with (go_at_call 86; refine hI.mono ?_; rintro e w1 ⟨rfl, hb1⟩)
    go_ret
    exact ⟨rfl, hb1⟩
  | false =>
    rw [hd] at hI
    go_wp2_with (go_at_call 86; refine hI.mono ?_; rintro e w1 ⟨rfl, hb1⟩)
    go_ret
    exact ⟨rfl, hb1⟩
end Go.Proofs.YtjpcmgoajdjkgaaGreatDoor
