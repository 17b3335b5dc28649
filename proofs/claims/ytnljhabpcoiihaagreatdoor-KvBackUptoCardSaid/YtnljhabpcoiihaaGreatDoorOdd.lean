/- The two function literals that tell odd runes. -/
import Derived.Test.YtnljhabpcoiihaaGreatDoorNameP
import Derived.Test.YtnljhabpcoiihaaGreatDoorTurn
import Derived.Test.YtnljhabpcoiihaaGreatDoorProg
import Derived.Shelf.GgClosure.Gives
set_option linter.all false
namespace Go.Proofs.YtnljhabpcoiihaaGreatDoor
open Go.RowKit

set_option maxRecDepth 100000 in
set_option maxHeartbeats 400000 in
theorem odd_c (c : Nat) (w : World) :
    Calls Tryz.prog 102 #[.int .i32 (c : Int)] w fun e w' => e = .returned (.bool (oddW c)) ∧ ∃ q, w' = w.drewN q := by
  go_enter Tryz.func102, Tryz.ntmps102
  go_wp2
  all_goals
    go_ret
    refine ⟨congrArg (fun b => Ending.returned (.bool b)) ?_, 0, rfl⟩
    rw [Bool.eq_iff_iff]
    simp [oddW, Wal.plainB]
    omega

set_option maxRecDepth 100000 in
set_option maxHeartbeats 400000 in
theorem dodd_c (c : Nat) (w : World) :
    Calls Tryz.prog 101 #[.int .i32 (c : Int)] w fun e w' => e = .returned (.bool (oddD c)) ∧ ∃ q, w' = w.drewN q := by
  go_enter Tryz.func101, Tryz.ntmps101
  go_wp2
  all_goals
    go_ret
    refine ⟨congrArg (fun b => Ending.returned (.bool b)) ?_, 0, rfl⟩
    rw [Bool.eq_iff_iff]
    simp [oddD]
    omega
end Go.Proofs.YtnljhabpcoiihaaGreatDoor
