/- WalNils by the contracts. -/
import Derived.Test.YtjpcmgoajdjkgaaGreatDoorAlW
import Derived.Test.YtjpcmgoajdjkgaaGreatDoorNilC
set_option linter.all false
namespace Go.Proofs.YtjpcmgoajdjkgaaGreatDoor
open Go.RowKit

set_option maxRecDepth 100000 in
set_option maxHeartbeats 400000 in
theorem nils_c (v : Value) (k : Int) (w : World) (hg : Glob w.heap.size w) :
    Calls Tryz.prog 7 #[v, .int .i64 k] w fun e w' => e = .returned (.bool true) ∧ Below w.heap.size w w' := by
  have HG := Lib.hid hg; clear hg
  go_enter Tryz.func7, Tryz.ntmps7
  go_wp2_with (first
    | (go_at_call 38; refine (get_nil k w).mono ?_; rintro e w1 ⟨rfl, rfl⟩)
    | (go_at_call 24; refine (open_nil _ _ _).mono ?_; rintro e w2 ⟨rfl, hb2⟩; have H2 := Lib.hid hb2; clear hb2)
    | (go_at_call 30; refine (append_nil _ _).mono ?_; rintro e w3 ⟨rfl, hb3⟩; have H3 := Lib.hid (bstep H2.out hb3); clear hb3)
    | (go_at_call 31; refine (sync_nil _).mono ?_; rintro e w4 ⟨rfl, rfl⟩)
    | (go_at_call 39; refine (trim_nil _ _).mono ?_; rintro e w5 ⟨rfl, rfl⟩)
    | (go_at_call 36; refine (first_nil _).mono ?_; rintro e w6 ⟨rfl, rfl⟩)
    | (go_at_call 37; refine (end_nil _).mono ?_; rintro e w7 ⟨rfl, rfl⟩)
    | (go_at_call 19; refine (alive_c _ ((HG.out.below H3.out).mono H3.out.size)).mono ?_; rintro e w8 ⟨rfl, hb8⟩; have H8 := Lib.hid (bstep H3.out hb8); clear hb8))
  go_ret
  exact ⟨rfl, H8.out⟩
end Go.Proofs.YtjpcmgoajdjkgaaGreatDoor
