/- Same: two rows of bytes compared. -/
import Derived.Test.YtildkoabfdfjlaaItem
import Derived.Laws.IdiomStrings
import Derived.Laws.BytesArg
set_option linter.all false
namespace Go.Proofs.Ytildkoabfdfjlaa
open Go.RowKit

theorem string_und : Try.prog.underlying 9 = some .string := by kernel_rfl
theorem u8_und : Try.prog.underlying 5 = some (.int .u8) := by kernel_rfl

theorem run_convert_rd (b : Nat) (w : World) (A : Option Addr) (n cap : Nat) (l : List UInt8) (hn : n = l.length) (hr : Rd b w A (bytesV l)) :
    (convert 31 9 (.slice A n cap)).run Try.prog w = .ok (.string ⟨l.toArray⟩) w := by
  subst hn
  cases l with
  | nil =>
    rw [run_convert_bytes_string w _ _ _ _ _ cap Try.underlying31 u8_und string_und]
    cases A <;> simp [Conv.bytesToString, loadCells]
    all_goals rfl
  | cons x r =>
    obtain ⟨bb, o, rfl, hk⟩ := hr.addr (by simp [bytesV])
    refine run_convert_bytes_back w _ _ _ ⟨bb, o, none⟩ cap (x :: r) Try.underlying31 u8_und string_und ?_
    intro j hj
    have := hk j (by simpa [bytesV] using hj)
    rw [bytesV_get _ _ hj] at this
    rw [← this]
    have hadd : (⟨bb, o, none⟩ : Addr).add j = ⟨bb, o + j, none⟩ := by unfold Addr.add; split <;> simp_all
    rw [hadd]

set_option maxRecDepth 100000 in
set_option maxHeartbeats 400000 in
theorem same_c (A B : Option Addr) (n m c d : Nat) (l k : List UInt8) (hn : n = l.length) (hm : m = k.length) (w : World) (hl : Rd 0 w A (bytesV l)) (hk : Rd 0 w B (bytesV k)) :
    Calls Try.prog 10 #[.slice A n c, .slice B m d] w fun e w' => e = .returned (.bool (l == k)) ∧ w' = w := by
  have h1 := run_convert_rd 0 w A n c l hn hl
  have h2 := run_convert_rd 0 w B m d k hm hk
  clear hl hk hn hm
  go_enter Try.func10, Try.ntmps10
  go_wp2
  go_ret
  exact ⟨rfl, rfl⟩
end Go.Proofs.Ytildkoabfdfjlaa
