/- A log's file: its name. -/
import Derived.Test.YtnljhabpcoiihaaGreatDoorNext
import Derived.Lib.LaidTab
set_option linter.all false
namespace Go.Proofs.YtnljhabpcoiihaaGreatDoor
open Go.RowKit

/-- what the library's variables hold, in every world that is this one below n -/
def Glob (n : Nat) (w : World) : Prop := ∀ W : World, (∀ k, k < n → W.heap[k]? = w.heap[k]?) →
  Go.Lib.TabIs Tryz.prog W "internal/strconv.uint64pow10" .u64 Go.Lib.pow10Tab ∧
  (∃ tp p, W.var? Tryz.prog "strconv.ErrSyntax" = some #[.iface tp p]) ∧ (∃ tp p, W.var? Tryz.prog "strconv.ErrRange" = some #[.iface tp p])
theorem Glob.below {n : Nat} {w w' : World} (h : Glob n w) (hb : Below n w w') : Glob n w' := fun W hW => h W fun k hk => (hW k hk).trans (hb.block k hk)
theorem Glob.at_ {n : Nat} {w : World} (h : Glob n w) : Go.Lib.TabIs Tryz.prog w "internal/strconv.uint64pow10" .u64 Go.Lib.pow10Tab ∧
    (∃ tp p, w.var? Tryz.prog "strconv.ErrSyntax" = some #[.iface tp p]) ∧ (∃ tp p, w.var? Tryz.prog "strconv.ErrRange" = some #[.iface tp p]) := h w fun _ _ => rfl

theorem below_grow (w : World) (k : Nat) (os : Array Obj) : Below w.heap.size w (Go.Sort.grow (w.drewN k) os) :=
  ⟨rfl, rfl, rfl, by show w.heap.size ≤ (w.heap ++ os).size; rw [Array.size_append]; omega, fun j hj => by
    show (w.heap ++ os)[j]? = _
    rw [Array.getElem?_append_left hj]⟩

theorem bappend (a b : List UInt8) : ((⟨a.toArray⟩ : ByteArray) ++ (⟨b.toArray⟩ : ByteArray)) = ⟨(a ++ b).toArray⟩ := by
  apply ByteArray.ext
  simp

theorem digits_length : ∀ (u k : Nat), u < 10 ^ (k + 1) → (Go.Lib.decDigits u).length ≤ k + 1
  | u, k, h => by
    rw [Go.Lib.decDigits]
    split
    · simp
    · rename_i hu
      match k with
      | 0 => omega
      | k + 1 =>
        have := digits_length (u / 10) k (by rw [Nat.pow_succ] at h; omega)
        simp
        omega
termination_by u => u
decreasing_by omega

set_option maxRecDepth 100000 in
set_option maxHeartbeats 400000 in
theorem file_c (n : Nat) (s : List UInt8) (hs : s.length ≤ 1073741824) (k : Int) (hk0 : -9223372036854775808 ≤ k) (hk1 : k ≤ 9223372036854775807) (w : World) (hg : Glob n w) :
    Calls Tryz.prog 89 #[.string ⟨s.toArray⟩, .int .i64 k] w fun e w' => e = .returned (.string ⟨(Wal.fileB s k).toArray⟩) ∧ Below w.heap.size w w' := by
  unfold Wal.fileB
  by_cases h0 : k < 0
  · rw [if_pos (.inl h0)]
    go_enter Tryz.func89, Tryz.ntmps89
    go_wp2
    go_ret
    exact ⟨rfl, Below.refl _ _⟩
  by_cases h1 : 1000000000 ≤ k
  · rw [if_pos (.inr h1)]
    go_enter Tryz.func89, Tryz.ntmps89
    go_wp2
    go_ret
    exact ⟨rfl, Below.refl _ _⟩
  rw [if_neg (by omega)]
  have hI := Tryz.strconv_Itoa k hk0 hk1 w hg.at_.1
  have hd : Go.Lib.itoa k = Go.Lib.decDigits k.toNat := by unfold Go.Lib.itoa; rw [if_neg h0]
  rw [hd] at hI
  have hdl := digits_length k.toNat 9 (by omega)
  obtain ⟨d, hdd⟩ : ∃ d, Go.Lib.decDigits k.toNat = d := ⟨_, rfl⟩
  rw [hdd] at hI hdl ⊢
  have HI := Lib.hid hI; clear hI hd hdd
  go_enter Tryz.func89, Tryz.ntmps89
  go_wp2_with (go_at_call 121; refine HI.out.mono ?_; rintro e w1 ⟨rfl, q, os, rfl⟩)
  go_ret
  refine ⟨congrArg (fun b => Ending.returned (.string b)) ?_, below_grow _ _ _⟩
  have h46 : ({ data := #[46] } : ByteArray) = ⟨([46] : List UInt8).toArray⟩ := rfl
  rw [h46, bappend, bappend]
end Go.Proofs.YtnljhabpcoiihaaGreatDoor
