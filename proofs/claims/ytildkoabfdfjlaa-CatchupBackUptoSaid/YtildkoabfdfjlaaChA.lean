/- chain's small helpers: need, caught, small, num. -/
import Derived.Test.YtildkoabfdfjlaaCaught
import Derived.Test.YtildkoabfdfjlaaDec
set_option linter.all false
namespace Go.Proofs.Ytildkoabfdfjlaa
open Go.RowKit
open Rlp (It)

/-- chain's panic -/
def wrg (e : Int) : List PanicEntry := [{ v := .iface 105 (.int .i64 e), recovered := false }]

set_option maxRecDepth 100000 in
set_option maxHeartbeats 400000 in
theorem need_t (w : World) : Calls Try.prog 52 #[.bool true] w fun e w' => e = .returned (.tuple #[]) ∧ w' = w := by
  go_enter Try.func52, Try.ntmps52
  go_wp2
  go_end0
  exact ⟨rfl, rfl⟩
set_option maxRecDepth 100000 in
set_option maxHeartbeats 400000 in
theorem need_f (w : World) : Calls Try.prog 52 #[.bool false] w fun e w' => e = .panicked (wrg 11) ∧ w' = w := by
  go_enter Try.func52, Try.ntmps52
  go_wp2
  exact ⟨rfl, rfl, rfl⟩

set_option maxRecDepth 100000 in
set_option maxHeartbeats 400000 in
theorem wcaught_panicking (p : Addr) (x e : Int) (w : World) (hc : w.cell? p = some (.int .i64 x)) (hz : w.frozen? p = false) :
    CallsD Try.prog 35 #[.pointer (some p)] (.panicking (wrg e)) w fun r u' w' =>
      r = .returned (.tuple #[]) ∧ u' = .panicking [{ v := .iface 105 (.int .i64 e), recovered := true }] ∧ w' = w.setCell p (.int .i64 e) := by
  refine callsD_of_wpS Try.func35 rfl fun c₀ cs hu => ?_
  unfold wrg at hu
  apply wpS_seq
  apply wpS_region
  simp [wpOpsS, go_sem, recoverD, hu, Try.ntmps35, Exit.thenS]
  simp only [Array.replicate_succ, Array.replicate_zero, List.push_toArray, List.append_toArray, List.nil_append, List.cons_append, List.setIfInBounds_toArray, List.set]
  refine wpS_of_wp ?_
  have hta : ∀ (w : World), (Instr.typeAssert (.iface 105 (.int .i64 e)) 20 105 true).run Try.prog w = .ok (.tuple #[.int .i64 e, .bool true]) w := fun w => by kernel_rfl
  clear hu
  go_wp2
  simp [bodyPostS, results, Try.results35]
set_option maxRecDepth 100000 in
set_option maxHeartbeats 400000 in
theorem wcaught_idle (p : Addr) (w : World) :
    CallsD Try.prog 35 #[.pointer (some p)] .returning w fun e u' w' => e = .returned (.tuple #[]) ∧ u' = .returning ∧ w' = w := by
  refine callsD_of_wpS Try.func35 rfl fun c₀ cs hu => ?_
  apply wpS_seq
  apply wpS_region
  simp [wpOpsS, go_sem, recoverD, hu, Try.ntmps35, Exit.thenS]
  simp only [Array.replicate_succ, Array.replicate_zero, List.push_toArray, List.append_toArray, List.nil_append, List.cons_append, List.setIfInBounds_toArray, List.set]
  refine wpS_of_wp ?_
  go_wp2
  cases c₀
  simp_all [bodyPostS, results, Try.results35]

set_option maxRecDepth 100000 in
set_option maxHeartbeats 400000 in
theorem cnum_c (n : Int) (hn : n ≤ 9223372036854775807) (w : World) :
    Calls Try.prog 59 #[.int .i64 n] w (GivesItem w (.str (Rlp.short n.toNat))) := by
  have hmx : (max n 0).toNat = n.toNat := by omega
  have hle := Lib.hid (show max n 0 ≤ 18446744073709551615 by omega)
  have h0 : 0 ≤ max n 0 := by omega
  have HC := Lib.hid (fun w1 => num_c (max n 0) h0 hle w1)
  rw [hmx] at HC
  go_enter Try.func59, Try.ntmps59
  go_wp2_with (go_at_call 16; refine (HC.out _).mono ?_; rintro e w1 ⟨c0, c1, c2, rfl, hI, hB⟩; obtain ⟨hk1, hk2⟩ := keptCells hB; obtain ⟨f, A, k, c, B, m, d, rfl, rfl, rfl⟩ := hI.shape)
  obtain ⟨h1, h2⟩ := item_ret (w := w) w.heap.size (by omega) (ItemR.mono (by simp) _ _ _ _ hI) (bstep (bnew w _) hB)
  exact bodyPost_ret (v := .agg #[.bool f, .slice A k c, .slice B m d]) (by simp [results, Try.results59, go_sem, hk1]) rfl ⟨_, _, _, rfl, h1, h2⟩

/-- every number is 0..2^31-1 -/
def smalls (l : List Int) : Bool := l.all fun n => decide (0 ≤ n ∧ n ≤ 2147483647)
def intsV (l : List Int) : List Value := l.map (Value.int .i64)

set_option maxRecDepth 100000 in
set_option maxHeartbeats 400000 in
theorem small_c (A : Option Addr) (cap : Nat) (l : List Int) (hl : l.length ≤ 1000) (w : World) (hr : Rd 0 w A (intsV l)) :
    Calls Try.prog 53 #[.slice A l.length cap] w fun e w' => e = .returned (.bool (smalls l)) ∧ w' = w := by
  have HR := Lib.hid hr; clear hr
  go_enter Try.func53, Try.ntmps53
  go_wp2
  go_loopw [7] (fun i wr => ∃ k : Nat, i = .int .i64 k ∧ k ≤ l.length ∧ wr = w ∧ smalls l = smalls (l.drop k)) (fun i _ => l.length - (intOf i).toNat)
  case atStart => exact ⟨0, rfl, by omega, rfl, rfl⟩
  case round =>
    obtain ⟨k, rfl, hk, rfl, hs⟩ := hrel
    by_cases hlt : k < l.length
    · obtain ⟨b, o, rfl, hc⟩ := HR.out.addr (by simp [intsV]; omega)
      have hck := hc k (by simpa [intsV] using hlt)
      have hget : (intsV l)[k]? = some (.int .i64 l[k]) := by simp [intsV, List.getElem?_eq_getElem hlt]
      rw [hget] at hck
      have hdrop : l.drop k = l[k] :: l.drop (k + 1) := List.drop_eq_getElem_cons hlt
      obtain ⟨v, hv⟩ : ∃ v, v = l[k] := ⟨_, rfl⟩
      rw [← hv] at hck hdrop
      rw [hdrop] at hs
      clear hc hget hdrop hv
      by_cases h1 : v < 0
      · have h2 : smalls l = false := by rw [hs]; simp [smalls]; omega
        have hd : decide (v < 0) = true := by simpa using h1
        clear hs
        go_wp2
        go_ret
        first | exact ⟨rfl, rfl⟩ | exact ⟨by rw [h2]; rfl, rfl⟩
      · by_cases h3 : 2147483647 < v
        · have h2 : smalls l = false := by rw [hs]; simp [smalls]; omega
          have hd : decide (v < 0) = false := by simpa using h1
          have hd2 : decide (2147483647 < v) = true := by simpa using h3
          clear hs
          go_wp2
          go_ret
          first | exact ⟨rfl, rfl⟩ | exact ⟨by rw [h2]; rfl, rfl⟩
        · have h2 : smalls l = smalls (l.drop (k + 1)) := by rw [hs]; simp [smalls]; omega
          have hd : decide (v < 0) = false := by simpa using h1
          have hd2 : decide (2147483647 < v) = false := by simpa using h3
          have H2 := Lib.hid h2
          clear hs h2
          have hkm : (k : Int) + 1 ≤ 9223372036854775807 := by omega
          go_wp2
          go_roundw
          case rel => exact ⟨k + 1, by go_num, by omega, by trivial, H2.out⟩
          case measure => simp [intOf]; omega
    · obtain rfl : k = l.length := by omega
      have h2 : smalls l = true := by rw [hs]; simp [smalls]
      go_wp2
      go_ret
      first | exact ⟨rfl, rfl⟩ | exact ⟨by rw [h2]; rfl, rfl⟩
end Go.Proofs.Ytildkoabfdfjlaa
