/- layer 20's alive. -/
import Derived.Test.YtildkoabfdfjlaaAsk
import Derived.Test.YtildkoabfdfjlaaSame
set_option linter.all false
namespace Go.Proofs.Ytildkoabfdfjlaa
open Go.RowKit
open Rlp (It)

theorem short_one : Rlp.short 1 = [1] := by
  rw [Rlp.short_pos (by decide), show 1 / 256 = 0 from rfl, Rlp.short_zero]; rfl
theorem enc_one : Rlp.encode (.list [.str (Rlp.short (1 : Int).toNat)]) = some [193, 1] := by
  rw [show (1 : Int).toNat = 1 from rfl, short_one]; decide +kernel
theorem dec_five : decAsk [193, 5] = (5, 0) := by decide +kernel

set_option maxRecDepth 100000 in
set_option maxHeartbeats 400000 in
theorem alive_c (w : World) : Calls Try.prog 11 #[] w fun e w' => e = .returned (.bool true) ∧ Below w.heap.size w w' := by
  have hfits : Hid (FitsAll (.list [.str (Rlp.short (1 : Int).toNat)])) := by
    refine Lib.hid ?_
    rw [show (1 : Int).toNat = 1 from rfl, short_one]
    simp [FitsAll, FitsAlls]
  go_enter Try.func11, Try.ntmps11
  go_wp2_with fail
  refine (decask_c [193, 5] (some ⟨w.heap.size, 0, none⟩) 2 2 rfl (Nat.le_refl _) _ (Or.inr ⟨_, _, Nat.zero_le _, rfl, fun j hj => ?_⟩)).mono ?_
  · have h3 : j < 2 := by simpa [bytesV] using hj
    match j, h3 with
    | 0, _ => simp [go_sem, bytesV]
    | 1, _ => simp [go_sem, bytesV]
  rw [dec_five]
  rintro e w1 ⟨rfl, hB⟩
  go_wp2_with fail
  refine (encask_c 1 (by decide) (Lib.hid (by decide)) [193, 1] (Lib.hid enc_one) hfits _).mono ?_
  rintro e w2 ⟨v, rfl, hv, hB2⟩
  obtain ⟨Av, cv, rfl, hcv, hrv⟩ := hv
  have HV := Lib.hid hrv; clear hrv
  go_wp2_with fail
  refine (same_c Av (some ⟨w2.heap.size, 0, none⟩) 2 2 cv 2 [193, 1] [193, 1] rfl rfl _ ((HV.out.mono (Nat.zero_le _)).alloc _) (Or.inr ⟨_, _, Nat.zero_le _, rfl, fun j hj => ?_⟩)).mono ?_
  · have h3 : j < 2 := by simpa [bytesV] using hj
    match j, h3 with
    | 0, _ => simp [go_sem, bytesV]
    | 1, _ => simp [go_sem, bytesV]
  rintro e w3 ⟨rfl, rfl⟩
  go_wp2
  exact bodyPost_ret (v := .bool true) (by simp [results, Try.results11]) rfl ⟨rfl, bstep (bstep (bstep (bnew w _) hB) hB2) (bnew _ _)⟩
end Go.Proofs.Ytildkoabfdfjlaa
