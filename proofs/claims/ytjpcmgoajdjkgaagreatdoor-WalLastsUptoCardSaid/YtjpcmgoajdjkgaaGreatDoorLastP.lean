/- Proved here: whatever the arguments, WalLasts returns true, and the arguments read behind the call as they did before it. Condition: the arguments are together of bulk at most 1048576 (the second form); the listed variables of the library hold what the program's text lays (the card ties them). -/
import Derived.Test.YtjpcmgoajdjkgaaGreatDoorLastW
import Derived.Test.YtjpcmgoajdjkgaaGreatDoorOpenL
import Derived.Test.YtjpcmgoajdjkgaaGreatDoorLaid
import Derived.Test.YtjpcmgoajdjkgaaGreatDoorWit
import Derived.Test.YtjpcmgoajdjkgaaGreatDoorCards
import Derived.Test.YtjpcmgoajdjkgaaGreatDoorTie
import Derived.ProofKit
import Derived.OpenShut
import Derived.JoinedCond
import Derived.Carry
import Derived.Deep.DeepHandedRow
set_option linter.all false
namespace Go.Proofs.YtjpcmgoajdjkgaaGreatDoor.lasts
open Go.ChangeShapes Go.WideShapes Go.ChangeAt Go.RowKit

theorem own : ownKnob Tryz.prog.godebug = none := by kernel_rfl
theorem laidOut : laidOutB Tryz.prog = true := by kernel_rfl

theorem bound {H : Type} {d0 d1 d2 d3 d4 : DataW H} (hk : Rows.uptoSmall H [d0, d1, d2, d3, d4] = true) : Rows.uptoBulk d1 ≤ 1048576 ∧ Rows.uptoBulk d3 ≤ 1048576 ∧ Rows.uptoBulk d4 ≤ 1048576 := by
  have h : Rows.uptoBulkAll [d0, d1, d2, d3, d4] ≤ 1048576 := of_decide_eq_true hk
  simp only [Rows.uptoBulkAll] at h
  omega

set_option maxRecDepth 100000 in
theorem contract (H : Type) (enc : TypeId × Value → H) (W : World) (base : Nat) (args : Array Value) (ds gs : List (DataW H)) (before : List MemPlace)
    (hval : ∀ (j : Nat) t v, Tryz.f6.params[j]? = some t → args[j]? = some v → Value.okWide Tryz.prog W .any base t v)
    (hW : DataW.Whole enc Tryz.prog Tryz.f6.params.toList Rows.walLastsSpec.vars false W args.toList ds gs before) (hk : Rows.uptoSmall H (ds ++ gs) = true) (hL : laidMetH Tryz.prog Rows.walLastsUptoRow.laid W) :
    Calls Tryz.prog 6 args W fun e W' => ∃ v, e = .returned v ∧ Rows.walLastsSpec.post enc Tryz.prog Tryz.f6 false true false false W args v W' := by
  have hW' := hW
  obtain ⟨p, q, hA0, hV, rfl, hfz, hnd⟩ := hW
  have hA : DataW.TrodAll enc Tryz.prog W 0 (fun _ => true) true Tryz.f6.params.toList args.toList ds p := hA0
  rw [Tryz.params6] at hA hval
  obtain ⟨v0, vs0, d0, ds0, p0, q0, hargs, rfl, rfl, h0, r0⟩ := trodAll_cons hA
  obtain ⟨v1, vs1, d1, ds1, p1, q1, rfl, rfl, rfl, h1, r1⟩ := trodAll_cons r0
  obtain ⟨v2, vs2, d2, ds2, p2, q2, rfl, rfl, rfl, h2, r2⟩ := trodAll_cons r1
  obtain ⟨v3, vs3, d3, ds3, p3, q3, rfl, rfl, rfl, h3, r3⟩ := trodAll_cons r2
  obtain ⟨v4, vs4, d4, ds4, p4, q4, rfl, rfl, rfl, h4, r4⟩ := trodAll_cons r3
  obtain ⟨rfl, rfl, rfl⟩ := trodAll_nil r4
  obtain rfl : args = #[v0, v1, v2, v3, v4] := Array.toList_inj.1 hargs
  obtain ⟨rfl, rfl⟩ := trodVars_none hV
  clear hA0 hA
  simp only [List.append_nil] at hW' hk
  have hk1 := bound hk
  have hlt : ∀ x ∈ p0 ++ (p1 ++ (p2 ++ (p3 ++ p4))), x.block < W.heap.size := fun x hx => by simpa using hW'.lt x hx
  obtain ⟨a0, rfl, rfl, rfl, w0⟩ := open_int Tryz.underlying3 (hval 0 3 v0 rfl rfl) h0
  obtain ⟨A1, n1, cap1, rfl⟩ := okWide_slice Tryz.underlying35 (hval 1 35 v1 rfl rfl)
  obtain ⟨A2, n2, cap2, rfl⟩ := okWide_slice Tryz.underlying57 (hval 2 57 v2 rfl rfl)
  obtain ⟨A3, n3, cap3, rfl⟩ := okWide_slice Tryz.underlying58 (hval 3 58 v3 rfl rfl)
  obtain ⟨A4, n4, cap4, rfl⟩ := okWide_slice Tryz.underlying34 (hval 4 34 v4 rfl rfl)
  have harg : ∀ W', Below W.heap.size W W' → DataW.TrodAll enc Tryz.prog W' 0 (fun b => decide (b < W.heap.size)) true [3, 35, 57, 58, 34] [.int .i64 a0, .slice A1 n1 cap1, .slice A2 n2 cap2, .slice A3 n3 cap3, .slice A4 n4 cap4] [.lit (.int .i64 a0), d1, d2, d3, d4] ([] ++ (p1 ++ (p2 ++ (p3 ++ (p4 ++ []))))) := fun W' hB =>
    trodAll_cons_mk (shut_int Tryz.underlying3 w0)
      (trodAll_cons_mk (Below.trod laidOut (by kernel_rfl) (of_decide_eq_true (by kernel_rfl)) h1 hB (fun x hx => hlt x (by simp [hx])))
      (trodAll_cons_mk (Below.trod laidOut (by kernel_rfl) (of_decide_eq_true (by kernel_rfl)) h2 hB (fun x hx => hlt x (by simp [hx])))
      (trodAll_cons_mk (Below.trod laidOut (by kernel_rfl) (of_decide_eq_true (by kernel_rfl)) h3 hB (fun x hx => hlt x (by simp [hx])))
      (trodAll_cons_mk (Below.trod laidOut (by kernel_rfl) (of_decide_eq_true (by kernel_rfl)) h4 hB (fun x hx => hlt x (by simp [hx])))
        trodAll_mk0))))
  obtain ⟨f1, t1⟩ := h1
  obtain ⟨A1', cap1', vs, ls, e1, hvl, hr1, hb1, hl1⟩ := open_lists t1
  have e1' : [Value.slice A1 n1 cap1] = [Value.slice A1' ls.length cap1'] := e1
  simp only [List.cons.injEq, Value.slice.injEq, and_true] at e1'
  obtain ⟨rfl, rfl, rfl⟩ := e1'
  have hl1' : ls.length ≤ Rows.uptoBulk d1 := hl1
  obtain ⟨f2, t2⟩ := h2
  obtain ⟨A2', cap2', ss, e2, hr2, hl2⟩ := open_bls t2
  have e2' : [Value.slice A2 n2 cap2] = [Value.slice A2' ss.length cap2'] := e2
  simp only [List.cons.injEq, Value.slice.injEq, and_true] at e2'
  obtain ⟨rfl, rfl, rfl⟩ := e2'
  have hl2' : ss.length ≤ Rows.uptoBulk d2 := hl2
  obtain ⟨f3, t3⟩ := h3
  obtain ⟨A3', cap3', fs, e3, hr3, hl3⟩ := open_flts t3
  have e3' : [Value.slice A3 n3 cap3] = [Value.slice A3' fs.length cap3'] := e3
  simp only [List.cons.injEq, Value.slice.injEq, and_true] at e3'
  obtain ⟨rfl, rfl, rfl⟩ := e3'
  have hl3' : fs.length ≤ Rows.uptoBulk d3 := hl3
  obtain ⟨f4, t4⟩ := h4
  obtain ⟨A4', cap4', kept, e4, hr4, hl4⟩ := open_its t4
  have e4' : [Value.slice A4 n4 cap4] = [Value.slice A4' kept.length cap4'] := e4
  simp only [List.cons.injEq, Value.slice.injEq, and_true] at e4'
  obtain ⟨rfl, rfl, rfl⟩ := e4'
  have hl4' : kept.length ≤ Rows.uptoBulk d4 := hl4
  have hg := glob_of_laid hL
  have key : Calls Tryz.prog 6 #[.int .i64 a0, .slice A1 ls.length cap1, .slice A2 ss.length cap2, .slice A3 fs.length cap3, .slice A4 kept.length cap4] W fun e W' => e = .returned (.bool true) ∧ Below W.heap.size W W' := by
    by_cases hc : a0 < 1
    · exact lasts_low a0 hc _ _ _ _ W hg
    · exact lasts_c a0 (by omega) A1 ls.length cap1 vs ls hvl rfl (by omega) A2 ss.length cap2 ss rfl A3 fs.length cap3 fs rfl (by omega) A4 kept.length cap4 kept rfl (by omega) W W.heap.size rfl hg hr1 hb1 hr2 hr3 hr4
  refine key.mono fun e W' ⟨he, hB⟩ => ?_
  subst he
  refine ⟨_, rfl, _, _, _, [], _, [], hW', ?_, harg W' hB, rfl, hB.frame _, fun h => by cases h⟩
  exact trodAll_mk1 (shut_bool Tryz.underlying4 _)

noncomputable def wit (os : Os) : World := World.laidAll Tryz.prog os Rows.walLastsUptoRow.laid
theorem wit_laid (os : Os) : laidMet Tryz.prog Rows.walLastsUptoRow.laid ((wit os).forCall (fun _ _ => 0) ⟨#[], (#[.int .i64 0, .slice none 0 0, .slice none 0 0, .slice none 0 0, .slice none 0 0] : Array Value), []⟩).memory :=
  laidMet_laidAll _ (by kernel_rfl) (by kernel_rfl)
theorem reads (os : Os) {H : Type} (enc : TypeId × Value → H) : ∃ places, DataW.whole enc Tryz.prog ((wit os).forCall (fun _ _ => 0) ⟨#[], (#[.int .i64 0, .slice none 0 0, .slice none 0 0, .slice none 0 0, .slice none 0 0] : Array Value), []⟩).memory Tryz.f6.params.toList Rows.walLastsSpec.vars false (#[.int .i64 0, .slice none 0 0, .slice none 0 0, .slice none 0 0, .slice none 0 0] : Array Value).toList 8 = some ([.lit (.int .i64 0), .nil, .nil, .nil, .nil], [], places) :=
  ⟨[], by kernel_rfl⟩

set_option maxRecDepth 100000 in
theorem lifted (os : Os) (started : os.Started) (H : Type) (enc : TypeId × Value → H) (F : Stop.Interp) :
    ReturnsInHanded {} Tryz.checked os 6 .any ((Rows.OpenSpec.upto Rows.walLastsSpec).preRow enc Tryz.prog Tryz.f6 Rows.walLastsUptoRow.domain false Rows.walLastsUptoRow.laid) (((Rows.OpenSpec.upto Rows.walLastsSpec).at F).post enc Tryz.prog Tryz.f6 false true false false) := by
  obtain ⟨places, hx⟩ := reads os enc
  refine returnsInHanded_of_row (C := Tryz.checked) (s := Rows.OpenSpec.upto Rows.walLastsSpec) own started (by kernel_rfl) Tryz.func6
    (witness_row_zip (enc := enc) (C := Tryz.checked) false (wit os) (#[.int .i64 0, .slice none 0 0, .slice none 0 0, .slice none 0 0, .slice none 0 0] : Array Value) (World.laidAll_os _ _ _) (by kernel_rfl) (by kernel_rfl) (by kernel_rfl)
      (OpenSpec.preRow_of_cond 8 hx (by kernel_rfl) (fun k hk => by cases hk; kernel_rfl) (by kernel_rfl) (wit_laid os))) ?_
  intro W base args ds gs before hval hW _ hcond _ hL _ _
  exact contract H enc W base args ds gs before hval hW (hcond _ rfl) hL

theorem said : Rows.WalLastsUptoSaid :=
  OpenClaim.holds_of_cond 6 Tryz.f6 rfl rfl rfl rfl rfl rfl rfl ⟨rfl, rfl, rfl, rfl, rfl⟩ rfl rfl rfl rfl rfl (by kernel_rfl) Tryz.func6 (by kernel_rfl)
    (of_decide_eq_true (by kernel_rfl)) (by unfold Func.isWrapper; first | (rw [if_pos (by decide +kernel)]; kernel_rfl) | (rw [if_neg (by decide +kernel)]; exact ⟨rfl, rfl⟩))
    (fun os started H enc _ F => by rw [OpenClaim.pre_eq_preRow]; exact lifted os started H enc F)

theorem plain (f : FuncId) (fn : Func) (hf : Tryz.pinned.checked.prog.funcNamed "conclave/conclavelaw08.WalLasts" = some f) (hfn : Tryz.pinned.checked.prog.funcs[f]? = some fn) :
    true = Tryz.pinned.checked.prog.looks [] ∧ ∀ (j : Nat) t, fn.params[j]? = some t → Tryz.pinned.checked.prog.wantsStandIn t = false := by
  obtain rfl : f = 6 := Option.some.inj ((show Tryz.prog.funcNamed "conclave/conclavelaw08.WalLasts" = some 6 by kernel_rfl).symm.trans hf) |>.symm
  obtain rfl : fn = Tryz.f6 := (Option.some.inj (Tryz.func6.symm.trans hfn)).symm
  refine ⟨by kernel_rfl, fun j t ht => ?_⟩
  rw [Tryz.params6] at ht
  have hm := Array.mem_of_getElem? ht
  simp only [List.mem_toArray, List.mem_cons, List.not_mem_nil, or_false] at hm
  rcases hm with rfl | rfl | rfl | rfl | rfl
  · exact (show Tryz.prog.wantsStandIn 3 = false by kernel_rfl)
  · exact (show Tryz.prog.wantsStandIn 35 = false by kernel_rfl)
  · exact (show Tryz.prog.wantsStandIn 57 = false by kernel_rfl)
  · exact (show Tryz.prog.wantsStandIn 58 = false by kernel_rfl)
  · exact (show Tryz.prog.wantsStandIn 34 = false by kernel_rfl)

theorem card : Rows.WalLastsUptoCardSaid :=
  Claim7.holds_tied_plain_at .later [] _ _ _ _ said (fun _ h => by cases h) (by kernel_rfl) (fun _ h => by cases h) walLastsUpto_row_tie rfl ⟨rfl, rfl⟩ (by kernel_rfl) rfl plain (by kernel_rfl)
end Go.Proofs.YtjpcmgoajdjkgaaGreatDoor.lasts
