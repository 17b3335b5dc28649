/- Proved here: whatever the arguments, CatchupBack returns true, and the arguments read behind the call as they did before it. Condition: the arguments are together of bulk at most 1048576 (the second form). -/
import Derived.Test.YtildkoabfdfjlaaOpenB
import Derived.Test.YtildkoabfdfjlaaBack
import Derived.ProofKit
import Derived.JoinedCond
import Derived.Carry
set_option linter.all false
namespace Go.Proofs.Ytildkoabfdfjlaa.back
open Go.ChangeShapes Go.WideShapes Go.ChangeAt Go.RowKit
set_option linter.unusedVariables false

theorem own : ownKnob Try.prog.godebug = none := by kernel_rfl
theorem laidOut : laidOutB Try.prog = true := by kernel_rfl

theorem bound {H : Type} {d0 d1 d2 d3 : DataW H} (hk : Rows.uptoSmall H [d0, d1, d2, d3] = true) : Rows.uptoBulk d1 ≤ 1048576 ∧ Rows.uptoBulk d2 ≤ 1048576 ∧ Rows.uptoBulk d3 ≤ 1048576 := by
  have h : Rows.uptoBulkAll [d0, d1, d2, d3] ≤ 1048576 := of_decide_eq_true hk
  simp only [Rows.uptoBulkAll] at h
  omega

set_option maxRecDepth 100000 in
theorem contract (H : Type) (enc : TypeId × Value → H) (W : World) (base : Nat) (args : Array Value) (ds gs : List (DataW H)) (before : List MemPlace)
    (hval : ∀ (j : Nat) t v, Try.f3.params[j]? = some t → args[j]? = some v → Value.okWide Try.prog W .any base t v)
    (hW : DataW.Whole enc Try.prog Try.f3.params.toList Rows.catchupBackSpec.vars false W args.toList ds gs before) (hk : Rows.uptoSmall H (ds ++ gs) = true) :
    Calls Try.prog 3 args W fun e W' => ∃ v, e = .returned v ∧ Rows.catchupBackSpec.post enc Try.prog Try.f3 false true false false W args v W' := by
  have hW' := hW
  obtain ⟨p, q, hA0, hV, rfl, hfz, hnd⟩ := hW
  have hA : DataW.TrodAll enc Try.prog W 0 (fun _ => true) true Try.f3.params.toList args.toList ds p := hA0
  rw [Try.params3] at hA hval
  obtain ⟨v0, v1, v2, v3, d0, d1, d2, d3, p0, p1, p2, p3, rfl, rfl, rfl, h0, h1, h2, h3⟩ := trodAll_four hA
  obtain ⟨rfl, rfl⟩ := trodVars_none hV
  clear hA0 hA
  simp only [List.append_nil] at hW' hk
  obtain ⟨hk1, hk2, hk3⟩ := bound hk
  have hlt : ∀ x ∈ p0 ++ p1 ++ p2 ++ p3, x.block < W.heap.size := fun x hx => by simpa using hW'.lt x hx
  obtain ⟨a0, rfl, rfl, rfl, w0⟩ := open_int Try.underlying22 (hval 0 22 v0 rfl rfl) h0
  obtain ⟨X, rfl, _⟩ := okWide_struct blk_under (hval 1 27 v1 rfl rfl)
  obtain ⟨Y, rfl, _⟩ := okWide_struct com_under (hval 2 30 v2 rfl rfl)
  obtain ⟨A3, n3, cap3, rfl⟩ := okWide_slice Try.underlying31 (hval 3 31 v3 rfl rfl)
  have harg : ∀ W', Below W.heap.size W W' → DataW.TrodAll enc Try.prog W' 0 (fun b => decide (b < W.heap.size)) true [22, 27, 30, 31] [.int .u64 a0, .agg X, .agg Y, .slice A3 n3 cap3] [.lit (.int .u64 a0), d1, d2, d3] ([] ++ (p1 ++ (p2 ++ p3))) := fun W' hB =>
    trodAll_mk4 (shut_int Try.underlying22 w0)
      (Below.trod laidOut (by kernel_rfl) (of_decide_eq_true (by kernel_rfl)) h1 hB (fun x hx => hlt x (by simp [hx])))
      (Below.trod laidOut (by kernel_rfl) (of_decide_eq_true (by kernel_rfl)) h2 hB (fun x hx => hlt x (by simp [hx])))
      (Below.trod laidOut (by kernel_rfl) (of_decide_eq_true (by kernel_rfl)) h3 hB (fun x hx => hlt x (by simp [hx])))
  obtain ⟨f1, t1⟩ := h1
  obtain ⟨f2, t2⟩ := h2
  obtain ⟨f3, t3⟩ := h3
  obtain ⟨b, A1, cap1, vals, e1, hb, hr1, hs1⟩ := open_block t1 hk1
  obtain ⟨c, A2, cap2, e2, hc, hr2⟩ := open_commit t2 hk2
  obtain ⟨A3', cap3', x, e3, hc3, hr3, _⟩ := open_bytes t3
  have e3' : [Value.slice A3 n3 cap3] = [Value.slice A3' x.length cap3'] := e3
  simp only [List.cons.injEq, Value.slice.injEq, and_true] at e3'
  obtain ⟨rfl, rfl, rfl⟩ := e3'
  have eX : X = (blkV b (.slice A1 b.txs.length cap1)).toArray := Array.toList_inj.1 (by rw [← e1]; rfl)
  have eY : Y = (comV c.height c.round c.block (.slice A2 c.votes.length cap2)).toArray := Array.toList_inj.1 (by rw [← e2]; rfl)
  have b0 := bounds_u64 w0
  obtain ⟨h, rfl⟩ : ∃ h : Nat, a0 = (h : Int) := ⟨a0.toNat, by omega⟩
  have key := back_c h (by omega) b c _ _ x A3 cap3 W (Two2.mk' (cap := cap1) (cap2 := cap2) hb hc hr1 hs1 hr2) (Lib.hid ⟨hc3, hr3⟩)
  rw [← eX, ← eY] at key
  refine key.mono fun e W' ⟨he, hB⟩ => ?_
  subst he
  refine ⟨_, rfl, _, _, _, [], _, [], hW', ?_, harg W' hB, rfl, hB.frame _, fun h => by cases h⟩
  exact trodAll_mk1 (shut_bool Try.underlying4 _)

set_option maxRecDepth 100000 in
theorem lifted (os : Os) (started : os.Started) (H : Type) (enc : TypeId × Value → H) (F : Stop.Interp) :
    ReturnsInHanded {} Try.checked os 3 .any ((Rows.OpenSpec.upto Rows.catchupBackSpec).pre6 enc Try.prog Try.f3 Rows.catchupBackUptoRow.domain false) (((Rows.OpenSpec.upto Rows.catchupBackSpec).at F).post enc Try.prog Try.f3 false true false false) := by
  refine returnsInHanded_of_cond (C := Try.checked) (s := Rows.OpenSpec.upto Rows.catchupBackSpec) (k := Rows.uptoSmall) rfl own started (by kernel_rfl) Try.func3
    (OpenSpec.witness (enc := enc) (C := Try.checked) (s := Rows.OpenSpec.upto Rows.catchupBackSpec) (k := Rows.uptoSmall) rfl false ⟨#[], #[.int .u64 0, .agg Try.zeroCells27, .agg zc, .slice none 0 0], []⟩ 8 (by kernel_rfl) (by kernel_rfl) (by kernel_rfl)
      (x := ([.lit (.int .u64 0), .agg [.lit (.int .u64 0), .agg (List.replicate 32 (.lit (.int .u8 0))), .agg (List.replicate 32 (.lit (.int .u8 0))), .lit (.int .i64 0), .lit (.int .i64 0), .nil],
        .agg [.lit (.int .u64 0), .lit (.int .i64 0), .agg (List.replicate 32 (.lit (.int .u8 0))), .nil], .nil], [], [])) (by kernel_rfl) rfl (by kernel_rfl)) ?_
  intro W base args ds gs before hval hW _ hk _
  exact contract H enc W base args ds gs before hval hW hk

theorem over : Rows.catchupBackUptoRow.holds Try.pinned (Rows.OpenSpec.upto Rows.catchupBackSpec) :=
  OpenClaim.holds_of_cond 3 Try.f3 rfl rfl rfl rfl rfl rfl rfl ⟨rfl, rfl, rfl, rfl, rfl⟩ rfl rfl rfl rfl rfl (by kernel_rfl) Try.func3 (by kernel_rfl)
    (of_decide_eq_true (by kernel_rfl)) (by unfold Func.isWrapper; first | (rw [if_pos (by decide +kernel)]; kernel_rfl) | (rw [if_neg (by decide +kernel)]; exact ⟨rfl, rfl⟩))
    (fun os started H enc _ F => lifted os started H enc F)

theorem proved : Rows.CatchupBackUptoSaid :=
  over
end Go.Proofs.Ytildkoabfdfjlaa.back
