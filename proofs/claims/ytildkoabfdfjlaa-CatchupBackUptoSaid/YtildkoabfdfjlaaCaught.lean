/- rlp's deferred 'caught', and Encode. -/
import Derived.Test.YtildkoabfdfjlaaStands
set_option linter.all false
namespace Go.Proofs.Ytildkoabfdfjlaa
open Go.RowKit
open Rlp (It)
set_option maxRecDepth 100000 in
set_option maxHeartbeats 400000 in
theorem caught_panicking (p : Addr) (x e : Int) (w : World) (hc : w.cell? p = some (.int .i64 x)) (hz : w.frozen? p = false) :
    CallsD Try.prog 26 #[.pointer (some p)] (.panicking (flt e)) w fun r u' w' =>
      r = .returned (.tuple #[]) ∧ u' = .panicking [{ v := .iface 101 (.int .i64 e), recovered := true }] ∧ w' = w.setCell p (.int .i64 e) := by
  refine callsD_of_wpS Try.func26 rfl fun c₀ cs hu => ?_
  unfold flt at hu
  apply wpS_seq
  apply wpS_region
  simp [wpOpsS, go_sem, recoverD, hu, Try.ntmps26, Exit.thenS]
  simp only [Array.replicate_succ, Array.replicate_zero, List.push_toArray, List.append_toArray, List.nil_append, List.cons_append, List.setIfInBounds_toArray, List.set]
  refine wpS_of_wp ?_
  have hta : ∀ (w : World), (Instr.typeAssert (.iface 101 (.int .i64 e)) 20 101 true).run Try.prog w = .ok (.tuple #[.int .i64 e, .bool true]) w := fun w => by kernel_rfl
  clear hu
  go_wp2
  simp [bodyPostS, results, Try.results26]
set_option maxRecDepth 100000 in
set_option maxHeartbeats 400000 in
theorem caught_idle (p : Addr) (w : World) :
    CallsD Try.prog 26 #[.pointer (some p)] .returning w fun e u' w' => e = .returned (.tuple #[]) ∧ u' = .returning ∧ w' = w := by
  refine callsD_of_wpS Try.func26 rfl fun c₀ cs hu => ?_
  apply wpS_seq
  apply wpS_region
  simp [wpOpsS, go_sem, recoverD, hu, Try.ntmps26, Exit.thenS]
  simp only [Array.replicate_succ, Array.replicate_zero, List.push_toArray, List.append_toArray, List.nil_append, List.cons_append, List.setIfInBounds_toArray, List.set]
  refine wpS_of_wp ?_
  go_wp2
  cases c₀
  simp_all [bodyPostS, results, Try.results26]

/-- what Encode is said to do -/
def EncodePost (w : World) (r : Option (List UInt8)) (e : Ending) (w' : World) : Prop :=
  match r with
  | some y => ∃ v, e = .returned (.tuple #[v, .int .i64 0]) ∧ BytesR w.heap.size w' v y ∧ Below w.heap.size w w'
  | none => e = .returned (.tuple #[.slice none 0 0, .int .i64 3]) ∧ Below w.heap.size w w'

theorem enc0_c (x : It) (hf : FitsAll x) (c0 c1 c2 : Value) (w : World) (h : ItemR 0 w x c0 c1 c2) :
    Calls Try.prog 27 #[.agg #[c0, c1, c2], .int .i64 0] w (EncPost w (Rlp.enc x 0)) := by
  have := enc_c 16 0 rfl x c0 c1 c2 w (hf.fits 16 x) h
  simpa using this

set_option maxRecDepth 100000 in
set_option maxHeartbeats 400000 in
theorem encode_no1 (x : It) (hx : Hid (FitsAll x)) (hn : Hid (Rlp.enc x 0 = none)) (c0 c1 c2 : Value) (w : World) (h : ItemR 0 w x c0 c1 c2) :
    Calls Try.prog 14 #[.agg #[c0, c1, c2]] w fun e w' => e = .returned (.tuple #[.slice none 0 0, .int .i64 3]) ∧ Below w.heap.size w w' := by
  obtain ⟨f, A1, k1, cp1, B1, m1, d1, rfl, rfl, rfl⟩ := h.shape
  have HI := Lib.hid h; clear h
  go_enter_defers Try.func14, Try.ntmps14
  go_wp2_with (first
    | (go_at_call 25; refine (stands_c _ x (Nat.le_refl _) hx.out _ _ _ _ (ItemR.below (bnew2 _ _ _) _ _ _ _ HI.out)).mono ?_; rintro e w1 ⟨rfl, hB⟩; obtain ⟨hk1, hk2⟩ := keptCells hB; have hz : w.heap.size + 1 < w1.heap.size := by have := hB.size; simp at this; omega)
    | (go_at_call 27; have he := enc0_c x hx.out _ _ _ w1 (ItemR.below (bstep (bnew2 _ _ _) hB) _ _ _ _ HI.out); rw [hn.out] at he; refine he.mono ?_; clear he; rintro e w2 ⟨rfl, hB2⟩; obtain ⟨hk3, hk4⟩ := keptCells hB2))
  refine leaves_cons (f := 26) (args := #[.pointer (some ⟨w.heap.size + 1, 0, none⟩)]) (by simp) (by simp [go_sem]) ?_
  refine (caught_panicking ⟨w.heap.size + 1, 0, none⟩ 0 3 _ ?_ ?_).mono ?_
  · rw [hk3 _ _ hz, hk1 _ _ (by simp)]; simp [go_sem]
  · rw [hk4 _ _ hz, hk2 _ _ (by simp)]; simp [go_sem]
  rintro e u' w'' ⟨rfl, rfl, rfl⟩
  have hcell : (w2.setCell ⟨w.heap.size + 1, 0, none⟩ (.int .i64 3)).cell? ⟨w.heap.size + 1, 0, none⟩ = some (.int .i64 3) := World.cell?_setCell_same' _ _ _ (by rw [hk3 _ _ hz, hk1 _ _ (by simp)]; simp [go_sem])
  have hBB : Below w.heap.size w (w2.setCell ⟨w.heap.size + 1, 0, none⟩ (.int .i64 3)) := (bstep (bstep (bnew2 _ _ _) hB) hB2).setCell (p := ⟨w.heap.size + 1, 0, none⟩) (by simp) _
  simp [Leaves, settle, results, Try.results14, go_sem, hcell, hBB]
set_option maxRecDepth 100000 in
set_option maxHeartbeats 400000 in
theorem encode_no2 (x : It) (y : List UInt8) (hx : Hid (FitsAll x)) (hn : Hid (Rlp.enc x 0 = some y)) (hy : Hid (65536 < y.length)) (c0 c1 c2 : Value) (w : World) (h : ItemR 0 w x c0 c1 c2) :
    Calls Try.prog 14 #[.agg #[c0, c1, c2]] w fun e w' => e = .returned (.tuple #[.slice none 0 0, .int .i64 3]) ∧ Below w.heap.size w w' := by
  obtain ⟨f, A1, k1, cp1, B1, m1, d1, rfl, rfl, rfl⟩ := h.shape
  have HI := Lib.hid h; clear h
  have hd : decide ((y.length : Int) ≤ 65536) = false := by have := hy.out; simp; omega
  go_enter_defers Try.func14, Try.ntmps14
  go_wp2_with (first
    | (go_at_call 25; refine (stands_c _ x (Nat.le_refl _) hx.out _ _ _ _ (ItemR.below (bnew2 _ _ _) _ _ _ _ HI.out)).mono ?_; rintro e w1 ⟨rfl, hB⟩; obtain ⟨hk1, hk2⟩ := keptCells hB; have hz : w.heap.size + 1 < w1.heap.size := by have := hB.size; simp at this; omega)
    | (go_at_call 27; have he := enc0_c x hx.out _ _ _ w1 (ItemR.below (bstep (bnew2 _ _ _) hB) _ _ _ _ HI.out); rw [hn.out] at he; refine he.mono ?_; clear he; rintro e w2 ⟨v2, rfl, ⟨A2, cp2, rfl, hc2, hr2⟩, hB2⟩; clear hr2 hc2; obtain ⟨hk3, hk4⟩ := keptCells hB2)
    | (go_at_call 28; (with_reducible refine (ask_f _ _).mono ?_); rintro e w1 ⟨rfl, rfl⟩))
  refine leaves_cons (f := 26) (args := #[.pointer (some ⟨w.heap.size + 1, 0, none⟩)]) (by simp) (by simp [go_sem]) ?_
  refine (caught_panicking ⟨w.heap.size + 1, 0, none⟩ 0 3 _ ?_ ?_).mono ?_
  · rw [hk3 _ _ hz, hk1 _ _ (by simp)]; simp [go_sem]
  · rw [hk4 _ _ hz, hk2 _ _ (by simp)]; simp [go_sem]
  rintro e u' w'' ⟨rfl, rfl, rfl⟩
  have hcell : (w2.setCell ⟨w.heap.size + 1, 0, none⟩ (.int .i64 3)).cell? ⟨w.heap.size + 1, 0, none⟩ = some (.int .i64 3) := World.cell?_setCell_same' _ _ _ (by rw [hk3 _ _ hz, hk1 _ _ (by simp)]; simp [go_sem])
  have hBB : Below w.heap.size w (w2.setCell ⟨w.heap.size + 1, 0, none⟩ (.int .i64 3)) := (bstep (bstep (bnew2 _ _ _) hB) hB2).setCell (p := ⟨w.heap.size + 1, 0, none⟩) (by simp) _
  simp [Leaves, settle, results, Try.results14, go_sem, hcell, hBB]
set_option maxRecDepth 100000 in
set_option maxHeartbeats 400000 in
theorem encode_yes (x : It) (y : List UInt8) (hx : Hid (FitsAll x)) (hn : Hid (Rlp.enc x 0 = some y)) (hy : y.length ≤ 65536) (c0 c1 c2 : Value) (w : World) (h : ItemR 0 w x c0 c1 c2) :
    Calls Try.prog 14 #[.agg #[c0, c1, c2]] w fun e w' => ∃ v, e = .returned (.tuple #[v, .int .i64 0]) ∧ BytesR w.heap.size w' v y ∧ Below w.heap.size w w' := by
  obtain ⟨f, A1, k1, cp1, B1, m1, d1, rfl, rfl, rfl⟩ := h.shape
  have HI := Lib.hid h; clear h
  have hd : decide ((y.length : Int) ≤ 65536) = true := by simp; omega
  go_enter_defers Try.func14, Try.ntmps14
  go_wp2_with (first
    | (go_at_call 25; refine (stands_c _ x (Nat.le_refl _) hx.out _ _ _ _ (ItemR.below (bnew2 _ _ _) _ _ _ _ HI.out)).mono ?_; rintro e w1 ⟨rfl, hB⟩; obtain ⟨hk1, hk2⟩ := keptCells hB; have hz : w.heap.size + 1 < w1.heap.size := by have := hB.size; simp at this; omega)
    | (go_at_call 27; have he := enc0_c x hx.out _ _ _ w1 (ItemR.below (bstep (bnew2 _ _ _) hB) _ _ _ _ HI.out); rw [hn.out] at he; refine he.mono ?_; clear he; rintro e w2 ⟨v2, rfl, ⟨A2, cp2, rfl, hc2, hr2⟩, hB2⟩; have HR2 := Lib.hid hr2; clear hr2; obtain ⟨hk3, hk4⟩ := keptCells hB2; have hz2 : w.heap.size + 1 < w2.heap.size := by have := hB2.size; omega)
    | (go_at_call 28; (with_reducible refine (ask_t _ _).mono ?_); rintro e w1 ⟨rfl, rfl⟩)
    | (go_at_call 29; refine (clone_c A2 cp2 y w2 (by omega) HR2.out).mono ?_; rintro e w3 ⟨v3, rfl, hown3, hB3⟩; obtain ⟨hk5, hk6⟩ := keptCells hB3; obtain ⟨A3, cp3, rfl, hc3, _, _⟩ := own_slice hown3))
  refine leaves_cons (f := 26) (args := #[.pointer (some ⟨w.heap.size + 1, 0, none⟩)]) (by simp) (by simp [go_sem]) ?_
  refine (caught_idle ⟨w.heap.size + 1, 0, none⟩ _).mono ?_
  rintro e u' w'' ⟨rfl, rfl, rfl⟩
  have hz3 : w.heap.size + 1 < w3.heap.size := by have := hB3.size; omega
  have hcell : (w3.setCell ⟨w.heap.size + 1, 0, none⟩ (.int .i64 0)).cell? ⟨w.heap.size + 1, 0, none⟩ = some (.int .i64 0) := World.cell?_setCell_same' _ _ _ (by rw [hk5 _ _ hz2, hk3 _ _ hz, hk1 _ _ (by simp)]; simp [go_sem])
  have hBB : Below w.heap.size w (w3.setCell ⟨w.heap.size + 1, 0, none⟩ (.int .i64 0)) := (bstep (bstep (bstep (bnew2 _ _ _) hB) hB2) hB3).setCell (p := ⟨w.heap.size + 1, 0, none⟩) (by simp) _
  have hfin : BytesR w.heap.size (w3.setCell ⟨w.heap.size + 1, 0, none⟩ (.int .i64 0)) (.slice A3 y.length cp3) y := ((BytesR.of_own hown3).setCell (p := ⟨w.heap.size + 1, 0, none⟩) hz2 _).mono (by omega)
  simp [Leaves, settle, results, Try.results14, go_sem, hcell, hBB, hfin]

/-- Encode does what Rlp.encode tells -/
theorem encode_c (x : It) (hx : FitsAll x) (c0 c1 c2 : Value) (w : World) (h : ItemR 0 w x c0 c1 c2) :
    Calls Try.prog 14 #[.agg #[c0, c1, c2]] w (EncodePost w (Rlp.encode x)) := by
  cases he : Rlp.enc x 0 with
  | none =>
    have : Rlp.encode x = none := by simp [Rlp.encode, he]
    rw [this]
    exact encode_no1 x hx he c0 c1 c2 w h
  | some y =>
    by_cases hy : y.length ≤ 65536
    · have : Rlp.encode x = some y := by simp only [Rlp.encode, he]; rw [if_pos (show y.length ≤ Rlp.MaxRlp from hy)]
      rw [this]
      exact encode_yes x y hx he hy c0 c1 c2 w h
    · have : Rlp.encode x = none := by simp only [Rlp.encode, he]; rw [if_neg (show ¬ y.length ≤ Rlp.MaxRlp from hy)]
      rw [this]
      exact encode_no2 x y hx he (by simp only [Hid]; omega) c0 c1 c2 w h
end Go.Proofs.Ytildkoabfdfjlaa
