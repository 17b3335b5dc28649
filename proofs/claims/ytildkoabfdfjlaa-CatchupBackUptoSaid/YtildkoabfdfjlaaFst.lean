/- rlp.First and rlp.Decode. -/
import Derived.Test.YtildkoabfdfjlaaFirstC
import Derived.Test.YtildkoabfdfjlaaCaught
set_option linter.all false
namespace Go.Proofs.Ytildkoabfdfjlaa
open Go.RowKit
open Rlp (It)

def FstPost (w : World) (r : Except Int (It × Nat)) (e : Ending) (w' : World) : Prop :=
  match r with
  | .ok p => ∃ c0 c1 c2, e = .returned (.tuple #[.agg #[c0, c1, c2], .int .i64 (p.2 : Int), .int .i64 0]) ∧ ItemR w.heap.size w' p.1 c0 c1 c2 ∧ Below w.heap.size w w'
  | .error k => e = .returned (.tuple #[.agg #[.bool false, .slice none 0 0, .slice none 0 0], .int .i64 0, .int .i64 k]) ∧ Below w.heap.size w w'

/-- First's answer -/
def Rlp.fst (l : List UInt8) : Except Int (It × Nat) := if l.length ≤ 65536 then Rlp.first 16 l else .error 3

set_option maxRecDepth 100000 in
set_option maxHeartbeats 400000 in
theorem fst_big (A : Option Addr) (n cap : Nat) (hn : 65536 < n) (w : World) (r : Except Int (It × Nat)) (hr : Hid (r = .error 3)) :
    Calls Try.prog 46 #[.slice A n cap] w (FstPost w r) := by
  have hd : decide ((n : Int) ≤ 65536) = false := by rw [decide_eq_false_iff_not]; omega
  go_enter_defers Try.func46, Try.ntmps46
  go_wp2_with (first
    | (go_at_call 28; (with_reducible refine (ask_f _ _).mono ?_); rintro e w1 ⟨rfl, rfl⟩))
  refine leaves_cons (f := 26) (args := #[.pointer (some ⟨w.heap.size + 1, 0, none⟩)]) (by simp) (by simp [go_sem]) ?_
  refine (caught_panicking ⟨w.heap.size + 1, 0, none⟩ 0 3 _ (by simp [go_sem]) (by simp [go_sem])).mono ?_
  rintro e u' w'' ⟨rfl, rfl, rfl⟩
  rw [hr.out]
  simp [Leaves, settle, results, Try.results46, go_sem, FstPost]
  exact bnew2 _ _ _

set_option maxRecDepth 100000 in
set_option maxHeartbeats 400000 in
theorem fst_no (l : List UInt8) (A : Option Addr) (n cap : Nat) (hn : n = l.length) (hle : n ≤ 65536) (hc : n ≤ cap) (w : World) (hrd : Rd 0 w A (bytesV l)) (k : Int) (hf : Hid (Rlp.first 16 l = .error k)) (r : Except Int (It × Nat)) (hr : Hid (r = .error k)) :
    Calls Try.prog 46 #[.slice A n cap] w (FstPost w r) := by
  have HRD := Lib.hid hrd; clear hrd
  have hd : decide ((n : Int) ≤ 65536) = true := by rw [decide_eq_true_iff]; omega
  have HC : Hid (∀ w1, Below w.heap.size w w1 → Calls Try.prog 55 #[.slice A n cap, .int .i64 0] w1 fun e w' => e = .panicked (flt k) ∧ Below w1.heap.size w1 w') := by
    refine Lib.hid fun w1 hb => ?_
    have := first_c 16 0 rfl l n A cap w1 hn hle hc (HRD.out.below hb)
    rw [hf.out] at this
    exact this
  clear hn
  go_enter_defers Try.func46, Try.ntmps46
  go_wp2_with (first
    | (go_at_call 28; (with_reducible refine (ask_t _ _).mono ?_); rintro e w1 ⟨rfl, rfl⟩)
    | (go_at_call 55; refine (HC.out _ (bnew2 _ _ _)).mono ?_; rintro e w1 ⟨rfl, hB⟩; obtain ⟨hk1, hk2⟩ := keptCells hB))
  refine leaves_cons (f := 26) (args := #[.pointer (some ⟨w.heap.size + 1, 0, none⟩)]) (by simp) (by simp [go_sem]) ?_
  refine (caught_panicking ⟨w.heap.size + 1, 0, none⟩ 0 k _ ?_ ?_).mono ?_
  · rw [hk1 _ _ (by simp)]; simp [go_sem]
  · rw [hk2 _ _ (by simp)]; simp [go_sem]
  rintro e u' w'' ⟨rfl, rfl, rfl⟩
  have hcell : (w1.setCell ⟨w.heap.size + 1, 0, none⟩ (.int .i64 k)).cell? ⟨w.heap.size + 1, 0, none⟩ = some (.int .i64 k) := World.cell?_setCell_same' _ _ _ (by rw [hk1 _ _ (by simp)]; simp [go_sem])
  have hBB : Below w.heap.size w (w1.setCell ⟨w.heap.size + 1, 0, none⟩ (.int .i64 k)) := (bstep (bnew2 _ _ _) hB).setCell (p := ⟨w.heap.size + 1, 0, none⟩) (by simp) _
  rw [hr.out]
  simp [Leaves, settle, results, Try.results46, go_sem, FstPost, hcell, hk1]
  exact hBB

set_option maxRecDepth 100000 in
set_option maxHeartbeats 400000 in
theorem fst_yes (l : List UInt8) (A : Option Addr) (n cap : Nat) (hn : n = l.length) (hle : n ≤ 65536) (hc : n ≤ cap) (w : World) (hrd : Rd 0 w A (bytesV l)) (x : It) (m : Nat) (hf : Hid (Rlp.first 16 l = .ok (x, m))) (r : Except Int (It × Nat)) (hr : Hid (r = .ok (x, m))) :
    Calls Try.prog 46 #[.slice A n cap] w (FstPost w r) := by
  have HRD := Lib.hid hrd; clear hrd
  have hd : decide ((n : Int) ≤ 65536) = true := by rw [decide_eq_true_iff]; omega
  have HC : Hid (∀ w1, Below w.heap.size w w1 → Calls Try.prog 55 #[.slice A n cap, .int .i64 0] w1 fun e w' => ∃ c0 c1 c2, e = .returned (.tuple #[.agg #[c0, c1, c2], .int .i64 (m : Int)]) ∧ ItemR w1.heap.size w' x c0 c1 c2 ∧ Below w1.heap.size w1 w') := by
    refine Lib.hid fun w1 hb => ?_
    have := first_c 16 0 rfl l n A cap w1 hn hle hc (HRD.out.below hb)
    rw [hf.out] at this
    exact this
  clear hn
  go_enter_defers Try.func46, Try.ntmps46
  go_wp2_with (first
    | (go_at_call 28; (with_reducible refine (ask_t _ _).mono ?_); rintro e w1 ⟨rfl, rfl⟩)
    | (go_at_call 55; refine (HC.out _ (bnew2 _ _ _)).mono ?_; rintro e w1 ⟨c0, c1, c2, rfl, hI, hB⟩; obtain ⟨hk1, hk2⟩ := keptCells hB; have hz : w.heap.size + 1 < w1.heap.size := by have := hB.size; simp at this; omega
       have hz0 : w.heap.size < w1.heap.size := by omega
       obtain ⟨f, A1, k1, cp1, B1, m1, d1, rfl, rfl, rfl⟩ := hI.shape; have HI := Lib.hid hI; clear hI))
  have hkA := hB.block w.heap.size (by simp; omega)
  have hkE := hB.block (w.heap.size + 1) (by simp)
  rw [Below.heap_alloc _ _ _ (by simp), World.alloc_heap_new] at hkA
  have hkE2 : w1.heap[w.heap.size + 1]? = some (.cells #[.int .i64 0] 32 (0, 0)) := hkE.trans (by have := World.alloc_heap_new (w.alloc (.cells #[.bool false, .slice none 0 0, .slice none 0 0] 50)) (.cells #[.int .i64 0] 32); rwa [World.size_alloc] at this)
  refine leaves_cons (f := 26) (args := #[.pointer (some ⟨w.heap.size + 1, 0, none⟩)]) (by simp) (by simp [go_sem]) ?_
  refine (caught_idle ⟨w.heap.size + 1, 0, none⟩ _).mono ?_
  rintro e u' w'' ⟨rfl, rfl, rfl⟩
  have hItem := HI.out
  have hA : (((((w1.setCell ⟨w.heap.size, 0, none⟩ (.bool f)).setCell ⟨w.heap.size, 1, none⟩ (.slice A1 k1 cp1)).setCell ⟨w.heap.size, 2, none⟩ (.slice B1 m1 d1)).setCell ⟨w.heap.size + 1, 0, none⟩ (.int .i64 0)).alloc (.cells #[.bool f, .slice A1 k1 cp1, .slice B1 m1 d1] 50)).heap[w.heap.size]? = some (.cells #[.bool f, .slice A1 k1 cp1, .slice B1 m1 d1] 50 (0, 0)) := by
    rw [Below.heap_alloc _ _ _ (by simp; omega), heap_setCell_other _ (by dsimp only; omega)]
    exact (heap_setCell_row (heap_setCell_row (heap_setCell_row hkA))).trans (by simp)
  have hE : (((((w1.setCell ⟨w.heap.size, 0, none⟩ (.bool f)).setCell ⟨w.heap.size, 1, none⟩ (.slice A1 k1 cp1)).setCell ⟨w.heap.size, 2, none⟩ (.slice B1 m1 d1)).setCell ⟨w.heap.size + 1, 0, none⟩ (.int .i64 0)).alloc (.cells #[.bool f, .slice A1 k1 cp1, .slice B1 m1 d1] 50)).heap[w.heap.size + 1]? = some (.cells #[.int .i64 0] 32 (0, 0)) := by
    rw [Below.heap_alloc _ _ _ (by simp; omega)]
    refine (heap_setCell_row (cur := #[.int .i64 0]) (t := 32) (f := (0, 0)) ?_).trans (by simp)
    rw [heap_setCell_other _ (by dsimp only; omega), heap_setCell_other _ (by dsimp only; omega), heap_setCell_other _ (by dsimp only; omega)]
    exact hkE2
  have hIt : ItemR w.heap.size (((((w1.setCell ⟨w.heap.size, 0, none⟩ (.bool f)).setCell ⟨w.heap.size, 1, none⟩ (.slice A1 k1 cp1)).setCell ⟨w.heap.size, 2, none⟩ (.slice B1 m1 d1)).setCell ⟨w.heap.size + 1, 0, none⟩ (.int .i64 0)).alloc (.cells #[.bool f, .slice A1 k1 cp1, .slice B1 m1 d1] 50)) x (.bool f) (.slice A1 k1 cp1) (.slice B1 m1 d1) := by
    refine ItemR.below (bnew _ _) _ _ _ _ (ItemR.mono (n := w.heap.size + 2) (by omega) _ _ _ _ ?_)
    refine ItemR.setCell (by simp) _ _ _ _ _ (ItemR.setCell (by simp) _ _ _ _ _ (ItemR.setCell (by simp) _ _ _ _ _ (ItemR.setCell (by simp) _ _ _ _ _ ?_)))
    simpa using hItem
  have hBB : Below w.heap.size w (((((w1.setCell ⟨w.heap.size, 0, none⟩ (.bool f)).setCell ⟨w.heap.size, 1, none⟩ (.slice A1 k1 cp1)).setCell ⟨w.heap.size, 2, none⟩ (.slice B1 m1 d1)).setCell ⟨w.heap.size + 1, 0, none⟩ (.int .i64 0)).alloc (.cells #[.bool f, .slice A1 k1 cp1, .slice B1 m1 d1] 50)) :=
    (((((bstep (bnew2 _ _ _) hB).setCell (p := ⟨w.heap.size, 0, none⟩) (by simp) _).setCell (p := ⟨w.heap.size, 1, none⟩) (by simp) _).setCell (p := ⟨w.heap.size, 2, none⟩) (by simp) _).setCell (p := ⟨w.heap.size + 1, 0, none⟩) (by simp) _).alloc (by simp; omega) _
  generalize (((((w1.setCell ⟨w.heap.size, 0, none⟩ (.bool f)).setCell ⟨w.heap.size, 1, none⟩ (.slice A1 k1 cp1)).setCell ⟨w.heap.size, 2, none⟩ (.slice B1 m1 d1)).setCell ⟨w.heap.size + 1, 0, none⟩ (.int .i64 0)).alloc (.cells #[.bool f, .slice A1 k1 cp1, .slice B1 m1 d1] 50)) = Wf at hA hE hIt hBB ⊢
  have y0 := cell_of_heap (k := 0) hA rfl
  have y1 := cell_of_heap (k := 1) hA rfl
  have y2 := cell_of_heap (k := 2) hA rfl
  have y3 := cell_of_heap (k := 0) hE rfl
  rw [hr.out]
  simp [Leaves, settle, results, Try.results46, go_sem, FstPost, y0, y1, y2, y3]
  exact ⟨_, _, _, ⟨rfl, rfl, rfl⟩, hIt, hBB⟩

theorem fst_c (l : List UInt8) (A : Option Addr) (n cap : Nat) (hn : n = l.length) (hc : n ≤ cap) (w : World) (hrd : Rd 0 w A (bytesV l)) :
    Calls Try.prog 46 #[.slice A n cap] w (FstPost w (Rlp.fst l)) := by
  by_cases hle : n ≤ 65536
  · have he : Rlp.fst l = Rlp.first 16 l := if_pos (hn ▸ hle)
    cases hf : Rlp.first 16 l with
    | error k => exact fst_no l A n cap hn hle hc w hrd k hf _ (Lib.hid (he.trans hf))
    | ok p => exact fst_yes l A n cap hn hle hc w hrd p.1 p.2 hf _ (Lib.hid (he.trans hf))
  · exact fst_big A n cap (by omega) w _ (Lib.hid (if_neg (hn ▸ hle)))
end Go.Proofs.Ytildkoabfdfjlaa
