/- chain's cursor over items: list, next, end. -/
import Derived.Test.YtildkoabfdfjlaaChA
set_option linter.all false
namespace Go.Proofs.Ytildkoabfdfjlaa
open Go.RowKit
open Rlp (It)

/-- the world's first mm blocks -/
def cut (mm : Nat) (w : World) : World := { w with heap := w.heap.extract 0 mm }
theorem cut_heap {mm k : Nat} {w : World} (h : k < mm) : (cut mm w).heap[k]? = w.heap[k]? := by
  unfold cut
  rw [Array.getElem?_extract]
  simp only [Nat.zero_add]
  split
  · rfl
  · rename_i hk
    rw [Array.getElem?_eq_none (by omega)]
theorem cut_cell {mm b o : Nat} {s : Option Nat} {w : World} {v : Value} (h : (cut mm w).cell? ⟨b, o, s⟩ = some v) : b < mm ∧ w.cell? ⟨b, o, s⟩ = some v := by
  have hlt := cell_lt h
  have hb : b < mm := by
    have : (cut mm w).heap.size ≤ mm := by simp [cut]; omega
    omega
  exact ⟨hb, (World.cell?_of_block (w := cut mm w) (w' := w) (cut_heap hb).symm).trans h⟩
theorem cell_cut {mm b o : Nat} {s : Option Nat} {w : World} {v : Value} (hb : b < mm) (h : w.cell? ⟨b, o, s⟩ = some v) : (cut mm w).cell? ⟨b, o, s⟩ = some v :=
  (World.cell?_of_block (w := w) (w' := cut mm w) (cut_heap hb)).trans h
theorem cut_keep {n mm : Nat} {w w' : World} (hk : ∀ k, n ≤ k → k < mm → w'.heap[k]? = w.heap[k]?) :
    ∀ b o v, n ≤ b → (cut mm w).cell? ⟨b, o, none⟩ = some v → (cut mm w').cell? ⟨b, o, none⟩ = some v := by
  intro b o v hb h
  obtain ⟨h1, h2⟩ := cut_cell h
  exact cell_cut h1 ((World.cell?_of_block (hk b hb h1)).trans h2)

/-- the cursor at R stands before these items, which lie in blocks n..mm-1 -/
def Cur (n mm : Nat) (w : World) (R : Nat) (its : List It) : Prop :=
  ∃ A cap cs, w.heap[R]? = some (.cells #[.slice A its.length cap] 90 (0, 0)) ∧ its.length ≤ cap ∧ mm ≤ R ∧ Rd n (cut mm w) A cs ∧ ItemsR n (cut mm w) its cs

/-- an item that lies in blocks n..mm-1 -/
def Lies (n mm : Nat) (w : World) (x : It) (c0 c1 c2 : Value) : Prop := ItemR n (cut mm w) x c0 c1 c2

theorem Lies.here {n mm : Nat} {w : World} {x : It} {c0 c1 c2 : Value} (h : Lies n mm w x c0 c1 c2) : ItemR n w x c0 c1 c2 := ItemR.keep (fun b o v _ h => (cut_cell h).2) _ _ _ _ h
theorem Lies.of {n : Nat} {w : World} {x : It} {c0 c1 c2 : Value} (h : ItemR n w x c0 c1 c2) : Lies n w.heap.size w x c0 c1 c2 := ItemR.keep (fun b o v _ h => cell_cut (cell_lt h) h) _ _ _ _ h
theorem Lies.move {n mm : Nat} {w w' : World} {x : It} {c0 c1 c2 : Value} (h : Lies n mm w x c0 c1 c2) (hk : ∀ k, n ≤ k → k < mm → w'.heap[k]? = w.heap[k]?) : Lies n mm w' x c0 c1 c2 :=
  ItemR.keep (cut_keep hk) _ _ _ _ h
theorem Cur.lt {n mm : Nat} {w : World} {R : Nat} {its : List It} (h : Cur n mm w R its) : R < w.heap.size := by
  obtain ⟨A, cap, cs, h1, _⟩ := h
  exact (Array.getElem?_eq_some_iff.1 h1).1
theorem Cur.le {n mm : Nat} {w : World} {R : Nat} {its : List It} (h : Cur n mm w R its) : mm ≤ R := by
  obtain ⟨A, cap, cs, _, _, h1, _⟩ := h
  exact h1
/-- whatever turns nothing at R and in the items' blocks keeps the cursor -/
theorem Cur.keep {n mm : Nat} {w w' : World} {R : Nat} {its : List It} (h : Cur n mm w R its) (hR : w'.heap[R]? = w.heap[R]?) (hk : ∀ k, n ≤ k → k < mm → w'.heap[k]? = w.heap[k]?) : Cur n mm w' R its := by
  obtain ⟨A, cap, cs, h1, h2, hmR, h3, h4⟩ := h
  exact ⟨A, cap, cs, hR.trans h1, h2, hmR, h3.keep (cut_keep hk), ItemsR.keep (cut_keep hk) _ _ h4⟩
theorem Cur.below {n mm : Nat} {w w' : World} {R : Nat} {its : List It} (h : Cur n mm w R its) (hb : Below w.heap.size w w') : Cur n mm w' R its :=
  h.keep (hb.block R h.lt) fun k _ hk => hb.block k (by have := h.lt; have := h.le; omega)

/-- no more is turned than the cursor; new memory may have been made -/
abbrev Moves (R : Nat) (w w' : World) : Prop := w.grownBy w' (some R)
theorem Moves.of_below {R : Nat} {w w' : World} (h : Below w.heap.size w w') : Moves R w w' := ⟨h.os, h.tape, h.output, h.size, fun k hk _ => h.block k hk⟩
theorem Moves.below {R m : Nat} {w w' : World} (h : Moves R w w') (hm : m ≤ R) (hR : R < w.heap.size) : Below m w w' :=
  ⟨h.os, h.tape, h.output, h.size, fun k hk => h.block k (by omega) (by intro e; cases e; omega)⟩
theorem Moves.trans {R : Nat} {a b c : World} (h : Moves R a b) (k : Moves R b c) : Moves R a c :=
  ⟨k.os.trans h.os, k.tape.trans h.tape, k.output.trans h.output, Nat.le_trans h.size k.size, fun i hi hne => (k.block i (Nat.lt_of_lt_of_le hi h.size) hne).trans (h.block i hi hne)⟩
theorem Moves.refl (R : Nat) (w : World) : Moves R w w := ⟨rfl, rfl, rfl, Nat.le_refl _, fun _ _ _ => rfl⟩

set_option maxRecDepth 100000 in
set_option maxHeartbeats 400000 in
theorem next_no (n mm : Nat) (w : World) (R : Nat) (hc : Cur n mm w R []) :
    Calls Try.prog 43 #[.pointer (some ⟨R, 0, none⟩)] w fun e w' => e = .panicked (wrg 11) ∧ Moves R w w' := by
  have hlt := hc.lt
  obtain ⟨A, cap, cs, h1, h2, hmR, h3, h4⟩ := hc
  have c0 : w.cell? ⟨R, 0, none⟩ = some (.slice A 0 cap) := by simp [World.cell?, h1]
  clear h1 h2 h3 h4
  go_enter Try.func43, Try.ntmps43
  go_wp2_with (go_at_call 52; first | ((with_reducible refine (need_f _).mono ?_); rintro e w1 ⟨rfl, rfl⟩) | ((with_reducible refine (need_t _).mono ?_); rintro e w1 ⟨rfl, rfl⟩))
  exact ⟨rfl, rfl, Moves.of_below (bnew w _)⟩

def NextPost (n mm : Nat) (w : World) (R : Nat) (x : It) (r : List It) (e : Ending) (w' : World) : Prop :=
  ∃ f A1 k1 cp1 B1 m1 d1, e = .returned (.agg #[.bool f, .slice A1 k1 cp1, .slice B1 m1 d1]) ∧
      Lies n mm w' x (.bool f) (.slice A1 k1 cp1) (.slice B1 m1 d1) ∧ Cur n mm w' R r ∧ Moves R w w'

set_option maxRecDepth 100000 in
set_option maxHeartbeats 400000 in
theorem next_yes (n mm : Nat) (w : World) (R : Nat) (x : It) (r : List It) (hc : Cur n mm w R (x :: r)) :
    Calls Try.prog 43 #[.pointer (some ⟨R, 0, none⟩)] w (NextPost n mm w R x r) := by
  have hlt := hc.lt
  obtain ⟨A, cap, cs, h1, h2, hmR, h3, h4⟩ := hc
  have H3 := Lib.hid (And.intro h3 h4)
  have hit := h4
  have hrd := h3
  clear h3 h4
  simp only [ItemsR] at hit
  obtain ⟨c0, c1, c2, cs', rfl, hx, hxr⟩ := hit
  obtain ⟨f, A1, k1, cp1, B1, m1, d1, rfl, rfl, rfl⟩ := hx.shape
  obtain ⟨b, o, rfl, hk⟩ := hrd.addr (by simp)
  have y0 := hk 0 (by simp)
  have y1 := hk 1 (by simp)
  have y2 := hk 2 (by simp)
  simp only [List.getElem?_cons_zero, List.getElem?_cons_succ, Nat.add_zero] at y0 y1 y2
  have y0 := (cut_cell y0).2
  have y1 := (cut_cell y1).2
  have y2 := (cut_cell y2).2
  have hbl := cell_lt y0
  have HX := Lib.hid (And.intro hx hxr)
  clear hk hrd hx hxr
  obtain ⟨iI, hiI, hzI0, hzI1, hzI2⟩ := info_parts item_info
  obtain ⟨q, hq⟩ : ∃ q, q = r.length := ⟨_, rfl⟩
  rw [List.length_cons, ← hq] at h1 h2
  have HQ := Lib.hid (And.intro hq h2); clear hq
  have hcq : 1 ≤ cap := by omega
  have hsl : ∀ w : World, (Instr.slice 45 (.slice (some ⟨b, o, none⟩) (q + 1) cap) (some (.int .i64 1)) none none).run Try.prog w = .ok (.slice (fromAddr 3 (some ⟨b, o, none⟩) cap 1) q (cap - 1)) w := fun w => run_slice_from w 45 50 iI 3 Try.underlying45 hiI hzI1 (some ⟨b, o, none⟩) (q + 1) cap .i64 1 1 rfl (by omega)
  have z0 : w.cell? ⟨R, 0, none⟩ = some (.slice (some ⟨b, o, none⟩) (q + 1) cap) := by simp [World.cell?, h1]
  have zf : w.frozen? ⟨R, 0, none⟩ = false := by simp [World.frozen?, h1]
  have hd : decide ((0 : Int) < (q : Int) + 1) = true := by rw [decide_eq_true_iff]; omega
  have hd2 : ¬ ((q : Int) + 1 ≤ 0) := by omega
  have hd3 : (0 : Int) < (q : Int) + 1 := by omega
  have H1 := Lib.hid h1; clear h1
  clear hiI hzI0 hzI1 hzI2
  go_enter Try.func43, Try.ntmps43
  go_wp2_with (go_at_call 52; first | ((with_reducible refine (need_t _).mono ?_); rintro e w1 ⟨rfl, rfl⟩) | ((with_reducible refine (need_f _).mono ?_); rintro e w1 ⟨rfl, rfl⟩))
  have hq := HQ.out.1
  have hW : ∀ k, k < w.heap.size → k ≠ R → (((w.setCell ⟨R, 0, none⟩ (.slice (fromAddr 3 (some ⟨b, o, none⟩) cap 1) q (cap - 1))).alloc (.cells #[.bool f, .slice A1 k1 cp1, .slice B1 m1 d1] 50)).alloc (.cells #[.bool f, .slice A1 k1 cp1, .slice B1 m1 d1] 50)).heap[k]? = w.heap[k]? := by
    intro k hk hne
    rw [Below.heap_alloc _ _ _ (by simp; omega), Below.heap_alloc _ _ _ (by simpa using hk), heap_setCell_other _ (by exact hne)]
  have hWR : (((w.setCell ⟨R, 0, none⟩ (.slice (fromAddr 3 (some ⟨b, o, none⟩) cap 1) q (cap - 1))).alloc (.cells #[.bool f, .slice A1 k1 cp1, .slice B1 m1 d1] 50)).alloc (.cells #[.bool f, .slice A1 k1 cp1, .slice B1 m1 d1] 50)).heap[R]? = some (.cells #[.slice (fromAddr 3 (some ⟨b, o, none⟩) cap 1) q (cap - 1)] 90 (0, 0)) := by
    rw [Below.heap_alloc _ _ _ (by simp; omega), Below.heap_alloc _ _ _ (by simpa using hlt)]
    exact (heap_setCell_row H1.out).trans (by simp)
  refine bodyPost_ret (v := .agg #[.bool f, .slice A1 k1 cp1, .slice B1 m1 d1]) (by simp [results, Try.results43, go_sem]) rfl ⟨_, _, _, _, _, _, _, rfl, ?_, ?_, ?_⟩
  · exact ItemR.keep (cut_keep fun k _ hk => hW k (by omega) (by omega)) _ _ _ _ HX.out.1
  · refine ⟨fromAddr 3 (some ⟨b, o, none⟩) cap 1, cap - 1, cs', by rw [← hq]; exact hWR, by have := HQ.out.2; omega, hmR, ?_, ItemsR.keep (cut_keep fun k _ hk => hW k (by omega) (by omega)) _ _ HX.out.2⟩
    have hlen := HX.out.2.length
    have := (H3.out.1.keep (cut_keep fun k _ hk => hW k (by omega) (by omega))).from 3 cap 1 (by have := HQ.out.2; simp; omega)
    simpa using this
  · exact ⟨rfl, rfl, rfl, by simp; omega, fun k hk hne => hW k hk (by intro e; exact hne (by rw [e]))⟩

set_option maxRecDepth 100000 in
set_option maxHeartbeats 400000 in
theorem end_yes (n mm : Nat) (w : World) (R : Nat) (hc : Cur n mm w R []) :
    Calls Try.prog 45 #[.pointer (some ⟨R, 0, none⟩)] w fun e w' => e = .returned (.tuple #[]) ∧ w' = w := by
  have hlt := hc.lt
  obtain ⟨A, cap, cs, h1, h2, hmR, h3, h4⟩ := hc
  have c0 : w.cell? ⟨R, 0, none⟩ = some (.slice A 0 cap) := by simp [World.cell?, h1]
  clear h1 h2 h3 h4
  go_enter Try.func45, Try.ntmps45
  go_wp2_with (go_at_call 52; first | ((with_reducible refine (need_t _).mono ?_); rintro e w1 ⟨rfl, rfl⟩) | ((with_reducible refine (need_f _).mono ?_); rintro e w1 ⟨rfl, rfl⟩))
  go_end0
  exact ⟨rfl, rfl⟩

set_option maxRecDepth 100000 in
set_option maxHeartbeats 400000 in
theorem end_no (n mm : Nat) (w : World) (R : Nat) (x : It) (r : List It) (hc : Cur n mm w R (x :: r)) :
    Calls Try.prog 45 #[.pointer (some ⟨R, 0, none⟩)] w fun e w' => e = .panicked (wrg 11) ∧ w' = w := by
  have hlt := hc.lt
  obtain ⟨A, cap, cs, h1, h2, hmR, h3, h4⟩ := hc
  obtain ⟨q, hq⟩ : ∃ q, q = r.length := ⟨_, rfl⟩
  rw [List.length_cons, ← hq] at h1 h2
  have c0 : w.cell? ⟨R, 0, none⟩ = some (.slice A (q + 1) cap) := by simp [World.cell?, h1]
  have hd : ((q : Int) + 1 == 0) = false := by simp; omega
  clear h1 h2 h3 h4 hq
  go_enter Try.func45, Try.ntmps45
  go_wp2_with (go_at_call 52; first | ((with_reducible refine (need_f _).mono ?_); rintro e w1 ⟨rfl, rfl⟩) | ((with_reducible refine (need_t _).mono ?_); rintro e w1 ⟨rfl, rfl⟩))
  exact ⟨rfl, rfl, rfl⟩

set_option maxRecDepth 100000 in
set_option maxHeartbeats 400000 in
theorem list_no (s : List UInt8) (n : Nat) (c0 c1 c2 : Value) (w : World) (h : ItemR n w (.str s) c0 c1 c2) :
    Calls Try.prog 42 #[.agg #[c0, c1, c2]] w fun e w' => e = .panicked (wrg 11) ∧ Below w.heap.size w w' := by
  obtain ⟨f, A1, k1, cp1, B1, m1, d1, rfl, rfl, rfl⟩ := h.shape
  obtain rfl : f = false := by simp only [ItemR] at h; have := h.1; injection this
  clear h
  go_enter Try.func42, Try.ntmps42
  go_wp2_with (go_at_call 52; (with_reducible refine (need_f _).mono ?_); rintro e w1 ⟨rfl, rfl⟩)
  exact ⟨rfl, rfl, bnew w _⟩

set_option maxRecDepth 100000 in
set_option maxHeartbeats 400000 in
theorem list_yes (its : List It) (n mm : Nat) (c0 c1 c2 : Value) (w : World) (hmw : mm ≤ w.heap.size) (hL : Lies n mm w (.list its) c0 c1 c2) :
    Calls Try.prog 42 #[.agg #[c0, c1, c2]] w fun e w' => ∃ R, e = .returned (.pointer (some ⟨R, 0, none⟩)) ∧ w.heap.size ≤ R ∧ Cur n mm w' R its ∧ Below w.heap.size w w' := by
  have h := hL
  unfold Lies at h
  simp only [ItemR] at h
  obtain ⟨rfl, ⟨B, d, rfl⟩, A, cap, cs, rfl, h4, h5, h6⟩ := h
  have HR := Lib.hid (And.intro h4 (And.intro h5 h6)); clear h4 h5 h6 hL
  go_enter Try.func42, Try.ntmps42
  go_wp2_with (go_at_call 52; (with_reducible refine (need_t _).mono ?_); rintro e w1 ⟨rfl, rfl⟩)
  go_ret
  have hk : ∀ k, k < mm → ((w.alloc (.cells #[.bool true, .slice B 0 d, .slice A its.length cap] 50)).alloc (.cells #[.slice A its.length cap] 90)).heap[k]? = w.heap[k]? := by
    intro k hk
    rw [Below.heap_alloc _ _ _ (by simp; omega), Below.heap_alloc _ _ _ (by omega)]
  refine ⟨w.heap.size + 1, rfl, by omega, ⟨A, cap, cs, ?_, HR.out.1, by omega, HR.out.2.1.keep (cut_keep fun k _ h => hk k h), ItemsR.keep (cut_keep fun k _ h => hk k h) _ _ HR.out.2.2⟩, bnew2 _ _ _⟩
  · have := World.alloc_heap_new (w.alloc (.cells #[.bool true, .slice B 0 d, .slice A its.length cap] 50)) (.cells #[.slice A its.length cap] 90)
    rwa [World.size_alloc] at this
end Go.Proofs.Ytildkoabfdfjlaa
