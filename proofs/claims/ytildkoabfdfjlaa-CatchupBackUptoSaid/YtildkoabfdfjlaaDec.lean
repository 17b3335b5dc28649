/- rlp.Decode. -/
import Derived.Test.YtildkoabfdfjlaaFst
set_option linter.all false
namespace Go.Proofs.Ytildkoabfdfjlaa
open Go.RowKit
open Rlp (It)

theorem opened_err {b0 : UInt8} {r : List UInt8} {base : Nat} {k : Int} (h : Rlp.opened b0 r base = .error k) : k ≠ 0 := by
  unfold Rlp.opened Rlp.eEnd Rlp.eRlp at h
  split at h
  · cases h
  · split at h
    · cases h; decide
    · split at h
      · cases h; decide
      · split at h
        · cases h; decide
        · cases h
theorem parts_err {f : List UInt8 → Except Int (It × Nat)} {b : List UInt8} {n : Nat} (hf : ∀ l k, f l = .error k → k ≠ 0) : ∀ (fuel at_ : Nat) (acc : List It) (k : Int), Rlp.parts f b n fuel at_ acc = .error k → k ≠ 0
  | 0, at_, acc, k, h => by
    rw [Rlp.parts] at h
    cases h
  | fuel + 1, at_, acc, k, h => by
    rw [Rlp.parts] at h
    split at h
    · split at h
      · rename_i e he
        cases h
        exact hf _ _ he
      · split at h
        · exact parts_err hf fuel _ _ k h
        · unfold Rlp.eRlp at h; cases h; decide
    · cases h
theorem firstBody_err {lst : List UInt8 → Nat → Except Int (List It)} (hl : ∀ b n k, lst b n = .error k → k ≠ 0) {l : List UInt8} {k : Int} (h : Rlp.firstBody lst l = .error k) : k ≠ 0 := by
  cases l with
  | nil => unfold Rlp.firstBody Rlp.eEnd at h; cases h; decide
  | cons b0 r =>
    rw [Rlp.firstBody] at h
    split at h
    · cases h
    · split at h
      · cases ho : Rlp.opened b0 r 0xc0 with
        | error e => rw [ho] at h; cases h; exact opened_err ho
        | ok p =>
          obtain ⟨hh, n⟩ := p
          rw [ho] at h
          simp only at h
          split at h
          · unfold Rlp.eEnd at h; cases h; decide
          · cases hq : lst ((b0 :: r).drop hh) n with
            | error e => rw [hq] at h; cases h; exact hl _ _ _ hq
            | ok p => rw [hq] at h; cases h
      · cases ho : Rlp.opened b0 r 0x80 with
        | error e => rw [ho] at h; cases h; exact opened_err ho
        | ok p =>
          obtain ⟨hh, n⟩ := p
          rw [ho] at h
          simp only at h
          split at h
          · unfold Rlp.eEnd at h; cases h; decide
          · split at h
            · unfold Rlp.eRlp at h; cases h; decide
            · cases h
theorem first_err : ∀ (d : Nat) (l : List UInt8) (k : Int), Rlp.first d l = .error k → k ≠ 0
  | 0, l, k, h => firstBody_err (fun b n k hk => by unfold Rlp.eBig at hk; cases hk; decide) h
  | d + 1, l, k, h => firstBody_err (fun b n k hk => parts_err (first_err d) _ _ _ _ hk) h

def DecPost (w : World) (r : Except Int It) (e : Ending) (w' : World) : Prop :=
  match r with
  | .ok x => ∃ c0 c1 c2, e = .returned (.tuple #[.agg #[c0, c1, c2], .int .i64 0]) ∧ ItemR w.heap.size w' x c0 c1 c2 ∧ Below w.heap.size w w'
  | .error k => e = .returned (.tuple #[.agg #[.bool false, .slice none 0 0, .slice none 0 0], .int .i64 k]) ∧ Below w.heap.size w w'

theorem decode_err {l : List UInt8} {k : Int} (h : Rlp.decode l = .error k) : k ≠ 0 := by
  unfold Rlp.decode at h
  split at h
  · cases hf : Rlp.first 16 l with
    | error e => rw [hf] at h; cases h; exact first_err _ _ _ hf
    | ok p =>
      obtain ⟨x, n⟩ := p
      rw [hf] at h
      simp only at h
      split at h
      · cases h
      · unfold Rlp.eRlp at h; cases h; decide
  · unfold Rlp.eBig at h; cases h; decide

/-- three cells set anew -/
theorem heap_set3 {W : World} {b : Nat} {x0 y0 z0 : Value} {t : TypeId} {f : Nat × Nat} (x y z : Value) (h : W.heap[b]? = some (.cells #[x0, y0, z0] t f)) :
    (((W.setCell ⟨b, 0, none⟩ x).setCell ⟨b, 1, none⟩ y).setCell ⟨b, 2, none⟩ z).heap[b]? = some (.cells #[x, y, z] t f) :=
  (heap_setCell_row (heap_setCell_row (heap_setCell_row h))).trans (by simp)
theorem below_set3 {n : Nat} {w W : World} {b : Nat} (x y z : Value) (h : Below n w W) (hb : n ≤ b) : Below n w (((W.setCell ⟨b, 0, none⟩ x).setCell ⟨b, 1, none⟩ y).setCell ⟨b, 2, none⟩ z) :=
  ((h.setCell (p := ⟨b, 0, none⟩) hb _).setCell (p := ⟨b, 1, none⟩) hb _).setCell (p := ⟨b, 2, none⟩) hb _
theorem item_set3 {n : Nat} {W : World} {b : Nat} (x y z : Value) {it : It} {c0 c1 c2 : Value} (h : ItemR n W it c0 c1 c2) (hb : b < n) : ItemR n (((W.setCell ⟨b, 0, none⟩ x).setCell ⟨b, 1, none⟩ y).setCell ⟨b, 2, none⟩ z) it c0 c1 c2 :=
  ItemR.setCell hb _ _ _ _ _ (ItemR.setCell hb _ _ _ _ _ (ItemR.setCell hb _ _ _ _ _ h))

theorem heap_kept {w w1 : World} {o : Obj} (hB : Below (w.alloc o).heap.size (w.alloc o) w1) : w1.heap[w.heap.size]? = some o :=
  (hB.block _ (by simp)).trans (World.alloc_heap_new w o)

set_option maxRecDepth 100000 in
set_option maxHeartbeats 400000 in
theorem dec_no1 (l : List UInt8) (A : Option Addr) (n cap : Nat) (hn : n = l.length) (hc : n ≤ cap) (w : World) (hrd : Rd 0 w A (bytesV l)) (k : Int) (hk0 : k ≠ 0) (hf : Hid (Rlp.fst l = .error k)) (r : Except Int It) (hr : Hid (r = .error k)) :
    Calls Try.prog 23 #[.slice A n cap] w (DecPost w r) := by
  have HRD := Lib.hid hrd; clear hrd
  have hd : (k != 0) = true := by simpa using hk0
  have HC : Hid (∀ w1, Below w.heap.size w w1 → Calls Try.prog 46 #[.slice A n cap] w1 fun e w' => e = .returned (.tuple #[.agg #[.bool false, .slice none 0 0, .slice none 0 0], .int .i64 0, .int .i64 k]) ∧ Below w1.heap.size w1 w') := by
    refine Lib.hid fun w1 hb => ?_
    have := fst_c l A n cap hn hc w1 (HRD.out.below hb)
    rw [hf.out] at this
    exact this
  clear hn
  go_enter Try.func23, Try.ntmps23
  go_wp2_with (first
    | (go_at_call 46; refine (HC.out _ (bnew _ _)).mono ?_; rintro e w1 ⟨rfl, hB⟩; obtain ⟨hk1, hk2⟩ := keptCells hB; have hz0 : w.heap.size < w1.heap.size := by have := hB.size; simp at this; omega))
  have hH := heap_set3 (.bool false) (.slice none 0 0) (.slice none 0 0) (heap_kept hB)
  have hBB := below_set3 (.bool false) (.slice none 0 0) (.slice none 0 0) (bstep (bnew w _) hB) (Nat.le_refl _)
  have hH2 := (Below.heap_alloc _ (.cells #[.bool false, .slice none 0 0, .slice none 0 0] 50) _ (by simp; exact hz0)).trans hH
  have hB2 := hBB.alloc (by simp; omega) (.cells #[.bool false, .slice none 0 0, .slice none 0 0] 50)
  have y0 := cell_of_heap (k := 0) hH2 rfl
  have y1 := cell_of_heap (k := 1) hH2 rfl
  have y2 := cell_of_heap (k := 2) hH2 rfl
  refine bodyPost_ret (v := .tuple #[.agg #[.bool false, .slice none 0 0, .slice none 0 0], .int .i64 k]) (by simp only [results, Try.results23]; simp [go_sem, y0, y1, y2]) rfl ?_
  rw [hr.out]
  exact ⟨rfl, hB2⟩

theorem dec_call (l : List UInt8) (A : Option Addr) (n cap : Nat) (hn : n = l.length) (hc : n ≤ cap) (w : World) (hrd : Rd 0 w A (bytesV l)) (x : It) (m : Nat) (hf : Rlp.fst l = .ok (x, m)) (w1 : World) (hb : Below w.heap.size w w1) :
    Calls Try.prog 46 #[.slice A n cap] w1 fun e w' => ∃ f A1 k1 cp1 B1 m1 d1, e = .returned (.tuple #[.agg #[.bool f, .slice A1 k1 cp1, .slice B1 m1 d1], .int .i64 (m : Int), .int .i64 0]) ∧ Hid (ItemR w1.heap.size w' x (.bool f) (.slice A1 k1 cp1) (.slice B1 m1 d1)) ∧ Below w1.heap.size w1 w' := by
  have := fst_c l A n cap hn hc w1 (hrd.below hb)
  rw [hf] at this
  refine this.mono ?_
  rintro e w' ⟨c0, c1, c2, rfl, hI, hB⟩
  obtain ⟨f, A1, k1, cp1, B1, m1, d1, rfl, rfl, rfl⟩ := hI.shape
  exact ⟨f, A1, k1, cp1, B1, m1, d1, rfl, Lib.hid hI, hB⟩

set_option maxRecDepth 100000 in
set_option maxHeartbeats 400000 in
theorem dec_no2 (l : List UInt8) (A : Option Addr) (n cap : Nat) (hn : n = l.length) (hc : n ≤ cap) (w : World) (hrd : Rd 0 w A (bytesV l)) (x : It) (m : Nat) (hm : m ≠ n) (hf : Hid (Rlp.fst l = .ok (x, m))) (r : Except Int It) (hr : Hid (r = .error 11)) :
    Calls Try.prog 23 #[.slice A n cap] w (DecPost w r) := by
  have HC := Lib.hid (dec_call l A n cap hn hc w hrd x m hf.out); clear hrd
  have hd : ((m : Int) != (n : Int)) = true := by simpa using (by omega : ¬ (m : Int) = n)
  clear hn
  go_enter Try.func23, Try.ntmps23
  go_wp2_with (first
    | (go_at_call 46; refine (HC.out _ (bnew _ _)).mono ?_; rintro e w1 ⟨f, A1, k1, cp1, B1, m1, d1, rfl, HI, hB⟩; obtain ⟨hk1, hk2⟩ := keptCells hB; have hz0 : w.heap.size < w1.heap.size := by have := hB.size; simp at this; omega))
  have hH := heap_set3 (.bool false) (.slice none 0 0) (.slice none 0 0) (heap_kept hB)
  have hBB := below_set3 (.bool false) (.slice none 0 0) (.slice none 0 0) (bstep (bnew w _) hB) (Nat.le_refl _)
  have hH2 := (Below.heap_alloc _ (.cells #[.bool f, .slice A1 k1 cp1, .slice B1 m1 d1] 50) _ (by simp; exact hz0)).trans hH
  have hB2 := hBB.alloc (by simp; omega) (.cells #[.bool f, .slice A1 k1 cp1, .slice B1 m1 d1] 50)
  have y0 := cell_of_heap (k := 0) hH2 rfl
  have y1 := cell_of_heap (k := 1) hH2 rfl
  have y2 := cell_of_heap (k := 2) hH2 rfl
  refine bodyPost_ret (v := .tuple #[.agg #[.bool false, .slice none 0 0, .slice none 0 0], .int .i64 11]) (by simp only [results, Try.results23]; simp [go_sem, y0, y1, y2]) rfl ?_
  rw [hr.out]
  exact ⟨rfl, hB2⟩

set_option maxRecDepth 100000 in
set_option maxHeartbeats 400000 in
theorem dec_yes (l : List UInt8) (A : Option Addr) (n cap : Nat) (hn : n = l.length) (hc : n ≤ cap) (w : World) (hrd : Rd 0 w A (bytesV l)) (x : It) (m : Nat) (hm : m = n) (hf : Hid (Rlp.fst l = .ok (x, m))) (r : Except Int It) (hr : Hid (r = .ok x)) :
    Calls Try.prog 23 #[.slice A n cap] w (DecPost w r) := by
  have HC := Lib.hid (dec_call l A n cap hn hc w hrd x m hf.out); clear hrd hn
  subst hm
  go_enter Try.func23, Try.ntmps23
  go_wp2_with (first
    | (go_at_call 46; refine (HC.out _ (bnew _ _)).mono ?_; rintro e w1 ⟨f, A1, k1, cp1, B1, m1, d1, rfl, HI, hB⟩; obtain ⟨hk1, hk2⟩ := keptCells hB; have hz0 : w.heap.size < w1.heap.size := by have := hB.size; simp at this; omega))
  have hH := heap_set3 (.bool f) (.slice A1 k1 cp1) (.slice B1 m1 d1) (heap_kept hB)
  have hBB := below_set3 (.bool f) (.slice A1 k1 cp1) (.slice B1 m1 d1) (bstep (bnew w _) hB) (Nat.le_refl _)
  have hII := item_set3 (.bool f) (.slice A1 k1 cp1) (.slice B1 m1 d1) HI.out (b := w.heap.size) (by simp)
  have hH2 := (Below.heap_alloc _ (.cells #[.bool f, .slice A1 k1 cp1, .slice B1 m1 d1] 50) _ (by simp; exact hz0)).trans hH
  have hB2 := hBB.alloc (by simp; omega) (.cells #[.bool f, .slice A1 k1 cp1, .slice B1 m1 d1] 50)
  have hI2 := ItemR.mono (n' := w.heap.size) (by simp) _ _ _ _ (ItemR.below (bnew _ (.cells #[.bool f, .slice A1 k1 cp1, .slice B1 m1 d1] 50)) _ _ _ _ hII)
  have y0 := cell_of_heap (k := 0) hH2 rfl
  have y1 := cell_of_heap (k := 1) hH2 rfl
  have y2 := cell_of_heap (k := 2) hH2 rfl
  refine bodyPost_ret (v := .tuple #[.agg #[.bool f, .slice A1 k1 cp1, .slice B1 m1 d1], .int .i64 0]) (by simp only [results, Try.results23]; simp [go_sem, y0, y1, y2]) rfl ?_
  rw [hr.out]
  exact ⟨_, _, _, rfl, hI2, hB2⟩

/-- Decode does what Rlp.decode tells -/
theorem decode_c (l : List UInt8) (A : Option Addr) (n cap : Nat) (hn : n = l.length) (hc : n ≤ cap) (w : World) (hrd : Rd 0 w A (bytesV l)) :
    Calls Try.prog 23 #[.slice A n cap] w (DecPost w (Rlp.decode l)) := by
  have he : Rlp.decode l = match Rlp.fst l with | .error e => .error e | .ok (x, n) => if n = l.length then .ok x else .error 11 := by
    unfold Rlp.decode Rlp.fst Rlp.eBig Rlp.eRlp Rlp.MaxRlp
    split <;> rfl
  cases hf : Rlp.fst l with
  | error k =>
    have hd : Rlp.decode l = .error k := by rw [he, hf]
    exact dec_no1 l A n cap hn hc w hrd k (decode_err hd) hf _ (Lib.hid hd)
  | ok p =>
    obtain ⟨x, m⟩ := p
    rw [hf] at he
    simp only at he
    by_cases hm : m = n
    · rw [if_pos (hm.trans hn)] at he
      exact dec_yes l A n cap hn hc w hrd x m hm hf _ (Lib.hid he)
    · rw [if_neg (fun h => hm (h.trans hn.symm))] at he
      exact dec_no2 l A n cap hn hc w hrd x m hm hf _ (Lib.hid he)
end Go.Proofs.Ytildkoabfdfjlaa
