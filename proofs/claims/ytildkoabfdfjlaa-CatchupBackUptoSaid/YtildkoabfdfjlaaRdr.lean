/- chain's readers: number, int, into. -/
import Derived.Test.YtildkoabfdfjlaaCur
set_option linter.all false
namespace Go.Proofs.Ytildkoabfdfjlaa
open Go.RowKit
open Rlp (It)

def rdNumber : List It → Option (Nat × List It)
  | [] => none
  | x :: r => if (uintPair x).2 = 0 then some ((uintPair x).1, r) else none
def rdInt (most : Nat) (its : List It) : Option (Nat × List It) :=
  match rdNumber its with
  | some p => if p.1 ≤ most then some p else none
  | none => none
def rdInto (len : Nat) : List It → Option (List UInt8 × List It)
  | .str l :: r => if l.length = len then some (l, r) else none
  | _ => none

/-- a reader's answer -/
def RdPost {α : Type} (n mm : Nat) (w : World) (R : Nat) (enc : α → Value) (res : Option (α × List It)) (e : Ending) (w' : World) : Prop :=
  match res with
  | some p => e = .returned (enc p.1) ∧ Cur n mm w' R p.2 ∧ Moves R w w'
  | none => e = .panicked (wrg 11) ∧ Moves R w w'

theorem next_at (n mm : Nat) (w : World) (R : Nat) (x : It) (r : List It) (hc : Cur n mm w R (x :: r)) (K : Ending → World → Prop)
    (h : ∀ f A1 k1 cp1 B1 m1 d1 w', Hid (Lies n mm w' x (.bool f) (.slice A1 k1 cp1) (.slice B1 m1 d1)) → Hid (Cur n mm w' R r) → Hid (Moves R w w') → R < w'.heap.size → K (.returned (.agg #[.bool f, .slice A1 k1 cp1, .slice B1 m1 d1])) w') :
    Calls Try.prog 43 #[.pointer (some ⟨R, 0, none⟩)] w K := by
  refine (next_yes n mm w R x r hc).mono ?_
  rintro e w' ⟨f, A1, k1, cp1, B1, m1, d1, rfl, h1, h2, h3⟩
  exact h f A1 k1 cp1 B1 m1 d1 w' (Lib.hid h1) (Lib.hid h2) (Lib.hid h3) h2.lt

set_option maxRecDepth 100000 in
set_option maxHeartbeats 400000 in
theorem rnumber_nil (n mm : Nat) (w : World) (R : Nat) (hc : Hid (Cur n mm w R [])) (res : Option (Nat × List It)) (hr : Hid (res = none)) :
    Calls Try.prog 39 #[.pointer (some ⟨R, 0, none⟩)] w (RdPost n mm w R (fun v : Nat => .int .u64 (v : Int)) res) := by
  go_enter Try.func39, Try.ntmps39
  go_wp2_with (go_at_call 43; refine (next_no n mm _ R hc.out).mono ?_; rintro e w1 ⟨rfl, hm⟩)
  refine ⟨rfl, ?_⟩
  rw [hr.out]
  exact ⟨rfl, hm⟩

set_option maxRecDepth 100000 in
set_option maxHeartbeats 400000 in
theorem rnumber_cons (n mm : Nat) (w : World) (R : Nat) (x : It) (r : List It) (hc : Hid (Cur n mm w R (x :: r))) (v : Nat) (e : Int) (hu : Hid (uintPair x = (v, e))) (res : Option (Nat × List It)) (hr : Hid (res = if e = 0 then some (v, r) else none)) :
    Calls Try.prog 39 #[.pointer (some ⟨R, 0, none⟩)] w (RdPost n mm w R (fun v : Nat => .int .u64 (v : Int)) res) := by
  have hp1 : (uintPair x).1 = v := by rw [hu.out]
  have hp2 : (uintPair x).2 = e := by rw [hu.out]
  by_cases he : e = 0
  · subst he
    have hres : res = some (v, r) := by rw [hr.out]; simp
    have HRS := Lib.hid hres; clear hres hr hu
    go_enter Try.func39, Try.ntmps39
    go_wp2_with (first
      | (go_at_call 43; refine next_at n mm _ R x r hc.out _ ?_; intro f A1 k1 cp1 B1 m1 d1 w1 HL HCu HM hlt)
      | (go_at_call 13; refine (uint_item_c x _ _ _ w1 (ItemR.mono (Nat.zero_le _) _ _ _ _ HL.out.here)).mono ?_; rw [hp1, hp2]; rintro e w2 ⟨rfl, hB2⟩)
      | (go_at_call 52; first | ((with_reducible refine (need_t _).mono ?_); rintro e w3 ⟨rfl, rfl⟩) | ((with_reducible refine (need_f _).mono ?_); rintro e w3 ⟨rfl, rfl⟩)))
    refine bodyPost_ret (v := .int .u64 (v : Int)) (by simp [results, Try.results39, go_sem]) rfl ?_
    rw [HRS.out]
    exact ⟨rfl, HCu.out.below hB2, HM.out.trans (Moves.of_below hB2)⟩
  · have hd : (e == 0) = false := by simpa using he
    have hres : res = none := by rw [hr.out]; simp [he]
    have HRS := Lib.hid hres; clear hres hr hu
    go_enter Try.func39, Try.ntmps39
    go_wp2_with (first
      | (go_at_call 43; refine next_at n mm _ R x r hc.out _ ?_; intro f A1 k1 cp1 B1 m1 d1 w1 HL HCu HM hlt)
      | (go_at_call 13; refine (uint_item_c x _ _ _ w1 (ItemR.mono (Nat.zero_le _) _ _ _ _ HL.out.here)).mono ?_; rw [hp1, hp2]; rintro e w2 ⟨rfl, hB2⟩)
      | (go_at_call 52; first | ((with_reducible refine (need_f _).mono ?_); rintro e w3 ⟨rfl, rfl⟩) | ((with_reducible refine (need_t _).mono ?_); rintro e w3 ⟨rfl, rfl⟩)))
    refine ⟨rfl, ?_⟩
    rw [HRS.out]
    exact ⟨rfl, HM.out.trans (Moves.of_below hB2)⟩

theorem rnumber_c (n mm : Nat) (w : World) (R : Nat) (its : List It) (hc : Cur n mm w R its) :
    Calls Try.prog 39 #[.pointer (some ⟨R, 0, none⟩)] w (RdPost n mm w R (fun v : Nat => .int .u64 (v : Int)) (rdNumber its)) := by
  cases its with
  | nil => exact rnumber_nil n mm w R hc _ (Lib.hid rfl)
  | cons x r => exact rnumber_cons n mm w R x r hc _ _ (Lib.hid rfl) _ (Lib.hid rfl)

set_option maxRecDepth 100000 in
set_option maxHeartbeats 400000 in
theorem rint_none (n mm : Nat) (w : World) (R : Nat) (its : List It) (most : Nat) (hc : Hid (Cur n mm w R its)) (hn : Hid (rdNumber its = none)) (res : Option (Nat × List It)) (hr : Hid (res = none)) :
    Calls Try.prog 40 #[.pointer (some ⟨R, 0, none⟩), .int .u64 (most : Int)] w (RdPost n mm w R (fun v : Nat => .int .i64 (v : Int)) res) := by
  have HC : Hid (∀ w1, w1 = w → Calls Try.prog 39 #[.pointer (some ⟨R, 0, none⟩)] w1 fun e w' => e = .panicked (wrg 11) ∧ Moves R w1 w') := by
    refine Lib.hid ?_
    rintro w1 rfl
    have := rnumber_c n mm w1 R its hc.out
    rw [hn.out] at this
    exact this
  go_enter Try.func40, Try.ntmps40
  go_wp2_with (go_at_call 39; refine (HC.out _ rfl).mono ?_; rintro e w1 ⟨rfl, hm⟩)
  refine ⟨rfl, ?_⟩
  rw [hr.out]
  exact ⟨rfl, hm⟩

set_option maxRecDepth 100000 in
set_option maxHeartbeats 400000 in
theorem rint_some (n mm : Nat) (w : World) (R : Nat) (its : List It) (most : Nat) (hmost : most ≤ 9223372036854775807) (hc : Hid (Cur n mm w R its)) (v : Nat) (r : List It) (hn : Hid (rdNumber its = some (v, r))) (res : Option (Nat × List It)) (hr : Hid (res = if v ≤ most then some (v, r) else none)) :
    Calls Try.prog 40 #[.pointer (some ⟨R, 0, none⟩), .int .u64 (most : Int)] w (RdPost n mm w R (fun v : Nat => .int .i64 (v : Int)) res) := by
  have HC : Hid (∀ w1, w1 = w → Calls Try.prog 39 #[.pointer (some ⟨R, 0, none⟩)] w1 fun e w' => e = .returned (.int .u64 (v : Int)) ∧ Hid (Cur n mm w' R r) ∧ Hid (Moves R w1 w')) := by
    refine Lib.hid ?_
    rintro w1 rfl
    have := rnumber_c n mm w1 R its hc.out
    rw [hn.out] at this
    exact this
  by_cases hv : v ≤ most
  · have hd : decide ((v : Int) ≤ (most : Int)) = true := by rw [decide_eq_true_iff]; omega
    have hb : (v : Int) ≤ 9223372036854775807 := by omega
    have HRS := Lib.hid (hr.out.trans (if_pos hv)); clear hr
    go_enter Try.func40, Try.ntmps40
    go_wp2_with (first
      | (go_at_call 39; refine (HC.out _ rfl).mono ?_; rintro e w1 ⟨rfl, hcu, hm⟩)
      | (go_at_call 52; (with_reducible refine (need_t _).mono ?_); rintro e w3 ⟨rfl, rfl⟩))
    refine bodyPost_ret (v := .int .i64 (v : Int)) (by simp [results, Try.results40, go_sem]) rfl ?_
    rw [HRS.out]
    exact ⟨rfl, hcu.out, hm.out⟩
  · have hd : decide ((v : Int) ≤ (most : Int)) = false := by rw [decide_eq_false_iff_not]; omega
    have HRS := Lib.hid (hr.out.trans (if_neg hv)); clear hr
    go_enter Try.func40, Try.ntmps40
    go_wp2_with (first
      | (go_at_call 39; refine (HC.out _ rfl).mono ?_; rintro e w1 ⟨rfl, hcu, hm⟩)
      | (go_at_call 52; (with_reducible refine (need_f _).mono ?_); rintro e w3 ⟨rfl, rfl⟩))
    refine ⟨rfl, ?_⟩
    rw [HRS.out]
    exact ⟨rfl, hm.out⟩

theorem rint_c (n mm : Nat) (w : World) (R : Nat) (its : List It) (most : Nat) (hmost : most ≤ 9223372036854775807) (hc : Cur n mm w R its) :
    Calls Try.prog 40 #[.pointer (some ⟨R, 0, none⟩), .int .u64 (most : Int)] w (RdPost n mm w R (fun v : Nat => .int .i64 (v : Int)) (rdInt most its)) := by
  cases hn : rdNumber its with
  | none => exact rint_none n mm w R its most hc hn _ (Lib.hid (by unfold rdInt; rw [hn]))
  | some p => exact rint_some n mm w R its most hmost hc p.1 p.2 hn _ (Lib.hid (by unfold rdInt; rw [hn]))

set_option maxRecDepth 100000 in
set_option maxHeartbeats 400000 in
theorem rinto_nil (n mm : Nat) (w : World) (R : Nat) (hc : Hid (Cur n mm w R [])) (b o len cap : Nat) :
    Calls Try.prog 41 #[.pointer (some ⟨R, 0, none⟩), .slice (some ⟨b, o, none⟩) len cap] w fun e w' => e = .panicked (wrg 11) ∧ Moves R w w' := by
  go_enter Try.func41, Try.ntmps41
  go_wp2_with (go_at_call 43; refine (next_no n mm _ R hc.out).mono ?_; rintro e w1 ⟨rfl, hm⟩)
  exact ⟨rfl, rfl, hm⟩

set_option maxRecDepth 100000 in
set_option maxHeartbeats 400000 in
theorem rinto_list (n mm : Nat) (w : World) (R : Nat) (l : List It) (r : List It) (hc : Hid (Cur n mm w R (.list l :: r))) (b o len cap : Nat) :
    Calls Try.prog 41 #[.pointer (some ⟨R, 0, none⟩), .slice (some ⟨b, o, none⟩) len cap] w fun e w' => e = .panicked (wrg 11) ∧ Moves R w w' := by
  go_enter Try.func41, Try.ntmps41
  go_wp2_with (first
    | (go_at_call 43; refine next_at n mm _ R _ r hc.out _ ?_; intro f A1 k1 cp1 B1 m1 d1 w1 HL HCu HM hlt; obtain rfl : f = true := (by have h := HL.out.here; simp only [ItemR] at h; have := h.1; injection this))
    | (go_at_call 52; (with_reducible refine (need_f _).mono ?_); rintro e w3 ⟨rfl, rfl⟩))
  exact ⟨rfl, rfl, HM.out.trans (Moves.of_below (bnew _ _))⟩

set_option maxRecDepth 100000 in
set_option maxHeartbeats 400000 in
theorem rinto_long (n mm : Nat) (w : World) (R : Nat) (l : List UInt8) (r : List It) (hc : Hid (Cur n mm w R (.str l :: r))) (b o len cap : Nat) (hne : l.length ≠ len) :
    Calls Try.prog 41 #[.pointer (some ⟨R, 0, none⟩), .slice (some ⟨b, o, none⟩) len cap] w fun e w' => e = .panicked (wrg 11) ∧ Moves R w w' := by
  have hd : ((l.length : Int) == (len : Int)) = false := by simp; omega
  clear hne
  go_enter Try.func41, Try.ntmps41
  go_wp2_with (first
    | (go_at_call 43; refine next_at n mm _ R _ r hc.out _ ?_; intro f A1 k1 cp1 B1 m1 d1 w1 HL HCu HM hlt; obtain ⟨rfl, rfl⟩ : f = false ∧ k1 = l.length := (by have h := HL.out.here; simp only [ItemR] at h; obtain ⟨h1, ⟨A, cp, h2, _⟩, _⟩ := h; injection h1 with h1; injection h2 with _ h2 _; exact ⟨h1, by omega⟩))
    | (go_at_call 52; (with_reducible refine (need_f _).mono ?_); rintro e w3 ⟨rfl, rfl⟩))
  exact ⟨rfl, rfl, HM.out.trans (Moves.of_below (bnew _ _))⟩

/-- no more is turned than the cursor and the block g; new memory may have been made -/
structure Moves2 (R g : Nat) (w w' : World) : Prop where
  os : w'.os = w.os
  tape : w'.tape = w.tape
  output : w'.output = w.output
  size : w.heap.size ≤ w'.heap.size
  block : ∀ k, k < w.heap.size → k ≠ R → k ≠ g → w'.heap[k]? = w.heap[k]?
theorem Moves2.of {R g : Nat} {w w' : World} (h : Moves R w w') : Moves2 R g w w' := ⟨h.os, h.tape, h.output, h.size, fun k hk h1 _ => h.block k hk (fun e => h1 (by injection e))⟩
theorem Moves2.trans {R g : Nat} {a b c : World} (h : Moves2 R g a b) (k : Moves2 R g b c) : Moves2 R g a c :=
  ⟨k.os.trans h.os, k.tape.trans h.tape, k.output.trans h.output, Nat.le_trans h.size k.size, fun i hi h1 h2 => (k.block i (Nat.lt_of_lt_of_le hi h.size) h1 h2).trans (h.block i hi h1 h2)⟩

theorem heap_setRow_same {w : World} {g : Nat} {cur cs : Array Value} {t : TypeId} {f : Nat × Nat} (h : w.heap[g]? = some (.cells cur t f)) : (w.setRow g cs).heap[g]? = some (.cells cs t f) := by
  simp [World.setRow, Array.getElem?_modify, h]
theorem heap_setRow_other {w : World} {g k : Nat} (cs : Array Value) (h : k ≠ g) : (w.setRow g cs).heap[k]? = w.heap[k]? := by
  simp [World.setRow, Array.getElem?_modify, Ne.symm h]

/-- bytes laid over a row from o on -/
def lay (cur : Array Value) (o : Nat) (l : List UInt8) : Array Value := (cur.toList.take o ++ bytesV l ++ cur.toList.drop (o + (bytesV l).length)).toArray

def IntoPost (n mm : Nat) (w : World) (R g : Nat) (r : List It) (c' : Array Value) (t : TypeId) (e : Ending) (w' : World) : Prop :=
  e = .returned (.tuple #[]) ∧ Cur n mm w' R r ∧ Moves2 R g w w' ∧ w'.heap[g]? = some (.cells c' t (0, 0))

set_option maxRecDepth 100000 in
set_option maxHeartbeats 400000 in
theorem rinto_yes (n mm : Nat) (w : World) (R : Nat) (l : List UInt8) (hl0 : 0 < l.length) (r : List It) (hc : Hid (Cur n mm w R (.str l :: r))) (g o cap : Nat) (cur : Array Value) (t : TypeId) (hg : w.heap[g]? = some (.cells cur t (0, 0))) (hfit : o + l.length ≤ cur.size)
    (hgR : g ≠ R) (hgn : g < n ∨ mm ≤ g) :
    Calls Try.prog 41 #[.pointer (some ⟨R, 0, none⟩), .slice (some ⟨g, o, none⟩) l.length cap] w (IntoPost n mm w R g r (lay cur o l) t) := by
  have HG := Lib.hid (And.intro hg (And.intro hfit (And.intro hgR hgn))); clear hg hfit hgR hgn
  have hlt0 := hc.out.lt
  have hle0 := hc.out.le
  obtain ⟨i0, hi0, hz0, hz1, hz2⟩ := info_parts u8_info
  go_enter Try.func41, Try.ntmps41
  go_wp2_with (first
    | (go_at_call 43; refine next_at n mm _ R _ r hc.out _ ?_; intro f A1 k1 cp1 B1 m1 d1 w1 HL HCu HM hlt; obtain ⟨rfl, rfl⟩ : f = false ∧ k1 = l.length := (by have h := HL.out.here; simp only [ItemR] at h; obtain ⟨h1, ⟨A, cp, h2, _⟩, _⟩ := h; injection h1 with h1; injection h2 with _ h2 _; exact ⟨h1, by omega⟩))
    | (go_at_call 52; (with_reducible refine (need_t _).mono ?_); rintro e w3 ⟨rfl, rfl⟩))
  have hI := HL.out.here
  simp only [ItemR] at hI
  obtain ⟨_, ⟨A2, cp2, he2, hcp2, hrd2⟩, _⟩ := hI
  injection he2 with he2 _ he3
  subst he2 he3
  obtain ⟨sb, so, rfl, hsk⟩ := (hrd2.below (bnew w1 (.cells #[.bool false, .slice A1 l.length cp1, .slice B1 m1 d1] 50))).addr (by rw [bytesV_length]; exact hl0)
  have hglt : g < w.heap.size := (Array.getElem?_eq_some_iff.1 HG.out.1).1
  have hg1 : w1.heap[g]? = some (.cells cur t (0, 0)) := (HM.out.block g hglt (by intro e; exact HG.out.2.2.1 (by injection e))).trans HG.out.1
  have hglt1 : g < w1.heap.size := (Array.getElem?_eq_some_iff.1 hg1).1
  have hg2 := (Below.heap_alloc w1 (.cells #[.bool false, .slice (some ⟨sb, so, none⟩) l.length cp1, .slice B1 m1 d1] 50) g hglt1).trans hg1
  have hcopy := run_copy_row (P := Try.prog) (w1.alloc (.cells #[.bool false, .slice (some ⟨sb, so, none⟩) l.length cp1, .slice B1 m1 d1] 50)) 31 31 3 5 g o l.length cap ⟨sb, so, none⟩ l.length cp1 cur t (bytesV l) Try.underlying31 (by rw [hi0]; simp [hz1]) hg2 (by rw [bytesV_length]; simp)
    (by
      intro j v hj
      have hjl := (List.getElem?_eq_some_iff.1 hj).1
      have := hsk j hjl
      rw [hj] at this
      have hadd : (⟨sb, so, none⟩ : Addr).add j = ⟨sb, so + j, none⟩ := by unfold Addr.add; split <;> simp_all
      rw [hadd]; exact this) (by rw [bytesV_length]; exact HG.out.2.1) (bytesV_one l)
  rw [hcopy]
  obtain ⟨W3, hW3⟩ : ∃ W3, (w1.alloc (.cells #[.bool false, .slice (some ⟨sb, so, none⟩) l.length cp1, .slice B1 m1 d1] 50)).setRow g (lay cur o l) = W3 := ⟨_, rfl⟩
  have hfin : IntoPost n mm w R g r (lay cur o l) t (.returned (.tuple #[])) W3 := by
    rw [← hW3]
    have hoth : ∀ k, k < w1.heap.size → k ≠ g → ((w1.alloc (.cells #[.bool false, .slice (some ⟨sb, so, none⟩) l.length cp1, .slice B1 m1 d1] 50)).setRow g (lay cur o l)).heap[k]? = w1.heap[k]? := by
      intro k hk hne
      rw [heap_setRow_other _ hne]
      exact Below.heap_alloc _ _ _ hk
    refine ⟨rfl, ?_, ?_, heap_setRow_same hg2⟩
    · have hgn := HG.out.2.2.2
      exact HCu.out.keep (hoth R hlt (Ne.symm HG.out.2.2.1)) fun k hn hk => hoth k (by omega) (by rcases hgn with h | h <;> omega)
    · exact (Moves2.of HM.out).trans ⟨rfl, rfl, rfl, by simp [World.setRow], fun k hk h1 h2 => hoth k hk h2⟩
  rw [show (((w1.alloc (.cells #[.bool false, .slice (some ⟨sb, so, none⟩) l.length cp1, .slice B1 m1 d1] 50)).setRow g (cur.toList.take o ++ bytesV l ++ cur.toList.drop (o + (bytesV l).length)).toArray)) = W3 from hW3]
  clear hcopy hsk hrd2 hg2 hW3
  simp only [Result.andThen_ok]
  go_wp2
  go_end0
  exact hfin

def IntoRes (n mm : Nat) (w : World) (R g o len : Nat) (cur : Array Value) (t : TypeId) (its : List It) (e : Ending) (w' : World) : Prop :=
  match rdInto len its with
  | some p => IntoPost n mm w R g p.2 (lay cur o p.1) t e w'
  | none => e = .panicked (wrg 11) ∧ Moves R w w'

theorem rinto_c (n mm : Nat) (w : World) (R : Nat) (its : List It) (len : Nat) (hlen : 0 < len) (hc : Cur n mm w R its) (g o cap : Nat) (cur : Array Value) (t : TypeId) (hg : w.heap[g]? = some (.cells cur t (0, 0))) (hfit : o + len ≤ cur.size)
    (hgR : g ≠ R) (hgn : g < n ∨ mm ≤ g) :
    Calls Try.prog 41 #[.pointer (some ⟨R, 0, none⟩), .slice (some ⟨g, o, none⟩) len cap] w (IntoRes n mm w R g o len cur t its) := by
  match its, hc with
  | [], hc =>
    refine (rinto_nil n mm w R hc g o len cap).mono ?_
    rintro e w' h; exact h
  | .list l :: r, hc =>
    refine (rinto_list n mm w R l r hc g o len cap).mono ?_
    rintro e w' h; exact h
  | .str l :: r, hc =>
    by_cases hl : l.length = len
    · subst hl
      refine (rinto_yes n mm w R l hlen r hc g o cap cur t hg hfit hgR hgn).mono ?_
      rintro e w' h
      unfold IntoRes
      rw [show rdInto l.length (.str l :: r) = some (l, r) from if_pos rfl]
      exact h
    · refine (rinto_long n mm w R l r hc g o len cap hl).mono ?_
      rintro e w' h
      unfold IntoRes
      rw [show rdInto len (.str l :: r) = none from if_neg hl]
      exact h
end Go.Proofs.Ytildkoabfdfjlaa
