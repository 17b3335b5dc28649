/- The reference's disk against the program's: Append, plain. The reference's disk: put. -/
import Derived.Test.YtjpcmgoajdjkgaaGreatDoorRDsk
import Derived.Test.YtjpcmgoajdjkgaaGreatDoorApp
import Derived.Test.YtjpcmgoajdjkgaaGreatDoorNames
import Derived.Sort.Walk0
set_option linter.all false
namespace Go.Proofs.YtjpcmgoajdjkgaaGreatDoor
open Go.RowKit Go.Sort

/-- one round of the reference's put -/
def putStep {α : Type} (nm : α → List UInt8) (f : α) (acc : List α × Bool) (x : α) : List α × Bool :=
  (if nm x ≠ nm f then (if acc.2 = false ∧ nm f ≤ nm x then acc.1 ++ [f] else acc.1) ++ [x] else (if acc.2 = false ∧ nm f ≤ nm x then acc.1 ++ [f] else acc.1),
    acc.2 || decide (nm f ≤ nm x))
def putTo {α : Type} (nm : α → List UInt8) (f : α) (l : List α) : List α × Bool := l.foldl (putStep nm f) ([], false)
def putM {α : Type} (nm : α → List UInt8) (f : α) (l : List α) : List α := if (putTo nm f l).2 then (putTo nm f l).1 else (putTo nm f l).1 ++ [f]
def insM {α : Type} (nm : α → List UInt8) (f : α) : List α → List α
  | [] => [f]
  | x :: r => if nm x = nm f then f :: r else if nm f < nm x then f :: x :: r else x :: insM nm f r

section
variable {α : Type} {nm : α → List UInt8} {f : α}

theorem lt_of_le_ne {a b : List UInt8} (h : a ≤ b) (hn : a ≠ b) : a < b := by
  rcases List.le_iff_lt_or_eq.1 h with h | h
  · exact h
  · exact absurd h hn
theorem not_le_of_lt {a b : List UInt8} (h : a < b) : ¬ b ≤ a := List.not_le.2 h
theorem not_lt_of_le {a b : List UInt8} (h : a ≤ b) : ¬ b < a := fun h2 => not_le_of_lt h2 h
theorem le_of_not_lt {a b : List UInt8} (h : ¬ a < b) : b ≤ a := List.not_lt.1 h

theorem put_true : ∀ (l acc : List α), (∀ x ∈ l, nm x ≠ nm f) → l.foldl (putStep nm f) (acc, true) = (acc ++ l, true)
  | [], acc, _ => by simp
  | x :: r, acc, h => by
    have hx := h x (by simp)
    rw [List.foldl_cons, putStep, if_pos hx]
    simp only [Bool.true_eq_false, false_and, if_false, Bool.true_or]
    rw [put_true r _ (fun y hy => h y (by simp [hy]))]
    simp
theorem put_false : ∀ (l acc : List α), l.Pairwise (fun a b => nm a < nm b) →
    (if (l.foldl (putStep nm f) (acc, false)).2 then (l.foldl (putStep nm f) (acc, false)).1 else (l.foldl (putStep nm f) (acc, false)).1 ++ [f]) = acc ++ insM nm f l
  | [], acc, _ => by simp [insM]
  | x :: r, acc, h => by
    rw [List.pairwise_cons] at h
    obtain ⟨h1, h2⟩ := h
    rw [List.foldl_cons]
    by_cases he : nm x = nm f
    · have e : putStep nm f (acc, false) x = (acc ++ [f], true) := by
        simp [putStep, he, List.le_refl]
      rw [e, put_true r _ (fun y hy => by rw [← he]; exact fun e => List.lt_irrefl _ (e ▸ h1 y hy)), insM, if_pos he]
      simp
    · by_cases hl : nm f < nm x
      · have e : putStep nm f (acc, false) x = (acc ++ [f] ++ [x], true) := by
          simp [putStep, he, List.le_of_lt hl]
        rw [e, put_true r _ (fun y hy => fun e => List.lt_irrefl (nm x) (List.lt_trans (by have := h1 y hy; rwa [e] at this) hl)), insM, if_neg he, if_pos hl]
        simp
      · have hle : ¬ nm f ≤ nm x := fun h => hl (lt_of_le_ne h (Ne.symm he))
        have e : putStep nm f (acc, false) x = (acc ++ [x], false) := by
          simp [putStep, he, hle]
        rw [e, put_false r _ h2, insM, if_neg he, if_neg hl]
        simp
theorem putM_eq {l : List α} (h : l.Pairwise (fun a b => nm a < nm b)) : putM nm f l = insM nm f l := by
  have := put_false (nm := nm) (f := f) l [] h
  exact this.trans (List.nil_append _)
theorem ins_mem : ∀ (l : List α) (x : α), x ∈ insM nm f l → x = f ∨ x ∈ l
  | [], x, h => by simp [insM] at h; exact .inl h
  | y :: r, x, h => by
    unfold insM at h
    split at h
    · rcases List.mem_cons.1 h with h | h
      · exact .inl h
      · exact .inr (by simp [h])
    · split at h
      · rcases List.mem_cons.1 h with h | h
        · exact .inl h
        · exact .inr h
      · rcases List.mem_cons.1 h with h | h
        · exact .inr (by simp [h])
        · rcases ins_mem r x h with h | h
          · exact .inl h
          · exact .inr (by simp [h])
theorem ins_sorted : ∀ (l : List α), l.Pairwise (fun a b => nm a < nm b) → (insM nm f l).Pairwise (fun a b => nm a < nm b)
  | [], _ => by simp [insM]
  | y :: r, h => by
    rw [List.pairwise_cons] at h
    obtain ⟨h1, h2⟩ := h
    unfold insM
    split
    · rename_i he
      exact List.pairwise_cons.2 ⟨fun z hz => he ▸ h1 z hz, h2⟩
    · split
      · rename_i hl
        exact List.pairwise_cons.2 ⟨fun z hz => by
          rcases List.mem_cons.1 hz with rfl | hz
          · exact hl
          · exact List.lt_trans hl (h1 z hz), List.pairwise_cons.2 ⟨h1, h2⟩⟩
      · rename_i he hl
        refine List.pairwise_cons.2 ⟨fun z hz => ?_, ins_sorted r h2⟩
        rcases ins_mem r z hz with rfl | hz
        · exact lt_of_le_ne (le_of_not_lt hl) he
        · exact h1 z hz
theorem ins_absent : ∀ (l : List α), (∀ x ∈ l, nm x ≠ nm f) → (insM nm f l).Perm (f :: l)
  | [], _ => by simp [insM]
  | y :: r, h => by
    unfold insM
    rw [if_neg (h y (by simp))]
    split
    · exact List.Perm.refl _
    · exact ((ins_absent r fun x hx => h x (by simp [hx])).cons y).trans (List.Perm.swap f y r)
theorem ins_there : ∀ (l : List α), l.Pairwise (fun a b => nm a < nm b) → (∃ x ∈ l, nm x = nm f) → insM nm f l = l.map fun x => if nm x = nm f then f else x
  | [], _, h => by simp at h
  | y :: r, h, hx => by
    rw [List.pairwise_cons] at h
    obtain ⟨h1, h2⟩ := h
    unfold insM
    by_cases he : nm y = nm f
    · rw [if_pos he, List.map_cons, if_pos he]
      congr 1
      have : ∀ z ∈ r, nm z ≠ nm f := fun z hz e => List.lt_irrefl _ (by have := h1 z hz; rw [e, he] at this; exact this)
      rw [List.map_congr_left (g := id) (fun z hz => by simp [this z hz])]
      simp
    · obtain ⟨z, hz, hzf⟩ := hx
      rcases List.mem_cons.1 hz with rfl | hz
      · exact absurd hzf he
      · have hlt : nm y < nm f := hzf ▸ h1 z hz
        rw [if_neg he, if_neg (fun h => List.lt_irrefl _ (List.lt_trans h hlt)), List.map_cons, if_neg he, ins_there r h2 ⟨z, hz, hzf⟩]
end

/-- the reference's files are the disk's, in order -/
def Agree (D : DiskM) (fs : List FileM) : Prop := fs.Perm D.files ∧ fs.Pairwise (fun a b => a.name < b.name)

theorem fileAt_perm : ∀ {a b : List FileM}, a.Perm b → (b.map (·.name)).Nodup → ∀ s, fileAt a s = fileAt b s := by
  intro a b hp hn s
  have hna : (a.map (·.name)).Nodup := (hp.map _).nodup_iff.2 hn
  cases hb : fileAt b s with
  | some f =>
    obtain ⟨h1, h2⟩ := fileAt_mem hb
    rw [← h2]
    exact fileAt_of hna (hp.mem_iff.2 h1)
  | none =>
    cases ha : fileAt a s with
    | none => rfl
    | some f =>
      obtain ⟨h1, h2⟩ := fileAt_mem ha
      have := fileAt_of hn (hp.mem_iff.1 h1)
      rw [h2, hb] at this
      exact this.symm
theorem Agree.sum {D : DiskM} {fs : List FileM} (h : Agree D fs) : sumLen fs = sumLen D.files := by
  unfold sumLen
  exact (h.1.map _).sum_nat
theorem Agree.len {D : DiskM} {fs : List FileM} (h : Agree D fs) : fs.length = D.files.length := h.1.length_eq
theorem Agree.at {D : DiskM} {fs : List FileM} (h : Agree D fs) (hn : (D.files.map (·.name)).Nodup) (s : List UInt8) : fileAt fs s = fileAt D.files s := fileAt_perm h.1 hn s
theorem Agree.names {D : DiskM} {fs : List FileM} (h : Agree D fs) : fs.map (·.name) = D.names := by
  unfold DiskM.names
  have hs : ((fs.map (·.name))).mergeSort leB = fs.map (·.name) := by
    apply List.mergeSort_of_pairwise
    rw [List.pairwise_map]
    exact h.2.imp fun {a b} hab => by simpa [leB] using List.le_of_lt hab
  rw [← hs]
  exact mergeSort_of_perm (h.1.map _)

/-- the reference's Append -/
def rappM (room : Int) (fs : List FileM) (s b : List UInt8) : List FileM × Int :=
  if dnameB s = false then (fs, 1)
  else match fileAt fs s with
    | none =>
      if 16 ≤ fs.length then (fs, 3)
      else if room < (sumLen fs : Int) + b.length then (fs, 30)
      else (insM (·.name) { name := s, b := b, safe := 0 } fs, 0)
    | some f =>
      if room < (sumLen fs : Int) + b.length then (fs, 30)
      else (insM (·.name) { f with b := f.b ++ b } fs, 0)

theorem step_plain' {D : DiskM} (hp : D.plan = []) (hd : D.down = false) (ok : Bool) : (D.step ok).2 = (if ok = true then 0 else 1) := by
  unfold DiskM.step DiskM.tick
  cases ok <;> simp [hp, hd, planAt]
theorem Agree.append {D : DiskM} {fs : List FileM} (h : Agree D fs) (hn : (D.files.map (·.name)).Nodup) (hp : D.plan = []) (hd : D.down = false) (s b : List UInt8) :
    (rappM D.room fs s b).2 = (D.append s b).2 ∧ Agree (D.append s b).1 (rappM D.room fs s b).1 := by
  have hst := step_plain' hp hd (dnameB s)
  obtain ⟨k1, k2, k3⟩ := step_keeps D (dnameB s)
  unfold rappM DiskM.append
  rw [hst]
  cases hdn : dnameB s with
  | false =>
    rw [hdn] at k1 hst
    simp only [if_true, Bool.false_eq_true, if_false]
    rw [if_pos (by decide)]
    exact ⟨hst.symm, by unfold Agree; rw [k1]; exact h⟩
  | true =>
    rw [hdn] at k1
    simp only [if_true, Bool.true_eq_false, if_false, ne_eq, not_true]
    rw [h.at hn, h.len, h.sum]
    have hk : Agree (D.step true).1 fs := by unfold Agree; rw [k1]; exact h
    cases hf : fileAt D.files s with
    | none =>
      simp only
      have hne : ∀ x ∈ fs, x.name ≠ s := fun x hx e => by
        have := fileAt_of hn (h.1.mem_iff.1 hx)
        rw [e, hf] at this; cases this
      split
      · exact ⟨rfl, hk⟩
      · split
        · exact ⟨rfl, hk⟩
        · refine ⟨rfl, ?_, ins_sorted fs h.2⟩
          refine (ins_absent fs hne).trans ?_
          exact (h.1.cons _).trans (List.perm_append_comm (l₁ := [({ name := s, b := b, safe := 0 } : FileM)]) (l₂ := D.files))
    | some f =>
      simp only
      obtain ⟨hf1, hf2⟩ := fileAt_mem hf
      split
      · exact ⟨rfl, hk⟩
      · refine ⟨rfl, ?_, ins_sorted fs h.2⟩
        have e := ins_there (nm := fun x : FileM => x.name) (f := { f with b := f.b ++ b }) fs h.2 ⟨f, h.1.mem_iff.2 hf1, rfl⟩
        show (insM (fun x : FileM => x.name) _ fs).Perm (setFile D.files _)
        rw [e]
        exact h.1.map _
end Go.Proofs.YtjpcmgoajdjkgaaGreatDoor
set_option linter.all false
namespace Go.Proofs.YtjpcmgoajdjkgaaGreatDoor
open Go.RowKit

theorem info_rfile : ∃ i0, Tryz.prog.info? 89 = some i0 ∧ i0.zero = some (.agg #[.string ⟨#[]⟩, .slice none 0 0, .int .i64 0]) ∧ i0.size = 3 ∧ i0.bytes = 48 :=
  info_parts (show (Tryz.prog.info? 89).map (fun i => (i.zero, i.size, i.bytes)) = some (some (.agg #[.string ⟨#[]⟩, .slice none 0 0, .int .i64 0]), 3, 48) by kernel_rfl)
/-- a file's value -/
def fVal (e : FileM × Value) : List Value := [.string ⟨e.1.name.toArray⟩, e.2, .int .i64 (e.1.safe : Int)]
theorem rfCells_snoc (l : List (FileM × Value)) (e : FileM × Value) : rfCells (l ++ [e]) = rfCells l ++ fVal e := by simp [rfCells, fVal]
def nmE (e : FileM × Value) : List UInt8 := e.1.name
theorem putTo_succ {α : Type} {nm : α → List UInt8} {f : α} {l : List α} {k : Nat} (h : k < l.length) : putTo nm f (l.take (k + 1)) = putStep nm f (putTo nm f (l.take k)) l[k] := by
  unfold putTo
  rw [List.take_succ_eq_append_getElem h, List.foldl_append]
  rfl
theorem putTo_mem {α : Type} {nm : α → List UInt8} {f : α} : ∀ (l acc : List α) (b : Bool), ∀ x ∈ (l.foldl (putStep nm f) (acc, b)).1, x = f ∨ x ∈ acc ∨ x ∈ l
  | [], acc, b, x, h => .inr (.inl h)
  | y :: r, acc, b, x, h => by
    rw [List.foldl_cons] at h
    rcases putTo_mem r _ _ x h with h | h | h
    · exact .inl h
    · have hm : x = f ∨ x ∈ acc ∨ x = y := by
        (try unfold putStep at h)
        (try simp only at h)
        split at h
        · rcases List.mem_append.1 h with h | h
          · split at h
            · rcases List.mem_append.1 h with h | h
              · exact .inr (.inl h)
              · exact .inl (by simpa using h)
            · exact .inr (.inl h)
          · exact .inr (.inr (by simpa using h))
        · split at h
          · rcases List.mem_append.1 h with h | h
            · exact .inr (.inl h)
            · exact .inl (by simpa using h)
          · exact .inr (.inl h)
      rcases hm with h | h | h
      · exact .inl h
      · exact .inr (.inl h)
      · exact .inr (.inr (by simp [h]))
    · exact .inr (.inr (by simp [h]))
theorem putTo_len {α : Type} {nm : α → List UInt8} {f : α} : ∀ (l acc : List α) (b : Bool), (l.foldl (putStep nm f) (acc, b)).1.length ≤ acc.length + 2 * l.length
  | [], acc, b => by simp
  | y :: r, acc, b => by
    rw [List.foldl_cons]
    refine Nat.le_trans (putTo_len r _ _) ?_
    (try unfold putStep)
    simp only [List.length_cons]
    split <;> split <;> simp <;> omega

/-- a file is appended to a list of files of one's own -/
theorem app_file (W : World) (base : Nat) (ov : Value) (xs : List (FileM × Value)) (hown : W.ownsRow base 89 3 ov xs.length (rfCells xs)) (hb : base ≤ W.heap.size) (hl : xs.length ≤ 8388608) (e : FileM × Value)
    (he : e.2.oneCell' = true) :
    ∃ v' W2, (Builtin.append_ #[79, 79] 79 #[ov, .slice (some ⟨W.heap.size, 0, none⟩) 1 1]).run Tryz.prog (W.alloc (.cells #[.string ⟨e.1.name.toArray⟩, e.2, .int .i64 (e.1.safe : Int)] 89)) = .ok v' W2 ∧
      W2.ownsRow base 89 3 v' (xs ++ [e]).length (rfCells (xs ++ [e])) ∧ Below base W W2 := by
  obtain ⟨iI, hiI, hz0, hz1, hz2⟩ := info_rfile
  have hown1 := own_below hown (bnew W (.cells #[.string ⟨e.1.name.toArray⟩, e.2, .int .i64 (e.1.safe : Int)] 89))
  obtain ⟨v', W2, happ, hown', hgrow', hblk'⟩ := run_append_rd (P := Tryz.prog) (W.alloc (.cells #[.string ⟨e.1.name.toArray⟩, e.2, .int .i64 (e.1.safe : Int)] 89)) base 79 79 89 iI _ 3 48 Tryz.underlying79 hiI hz0 hz1 hz2 rfl (by decide) ov xs.length (rfCells xs)
    hown1 0 (some ⟨W.heap.size, 0, none⟩) 1 1 (fVal e) rfl
    (Or.inr ⟨_, _, Nat.zero_le _, rfl, fun k hk => by
      have h3 : k < 3 := by simpa [fVal] using hk
      match k, h3 with
      | 0, _ => simp [go_sem, fVal]
      | 1, _ => simp [go_sem, fVal]
      | 2, _ => simp [go_sem, fVal]⟩) (by
      intro u hu
      simp only [fVal, List.mem_cons, List.not_mem_nil, or_false] at hu
      rcases hu with rfl | rfl | rfl
      · rfl
      · exact he
      · rfl) (by unfold maxLen; omega) (by omega) (by simp; omega) (fun h => by cases h)
  refine ⟨v', W2, happ, ?_, ?_⟩
  · rw [rfCells_snoc, List.length_append]; exact hown'
  · exact ((bnew W _).mono hb).trans (own_belw hown1 hgrow' (Nat.le_refl _) (by simp; omega))

theorem belw_drew {n : Nat} {w w' : World} (h : Below n w w') : Below n w w'.drew := ⟨h.os, h.tape, h.output, h.size, h.block⟩

/-- the list is another one -/
theorem RdX.setL {n : Nat} {w W : World} {rd : Nat} {room N : Int} {lv lv' : Value} {es es' : List (FileM × Value)} (h : RdX n w rd room N lv es) (hB : Below w.heap.size w W)
    (hrow : W.ownsRow n 89 3 lv' es'.length (rfCells es')) (he : ∀ e ∈ es', Bs 5 W e.2 e.1.b) :
    RdX n (W.setCell ⟨rd, 3, none⟩ lv') rd room N lv' es' ∧ Turn n [some 81] w (W.setCell ⟨rd, 3, none⟩ lv') := by
  have hat := (hB.block rd (heap_lt h.at_)).trans h.at_
  have hk : ∀ (b : Nat) (o : Obj), W.heap[b]? = some o → tagOf o ≠ some 81 → (W.setCell ⟨rd, 3, none⟩ lv').heap[b]? = some o := fun b o hb ht =>
    heap_setCell_ne hb (by rintro rfl; rw [hat] at hb; cases hb; exact ht rfl)
  refine ⟨⟨h.le, by rw [Joins.block_setCell hat]; rfl, ?_, fun e hee => (he e hee).keeps fun b o hb ht => hk b o hb (by rw [ht]; simp)⟩, (Turn.of_below hB).setCell hat h.le (by simp) 3 _⟩
  obtain ⟨hl, hr | ⟨g, cap, cur, hv, hg, hh, r⟩⟩ := hrow
  · exact ⟨hl, .inl hr⟩
  · exact ⟨hl, .inr ⟨g, cap, cur, hv, hg, hk g _ hh (by simp [tagOf]), r⟩⟩

/-- the state of put's loop -/
structure PutI (w : World) (f : FileM) (bv : Value) (es : List (FileM × Value)) (k : Nat) (ov dv : Value) (W : World) : Prop where
  row : W.ownsRow (w.heap.size + 1) 89 3 ov (putTo nmE (f, bv) (es.take k)).1.length (rfCells (putTo nmE (f, bv) (es.take k)).1)
  done : dv = .bool (putTo nmE (f, bv) (es.take k)).2
  box : W.heap[w.heap.size]? = some (.cells #[.string ⟨f.name.toArray⟩, bv, .int .i64 (f.safe : Int)] 89 (0, 0))
  bel : Below w.heap.size w W

set_option maxRecDepth 100000 in
set_option maxHeartbeats 1000000 in
theorem rput_c (n rd : Nat) (room N : Int) (lv : Value) (es : List (FileM × Value)) (hes : es.length ≤ 1048576) (f : FileM) (bv : Value) (w : World) (hX : RdX n w rd room N lv es) (hbv : Bs 5 w bv f.b) (hn : n ≤ w.heap.size) :
    Calls Tryz.prog 53 #[.pointer (some ⟨rd, 0, none⟩), .agg #[.string ⟨f.name.toArray⟩, bv, .int .i64 (f.safe : Int)]] w fun e w' =>
      e = .returned (.tuple #[]) ∧ (∃ lv', RdX n w' rd room N lv' (putM nmE (f, bv) es)) ∧ Turn n [some 81] w w' := by
  have c3 := Joins.cell_of_block hX.at_ 3
  obtain ⟨A, cap, rfl, _, _, _⟩ := own_slice hX.row
  obtain ⟨Ab, cb, hbe⟩ : ∃ A c, bv = .slice A f.b.length c := by obtain ⟨A, c, h, _⟩ := hbv; exact ⟨A, c, h⟩
  obtain ⟨bl, hbl⟩ : ∃ x, f.b.length = x := ⟨_, rfl⟩
  rw [hbl] at hbe
  have HX := Lib.hid (And.intro hX hbv); clear hX hbv
  simp at c3
  subst hbe
  go_enter Tryz.func53, Tryz.ntmps53
  go_wp2_with fail
  go_loopw [4, 5, 6] (fun ov dv i W => ∃ k : Nat, k ≤ es.length ∧ i = .int .i64 k ∧ PutI w f (.slice Ab bl cb) es k ov dv W) (fun _ _ i _ => es.length - (intOf i).toNat)
  case atStart => exact ⟨0, by omega, rfl, World.ownsRow_nil _ _ _ _, rfl, heap_alloc_new w _, bnew w _⟩
  case round =>
    obtain ⟨k, hk, rfl, hI⟩ := hrel
    have hB := hI.bel
    have hwr1 : w.heap.size + 1 ≤ wr.heap.size := heap_lt hI.box
    have d3 := (hB.cell (p := ⟨rd, 3, none⟩) (cell_lt c3)).trans c3
    have d3u : wr.frozen? ⟨rd, 3, none⟩ = false := Joins.unfrozen_of_block ((hB.block rd (heap_lt HX.out.1.at_)).trans HX.out.1.at_) 3
    have b0 := Joins.cell_of_block hI.box 0
    have b1 := Joins.cell_of_block hI.box 1
    have b2 := Joins.cell_of_block hI.box 2
    simp at b0 b1 b2
    obtain ⟨d, hd⟩ : ∃ d, (putTo nmE (f, Value.slice Ab bl cb) (es.take k)).2 = d := ⟨_, rfl⟩
    have hdv := hI.done
    rw [hd] at hdv
    subst hdv
    by_cases hlt : k < es.length
    · have hkd : decide ((k : Int) < (es.length : Int)) = true := by simpa using hlt
      obtain ⟨b, o, hb, hcell⟩ := (Rd.of_own HX.out.1.row).addr (by rw [rfCells_length]; omega)
      obtain ⟨g0, g1, g2⟩ := rfCells_get es k hlt
      have q0 := (hcell (k * 3) (by rw [rfCells_length]; omega)).trans g0
      have q1 := (hcell (k * 3 + 1) (by rw [rfCells_length]; omega)).trans g1
      have q2 := (hcell (k * 3 + 2) (by rw [rfCells_length]; omega)).trans g2
      rw [← Nat.add_assoc] at q1 q2
      subst hb
      clear hcell g0 g1 g2
      have hea := HX.out.1.each es[k] (List.getElem_mem hlt)
      obtain ⟨x, hx⟩ : ∃ x, es[k] = x := ⟨_, rfl⟩
      rw [hx] at q0 q1 q2 hea
      obtain ⟨xm, xv⟩ := x
      simp only at q0 q1 q2 hea
      obtain ⟨Ax, nx, cx, rfl⟩ : ∃ A n c, xv = .slice A n c := by obtain ⟨A, c, h, _⟩ := hea; exact ⟨A, _, c, h⟩
      have HQ := Lib.hid (And.intro q0 (And.intro q1 q2))
      replace q0 := (hB.cell (cell_lt q0)).trans q0
      replace q1 := (hB.cell (cell_lt q1)).trans q1
      replace q2 := (hB.cell (cell_lt q2)).trans q2
      have hby : Op.bytesLess xm.name f.name = decide (xm.name < f.name) := bytesLess_eq _ _
      have hsuc := putTo_succ (nm := nmE) (f := (f, Value.slice Ab bl cb)) hlt
      obtain ⟨ps, hps⟩ : ∃ ps, putTo nmE (f, Value.slice Ab bl cb) (es.take k) = ps := ⟨_, rfl⟩
      obtain ⟨l0, d0⟩ := ps
      have hrow := hI.row
      have hbox := hI.box
      have hlen0 : l0.length ≤ 4194304 := by
        have h1 := putTo_len (nm := nmE) (f := (f, Value.slice Ab bl cb)) (es.take k) [] false
        have h2 : (putTo nmE (f, Value.slice Ab bl cb) (es.take k)).1 = l0 := by rw [hps]
        unfold putTo at h2
        rw [h2] at h1
        simp at h1
        omega
      rw [hps] at hsuc hrow hd
      rw [hx] at hsuc
      simp only at hrow hd
      subst hd
      clear hI hps hx hea
      have hq' : (xm.name == f.name) = decide (xm.name = f.name) := by by_cases h : xm.name = f.name <;> simp [h]
      have hB1 : w.heap.size + 1 ≤ wr.heap.size := hwr1
      cases d0 with
      | true =>
        by_cases hq : xm.name = f.name
        · rw [decide_eq_true hq] at hq'
          have HI := Lib.hid (And.intro hrow (And.intro hbox (And.intro hB (And.intro hsuc hq)))); clear hrow hbox hB hsuc hq
          go_wp2_with fail
          go_region
          go_wp2_with fail
          go_region
          go_wp2_with fail
          refine ⟨⟨k + 1, by omega, rfl, ?_⟩, by simp [intOf]; omega⟩
          have hs := HI.out.2.2.2.1
          have hs2 : putStep nmE (f, Value.slice Ab bl cb) (l0, true) (xm, .slice Ax nx cx) = (l0, true) := by simp [putStep, nmE, HI.out.2.2.2.2]
          rw [hs2] at hs
          exact ⟨by rw [hs]; exact HI.out.1, by rw [hs], HI.out.2.1, belw_drew (belw_drew HI.out.2.2.1)⟩
        · rw [decide_eq_false hq] at hq'
          obtain ⟨v', W2, happ, hown', hb2⟩ := app_file wr.drew.drew (w.heap.size + 1) _ l0 hrow hB1 (by omega) (xm, .slice Ax nx cx) rfl
          have HAPP := Lib.hid happ
          have hB2 : Below w.heap.size w W2 := (belw_drew (belw_drew hB)).trans (hb2.mono (Nat.le_succ _))
          have hbox2 := (hb2.block w.heap.size (by omega)).trans hbox
          have HI := Lib.hid (And.intro hown' (And.intro hbox2 (And.intro hB2 (And.intro hsuc hq)))); clear hrow hbox hB hsuc hq happ hown' hb2 hB2 hbox2
          go_wp2_with fail
          go_region
          go_wp2_with fail
          go_region
          go_wp2_with (at_builtin; refine wpList_appk rfl _ _ _ rfl _ _ rfl rfl HAPP.out ?_)
          refine ⟨⟨k + 1, by omega, rfl, ?_⟩, by simp [intOf]; omega⟩
          have hs := HI.out.2.2.2.1
          have hs2 : putStep nmE (f, Value.slice Ab bl cb) (l0, true) (xm, .slice Ax nx cx) = (l0 ++ [(xm, .slice Ax nx cx)], true) := by simp [putStep, nmE, HI.out.2.2.2.2]
          rw [hs2] at hs
          exact ⟨by rw [hs]; exact HI.out.1, by rw [hs], HI.out.2.1, HI.out.2.2.1⟩
      | false =>
        by_cases hl : xm.name < f.name
        · have hq : xm.name ≠ f.name := fun e => List.lt_irrefl _ (e ▸ hl)
          rw [decide_eq_false hq] at hq'
          rw [decide_eq_true hl] at hby
          obtain ⟨v', W2, happ, hown', hb2⟩ := app_file wr.drew.drew (w.heap.size + 1) _ l0 hrow hB1 (by omega) (xm, .slice Ax nx cx) rfl
          have HAPP := Lib.hid happ
          have hB2 : Below w.heap.size w W2 := (belw_drew (belw_drew hB)).trans (hb2.mono (Nat.le_succ _))
          have hbox2 := (hb2.block w.heap.size (by omega)).trans hbox
          have HI := Lib.hid (And.intro hown' (And.intro hbox2 (And.intro hB2 (And.intro hsuc (And.intro hq hl))))); clear hrow hbox hB hsuc hq hl happ hown' hb2 hB2 hbox2
          go_wp2_with fail
          go_region
          go_wp2_with fail
          go_region
          go_wp2_with (at_builtin; refine wpList_appk rfl _ _ _ rfl _ _ rfl rfl HAPP.out ?_)
          refine ⟨⟨k + 1, by omega, rfl, ?_⟩, by simp [intOf]; omega⟩
          have hs := HI.out.2.2.2.1
          have hs2 : putStep nmE (f, Value.slice Ab bl cb) (l0, false) (xm, .slice Ax nx cx) = (l0 ++ [(xm, .slice Ax nx cx)], false) := by
            have hnl : ¬ f.name ≤ xm.name := not_le_of_lt HI.out.2.2.2.2.2
            simp only [putStep, nmE, HI.out.2.2.2.2.1, hnl, ne_eq, not_false_eq_true, if_true, and_false, if_false, decide_false, Bool.or_false]
          rw [hs2] at hs
          exact ⟨by rw [hs]; exact HI.out.1, by rw [hs], HI.out.2.1, HI.out.2.2.1⟩
        · have hle : f.name ≤ xm.name := le_of_not_lt hl
          rw [decide_eq_false hl] at hby
          obtain ⟨v', W2, happ, hown', hb2⟩ := app_file wr.drew (w.heap.size + 1) _ l0 hrow hB1 (by omega) (f, .slice Ab bl cb) rfl
          have HAPP := Lib.hid happ
          have hB2 : Below w.heap.size w W2 := (belw_drew hB).trans (hb2.mono (Nat.le_succ _))
          have hbox2 := (hb2.block w.heap.size (by omega)).trans hbox
          have hW2 : w.heap.size + 1 ≤ W2.heap.size := heap_lt hbox2
          have e3 := (hB2.cell (p := ⟨rd, 3, none⟩) (cell_lt c3)).trans c3
          have u0 := (hb2.cell (p := ⟨w.heap.size, 0, none⟩) (Nat.lt_succ_self _)).trans b0
          have p0 := (hB2.cell (cell_lt HQ.out.1)).trans HQ.out.1
          have p1 := (hB2.cell (cell_lt HQ.out.2.1)).trans HQ.out.2.1
          have p2 := (hB2.cell (cell_lt HQ.out.2.2)).trans HQ.out.2.2
          by_cases hq : xm.name = f.name
          · rw [decide_eq_true hq] at hq'
            have HI := Lib.hid (And.intro hown' (And.intro hbox2 (And.intro hB2 (And.intro hsuc (And.intro hq hle))))); clear hrow hbox hB hsuc hq hl hle happ hown' hb2 hB2 hbox2
            go_wp2_with fail
            go_region
            go_wp2_with (at_builtin; refine wpList_appk rfl _ _ _ rfl _ _ rfl rfl HAPP.out ?_)
            go_region
            go_wp2_with fail
            refine ⟨⟨k + 1, by omega, rfl, ?_⟩, by simp [intOf]; omega⟩
            have hs := HI.out.2.2.2.1
            have hs2 : putStep nmE (f, Value.slice Ab bl cb) (l0, false) (xm, .slice Ax nx cx) = (l0 ++ [(f, .slice Ab bl cb)], true) := by
              simp only [putStep, nmE, HI.out.2.2.2.2.1, List.le_refl, ne_eq, not_true, if_true, and_self, if_false, decide_true, Bool.or_true]
            rw [hs2] at hs
            exact ⟨by rw [hs]; exact HI.out.1, by rw [hs], HI.out.2.1, belw_drew HI.out.2.2.1⟩
          · rw [decide_eq_false hq] at hq'
            obtain ⟨v3, W3, happ3, hown3, hb3⟩ := app_file W2.drew (w.heap.size + 1) _ _ hown' hW2 (by simp; omega) (xm, .slice Ax nx cx) rfl
            have HAPP3 := Lib.hid happ3
            have hB3 : Below w.heap.size w W3 := (belw_drew hB2).trans (hb3.mono (Nat.le_succ _))
            have hbox3 := (hb3.block w.heap.size (by omega)).trans hbox2
            have HI := Lib.hid (And.intro hown3 (And.intro hbox3 (And.intro hB3 (And.intro hsuc (And.intro hq hle))))); clear hrow hbox hB hsuc hq hl hle happ hown' hb2 hB2 hbox2 happ3 hown3 hb3 hB3 hbox3
            go_wp2_with fail
            go_region
            go_wp2_with (at_builtin; refine wpList_appk rfl _ _ _ rfl _ _ rfl rfl HAPP.out ?_)
            go_region
            go_wp2_with (at_builtin; refine wpList_appk rfl _ _ _ rfl _ _ rfl rfl HAPP3.out ?_)
            refine ⟨⟨k + 1, by omega, rfl, ?_⟩, by simp [intOf]; omega⟩
            have hs := HI.out.2.2.2.1
            have hs2 : putStep nmE (f, Value.slice Ab bl cb) (l0, false) (xm, .slice Ax nx cx) = (l0 ++ [(f, .slice Ab bl cb)] ++ [(xm, .slice Ax nx cx)], true) := by
              simp only [putStep, nmE, HI.out.2.2.2.2.1, HI.out.2.2.2.2.2, ne_eq, not_false_eq_true, if_true, and_self, if_false, decide_true, Bool.or_true]
            rw [hs2] at hs
            exact ⟨by rw [hs]; exact HI.out.1, by rw [hs], HI.out.2.1, HI.out.2.2.1⟩
    · obtain rfl : k = es.length := by omega
      have hkd : decide ((es.length : Int) < (es.length : Int)) = false := by simp
      obtain ⟨ps, hps⟩ : ∃ ps, putTo nmE (f, Value.slice Ab bl cb) es = ps := ⟨_, rfl⟩
      obtain ⟨l0, d0⟩ := ps
      have hrow := hI.row
      have hbox := hI.box
      rw [List.take_length] at hrow hd
      rw [hps] at hrow hd
      simp only at hrow hd
      subst hd
      have hB1 : w.heap.size + 1 ≤ wr.heap.size := hwr1
      have hlen0 : l0.length ≤ 4194304 := by
        have h1 := putTo_len (nm := nmE) (f := (f, Value.slice Ab bl cb)) es [] false
        have h2 : (putTo nmE (f, Value.slice Ab bl cb) es).1 = l0 := by rw [hps]
        unfold putTo at h2
        rw [h2] at h1
        simp at h1
        omega
      have hmem : ∀ x ∈ l0, x = (f, Value.slice Ab bl cb) ∨ x ∈ es := by
        intro x hx
        have h2 : (putTo nmE (f, Value.slice Ab bl cb) es).1 = l0 := by rw [hps]
        unfold putTo at h2
        rw [← h2] at hx
        rcases putTo_mem es [] false x hx with h | h | h
        · exact .inl h
        · cases h
        · exact .inr h
      have hput : putM nmE (f, Value.slice Ab bl cb) es = if d0 = true then l0 else l0 ++ [(f, Value.slice Ab bl cb)] := by
        unfold putM
        rw [hps]
      cases d0 with
      | true =>
        obtain ⟨A0, c0, rfl, -, -, -⟩ := own_slice hrow
        have HI := Lib.hid (And.intro hrow (And.intro hB (And.intro hput hmem))); clear hrow hbox hB hput hmem hI hps
        go_wp2_with fail
        go_end0
        obtain ⟨k1, k2⟩ := HX.out.1.setL (es' := l0) HI.out.2.1 (own_base HI.out.1 (Nat.le_trans hn (Nat.le_succ _))) (fun e he => by
          rcases HI.out.2.2.2 e he with rfl | he
          · exact HX.out.2.below HI.out.2.1
          · exact (HX.out.1.each e he).below HI.out.2.1)
        have hp := HI.out.2.2.1
        simp only [if_true] at hp
        exact ⟨rfl, ⟨_, by rw [hp]; exact k1⟩, k2⟩
      | false =>
        obtain ⟨v', W2, happ, hown', hb2⟩ := app_file wr (w.heap.size + 1) _ l0 hrow hB1 (by omega) (f, .slice Ab bl cb) rfl
        have HAPP := Lib.hid happ
        have hB2 : Below w.heap.size w W2 := hB.trans (hb2.mono (Nat.le_succ _))
        obtain ⟨A0, c0, rfl, -, -, -⟩ := own_slice hown'
        have e3 := (hB2.cell (p := ⟨rd, 3, none⟩) (cell_lt c3)).trans c3
        have e3u : W2.frozen? ⟨rd, 3, none⟩ = false := Joins.unfrozen_of_block ((hB2.block rd (heap_lt HX.out.1.at_)).trans HX.out.1.at_) 3
        have HI := Lib.hid (And.intro hown' (And.intro hB2 (And.intro hput hmem))); clear hrow hbox hB hput hmem hI hps happ hown' hb2 hB2
        go_wp2_with (at_builtin; refine wpList_appk rfl _ _ _ rfl _ _ rfl rfl HAPP.out ?_)
        go_end0
        obtain ⟨k1, k2⟩ := HX.out.1.setL (es' := l0 ++ [(f, Value.slice Ab bl cb)]) HI.out.2.1 (own_base HI.out.1 (Nat.le_trans hn (Nat.le_succ _))) (fun e he => by
          rcases List.mem_append.1 he with he | he
          · rcases HI.out.2.2.2 e he with rfl | he
            · exact HX.out.2.below HI.out.2.1
            · exact (HX.out.1.each e he).below HI.out.2.1
          · rw [List.mem_singleton] at he
            subst he
            exact HX.out.2.below HI.out.2.1)
        have hp := HI.out.2.2.1
        simp only [Bool.false_eq_true, if_false] at hp
        rw [List.length_append] at k1 k2
        exact ⟨rfl, ⟨_, by rw [hp]; exact k1⟩, k2⟩
end Go.Proofs.YtjpcmgoajdjkgaaGreatDoor
