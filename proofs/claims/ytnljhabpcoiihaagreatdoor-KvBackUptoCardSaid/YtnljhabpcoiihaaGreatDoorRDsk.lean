/- The reference's disk: its names, what it is (RdX), New, step, at. The reference's disk: a file of the list is changed in place. The law's names: of the same lists. The reference's disk: List. -/
import Derived.Test.YtnljhabpcoiihaaGreatDoorRefN
import Derived.Test.YtnljhabpcoiihaaGreatDoorDsk
import Derived.Test.YtnljhabpcoiihaaGreatDoorThere
set_option linter.all false
namespace Go.Proofs.YtnljhabpcoiihaaGreatDoor
open Go.RowKit

theorem dname_bad {s : List UInt8} {k : Nat} (hk : k < s.length) (h : oddD (s[k]).toNat = true) : dnameB s = false := by
  unfold dnameB
  have : (s.any fun b => oddD b.toNat) = true := List.any_eq_true.2 ⟨_, List.getElem_mem hk, h⟩
  rw [this]; simp
theorem dname_good {s : List UInt8} (h1 : 1 ≤ s.length) (h2 : s.length ≤ 32) (h : (s.all fun c => !oddD c.toNat) = true) : dnameB s = true := by
  unfold dnameB
  have : (s.any fun b => oddD b.toNat) = false := by rw [← Bool.not_eq_true]; intro ha; rw [List.any_eq_true] at ha; obtain ⟨x, hx, he⟩ := ha; have := List.all_eq_true.1 h x hx; rw [he] at this; simp at this
  rw [this]; simp; omega

set_option maxRecDepth 100000 in
set_option maxHeartbeats 400000 in
theorem rdname_c (s : List UInt8) (hm : s.length ≤ 4611686018427387904) (w : World) :
    Calls Tryz.prog 69 #[.string ⟨s.toArray⟩] w fun e w' => e = .returned (.bool (dnameB s)) ∧ w' = w := by
  obtain ⟨L, hL⟩ : ∃ L, s.length = L := ⟨_, rfl⟩
  have HL := Lib.hid hL
  have hsz : (⟨s.toArray⟩ : ByteArray).size = L := by simp [ByteArray.size, hL]
  rw [hL] at hm
  clear hL
  obtain ⟨NB, hNB⟩ : ∃ N, dnameB s = N := ⟨_, rfl⟩
  rw [hNB]
  have HNB := Lib.hid hNB; clear hNB
  by_cases h1 : L < 1
  · obtain rfl : NB = false := by rw [← HNB.out, dnameB, HL.out]; simp; omega
    go_enter Tryz.func69, Tryz.ntmps69
    go_wp2
    go_ret
    exact ⟨rfl, rfl⟩
  by_cases h2 : 32 < L
  · obtain rfl : NB = false := by rw [← HNB.out, dnameB, HL.out]; simp; omega
    go_enter Tryz.func69, Tryz.ntmps69
    go_wp2
    go_ret
    exact ⟨rfl, rfl⟩
  go_enter Tryz.func69, Tryz.ntmps69
  go_wp2_with fail
  go_loopw [3] (fun i wr => ∃ (k : Nat), k ≤ L ∧ i = .int .i64 k ∧ Hid ((s.take k).all fun c => !oddD c.toNat) ∧ wr = w) (fun i _ => L - (intOf i).toNat)
  case atStart => exact ⟨0, by omega, rfl, Lib.hid (by simp), rfl⟩
  case round =>
    obtain ⟨k, hk, rfl, HA, rfl⟩ := hrel
    by_cases hlt : k < L
    · obtain ⟨c, hc⟩ : ∃ c : Nat, (s[k]'(by rw [HL.out]; exact hlt)).toNat = c := ⟨_, rfl⟩
      have hg : ∀ h : k < (⟨s.toArray⟩ : ByteArray).size, ((⟨s.toArray⟩ : ByteArray)[k]'h).toNat = c := fun h => hc
      have HC := Lib.hid hc; clear hc
      go_wp2
      all_goals simp only [hg] at *
      all_goals first
        | (have hp : oddD c = false := by
             unfold oddD
             clear HL HNB HA HC hg hsz
             simp at *
             omega
           refine ⟨⟨k + 1, by omega, rfl, Lib.hid ?_, trivial⟩, by simp [intOf]; omega⟩
           have := all_take_succ (fun c => !oddD c.toNat) s k (by rw [HL.out]; exact hlt)
           rw [this, HA.out]
           show (true && !oddD _) = true
           rw [HC.out, hp]; rfl)
        | (have hp : oddD c = true := by
             unfold oddD
             clear HL HNB HA HC hg hsz
             simp at *
             omega
           obtain rfl : NB = false := by rw [← HNB.out]; exact dname_bad (by rw [HL.out]; exact hlt) (by rw [HC.out]; exact hp)
           go_ret
           exact ⟨rfl, rfl⟩)
    · obtain rfl : k = L := by omega
      obtain rfl : NB = true := by
        rw [← HNB.out]
        have := HL.out
        refine dname_good (by omega) (by omega) ?_
        have hA := HA.out
        rw [← this, List.take_length] at hA
        exact hA
      go_wp2
      go_ret
      exact ⟨rfl, rfl⟩

/-- a file of the reference's list, in cells: its bytes are the slice v -/
def rfCells (es : List (FileM × Value)) : List Value := es.flatMap fun e => [.string ⟨e.1.name.toArray⟩, e.2, .int .i64 (e.1.safe : Int)]
theorem rfCells_length (l : List (FileM × Value)) : (rfCells l).length = l.length * 3 := by
  induction l with
  | nil => rfl
  | cons p r ih => simp only [rfCells, List.flatMap_cons, List.length_append, List.length_cons] at ih ⊢; rw [ih]; simp; omega
theorem rfCells_append (a b : List (FileM × Value)) : rfCells (a ++ b) = rfCells a ++ rfCells b := by simp [rfCells]
theorem rfCells_get : ∀ (l : List (FileM × Value)) (k : Nat) (h : k < l.length), (rfCells l)[k * 3]? = some (.string ⟨l[k].1.name.toArray⟩) ∧ (rfCells l)[k * 3 + 1]? = some l[k].2 ∧ (rfCells l)[k * 3 + 2]? = some (.int .i64 (l[k].1.safe : Int))
  | [], k, h => by simp at h
  | p :: r, 0, h => by simp [rfCells]
  | p :: r, k + 1, h => by
    have ih := rfCells_get r k (by simpa using h)
    have e : rfCells (p :: r) = [.string ⟨p.1.name.toArray⟩, p.2, .int .i64 (p.1.safe : Int)] ++ rfCells r := by simp [rfCells]
    have e3 : (k + 1) * 3 = k * 3 + 3 := by omega
    rw [e, e3]
    refine ⟨?_, ?_, ?_⟩
    · rw [List.getElem?_append_right (by simp)]; simpa using ih.1
    · rw [List.getElem?_append_right (by simp)]; simpa [Nat.add_right_comm, Nat.add_assoc] using ih.2.1
    · rw [List.getElem?_append_right (by simp)]; simpa [Nat.add_right_comm, Nat.add_assoc] using ih.2.2

/-- the reference's disk, written out; it has no plan and is up -/
structure RdX (n : Nat) (w : World) (rd : Nat) (room N : Int) (lv : Value) (es : List (FileM × Value)) : Prop where
  le : n ≤ rd
  at_ : w.heap[rd]? = some (.cells #[.int .i64 room, .int .i64 0, .int .i64 N, lv, .slice none 0 0, .bool false] 80 (0, 0))
  row : w.ownsRow n 99 3 lv es.length (rfCells es)
  each : ∀ e ∈ es, Bs 5 w e.2 e.1.b
def RdR (n : Nat) (w : World) (rd : Nat) (room : Int) (fs : List FileM) : Prop := ∃ N lv es, RdX n w rd room N lv es ∧ es.map (·.1) = fs
theorem RdX.keeps {n : Nat} {w w' : World} {rd : Nat} {room N : Int} {lv : Value} {es : List (FileM × Value)} (h : RdX n w rd room N lv es)
    (hk : ∀ (b : Nat) (o : Obj), w.heap[b]? = some o → (tagOf o = some 80 ∨ tagOf o = some 99 ∨ tagOf o = some 5) → w'.heap[b]? = some o) : RdX n w' rd room N lv es := by
  refine ⟨h.le, hk _ _ h.at_ (.inl rfl), ?_, fun e he => (h.each e he).keeps fun b o hb ht => hk b o hb (.inr (.inr ht))⟩
  obtain ⟨hl, hr | ⟨g, cap, cur, hv, hg, hh, r⟩⟩ := h.row
  · exact ⟨hl, .inl hr⟩
  · exact ⟨hl, .inr ⟨g, cap, cur, hv, hg, hk g _ hh (.inr (.inl rfl)), r⟩⟩
theorem RdX.below {n : Nat} {w w' : World} {rd : Nat} {room N : Int} {lv : Value} {es : List (FileM × Value)} (h : RdX n w rd room N lv es) (hb : Below w.heap.size w w') : RdX n w' rd room N lv es :=
  h.keeps fun b o h1 _ => (hb.block b (heap_lt h1)).trans h1

set_option maxRecDepth 100000 in
set_option maxHeartbeats 400000 in
theorem rnew_c (room : Int) (h0 : 0 ≤ room) (h1 : room ≤ 1073741824) (w : World) :
    Calls Tryz.prog 8 #[.int .i64 room] w fun e w' => ∃ rd, e = .returned (.pointer (some ⟨rd, 0, none⟩)) ∧ RdX w.heap.size w' rd room 0 (.slice none 0 0) [] ∧ Below w.heap.size w w' := by
  have hn0 : ¬ room < 0 := by omega
  have hn1 : ¬ 1073741824 < room := by omega
  go_enter Tryz.func8, Tryz.ntmps8
  go_wp2
  go_ret
  exact ⟨w.heap.size, rfl, ⟨Nat.le_refl _, heap_alloc_new w _, World.ownsRow_nil _ _ _ _, by simp⟩, bnew w _⟩

set_option maxRecDepth 100000 in
set_option maxHeartbeats 800000 in
theorem rat_c (n rd : Nat) (room N : Int) (lv : Value) (es : List (FileM × Value)) (hes : es.length ≤ 1048576) (s : List UInt8) (w : World) (hX : RdX n w rd room N lv es) :
    Calls Tryz.prog 42 #[.pointer (some ⟨rd, 0, none⟩), .string ⟨s.toArray⟩] w fun e w' =>
      ((∃ (i : Nat) (h : i < es.length), e = .returned (.int .i64 i) ∧ es[i].1.name = s ∧ ∀ j (hj : j < i), (es[j]'(by omega)).1.name ≠ s) ∨ (e = .returned (.int .i64 (-1)) ∧ ∀ x ∈ es, x.1.name ≠ s)) ∧ Below w.heap.size w w' := by
  have c3 := Joins.cell_of_block hX.at_ 3
  obtain ⟨A, cap, rfl, _, _, _⟩ := own_slice hX.row
  have HX := Lib.hid hX; clear hX
  simp at c3
  go_enter Tryz.func42, Tryz.ntmps42
  go_wp2_with fail
  go_loopw [5] (fun i W => ∃ k : Nat, k ≤ es.length ∧ i = .int .i64 k ∧ Hid (∀ j (hj : j < es.length), j < k → es[j].1.name ≠ s) ∧ Below w.heap.size w W) (fun i _ => es.length - (intOf i).toNat)
  case atStart => exact ⟨0, by omega, rfl, Lib.hid (fun j hj h => by omega), Below.refl _ _⟩
  case round =>
    obtain ⟨k, hk, rfl, HA, hB⟩ := hrel
    have c3' := (hB.cell (p := ⟨rd, 3, none⟩) (cell_lt c3)).trans c3
    by_cases hlt : k < es.length
    · obtain ⟨b, o, hb, hcell⟩ := (Rd.of_own (own_below HX.out.row hB)).addr (by rw [rfCells_length]; omega)
      obtain ⟨g0, -, -⟩ := rfCells_get es k hlt
      have q0 := (hcell (k * 3) (by rw [rfCells_length]; omega)).trans g0
      subst hb
      clear hcell g0
      obtain ⟨nm, hnm⟩ : ∃ nm, es[k].1.name = nm := ⟨_, rfl⟩
      rw [hnm] at q0
      have HI := Lib.hid (And.intro hB hnm); clear hB hnm
      by_cases hq : nm = s
      · subst hq
        go_wp2
        go_ret
        exact ⟨.inl ⟨k, hlt, rfl, HI.out.2, fun j hj => HA.out j (by omega) hj⟩, HI.out.1⟩
      · have hqb : (nm == s) = false := by simpa using hq
        go_wp2
        refine ⟨⟨k + 1, by omega, rfl, Lib.hid fun j hj hjk => ?_, HI.out.1⟩, by simp [intOf]; omega⟩
        by_cases hjk' : j = k
        · subst hjk'; rw [HI.out.2]; exact hq
        · exact HA.out j hj (by omega)
    · obtain rfl : k = es.length := by omega
      have HI := Lib.hid hB; clear hB
      go_wp2
      go_ret
      refine ⟨.inr ⟨rfl, fun x hx => ?_⟩, HI.out⟩
      obtain ⟨j, hj, rfl⟩ := List.getElem_of_mem hx
      exact HA.out j hj hj

/-- the step's number is set -/
theorem RdX.tick {n : Nat} {w : World} {rd : Nat} {room N : Int} {lv : Value} {es : List (FileM × Value)} (h : RdX n w rd room N lv es) (N' : Int) :
    RdX n (w.setCell ⟨rd, 2, none⟩ (.int .i64 N')) rd room N' lv es := by
  have hk : ∀ (b : Nat) (o : Obj), w.heap[b]? = some o → tagOf o ≠ some 80 → (w.setCell ⟨rd, 2, none⟩ (.int .i64 N')).heap[b]? = some o := fun b o hb ht =>
    heap_setCell_ne hb (by rintro rfl; rw [h.at_] at hb; cases hb; exact ht rfl)
  refine ⟨h.le, by rw [Joins.block_setCell h.at_]; rfl, ?_, fun e he => (h.each e he).keeps fun b o hb ht => hk b o hb (by rw [ht]; simp)⟩
  obtain ⟨hl, hr | ⟨g, cap, cur, hv, hg, hh, r⟩⟩ := h.row
  · exact ⟨hl, .inl hr⟩
  · exact ⟨hl, .inr ⟨g, cap, cur, hv, hg, hk g _ hh (by simp [tagOf]), r⟩⟩

set_option maxRecDepth 100000 in
set_option maxHeartbeats 800000 in
theorem rstep_c (n rd : Nat) (room N : Int) (lv : Value) (es : List (FileM × Value)) (s : List UInt8) (hm : s.length ≤ 4611686018427387904) (w : World) (hX : RdX n w rd room N lv es) :
    Calls Tryz.prog 41 #[.pointer (some ⟨rd, 0, none⟩), .string ⟨s.toArray⟩, .string ⟨s.toArray⟩] w fun e w' =>
      e = .returned (.int .i64 (if dnameB s = true then 0 else 1)) ∧ (∃ N', RdX n w' rd room N' lv es) ∧ Turn n [some 80] w w' := by
  have c5 := Joins.cell_of_block hX.at_ 5
  have c2 := Joins.cell_of_block hX.at_ 2
  have f2 := Joins.unfrozen_of_block hX.at_ 2
  have hX2 := hX.tick (wrap64 (N + 1))
  have c4 := Joins.cell_of_block hX2.at_ 4
  have hN := fun W => rdname_c s hm W
  obtain ⟨NB, hNB⟩ : ∃ b, dnameB s = b := ⟨_, rfl⟩
  rw [hNB] at hN ⊢
  have HX := Lib.hid (And.intro hX (And.intro hX2 hN)); clear hX hX2 hN hNB
  simp at c5 c2 c4
  cases NB with
  | false =>
    go_enter Tryz.func41, Tryz.ntmps41
    go_wp2_with (go_at_call 69; refine (HX.out.2.2 _).mono ?_; rintro e w1 ⟨rfl, hw1⟩; rw [hw1]; clear hw1)
    go_ret
    exact ⟨rfl, ⟨_, HX.out.1⟩, Turn.refl _ _ _⟩
  | true =>
    go_enter Tryz.func41, Tryz.ntmps41
    go_wp2_with (go_at_call 69; refine (HX.out.2.2 _).mono ?_; rintro e w1 ⟨rfl, hw1⟩; rw [hw1]; clear hw1)
    go_loopw [7] (fun i W => i = .int .i64 0 ∧ W = w.setCell ⟨rd, 2, none⟩ (.int .i64 (wrap64 (N + 1)))) (fun _ _ => 0)
    case atStart => exact ⟨rfl, rfl⟩
    case round =>
      obtain ⟨rfl, rfl⟩ := hrel
      go_wp2
      go_ret
      exact ⟨rfl, ⟨_, HX.out.2.1⟩, (Turn.refl _ _ _).setCell HX.out.1.at_ HX.out.1.le (by simp) 2 _⟩

/-- where a file stands in the list -/
def FirstAt (es : List (FileM × Value)) (s : List UInt8) (i : Nat) : Prop := ∃ h : i < es.length, es[i].1.name = s ∧ ∀ j (hj : j < i), (es[j]'(by omega)).1.name ≠ s

set_option maxRecDepth 100000 in
set_option maxHeartbeats 800000 in
theorem rthere_c (n rd : Nat) (room N : Int) (lv : Value) (es : List (FileM × Value)) (hes : es.length ≤ 1048576) (s : List UInt8) (hm : s.length ≤ 4611686018427387904) (w : World) (hX : RdX n w rd room N lv es) :
    Calls Tryz.prog 111 #[.pointer (some ⟨rd, 0, none⟩), .string ⟨s.toArray⟩, .string ⟨s.toArray⟩] w fun e w' =>
      (∃ N', RdX n w' rd room N' lv es) ∧ Turn n [some 80] w w' ∧
      ((dnameB s = false ∧ e = .returned (.tuple #[.int .i64 0, .int .i64 1])) ∨ (dnameB s = true ∧ (∀ x ∈ es, x.1.name ≠ s) ∧ e = .returned (.tuple #[.int .i64 0, .int .i64 33])) ∨
        (dnameB s = true ∧ ∃ i : Nat, FirstAt es s i ∧ e = .returned (.tuple #[.int .i64 i, .int .i64 0]))) := by
  have hst := rstep_c n rd room N lv es s hm w hX
  obtain ⟨NB, hNB⟩ : ∃ b, dnameB s = b := ⟨_, rfl⟩
  rw [hNB] at hst ⊢
  have HS := Lib.hid hst; clear hst hX hNB
  cases NB with
  | false =>
    go_enter Tryz.func111, Tryz.ntmps111
    go_wp2_with fail
    refine HS.out.mono ?_
    rintro e w1 ⟨rfl, hX1, hT1⟩
    have H1 := Lib.hid (And.intro hX1 hT1); clear hX1 hT1
    go_wp2
    go_ret2
    exact ⟨H1.out.1, H1.out.2, .inl ⟨by trivial, rfl⟩⟩
  | true =>
    go_enter Tryz.func111, Tryz.ntmps111
    go_wp2_with fail
    refine HS.out.mono ?_
    rintro e w1 ⟨rfl, ⟨N1, hX1⟩, hT1⟩
    have hat := rat_c n rd room N1 lv es hes s w1 hX1
    have H1 := Lib.hid (And.intro hX1 (And.intro hT1 hat)); clear hX1 hT1 hat
    go_wp2_with fail
    refine H1.out.2.2.mono ?_
    rintro e w2 ⟨⟨i, hi, rfl, h1, h2⟩ | ⟨rfl, h1⟩, hb2⟩
    · have hi0 : ¬ (i : Int) < 0 := by omega
      have H2 := Lib.hid (And.intro (show FirstAt es s i from ⟨hi, h1, h2⟩) hb2); clear h1 h2 hb2
      go_wp2
      go_ret2
      exact ⟨⟨_, H1.out.1.below H2.out.2⟩, H1.out.2.1.bel H2.out.2, .inr (.inr ⟨by trivial, i, H2.out.1, rfl⟩)⟩
    · have H2 := Lib.hid (And.intro h1 hb2); clear h1 hb2
      go_wp2
      go_ret2
      exact ⟨⟨_, H1.out.1.below H2.out.2⟩, H1.out.2.1.bel H2.out.2, .inr (.inl ⟨by trivial, H2.out.1, rfl⟩)⟩
theorem own_belw {w w' : World} {base base' n : Nat} {e : TypeId} {size : Nat} {v : Value} {xs : List Value} (h : w.ownsRow base e size v n xs) (hg : w.grownBy w' v.ownBlock) (hb : base' ≤ base) (hs : base' ≤ w.heap.size) : Below base' w w' :=
  (Below.refl _ _).grown hg hs fun k hk => by
    obtain ⟨_, _, _, _, _, h⟩ := own_slice h
    rcases h with h | ⟨g, h, hg, _⟩
    · rw [h] at hk; cases hk
    · rw [h] at hk; cases hk; omega

theorem wpList_appk {P : Program} {w : World} {ops : Array Oper} {rest : List Oper} {o : Oper} {a : Act} {Q : Exit → Act → World → Prop} (hgd : o.guard = none) (s x : Operand) (t : TypeId)
    (ho : o.op = .call { callee := .builtin .append, args := #[s, x], argTypes := #[t, t] }) (v u : Value) (hs : a.eval s = v) (hx : a.eval x = u) {v' : Value} {w' : World}
    (hr : (Builtin.append_ #[t, t] o.type #[v, u]).run P w = .ok v' w') (h : wpList P ops Q rest (a.put o.dst v') w') : wpList P ops Q (o :: rest) a w :=
  wpList_plain hgd fun _ hK => by
    unfold Oper.wp execOp
    simp only [ho, resolve, invoke, builtin, Sem.run_bind, Sem.run_pure, Result.andThen_ok, List.map_toArray, List.map_cons, List.map_nil, hs, hx, hr]
    exact hK _ _ h

end Go.Proofs.YtnljhabpcoiihaaGreatDoor
set_option linter.all false
namespace Go.Proofs.YtnljhabpcoiihaaGreatDoor
open Go.RowKit

theorem own_setAt {w : World} {base : Nat} {e : TypeId} {size n g cap j : Nat} {xs : List Value} (h : w.ownsRow base e size (.slice (some ⟨g, 0, none⟩) n cap) n xs) (hj : j < n * size) (u : Value) :
    (w.setCell ⟨g, j, none⟩ u).ownsRow base e size (.slice (some ⟨g, 0, none⟩) n cap) n (xs.set j u) := by
  obtain ⟨hl, ⟨h1, h2⟩ | ⟨g', cap', cur, hv, hg, hh, hn, hc, hs, ht⟩⟩ := h
  · subst h2; simp at hj
  · injection hv with h1 h2 h3
    injection h1 with h1
    injection h1 with h1
    subst h1 h3
    refine ⟨by rw [List.length_set]; exact hl, .inr ⟨g, cap, _, rfl, hg, Joins.block_setCell hh (i := j) u, hn, hc, by simp [hs], ?_⟩⟩
    rw [Array.toList_setIfInBounds, List.take_set, ht]
theorem rfCells_set (x : FileM × Value) : ∀ (es : List (FileM × Value)) (i : Nat) (h : i < es.length), es[i].1.name = x.1.name →
    ((rfCells es).set (i * 3 + 1) x.2).set (i * 3 + 2) (.int .i64 (x.1.safe : Int)) = rfCells (es.set i x)
  | [], i, h, _ => by simp at h
  | p :: r, 0, h, hn => by
    simp only [List.getElem_cons_zero] at hn
    simp [rfCells, hn]
  | p :: r, i + 1, h, hn => by
    have ih := rfCells_set x r i (by simpa using h) (by simpa using hn)
    have e : ∀ (q : FileM × Value) (l : List (FileM × Value)), rfCells (q :: l) = .string ⟨q.1.name.toArray⟩ :: q.2 :: .int .i64 (q.1.safe : Int) :: rfCells l := by intro q l; simp [rfCells]
    rw [List.set_cons_succ, e, e, ← ih]
    have e1 : (i + 1) * 3 + 1 = (i * 3 + 1) + 1 + 1 + 1 := by omega
    have e2 : (i + 1) * 3 + 2 = (i * 3 + 2) + 1 + 1 + 1 := by omega
    rw [e1, e2]
    simp only [List.set_cons_succ]
end Go.Proofs.YtnljhabpcoiihaaGreatDoor
set_option linter.all false
namespace Go.Proofs.YtnljhabpcoiihaaGreatDoor
open Go.RowKit

theorem info_str : ∃ i0, Tryz.prog.info? 9 = some i0 ∧ i0.zero = some (.string ⟨#[]⟩) ∧ i0.size = 1 ∧ i0.bytes = 16 :=
  info_parts (show (Tryz.prog.info? 9).map (fun i => (i.zero, i.size, i.bytes)) = some (some (.string ⟨#[]⟩), 1, 16) by kernel_rfl)
def rfNames (es : List (FileM × Value)) : List Value := es.map fun e => .string ⟨e.1.name.toArray⟩

set_option maxRecDepth 100000 in
set_option maxHeartbeats 800000 in
theorem rlist_c (n rd : Nat) (room N : Int) (lv : Value) (es : List (FileM × Value)) (hes : es.length ≤ 1048576) (w : World) (hX : RdX n w rd room N lv es) :
    Calls Tryz.prog 76 #[.pointer (some ⟨rd, 0, none⟩)] w fun e w' =>
      ∃ v, e = .returned v ∧ w'.ownsRow w.heap.size 9 1 v es.length (rfNames es) ∧ Below w.heap.size w w' := by
  have c3 := Joins.cell_of_block hX.at_ 3
  have c5 := Joins.cell_of_block hX.at_ 5
  obtain ⟨A, cap, rfl, _, _, _⟩ := own_slice hX.row
  have HX := Lib.hid hX; clear hX
  simp at c3 c5
  go_enter Tryz.func76, Tryz.ntmps76
  go_wp2_with fail
  go_loopw [3, 4] (fun v i W => ∃ k : Nat, k ≤ es.length ∧ i = .int .i64 k ∧ W.ownsRow w.heap.size 9 1 v k ((rfNames es).take k) ∧ Below w.heap.size w W) (fun _ i _ => es.length - (intOf i).toNat)
  case atStart => exact ⟨0, by omega, rfl, World.ownsRow_nil _ _ _ _, Below.refl _ _⟩
  case round =>
    obtain ⟨k, hk, rfl, hown, hB⟩ := hrel
    have d3 := (hB.cell (p := ⟨rd, 3, none⟩) (cell_lt c3)).trans c3
    have d5 := (hB.cell (p := ⟨rd, 5, none⟩) (cell_lt c5)).trans c5
    by_cases hlt : k < es.length
    · have hkd : decide ((k : Int) < (es.length : Int)) = true := by simpa using hlt
      obtain ⟨b, o, hb, hcell⟩ := (Rd.of_own (own_below HX.out.row hB)).addr (by rw [rfCells_length]; omega)
      obtain ⟨g0, -, -⟩ := rfCells_get es k hlt
      have q0 := (hcell (k * 3) (by rw [rfCells_length]; omega)).trans g0
      subst hb
      obtain ⟨nm, hnm⟩ : ∃ nm, es[k].1.name = nm := ⟨_, rfl⟩
      rw [hnm] at q0
      have htk : (rfNames es).take (k + 1) = (rfNames es).take k ++ [.string ⟨nm.toArray⟩] := by
        rw [List.take_succ_eq_append_getElem (by simp [rfNames]; exact hlt)]
        simp [rfNames, hnm]
      obtain ⟨iI, hiI, hz0, hz1, hz2⟩ := info_str
      obtain ⟨v', W2, happ, hown', hgrow', hblk'⟩ := run_append_rd (P := Tryz.prog) (wr.alloc (.cells #[.string ⟨nm.toArray⟩] 9)) w.heap.size 117 117 9 iI _ 1 16 Tryz.underlying117 hiI hz0 hz1 hz2 rfl (by decide) _ k ((rfNames es).take k)
        (own_below hown (bnew wr _)) 0 (some ⟨wr.heap.size, 0, none⟩) 1 1 [.string ⟨nm.toArray⟩] rfl
        (Or.inr ⟨_, _, Nat.zero_le _, rfl, fun k hk => by
          have h3 : k < 1 := by simpa using hk
          match k, h3 with
          | 0, _ => simp [go_sem]⟩) (by simp [Value.oneCell']) (by unfold maxLen; omega) (by omega) (Nat.le_trans hB.size (by simp)) (fun h => by cases h)
      have hb2 := own_belw (own_below hown (bnew wr (.cells #[.string ⟨nm.toArray⟩] 9))) hgrow' (Nat.le_refl _) (Nat.le_trans hB.size (by simp))
      have hB2 : Below w.heap.size w W2 := (hB.trans ((bnew wr _).mono hB.size)).trans hb2
      obtain ⟨A1, c1, rfl, -, -, -⟩ := own_slice hown
      obtain ⟨A2, c2, rfl, -, -, -⟩ := own_slice hown'
      have HAPP := Lib.hid happ
      have HO := Lib.hid (And.intro hown' (And.intro hB2 htk)); clear happ hown' hgrow' hblk' hb2 hB2 htk hcell g0 hB hiI hz0 hz1 hz2 hown hnm
      go_wp2_with (at_builtin; refine wpList_appk rfl _ _ _ rfl _ _ rfl rfl HAPP.out ?_)
      exact ⟨⟨k + 1, by omega, rfl, by rw [HO.out.2.2]; exact HO.out.1, HO.out.2.1⟩, by simp [intOf]; omega⟩
    · obtain rfl : k = es.length := by omega
      have hkd : decide ((es.length : Int) < (es.length : Int)) = false := by simp
      have HO := Lib.hid (And.intro hown hB); clear hown hB
      go_wp2
      go_ret
      have h := HO.out.1
      rw [List.take_of_length_le (by simp [rfNames])] at h
      exact ⟨_, rfl, h, HO.out.2⟩
end Go.Proofs.YtnljhabpcoiihaaGreatDoor
