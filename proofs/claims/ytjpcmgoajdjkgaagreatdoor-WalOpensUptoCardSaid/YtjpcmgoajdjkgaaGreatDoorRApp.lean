/- The reference's disk: Append. -/
import Derived.Test.YtjpcmgoajdjkgaaGreatDoorRPut
import Derived.Test.YtjpcmgoajdjkgaaGreatDoorRRead
import Derived.Test.YtjpcmgoajdjkgaaGreatDoorLApp
set_option linter.all false
namespace Go.Proofs.YtjpcmgoajdjkgaaGreatDoor
open Go.RowKit

theorem wrap_id' {x : Int} (h0 : -9223372036854775808 ≤ x) (h1 : x < 9223372036854775808) : wrap64 x = x := by unfold wrap64; omega
theorem sorted_E {es : List (FileM × Value)} (h : (es.map (·.1)).Pairwise (fun a b => a.name < b.name)) : es.Pairwise (fun a b => nmE a < nmE b) := by
  rw [List.pairwise_map] at h; exact h
theorem BytesR.rd_of {n : Nat} {w : World} {A : Option Addr} {m cap : Nat} {l : List UInt8} (h : BytesR n w (.slice A m cap) l) : Rd n w A (bytesV l) := by
  obtain ⟨A', cap', hv, _, hr⟩ := h
  cases hv
  exact hr
def esFs (es : List (FileM × Value)) : List FileM := es.map (·.1)
def sumE (es : List (FileM × Value)) : Nat := sumLen (es.map (·.1))
theorem sumE_take {es : List (FileM × Value)} {k : Nat} (h : k < es.length) : sumE (es.take (k + 1)) = sumE (es.take k) + es[k].1.b.length := by
  unfold sumE sumLen
  rw [List.take_succ_eq_append_getElem h]
  simp only [List.map_append, List.map_cons, List.map_nil, List.sum_append, List.sum_cons, List.sum_nil, Nat.add_zero]
theorem sumE_le (es : List (FileM × Value)) (k : Nat) : sumE (es.take k) ≤ sumE es := by
  unfold sumE sumLen
  have h : es = es.take k ++ es.drop k := (List.take_append_drop k es).symm
  conv => rhs; rw [h]
  simp only [List.map_append, List.sum_append]
  omega
theorem fileAt_first {es : List (FileM × Value)} {s : List UInt8} {i : Nat} (h : FirstAt es s i) : ∃ hi : i < es.length, fileAt (es.map (·.1)) s = some es[i].1 := by
  obtain ⟨hi, h1, h2⟩ := h
  refine ⟨hi, ?_⟩
  induction es generalizing i with
  | nil => simp at hi
  | cons x r ih =>
    cases i with
    | zero => simp only [List.getElem_cons_zero] at h1 ⊢; rw [List.map_cons, fileAt, if_pos h1]
    | succ i =>
      have h0 := h2 0 (by omega)
      simp only [List.getElem_cons_zero] at h0
      rw [List.map_cons, fileAt, if_neg h0]
      simp only [List.getElem_cons_succ] at h1 ⊢
      exact ih (by simpa using hi) h1 (fun j hj => by have := h2 (j + 1) (by omega); simpa using this)
theorem fileAt_absentE {es : List (FileM × Value)} {s : List UInt8} (h : ∀ x ∈ es, x.1.name ≠ s) : fileAt (es.map (·.1)) s = none := by
  induction es with
  | nil => rfl
  | cons x r ih =>
    rw [List.map_cons, fileAt, if_neg (h x (by simp))]
    exact ih fun y hy => h y (by simp [hy])
theorem ins_map {α β : Type} {g : α → β} {nm : β → List UInt8} (f : α) : ∀ (l : List α), (insM (fun x => nm (g x)) f l).map g = insM nm (g f) (l.map g)
  | [] => rfl
  | x :: r => by
    simp only [insM, List.map_cons]
    split
    · rfl
    · split
      · rfl
      · rw [List.map_cons, ins_map f r]

set_option maxRecDepth 100000 in
set_option maxHeartbeats 1000000 in
theorem rapp_c (n rd : Nat) (room N : Int) (hroom : 0 ≤ room ∧ room ≤ 1073741824) (lv : Value) (es : List (FileM × Value)) (hes : es.length ≤ 16) (hsum : (sumE es : Int) ≤ room) (hsort : (es.map (·.1)).Pairwise (fun a b => a.name < b.name))
    (s : List UInt8) (hm : s.length ≤ 4611686018427387904) (l : List UInt8) (hl : l.length ≤ 4611686018427387904) (v : Value) (w : World) (hX : RdX n w rd room N lv es) (hv : Bn n w v l) (hn : n ≤ w.heap.size) :
    Calls Tryz.prog 23 #[.pointer (some ⟨rd, 0, none⟩), .string ⟨s.toArray⟩, v] w fun e w' =>
      e = .returned (.int .i64 (rappM room (es.map (·.1)) s l).2) ∧ (∃ N' lv' es', RdX n w' rd room N' lv' es' ∧ es'.map (·.1) = (rappM room (es.map (·.1)) s l).1) ∧ Turn n [some 81] w w' := by
  have hst := rstep_c n rd room N lv es s hm w hX
  obtain ⟨Av, cv, rfl⟩ := hv.slice
  obtain ⟨R, hR⟩ : ∃ R, rappM room (es.map (·.1)) s l = R := ⟨_, rfl⟩
  rw [hR]
  unfold rappM at hR
  obtain ⟨m, hml⟩ : ∃ m, l.length = m := ⟨_, rfl⟩
  rw [hml] at hl hR hv ⊢
  obtain ⟨NB, hNB⟩ : ∃ b, dnameB s = b := ⟨_, rfl⟩
  rw [hNB] at hst hR
  have HS := Lib.hid (And.intro hst (And.intro hv (And.intro hsort (And.intro hR hml)))); clear hst hX hv hNB hsort hR hml
  go_enter Tryz.func23, Tryz.ntmps23
  go_wp2_with fail
  refine HS.out.1.mono ?_
  rintro e w1 ⟨rfl, ⟨N1, hX1⟩, hT1⟩
  cases NB with
  | false =>
    have hR := HS.out.2.2.2.1
    simp only [if_true] at hR
    subst hR
    have H1 := Lib.hid (And.intro hX1 hT1); clear hX1 hT1
    go_wp2
    go_ret
    exact ⟨rfl, ⟨_, _, _, H1.out.1, rfl⟩, H1.out.2⟩
  | true =>
    have hat := rat_c n rd room N1 lv es (by omega) s w1 hX1
    have H1 := Lib.hid (And.intro hX1 (And.intro hT1 hat)); clear hX1 hT1 hat
    go_wp2_with fail
    refine H1.out.2.2.mono ?_
    rintro e w2 ⟨⟨i, hi, rfl, hf1, hf2⟩ | ⟨rfl, hf1⟩, hb2⟩
    · have hF : FirstAt es s i := ⟨hi, hf1, hf2⟩
      obtain ⟨_, hat⟩ := fileAt_first hF
      have hR := HS.out.2.2.2.1
      simp only [Bool.true_eq_false, if_false, hat, List.length_map] at hR
      have hi0 : ¬ (i : Int) < 0 := by omega
      have hi1 : (0 : Int) ≤ (i : Int) := by omega
      obtain ⟨x, hx⟩ : ∃ x, es[i] = x := ⟨_, rfl⟩
      rw [hx] at hR hf1
      obtain ⟨fm, fv⟩ := x
      clear hf2 hF
      have hX2 := H1.out.1.below hb2
      have c3 := Joins.cell_of_block hX2.at_ 3
      have c0 := Joins.cell_of_block hX2.at_ 0
      obtain ⟨A, cap, rfl, _, _, _⟩ := own_slice hX2.row
      simp at c3 c0
      have H2 := Lib.hid (And.intro hX2 (And.intro (H1.out.2.1.bel hb2) hR)); clear hX2 hb2 hat hR
      go_wp2_with fail
      go_loopw [9, 10] (fun v i W => ∃ k : Nat, k ≤ es.length ∧ i = .int .i64 k ∧ v = .int .i64 (sumE (es.take k) : Nat) ∧ W = w2) (fun _ i _ => es.length - (intOf i).toNat)
      case atStart => exact ⟨0, by omega, rfl, rfl, rfl⟩
      case round =>
        obtain ⟨k, hk, rfl, rfl, rfl⟩ := hrel
        have hle := sumE_le es k
        by_cases hlt : k < es.length
        · have hkd : decide ((k : Int) < (es.length : Int)) = true := by simpa using hlt
          have hsk := sumE_take hlt
          have hle1 := sumE_le es (k + 1)
          obtain ⟨b, o, hb, hcell⟩ := (Rd.of_own H2.out.1.row).addr (by rw [rfCells_length]; omega)
          obtain ⟨-, g1, -⟩ := rfCells_get es k hlt
          have q1 := (hcell (k * 3 + 1) (by rw [rfCells_length]; omega)).trans g1
          rw [← Nat.add_assoc] at q1
          subst hb
          obtain ⟨Ae, ce, hve, -, -, -⟩ := H2.out.1.each es[k] (List.getElem_mem hlt)
          rw [hve] at q1
          obtain ⟨S, hS⟩ : ∃ S, sumE (es.take k) = S := ⟨_, rfl⟩
          obtain ⟨B, hB⟩ : ∃ B, es[k].1.b.length = B := ⟨_, rfl⟩
          rw [hB] at q1 hsk
          rw [hS] at hsk hle ⊢
          rw [hsk] at hle1
          have HI := Lib.hid hsk
          clear hcell g1 hsk hve hS hB
          go_wp2_with fail
          refine ⟨⟨k + 1, by omega, rfl, ?_, trivial⟩, by simp [intOf]; omega⟩
          rw [HI.out]; exact congrArg _ (by omega)
        · obtain rfl : k = es.length := by omega
          have hkd : decide ((es.length : Int) < (es.length : Int)) = false := by simp
          rw [List.take_length]
          obtain ⟨S, hS⟩ : ∃ S, sumE es = S := ⟨_, rfl⟩
          have hSr : (S : Int) ≤ room := by rw [← hS]; exact hsum
          rw [hS]
          clear hle
          have hR := H2.out.2.2
          rw [show sumLen (List.map (fun x => x.1) es) = S from hS] at hR
          clear hS
          by_cases hbig : room - (S : Int) < (m : Int)
          · rw [if_pos (by omega)] at hR
            subst hR
            have hbd : decide (room - (S : Int) < (m : Int)) = true := by simpa using hbig
            go_wp2_with fail
            go_ret
            exact ⟨rfl, ⟨_, _, _, H2.out.1, rfl⟩, H2.out.2.1⟩
          · rw [if_neg (by omega)] at hR
            have hbd : decide (room - (S : Int) < (m : Int)) = false := by simpa using hbig
            have HR := Lib.hid hR; clear hR
            obtain ⟨b, o, hb, hcell⟩ := (Rd.of_own H2.out.1.row).addr (by rw [rfCells_length]; omega)
            obtain ⟨g0, g1, g2⟩ := rfCells_get es i hi
            have q0 := (hcell (i * 3) (by rw [rfCells_length]; omega)).trans g0
            have q1 := (hcell (i * 3 + 1) (by rw [rfCells_length]; omega)).trans g1
            have q2 := (hcell (i * 3 + 2) (by rw [rfCells_length]; omega)).trans g2
            rw [← Nat.add_assoc] at q1 q2
            subst hb
            have hbe := H2.out.1.each es[i] (List.getElem_mem hi)
            rw [hx] at q0 q1 q2 hbe
            simp only at q0 q1 q2 hbe
            obtain ⟨Af, cf, hfv⟩ : ∃ A c, fv = .slice A fm.b.length c := by obtain ⟨A, c, h, _⟩ := hbe; exact ⟨A, c, h⟩
            obtain ⟨fl, hfl⟩ : ∃ x, fm.b.length = x := ⟨_, rfl⟩
            rw [hfl] at hfv
            subst hfv
            have hbf : Below wr.heap.size wr (wr.alloc (.cells #[.string ⟨s.toArray⟩, .slice none 0 0, .int .i64 0] 89)) := bnew _ _
            have c3f := (hbf.cell (cell_lt c3)).trans c3
            have p0 := (hbf.cell (cell_lt q0)).trans q0
            have p1 := (hbf.cell (cell_lt q1)).trans q1
            have p2 := (hbf.cell (cell_lt q2)).trans q2
            have HF := Lib.hid (And.intro hbf (And.intro hbe hfl))
            clear hfl hbf hbe hcell g0 g1 g2
            have ho := own_nil (wr.alloc (.cells #[.string ⟨s.toArray⟩, .slice Af fl cf, .int .i64 (fm.safe : Int)] 89))
            rw [World.size_alloc] at ho
            have hbn := (HS.out.2.1.turn H2.out.2.1 (by simp)).rd
            have hb3 : Below wr.heap.size wr ((wr.alloc (.cells #[.string ⟨s.toArray⟩, .slice Af fl cf, .int .i64 (fm.safe : Int)] 89)).alloc (.cells #[] 5)) := bnew2 _ _ _
            have hrd3 := hbn.below hb3
            have hrd4 := (HF.out.2.1.below hb3).toR.rd_of
            have HB := Lib.hid (And.intro hb3 (And.intro hrd3 (And.intro HS.out.2.2.2.2 (And.intro HF.out.2.2 hrd4)))); clear hb3 hrd3 hrd4 hbn
            have hml := HB.out.2.2.1
            have hfl := HB.out.2.2.2.1
            have hflb : fl ≤ 1073741824 := by
              have h1 := le_sumLen (l := es.map (·.1)) (f := fm) (by rw [← show es[i].1 = fm by rw [hx]]; exact List.mem_map_of_mem (List.getElem_mem hi))
              have h2 : sumLen (es.map (·.1)) = sumE es := rfl
              omega
            clear hml hfl
            go_wp2_with (at_builtin; refine wpList_bytes rfl _ _ rfl (wr.heap.size + 1) _ [] rfl 0 rfl ho 0 Af fl cf fm.b rfl HB.out.2.2.2.1.symm HB.out.2.2.2.2 (by have := HB.out.2.2.2.1; simp; omega) (by simp) ?_)
            intro v4 w4 hown4 hb4
            have hb4' : Below wr.heap.size wr w4 := HB.out.1.trans (hb4.mono (Nat.le_succ _))
            have hrd5 := ((HS.out.2.1.turn H2.out.2.1 (by simp)).rd).below hb4'
            have hw4 : wr.heap.size + 1 ≤ w4.heap.size := Nat.le_trans (by simp) hb4.size
            have H4 := Lib.hid (And.intro hown4 (And.intro hb4 (And.intro hrd5 hb4'))); clear hown4 hb4 hrd5 hb4'
            go_wp2_with (at_builtin; refine wpList_bytes rfl _ _ rfl (wr.heap.size + 1) _ _ rfl _ rfl H4.out.1 0 Av m cv l rfl HB.out.2.2.1.symm H4.out.2.2.1 (by have := HB.out.2.2.1; have := HB.out.2.2.2.1; simp; omega) hw4 ?_)
            intro v5 w5 hown5 hb5
            have hfb0 : ((wr.alloc (.cells #[.string ⟨s.toArray⟩, .slice Af fl cf, .int .i64 (fm.safe : Int)] 89)).alloc (.cells #[] 5)).heap[wr.heap.size]? = some (.cells #[.string ⟨s.toArray⟩, .slice Af fl cf, .int .i64 (fm.safe : Int)] 89 (0, 0)) :=
              (Below.heap_alloc _ _ _ (by simp)).trans (heap_alloc_new wr _)
            have hfb := ((H4.out.2.1.trans hb5).block wr.heap.size (by omega)).trans hfb0
            obtain ⟨A5, c5, rfl, -, -, -⟩ := own_slice hown5
            have hB5 : Below wr.heap.size wr w5 := H4.out.2.2.2.trans (hb5.mono (Nat.le_succ _))
            have f0 := Joins.cell_of_block hfb 0
            have f1 := Joins.cell_of_block hfb 1
            have f2 := Joins.cell_of_block hfb 2
            have f1u := Joins.unfrozen_of_block hfb 1
            simp at f0 f1 f2
            obtain ⟨q, hq⟩ : ∃ q, (fm.b.length + l.length) = q := ⟨_, rfl⟩
            have hfb6 : (w5.setCell ⟨wr.heap.size, 1, none⟩ (.slice A5 (fm.b.length + l.length) c5)).heap[wr.heap.size]? = some (.cells #[.string ⟨s.toArray⟩, .slice A5 (fm.b.length + l.length) c5, .int .i64 (fm.safe : Int)] 89 (0, 0)) := by
              rw [Joins.block_setCell hfb]; rfl
            have g0 := Joins.cell_of_block hfb6 0
            have g1 := Joins.cell_of_block hfb6 1
            have g2 := Joins.cell_of_block hfb6 2
            have hB6 : Below wr.heap.size wr (w5.setCell ⟨wr.heap.size, 1, none⟩ (.slice A5 (fm.b.length + l.length) c5)) := hB5.setCell (Nat.le_refl _) _
            have hbs6 : Bs 5 (w5.setCell ⟨wr.heap.size, 1, none⟩ (.slice A5 (fm.b.length + l.length) c5)) (.slice A5 (fm.b.length + l.length) c5) (fm.b ++ l) := by
              have h5 : Bs 5 w5 (.slice A5 (fm.b.length + l.length) c5) (fm.b ++ l) := Bs.of_own (base := wr.heap.size + 1) (by rw [List.length_append]; exact hown5)
              exact h5.keeps fun b o hb ht => heap_setCell_ne hb (by rintro rfl; rw [hfb] at hb; cases hb; simp [tagOf] at ht)
            have hX6 := H2.out.1.below hB6
            have hput := rput_c n rd room _ _ es (by omega) { name := s, b := fm.b ++ l, safe := fm.safe } (.slice A5 (fm.b.length + l.length) c5) _ hX6 hbs6 (by have := hX6.le; have := heap_lt hX6.at_; omega)
            have hTB := H2.out.2.1.bel hB6
            rw [hq] at hput g0 g1 g2 hTB
            have H6 := Lib.hid (And.intro hput hTB); clear hTB hput hX6 hbs6 hB6 hfb6 hB5 hfb hown5 hb5 hfb0
            simp at g0 g1 g2
            rw [hq]
            clear hq
            go_wp2_with fail
            refine H6.out.1.mono ?_
            rintro e w7 ⟨rfl, ⟨lv7, hX7⟩, hT7⟩
            have H7 := Lib.hid (And.intro hX7 (H6.out.2.trans hT7)); clear hX7 hT7
            go_wp2_with fail
            go_ret
            rw [← HR.out]
            refine ⟨rfl, ⟨_, _, _, H7.out.1, ?_⟩, H7.out.2⟩
            rw [putM_eq (sorted_E HS.out.2.2.1)]
            refine (ins_map (g := fun x : FileM × Value => x.1) (nm := fun x : FileM => x.name) _ es).trans ?_
            simp only [hf1]
    · have hat := fileAt_absentE hf1
      have hR := HS.out.2.2.2.1
      simp only [Bool.true_eq_false, if_false, hat, List.length_map] at hR
      by_cases h16 : 16 ≤ es.length
      · rw [if_pos h16] at hR
        have hX2 := H1.out.1.below hb2
        have c3 := Joins.cell_of_block hX2.at_ 3
        obtain ⟨A, cap, rfl, _, _, _⟩ := own_slice hX2.row
        simp at c3
        subst hR
        have H2 := Lib.hid (And.intro hX2 (H1.out.2.1.bel hb2)); clear hX2 hb2 hat hf1
        go_wp2
        go_ret
        exact ⟨rfl, ⟨_, _, _, H2.out.1, rfl⟩, H2.out.2⟩
      · rw [if_neg h16] at hR
        have hX2 := H1.out.1.below hb2
        have c3 := Joins.cell_of_block hX2.at_ 3
        have c0 := Joins.cell_of_block hX2.at_ 0
        obtain ⟨A, cap, rfl, _, _, _⟩ := own_slice hX2.row
        simp at c3 c0
        have H2 := Lib.hid (And.intro hX2 (And.intro (H1.out.2.1.bel hb2) hR)); clear hX2 hb2 hat hf1 hR
        go_wp2_with fail
        go_loopw [9, 10] (fun v i W => ∃ k : Nat, k ≤ es.length ∧ i = .int .i64 k ∧ v = .int .i64 (sumE (es.take k) : Nat) ∧ W = w2) (fun _ i _ => es.length - (intOf i).toNat)
        case atStart => exact ⟨0, by omega, rfl, rfl, rfl⟩
        case round =>
          obtain ⟨k, hk, rfl, rfl, rfl⟩ := hrel
          have hle := sumE_le es k
          by_cases hlt : k < es.length
          · have hkd : decide ((k : Int) < (es.length : Int)) = true := by simpa using hlt
            have hsk := sumE_take hlt
            have hle1 := sumE_le es (k + 1)
            obtain ⟨b, o, hb, hcell⟩ := (Rd.of_own H2.out.1.row).addr (by rw [rfCells_length]; omega)
            obtain ⟨-, g1, -⟩ := rfCells_get es k hlt
            have q1 := (hcell (k * 3 + 1) (by rw [rfCells_length]; omega)).trans g1
            rw [← Nat.add_assoc] at q1
            subst hb
            obtain ⟨Ae, ce, hve, -, -, -⟩ := H2.out.1.each es[k] (List.getElem_mem hlt)
            rw [hve] at q1
            obtain ⟨S, hS⟩ : ∃ S, sumE (es.take k) = S := ⟨_, rfl⟩
            obtain ⟨B, hB⟩ : ∃ B, es[k].1.b.length = B := ⟨_, rfl⟩
            rw [hB] at q1 hsk
            rw [hS] at hsk hle ⊢
            rw [hsk] at hle1
            have HI := Lib.hid hsk
            clear hcell g1 hsk hve hS hB
            go_wp2_with fail
            refine ⟨⟨k + 1, by omega, rfl, ?_, trivial⟩, by simp [intOf]; omega⟩
            rw [HI.out]; exact congrArg _ (by omega)
          · obtain rfl : k = es.length := by omega
            have hkd : decide ((es.length : Int) < (es.length : Int)) = false := by simp
            rw [List.take_length]
            obtain ⟨S, hS⟩ : ∃ S, sumE es = S := ⟨_, rfl⟩
            have hSr : (S : Int) ≤ room := by rw [← hS]; exact hsum
            rw [hS]
            clear hle
            have hR := H2.out.2.2
            rw [show sumLen (List.map (fun x => x.1) es) = S from hS] at hR
            clear hS
            by_cases hbig : room - (S : Int) < (m : Int)
            · rw [if_pos (by omega)] at hR
              subst hR
              have hbd : decide (room - (S : Int) < (m : Int)) = true := by simpa using hbig
              go_wp2_with fail
              go_ret
              exact ⟨rfl, ⟨_, _, _, H2.out.1, rfl⟩, H2.out.2.1⟩
            · rw [if_neg (by omega)] at hR
              have hbd : decide (room - (S : Int) < (m : Int)) = false := by simpa using hbig
              have HR := Lib.hid hR; clear hR
              have ho := own_nil (wr.alloc (.cells #[.string ⟨s.toArray⟩, .slice none 0 0, .int .i64 0] 89))
              rw [World.size_alloc] at ho
              have hbn := (HS.out.2.1.turn H2.out.2.1 (by simp)).rd
              have hb3 : Below wr.heap.size wr ((wr.alloc (.cells #[.string ⟨s.toArray⟩, .slice none 0 0, .int .i64 0] 89)).alloc (.cells #[] 5)) := bnew2 _ _ _
              have hrd3 := hbn.below hb3
              have HB := Lib.hid (And.intro hb3 (And.intro hrd3 HS.out.2.2.2.2)); clear hb3 hrd3 hbn
              go_wp2_with (at_builtin; refine wpList_bytes rfl _ _ rfl (wr.heap.size + 1) _ [] rfl 0 rfl ho 0 Av m cv l rfl HB.out.2.2.symm HB.out.2.1 (by have := HB.out.2.2; simp; omega) (by simp) ?_)
              intro v5 w5 hown5 hb5
              have hfb0 : ((wr.alloc (.cells #[.string ⟨s.toArray⟩, .slice none 0 0, .int .i64 0] 89)).alloc (.cells #[] 5)).heap[wr.heap.size]? = some (.cells #[.string ⟨s.toArray⟩, .slice none 0 0, .int .i64 0] 89 (0, 0)) :=
                (Below.heap_alloc _ _ _ (by simp)).trans (heap_alloc_new wr _)
              have hfb := (hb5.block wr.heap.size (by omega)).trans hfb0
              obtain ⟨A5, c5, rfl, -, -, -⟩ := own_slice hown5
              have hB5 : Below wr.heap.size wr w5 := HB.out.1.trans (hb5.mono (Nat.le_succ _))
              have f0 := Joins.cell_of_block hfb 0
              have f1 := Joins.cell_of_block hfb 1
              have f1u := Joins.unfrozen_of_block hfb 1
              simp at f0 f1
              have hfb6 : (w5.setCell ⟨wr.heap.size, 1, none⟩ (.slice A5 ([] ++ l).length c5)).heap[wr.heap.size]? = some (.cells #[.string ⟨s.toArray⟩, .slice A5 ([] ++ l).length c5, .int .i64 0] 89 (0, 0)) := by
                rw [Joins.block_setCell hfb]; rfl
              have g0 := Joins.cell_of_block hfb6 0
              have g1 := Joins.cell_of_block hfb6 1
              have g2 := Joins.cell_of_block hfb6 2
              simp at g0 g1 g2
              have hB6 : Below wr.heap.size wr (w5.setCell ⟨wr.heap.size, 1, none⟩ (.slice A5 ([] ++ l).length c5)) := hB5.setCell (Nat.le_refl _) _
              have hbs6 : Bs 5 (w5.setCell ⟨wr.heap.size, 1, none⟩ (.slice A5 ([] ++ l).length c5)) (.slice A5 ([] ++ l).length c5) l := by
                have h5 : Bs 5 w5 (.slice A5 ([] ++ l).length c5) ([] ++ l) := Bs.of_own hown5
                rw [List.nil_append] at h5 ⊢
                exact h5.keeps fun b o hb ht => heap_setCell_ne hb (by rintro rfl; rw [hfb] at hb; cases hb; simp [tagOf] at ht)
              have hX6 := H2.out.1.below hB6
              have hput := rput_c n rd room _ _ es (by omega) { name := s, b := l, safe := 0 } (.slice A5 ([] ++ l).length c5) _ hX6 hbs6 (by have := hX6.le; have := heap_lt hX6.at_; omega)
              have H6 := Lib.hid (And.intro hput (H2.out.2.1.bel hB6)); clear hput hX6 hbs6 hB6 hfb6 hB5 hfb hown5 hb5 hfb0
              go_wp2_with fail
              refine H6.out.1.mono ?_
              rintro e w7 ⟨rfl, ⟨lv7, hX7⟩, hT7⟩
              have H7 := Lib.hid (And.intro hX7 (H6.out.2.trans hT7)); clear hX7 hT7
              go_wp2_with fail
              go_ret
              rw [← HR.out]
              refine ⟨rfl, ⟨_, _, _, H7.out.1, ?_⟩, H7.out.2⟩
              rw [putM_eq (sorted_E HS.out.2.2.1)]
              exact ins_map (g := fun x : FileM × Value => x.1) (nm := fun x : FileM => x.name) _ es
end Go.Proofs.YtjpcmgoajdjkgaaGreatDoor
