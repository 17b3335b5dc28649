/- The law's Same, of rows of changes. -/
import Derived.Test.YtnljhabpcoiihaaGreatDoorKvR
import Derived.Test.YtnljhabpcoiihaaGreatDoorByt
set_option linter.all false
namespace Go.Proofs.YtnljhabpcoiihaaGreatDoor
open Go.RowKit

theorem rows_ne {la lb : List ChE} {k : Nat} (h1 : k < la.length) (h2 : k < lb.length) (h : la[k].1 ≠ lb[k].1) : la.map (·.1) ≠ lb.map (·.1) := fun e => by
  have := congrArg (fun l => l[k]?) e
  simp [h1, h2] at this
  exact h this
theorem rows_eq {la lb : List ChE} (hl : la.length = lb.length) (h : ∀ i (h1 : i < la.length) (h2 : i < lb.length), la[i].1 = lb[i].1) : la.map (·.1) = lb.map (·.1) := by
  apply List.ext_getElem
  · simpa using hl
  · intro i h1 h2
    simp only [List.getElem_map]
    exact h i (by simpa using h1) (by simpa using h2)

theorem same2 (W : World) {f : FuncId} {a1 a2 : Array Value} {x y : Bool} (b1 b2 : Bool) (h : Hid (∀ m, (Calls Tryz.prog f a1 (W.drewN m) fun e w' => e = .returned (.bool x) ∧ w' = W.drewN m) ∧ (Calls Tryz.prog f a2 (W.drewN m) fun e w' => e = .returned (.bool y) ∧ w' = W.drewN m))) (hx : x = b1) (hy : y = b2) :
    (∀ m, Calls Tryz.prog f a1 (W.drewN m) fun e w' => e = .returned (.bool b1) ∧ w' = W.drewN m) ∧ (∀ m, Calls Tryz.prog f a2 (W.drewN m) fun e w' => e = .returned (.bool b2) ∧ w' = W.drewN m) := by
  subst hx hy
  exact ⟨fun m => (h.out m).1, fun m => (h.out m).2⟩

set_option maxRecDepth 100000 in
set_option maxHeartbeats 20000000 in
theorem ksame_c (A B : Option Addr) (n m cap capb : Nat) (la lb : List ChE) (hn : n = la.length) (hm : m = lb.length) (hnm : n ≤ 1048576) (w : World) (hra : Rd 0 w A (chCells la)) (hea : ChEach w la) (hrb : Rd 0 w B (chCells lb)) (heb : ChEach w lb) :
    Calls Tryz.prog 15 #[.slice A n cap, .slice B m capb] w fun e w' => e = .returned (.bool (decide (la.map (·.1) = lb.map (·.1)))) ∧ ∃ q, w' = w.drewN q := by
  have HR := Lib.hid (And.intro hra (And.intro hea (And.intro hrb (And.intro heb (And.intro hn hm))))); clear hra hea hrb heb hn hm
  by_cases hlen : n = m
  · subst hlen
    go_enter Tryz.func15, Tryz.ntmps15
    go_wp2_with fail
    go_loopw [5] (fun i W => ∃ k : Nat, k ≤ n ∧ i = .int .i64 k ∧ Hid (∀ i (h1 : i < la.length) (h2 : i < lb.length), i < k → la[i].1 = lb[i].1) ∧ ∃ q, W = w.drewN q) (fun i _ => n - (intOf i).toNat)
    case atStart => exact ⟨0, by omega, rfl, Lib.hid (fun i h1 h2 h => by omega), 0, rfl⟩
    case round =>
      obtain ⟨k, hk, rfl, HA, q, hWq⟩ := hrel
      have HWQ := Lib.hid hWq; clear hWq
      by_cases hlt : k < n
      · have hkd : decide ((k : Int) < (n : Int)) = true := by simpa using hlt
        have hka : k < la.length := by rw [← HR.out.2.2.2.2.1]; exact hlt
        have hkb : k < lb.length := by rw [← HR.out.2.2.2.2.2]; exact hlt
        obtain ⟨b, o, hb, hcell⟩ := HR.out.1.addr (by rw [chCells_length]; omega)
        obtain ⟨g0, g1, g2⟩ := chCells_get la k hka
        have q0 := (hcell (k * 3) (by rw [chCells_length]; omega)).trans g0
        have q1 := (hcell (k * 3 + 1) (by rw [chCells_length]; omega)).trans g1
        have q2 := (hcell (k * 3 + 2) (by rw [chCells_length]; omega)).trans g2
        obtain ⟨b', o', hb', hcell'⟩ := HR.out.2.2.1.addr (by rw [chCells_length]; omega)
        obtain ⟨g3, g4, g5⟩ := chCells_get lb k hkb
        have q3 := (hcell' (k * 3) (by rw [chCells_length]; omega)).trans g3
        have q4 := (hcell' (k * 3 + 1) (by rw [chCells_length]; omega)).trans g4
        have q5 := (hcell' (k * 3 + 2) (by rw [chCells_length]; omega)).trans g5
        rw [← Nat.add_assoc] at q1 q2 q4 q5
        have hxa := HR.out.2.1 la[k] (List.getElem_mem hka)
        have hxb := HR.out.2.2.2.1 lb[k] (List.getElem_mem hkb)
        have hne := rows_ne hka hkb
        have hall : la[k].1 = lb[k].1 → ∀ i (h1 : i < la.length) (h2 : i < lb.length), i < k + 1 → la[i].1 = lb[i].1 := fun h i h1 h2 hi => by
          by_cases hik : i = k
          · subst hik; exact h
          · exact HA.out i h1 h2 (by omega)
        obtain ⟨xa, hxae⟩ : ∃ x, la[k] = x := ⟨_, rfl⟩
        obtain ⟨xb, hxbe⟩ : ∃ x, lb[k] = x := ⟨_, rfl⟩
        rw [hxae] at q0 q1 q2 hxa hne hall
        rw [hxbe] at q3 q4 q5 hxb hne hall
        obtain ⟨ca, va1, va2⟩ := xa
        obtain ⟨cb, vb1, vb2⟩ := xb
        obtain ⟨⟨A1, c1, e1, _, r1⟩, ⟨A2, c2, e2, _, r2⟩⟩ := hxa
        obtain ⟨⟨B1, d1, e3, _, r3⟩, ⟨B2, d2, e4, _, r4⟩⟩ := hxb
        simp only at e1 e2 e3 e4 q0 q1 q2 q3 q4 q5 hne hall r1 r2 r3 r4
        subst e1 e2 e3 e4
        obtain ⟨k1, hk1⟩ : ∃ x, ca.key.length = x := ⟨_, rfl⟩
        obtain ⟨k2, hk2⟩ : ∃ x, ca.val.length = x := ⟨_, rfl⟩
        obtain ⟨gn, hgn⟩ : ∃ x, ca.gone = x := ⟨_, rfl⟩
        obtain ⟨j1, hj1⟩ : ∃ x, cb.key.length = x := ⟨_, rfl⟩
        obtain ⟨j2, hj2⟩ : ∃ x, cb.val.length = x := ⟨_, rfl⟩
        obtain ⟨gm, hgm⟩ : ∃ x, cb.gone = x := ⟨_, rfl⟩
        rw [hk1] at q0
        rw [hk2] at q1
        rw [hgn] at q2
        rw [hj1] at q3
        rw [hj2] at q4
        rw [hgm] at q5
        subst hb hb'
        replace q0 := (show wr.cell? ⟨b, o + k * 3, none⟩ = w.cell? ⟨b, o + k * 3, none⟩ by rw [HWQ.out]; rfl).trans q0
        replace q1 := (show wr.cell? ⟨b, o + k * 3 + 1, none⟩ = w.cell? ⟨b, o + k * 3 + 1, none⟩ by rw [HWQ.out]; rfl).trans q1
        replace q2 := (show wr.cell? ⟨b, o + k * 3 + 2, none⟩ = w.cell? ⟨b, o + k * 3 + 2, none⟩ by rw [HWQ.out]; rfl).trans q2
        replace q3 := (show wr.cell? ⟨b', o' + k * 3, none⟩ = w.cell? ⟨b', o' + k * 3, none⟩ by rw [HWQ.out]; rfl).trans q3
        replace q4 := (show wr.cell? ⟨b', o' + k * 3 + 1, none⟩ = w.cell? ⟨b', o' + k * 3 + 1, none⟩ by rw [HWQ.out]; rfl).trans q4
        replace q5 := (show wr.cell? ⟨b', o' + k * 3 + 2, none⟩ = w.cell? ⟨b', o' + k * 3 + 2, none⟩ by rw [HWQ.out]; rfl).trans q5
        have HK := Lib.hid (And.intro hk1 (And.intro hk2 (And.intro hgn (And.intro hj1 (And.intro hj2 (And.intro hgm (And.intro hall (And.intro True.intro (And.intro True.intro (And.intro True.intro True.intro))))))))))
        have HS0 : ∀ m, (Calls Tryz.prog 24 #[.slice A1 k1 c1, .slice B1 j1 d1] (wr.drewN m) fun e w' => e = .returned (.bool (ca.key == cb.key)) ∧ w' = wr.drewN m) ∧ (Calls Tryz.prog 24 #[.slice A2 k2 c2, .slice B2 j2 d2] (wr.drewN m) fun e w' => e = .returned (.bool (ca.val == cb.val)) ∧ w' = wr.drewN m) := fun m =>
          ⟨same_c A1 B1 k1 j1 c1 d1 ca.key cb.key HK.out.1.symm HK.out.2.2.2.1.symm _ (show Rd 0 (wr.drewN m) A1 (bytesV ca.key) from by rw [HWQ.out]; exact r1) (show Rd 0 (wr.drewN m) B1 (bytesV cb.key) from by rw [HWQ.out]; exact r3), same_c A2 B2 k2 j2 c2 d2 ca.val cb.val HK.out.2.1.symm HK.out.2.2.2.2.1.symm _ (show Rd 0 (wr.drewN m) A2 (bytesV ca.val) from by rw [HWQ.out]; exact r2) (show Rd 0 (wr.drewN m) B2 (bytesV cb.val) from by rw [HWQ.out]; exact r4)⟩
        have HS0 := Lib.hid HS0
        clear hk1 hk2 hgn hj1 hj2 hgm hall r1 r2 r3 r4 hcell hcell' g0 g1 g2 g3 g4 g5 hxae hxbe hka hkb
        by_cases ekey : ca.key = cb.key
        · have hqk : (ca.key == cb.key) = true := by simpa using ekey
          by_cases evl : ca.val = cb.val
          · have hqv : (ca.val == cb.val) = true := by simpa using evl
            by_cases eg : gn = gm
            · have HEQ := Lib.hid (HK.out.2.2.2.2.2.2.1 (by
                obtain ⟨x1, x2, x3⟩ := ca
                obtain ⟨y1, y2, y3⟩ := cb
                simp only at ekey evl
                have h1 := HK.out.2.2.1
                have h2 := HK.out.2.2.2.2.2.1
                simp only at h1 h2
                rw [ekey, evl, h1, h2, eg]))
              clear hne ekey evl
              have hqg : (gn != gm) = false := by simpa using eg
              have hqg2 : (gn == gm) = true := by simpa using eg
              clear eg
              have HKS := Lib.hid (same2 wr true true HS0 hqk hqv)
              clear hqk hqv
              go_wp2_with fail
              go_quiet ((go_at_call 24; first | (with_reducible exact Calls.quiet_of_same (HKS.out.1 _)) | (with_reducible exact Calls.quiet_of_same (HKS.out.2 _))))
              go_wp2_with fail
              exact ⟨⟨k + 1, by omega, rfl, Lib.hid HEQ.out, q + nq, by rw [HWQ.out, World.drewN_drewN]⟩, by simp [intOf]; omega⟩
            · have HNE := Lib.hid (hne fun e => eg (by rw [← HK.out.2.2.1, ← HK.out.2.2.2.2.2.1, e]))
              clear hne ekey evl
              have hqg : (gn != gm) = true := by simpa using eg
              have hqg2 : (gn == gm) = false := by simpa using eg
              clear eg
              have HKS := Lib.hid (same2 wr true true HS0 hqk hqv)
              clear hqk hqv
              go_wp2_with fail
              go_quiet ((go_at_call 24; first | (with_reducible exact Calls.quiet_of_same (HKS.out.1 _)) | (with_reducible exact Calls.quiet_of_same (HKS.out.2 _))))
              go_wp2_with fail
              go_ret
              refine ⟨?_, q + nq, by rw [HWQ.out, World.drewN_drewN]⟩
              rw [decide_eq_false HNE.out]
              rfl
          · have HNE := Lib.hid (hne fun e => evl (by rw [e]))
            have hqv : (ca.val == cb.val) = false := by simpa using evl
            clear hne ekey evl
            have HKS := Lib.hid (same2 wr true false HS0 hqk hqv)
            clear hqk hqv
            go_wp2_with fail
            go_quiet ((go_at_call 24; first | (with_reducible exact Calls.quiet_of_same (HKS.out.1 _)) | (with_reducible exact Calls.quiet_of_same (HKS.out.2 _))))
            go_wp2_with fail
            go_ret
            refine ⟨?_, q + nq, by rw [HWQ.out, World.drewN_drewN]⟩
            rw [decide_eq_false HNE.out]
            rfl
        · have HNE := Lib.hid (hne fun e => ekey (by rw [e]))
          have hqk : (ca.key == cb.key) = false := by simpa using ekey
          have hqv : (ca.val == cb.val) = (ca.val == cb.val) := rfl
          clear hne ekey
          have HKS := Lib.hid (same2 wr false (ca.val == cb.val) HS0 hqk hqv)
          clear hqk hqv
          go_wp2_with fail
          go_quiet ((go_at_call 24; first | (with_reducible exact Calls.quiet_of_same (HKS.out.1 _)) | (with_reducible exact Calls.quiet_of_same (HKS.out.2 _))))
          go_wp2_with fail
          go_ret
          refine ⟨?_, q + nq, by rw [HWQ.out, World.drewN_drewN]⟩
          rw [decide_eq_false HNE.out]
          rfl
      · obtain rfl : k = n := by omega
        have hkd : decide ((k : Int) < (k : Int)) = false := by simp
        have HEQ := Lib.hid (rows_eq (by rw [← HR.out.2.2.2.2.1, ← HR.out.2.2.2.2.2]) fun i h1 h2 => HA.out i h1 h2 (by have := HR.out.2.2.2.2.1; omega))
        go_wp2_with fail
        go_ret
        refine ⟨?_, q, HWQ.out⟩
        rw [decide_eq_true HEQ.out]
        rfl
  · have hlb : ((n : Int) != (m : Int)) = true := by simp; omega
    have hlb2 : ((n : Int) == (m : Int)) = false := by simp; omega
    have HNE := Lib.hid (show la.map (·.1) ≠ lb.map (·.1) from fun e => hlen (by
      have := congrArg List.length e
      simp only [List.length_map] at this
      rw [HR.out.2.2.2.2.1, HR.out.2.2.2.2.2, this]))
    go_enter Tryz.func15, Tryz.ntmps15
    go_wp2_with fail
    go_ret
    refine ⟨?_, 0, rfl⟩
    rw [decide_eq_false HNE.out]
    rfl
end Go.Proofs.YtnljhabpcoiihaaGreatDoor
