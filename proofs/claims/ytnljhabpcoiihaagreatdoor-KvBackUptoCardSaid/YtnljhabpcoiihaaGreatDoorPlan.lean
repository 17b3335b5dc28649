/- The law's plan, as the program's. -/
import Derived.Test.YtnljhabpcoiihaaGreatDoorLoadI
import Derived.Test.YtnljhabpcoiihaaGreatDoorRefF
set_option linter.all false
namespace Go.Proofs.YtnljhabpcoiihaaGreatDoor
open Go.RowKit

/-- faults as cells -/
def fltV (l : List (Int × Int)) : List Value := l.flatMap fun p => [.int .i64 p.1, .int .i64 p.2]
theorem fltV_length (l : List (Int × Int)) : (fltV l).length = l.length * 2 := by
  induction l with
  | nil => rfl
  | cons p r ih => simp only [fltV, List.flatMap_cons, List.length_append, List.length_cons] at ih ⊢; rw [ih]; simp; omega
theorem fltV_append (a b : List (Int × Int)) : fltV (a ++ b) = fltV a ++ fltV b := by simp [fltV]
theorem fltV_get : ∀ (l : List (Int × Int)) (k : Nat) (h : k < l.length), (fltV l)[k * 2]? = some (.int .i64 l[k].1) ∧ (fltV l)[k * 2 + 1]? = some (.int .i64 l[k].2)
  | [], k, h => by simp at h
  | p :: r, 0, h => ⟨rfl, rfl⟩
  | p :: r, k + 1, h => by
    have ih := fltV_get r k (by simpa using h)
    have e : fltV (p :: r) = [.int .i64 p.1, .int .i64 p.2] ++ fltV r := by simp [fltV]
    rw [e, List.getElem?_append_right (by simp; omega), List.getElem?_append_right (by simp; omega)]
    simp only [List.length_cons, List.length_nil, List.getElem_cons_succ]
    rw [show (k + 1) * 2 - (0 + 1 + 1) = k * 2 by omega, show (k + 1) * 2 + 1 - (0 + 1 + 1) = k * 2 + 1 by omega]
    exact ih
theorem info_flt : ∃ i0, Tryz.prog.info? 133 = some i0 ∧ i0.zero = some (.agg #[.int .i64 0, .int .i64 0]) ∧ i0.size = 2 ∧ i0.bytes = 16 :=
  info_parts (show (Tryz.prog.info? 133).map (fun i => (i.zero, i.size, i.bytes)) = some (some (.agg #[.int .i64 0, .int .i64 0]), 2, 16) by kernel_rfl)
set_option maxRecDepth 100000 in
set_option maxHeartbeats 800000 in
theorem plan_c (A : Option Addr) (n cap : Nat) (fs : List (Int × Int)) (hn : n = fs.length) (hln : n ≤ 1048576) (w : World) (hr : Rd 0 w A (fltV fs)) :
    Calls Tryz.prog 26 #[.slice A n cap] w fun e w' => ∃ v, e = .returned v ∧ w'.ownsRow w.heap.size 133 2 v n (fltV fs) ∧ Below w.heap.size w w' := by
  have HR := Lib.hid (And.intro hr hn); clear hr hn
  go_enter Tryz.func26, Tryz.ntmps26
  go_wp2_with fail
  go_loopw [3, 4] (fun v i W => ∃ k : Nat, k ≤ n ∧ i = .int .i64 k ∧ W.ownsRow w.heap.size 133 2 v k (fltV (fs.take k)) ∧ Below w.heap.size w W) (fun _ i _ => n - (intOf i).toNat)
  case atStart => exact ⟨0, by omega, rfl, World.ownsRow_nil _ _ _ _, Below.refl _ _⟩
  case round =>
    obtain ⟨k, hk, rfl, hown, hB⟩ := hrel
    by_cases hlt : k < n
    · have hkl : k < fs.length := by rw [← HR.out.2]; exact hlt
      obtain ⟨b, o, hA, hcell⟩ := (HR.out.1.below hB).addr (by rw [fltV_length]; omega)
      obtain ⟨g0, g1⟩ := fltV_get fs k hkl
      have q0 := (hcell (k * 2) (by rw [fltV_length]; omega)).trans g0
      have q1 := (hcell (k * 2 + 1) (by rw [fltV_length]; omega)).trans g1
      rw [← Nat.add_assoc] at q1
      subst hA
      obtain ⟨fa, hfa⟩ : ∃ a, fs[k].1 = a := ⟨_, rfl⟩
      obtain ⟨fb, hfb⟩ : ∃ a, fs[k].2 = a := ⟨_, rfl⟩
      rw [hfa] at q0
      rw [hfb] at q1
      obtain ⟨iI, hiI, hz0, hz1, hz2⟩ := info_flt
      obtain ⟨v', W2, happ, hown', hgrow', hblk'⟩ := run_append_rd (P := Tryz.prog) ((wr.alloc (.cells #[.int .i64 fa, .int .i64 fb] 133)).drew) w.heap.size 66 66 133 iI _ 2 16 Tryz.underlying66 hiI hz0 hz1 hz2 rfl (by decide) _ k (fltV (fs.take k))
        (own_below hown (bdrew (bnew wr _))) 0 (some ⟨wr.heap.size, 0, none⟩) 1 1 [.int .i64 fa, .int .i64 fb] rfl (rd_new2 wr _ _ _) (by simp [Value.oneCell']) (by unfold maxLen; omega) (by omega) (Nat.le_trans hB.size (by simp)) (fun h => by cases h)
      have hb2 := own_bel (own_below hown (bdrew (bnew wr (.cells #[.int .i64 fa, .int .i64 fb] 133)))) hgrow' (Nat.le_refl _) (Nat.le_trans hB.size (by simp))
      have hB2 : Below w.heap.size w W2 := (hB.trans ((bdrew (bnew wr _)).mono hB.size)).trans hb2
      have htk : fltV (fs.take (k + 1)) = fltV (fs.take k) ++ [.int .i64 fa, .int .i64 fb] := by
        rw [List.take_succ_eq_append_getElem hkl, fltV_append, ← hfa, ← hfb]; simp [fltV]
      obtain ⟨A1, c1, rfl, -, -, -⟩ := own_slice hown'
      have a0 : W2.cell? ⟨b, o + k * 2, none⟩ = some (.int .i64 fa) := by
        have hc := hcell (k * 2) (by rw [fltV_length]; omega)
        have hlt0 : b < w.heap.size := by
          rcases HR.out.1 with h | ⟨b', o', _, h1, h2⟩
          · have := congrArg List.length h; rw [fltV_length] at this; simp at this; omega
          · injection h1 with h1; injection h1 with h1 h3; subst h1
            exact cell_lt ((h2 0 (by rw [fltV_length]; omega)).trans (List.getElem?_eq_getElem (by rw [fltV_length]; omega)))
        have e1 := hB.cell (p := ⟨b, o + k * 2, none⟩) hlt0
        exact (hB2.cell (p := ⟨b, o + k * 2, none⟩) hlt0).trans (e1.symm.trans q0)
      have a1 : W2.cell? ⟨b, o + k * 2 + 1, none⟩ = some (.int .i64 fb) := by
        have hlt0 : b < w.heap.size := by
          rcases HR.out.1 with h | ⟨b', o', _, h1, h2⟩
          · have := congrArg List.length h; rw [fltV_length] at this; simp at this; omega
          · injection h1 with h1; injection h1 with h1 h3; subst h1
            exact cell_lt ((h2 0 (by rw [fltV_length]; omega)).trans (List.getElem?_eq_getElem (by rw [fltV_length]; omega)))
        have e1 := hB.cell (p := ⟨b, o + k * 2 + 1, none⟩) hlt0
        exact (hB2.cell (p := ⟨b, o + k * 2 + 1, none⟩) hlt0).trans (e1.symm.trans q1)
      have HAPP := Lib.hid happ
      have HO := Lib.hid (And.intro hown' (And.intro hB2 htk)); clear happ hown' hgrow' hblk' hb2 hB2 htk hcell g0 g1 hB hiI hz0 hz1 hz2 hown hfa hfb hkl
      go_wp2_with fail
      refine wp_region_held_drew (S := (fun w' => w'.cell? ⟨b, o + k * 2, none⟩ = some (.int .i64 fa) ∧ w'.cell? ⟨b, o + k * 2 + 1, none⟩ = some (.int .i64 fb))) (by kernel_rfl) ?_ (fun hHeld => ?_)
      · (try dsimp only); (first | (refine ⟨?_, ?_⟩ <;> assumption) | go_keep)
      refine wpAnyH_take (i := 0) (v := ?_) rfl (by kernel_rfl) (by kernel_rfl) (by kernel_rfl) (fun _ _ _ h => h) (Or.inl ⟨by rfl, ?_⟩) hHeld ?_
      rotate_left
      · intro w hSw; (try dsimp only at hSw); go_simp; (try with_reducible rfl)
      (try simp only [Act.put, List.getElem_toArray, List.getElem_cons_succ, List.getElem_cons_zero, List.setIfInBounds_toArray, List.set_cons_zero, List.set_cons_succ])
      refine wpAnyH_take (i := 1) (v := ?_) rfl (by kernel_rfl) (by kernel_rfl) (by kernel_rfl) (fun _ _ _ h => h) (Or.inl ⟨by rfl, ?_⟩) hHeld ?_
      rotate_left
      · intro w hSw; (try dsimp only at hSw); go_simp; (try with_reducible rfl)
      (try simp only [Act.put, List.getElem_toArray, List.getElem_cons_succ, List.getElem_cons_zero, List.setIfInBounds_toArray, List.set_cons_zero, List.set_cons_succ])
      refine wpAnyH_take (i := 2) (v := ?_) rfl (by kernel_rfl) (by kernel_rfl) (by kernel_rfl) (fun _ _ _ h => h) (Or.inl ⟨by rfl, ?_⟩) hHeld ?_
      rotate_left
      · intro w hSw; (try dsimp only at hSw); go_simp; (try with_reducible rfl)
      (try simp only [Act.put, List.getElem_toArray, List.getElem_cons_succ, List.getElem_cons_zero, List.setIfInBounds_toArray, List.set_cons_zero, List.set_cons_succ])
      refine wpAnyH_take (i := 3) (v := ?_) rfl (by kernel_rfl) (by kernel_rfl) (by kernel_rfl) (fun _ _ _ h => h) (Or.inl ⟨by rfl, ?_⟩) hHeld ?_
      rotate_left
      · intro w hSw; (try dsimp only at hSw); go_simp; (try with_reducible rfl)
      (try simp only [Act.put, List.getElem_toArray, List.getElem_cons_succ, List.getElem_cons_zero, List.setIfInBounds_toArray, List.set_cons_zero, List.set_cons_succ])
      refine wpAnyH_take (i := 4) (v := ?_) rfl (by kernel_rfl) (by kernel_rfl) (by kernel_rfl) (fun _ _ _ h => h) (Or.inl ⟨by rfl, ?_⟩) hHeld ?_
      rotate_left
      · intro w hSw; (try dsimp only at hSw); go_simp; (try with_reducible rfl)
      (try simp only [Act.put, List.getElem_toArray, List.getElem_cons_succ, List.getElem_cons_zero, List.setIfInBounds_toArray, List.set_cons_zero, List.set_cons_succ])
      refine wpAnyH_take (i := 5) (v := ?_) rfl (by kernel_rfl) (by kernel_rfl) (by kernel_rfl) (fun _ _ _ h => h) (Or.inl ⟨by rfl, ?_⟩) hHeld ?_
      rotate_left
      · intro w hSw; (try dsimp only at hSw); go_simp; (try with_reducible rfl)
      (try simp only [Act.put, List.getElem_toArray, List.getElem_cons_succ, List.getElem_cons_zero, List.setIfInBounds_toArray, List.set_cons_zero, List.set_cons_succ])
      refine wpAnyH_take (i := 6) (v := ?_) rfl (by kernel_rfl) (by kernel_rfl) (by kernel_rfl) (fun _ _ _ h => h) (Or.inl ⟨by rfl, ?_⟩) hHeld ?_
      rotate_left
      · intro w hSw; (try dsimp only at hSw); go_simp; (try with_reducible rfl)
      (try simp only [Act.put, List.getElem_toArray, List.getElem_cons_succ, List.getElem_cons_zero, List.setIfInBounds_toArray, List.set_cons_zero, List.set_cons_succ])
      refine wpAnyH_take (i := 7) (v := ?_) rfl (by kernel_rfl) (by kernel_rfl) (by kernel_rfl) (fun _ _ _ h => h) (Or.inl ⟨by rfl, ?_⟩) hHeld ?_
      rotate_left
      · intro w hSw; (try dsimp only at hSw); go_simp; (try with_reducible rfl)
      (try simp only [Act.put, List.getElem_toArray, List.getElem_cons_succ, List.getElem_cons_zero, List.setIfInBounds_toArray, List.set_cons_zero, List.set_cons_succ])
      refine wpAnyH_take (i := 8) (v := ?_) rfl (by kernel_rfl) (by kernel_rfl) (by kernel_rfl) (fun _ _ _ h => h) (Or.inl ⟨by rfl, ?_⟩) hHeld ?_
      rotate_left
      · intro w hSw; (try dsimp only at hSw); go_simp; (try with_reducible rfl)
      (try simp only [Act.put, List.getElem_toArray, List.getElem_cons_succ, List.getElem_cons_zero, List.setIfInBounds_toArray, List.set_cons_zero, List.set_cons_succ])
      refine wpAnyH_take (i := 9) (v := ?_) rfl (by kernel_rfl) (by kernel_rfl) (by kernel_rfl) (fun _ _ _ h => h) (Or.inl ⟨by rfl, ?_⟩) hHeld ?_
      rotate_left
      · intro w hSw; (try dsimp only at hSw); go_simp; (try with_reducible rfl)
      (try simp only [Act.put, List.getElem_toArray, List.getElem_cons_succ, List.getElem_cons_zero, List.setIfInBounds_toArray, List.set_cons_zero, List.set_cons_succ])
      refine wpAnyH_take (i := 10) (v := ?_) rfl (by kernel_rfl) (by kernel_rfl) (by kernel_rfl) (fun _ _ _ h => h) (Or.inl ⟨by rfl, ?_⟩) hHeld ?_
      rotate_left
      · intro w hSw; (try dsimp only at hSw); go_simp; (try with_reducible rfl)
      (try simp only [Act.put, List.getElem_toArray, List.getElem_cons_succ, List.getElem_cons_zero, List.setIfInBounds_toArray, List.set_cons_zero, List.set_cons_succ])
      refine wpAnyH_take (i := 11) (v := ?_) rfl (by kernel_rfl) (by kernel_rfl) (by kernel_rfl) (fun _ _ _ h => h) (Or.inl ⟨by rfl, ?_⟩) hHeld ?_
      rotate_left
      · intro w hSw; (try dsimp only at hSw); go_simp; (try with_reducible rfl)
      (try simp only [Act.put, List.getElem_toArray, List.getElem_cons_succ, List.getElem_cons_zero, List.setIfInBounds_toArray, List.set_cons_zero, List.set_cons_succ])
      refine wpAnyH_ready (rs := [12]) (by kernel_rfl) (by simp) ?_
      refine (AllReadyH.cons rfl (fun K hK => ?_) AllReadyH.nil)
      go_simp
      refine hK.out _ _ ?_ (fun hHeld2 => ?_)
      · (try dsimp only); (first | (refine ⟨?_, ?_⟩ <;> assumption) | go_keep)
      clear hK K hHeld
      rename _ => hHeld
      (try simp only [Act.put, List.getElem_toArray, List.getElem_cons_succ, List.getElem_cons_zero, List.setIfInBounds_toArray, List.set_cons_zero, List.set_cons_succ])
      refine wpAnyH_ready (rs := [13]) (by kernel_rfl) (by simp) ?_
      refine (AllReadyH.cons rfl (fun K hK => ?_) AllReadyH.nil)
      (try rw [if_pos (by rfl)])
      refine wp_append_run _ _ _ rfl _ _ rfl rfl HAPP.out ?_
      refine hK.out _ _ ?_ (fun hHeld2 => ?_)
      · (try dsimp only); (first | (refine ⟨?_, ?_⟩ <;> assumption) | go_keep)
      clear hK K hHeld
      rename _ => hHeld
      (try simp only [Act.put, List.getElem_toArray, List.getElem_cons_succ, List.getElem_cons_zero, List.setIfInBounds_toArray, List.set_cons_zero, List.set_cons_succ])
      refine wpAnyH_take (i := 14) (v := ?_) rfl (by kernel_rfl) (by kernel_rfl) (by kernel_rfl) (fun _ _ _ h => h) (Or.inl ⟨by rfl, ?_⟩) hHeld ?_
      rotate_left
      · intro w hSw; (try dsimp only at hSw); go_simp; (try with_reducible rfl)
      (try simp only [Act.put, List.getElem_toArray, List.getElem_cons_succ, List.getElem_cons_zero, List.setIfInBounds_toArray, List.set_cons_zero, List.set_cons_succ])
      refine wpAnyH_done (by kernel_rfl) ?_ _
      clear hHeld
      rotate_left 1
      go_wp2_with fail
      exact ⟨⟨k + 1, by omega, rfl, by rw [HO.out.2.2]; exact HO.out.1, HO.out.2.1⟩, by simp [intOf]; omega⟩
    · obtain rfl : k = n := by omega
      have HO := Lib.hid (And.intro hown hB); clear hown hB
      go_wp2
      go_ret
      have h := HO.out.1
      rw [HR.out.2, List.take_length] at h
      rw [HR.out.2]
      exact ⟨_, rfl, h, HO.out.2⟩
end Go.Proofs.YtnljhabpcoiihaaGreatDoor
