/- What a nil store says. The law KvBack: its loop. -/
import Derived.Test.YtnljhabpcoiihaaGreatDoorBase
import Derived.Test.YtnljhabpcoiihaaGreatDoorProg
import Derived.Test.YtnljhabpcoiihaaGreatDoorKvS
import Derived.Test.YtnljhabpcoiihaaGreatDoorKvB
import Derived.Test.YtnljhabpcoiihaaGreatDoorKvU
set_option linter.all false
namespace Go.Proofs.YtnljhabpcoiihaaGreatDoor
open Go.RowKit

set_option maxRecDepth 100000 in
set_option maxHeartbeats 400000 in
theorem get_nil (A : Option Addr) (n c : Nat) (w : World) :
    Calls Tryz.prog 17 #[.pointer none, .slice A n c] w fun e w' => e = .returned (.tuple #[.slice none 0 0, .bool false]) ∧ w' = w := by
  go_enter Tryz.func17, Tryz.ntmps17
  go_wp2
  go_ret2
  exact ⟨rfl, rfl⟩
set_option maxRecDepth 100000 in
set_option maxHeartbeats 400000 in
theorem put_nil (A : Option Addr) (n c : Nat) (w : World) :
    Calls Tryz.prog 18 #[.pointer none, .slice A n c] w fun e w' => e = .returned (.int .i64 2) ∧ w' = w := by
  go_enter Tryz.func18, Tryz.ntmps18
  go_wp2
  go_ret
  exact ⟨rfl, rfl⟩
set_option maxRecDepth 100000 in
set_option maxHeartbeats 400000 in
theorem snap_nil (w : World) :
    Calls Tryz.prog 19 #[.pointer none] w fun e w' => e = .returned (.int .i64 2) ∧ w' = w := by
  go_enter Tryz.func19, Tryz.ntmps19
  go_wp2
  go_ret
  exact ⟨rfl, rfl⟩
set_option maxRecDepth 100000 in
set_option maxHeartbeats 400000 in
theorem len_nil (w : World) :
    Calls Tryz.prog 20 #[.pointer none] w fun e w' => e = .returned (.int .i64 0) ∧ w' = w := by
  go_enter Tryz.func20, Tryz.ntmps20
  go_wp2
  go_ret
  exact ⟨rfl, rfl⟩
set_option maxRecDepth 100000 in
set_option maxHeartbeats 400000 in
theorem range_nil (A B : Option Addr) (n c m d : Nat) (w : World) :
    Calls Tryz.prog 16 #[.pointer none, .slice A n c, .slice B m d] w fun e w' => e = .returned (.slice none 0 0) ∧ w' = w := by
  go_enter Tryz.func16, Tryz.ntmps16
  go_wp2
  go_ret
  exact ⟨rfl, rfl⟩
end Go.Proofs.YtnljhabpcoiihaaGreatDoor
set_option linter.all false
namespace Go.Proofs.YtnljhabpcoiihaaGreatDoor
open Go.RowKit

def cleanE (x : ChE) : ChE := if x.1.gone = true then ({ x.1 with val := [] }, x.2.1, .slice none 0 0) else x
theorem cleanE_fst (x : ChE) : (cleanE x).1 = x.1.clean := by
  unfold cleanE ChM.clean
  split <;> rfl
/-- the row behind k rounds -/
def rowAt (l : List ChE) (k : Nat) : List ChE := (l.take k).map cleanE ++ l.drop k
theorem rowAt_length (l : List ChE) (k : Nat) : (rowAt l k).length = l.length := by
  unfold rowAt; simp; omega
theorem rowAt_zero (l : List ChE) : rowAt l 0 = l := by simp [rowAt]
theorem rowAt_get {l : List ChE} {k : Nat} (h : k < l.length) : (rowAt l k)[k]'(by rw [rowAt_length]; exact h) = l[k] := by
  unfold rowAt
  have h1 : ((l.take k).map cleanE).length = k := by simp; omega
  rw [List.getElem_append_right (by omega), List.getElem_drop]
  congr 1
  omega
theorem rowAt_succ {l : List ChE} {k : Nat} (h : k < l.length) : rowAt l (k + 1) = (rowAt l k).take k ++ cleanE l[k] :: (rowAt l k).drop (k + 1) := by
  unfold rowAt
  have h1 : ((l.take k).map cleanE).length = k := by simp; omega
  have h2 : ((l.take k).map cleanE ++ l.drop k).take k = (l.take k).map cleanE := by
    rw [List.take_append_of_le_length (by omega), List.take_of_length_le (by omega)]
  have h3 : ((l.take k).map cleanE ++ l.drop k).drop (k + 1) = l.drop (k + 1) := by
    rw [List.drop_append, h1, List.drop_of_length_le (by omega), List.nil_append, List.drop_drop]
    congr 1
    omega
  rw [h2, h3, List.take_succ_eq_append_getElem h, List.map_append]
  simp
theorem rowAt_same {l : List ChE} {k : Nat} (h : k < l.length) (hg : l[k].1.gone = false) : rowAt l (k + 1) = rowAt l k := by
  rw [rowAt_succ h]
  have h0 : k < (rowAt l k).length := by rw [rowAt_length]; exact h
  have e : cleanE l[k] = (rowAt l k)[k] := by
    rw [rowAt_get h]; unfold cleanE; rw [if_neg (by rw [hg]; simp)]
  rw [e, List.getElem_cons_drop, List.take_append_drop]
theorem rowAt_all (l : List ChE) : rowAt l l.length = l.map cleanE := by simp [rowAt]
theorem map_clean (l : List ChE) : (l.map cleanE).map (·.1) = (l.map (·.1)).map ChM.clean := by
  rw [List.map_map, List.map_map]
  apply List.map_congr_left
  intro x _
  exact cleanE_fst x
theorem clean_clean (c : ChM) : c.clean.clean = c.clean := by
  unfold ChM.clean
  split <;> simp_all
theorem ChEach.clean {w : World} {l : List ChE} (h : ChEach w l) : ChEach w (l.map cleanE) := by
  intro x hx
  obtain ⟨y, hy, rfl⟩ := List.mem_map.1 hx
  obtain ⟨h1, h2⟩ := h y hy
  unfold cleanE
  split
  · exact ⟨h1, BytesR.nil _ _⟩
  · exact ⟨h1, h2⟩
theorem ChEach.at_ {w : World} {l : List ChE} (h : ChEach w l) (k : Nat) : ChEach w (rowAt l k) := by
  intro x hx
  unfold rowAt at hx
  rcases List.mem_append.1 hx with hx | hx
  · have := h.clean
    refine this x ?_
    obtain ⟨y, hy, rfl⟩ := List.mem_map.1 hx
    exact List.mem_map_of_mem (List.mem_of_mem_take hy)
  · exact h x (List.mem_of_mem_drop hx)
theorem chCells_one {w : World} {l : List ChE} (h : ChEach w l) : ∀ u ∈ chCells l, u.oneCell' = true := by
  intro u hu
  unfold chCells at hu
  obtain ⟨x, hx, hu⟩ := List.mem_flatMap.1 hu
  obtain ⟨⟨A, c, h1, _⟩, ⟨B, d, h2, _⟩⟩ := h x hx
  simp only [chV, List.mem_cons, List.not_mem_nil, or_false] at hu
  rcases hu with rfl | rfl | rfl
  · rw [h1]; rfl
  · rw [h2]; rfl
  · rfl
theorem info_rch : ∃ i0, Tryz.prog.info? 53 = some i0 ∧ i0.zero = some (.agg #[.slice none 0 0, .slice none 0 0, .bool false]) ∧ i0.size = 3 ∧ i0.bytes = 56 :=
  info_parts (show (Tryz.prog.info? 53).map (fun i => (i.zero, i.size, i.bytes)) = some (some (.agg #[.slice none 0 0, .slice none 0 0, .bool false]), 3, 56) by kernel_rfl)
/-- changes are appended to a row of one's own -/
theorem wp_appC {o : Oper} {a : Act} {w : World} {K : Act → World → Prop} {Q : Exit → Act → World → Prop} (s x : Operand) 
    (ho : o.op = .call { callee := .builtin .append, args := #[s, x], argTypes := #[43, 43] }) (base : Nat) (v : Value) (n : Nat) (xs : List Value) (hs : a.eval s = v)
    (hown : w.ownsRow base 53 3 v n xs) (hb : base ≤ w.heap.size) (A : Option Addr) (m c : Nat) (ys : List Value) (hx : a.eval x = .slice A m c) (hm : ys.length = m * 3) (hr : Rd 0 w A ys) (h1 : ∀ u ∈ ys, u.oneCell' = true) (hsz : n + m ≤ 8388608)
    (h : ∀ (g : Option Addr) (cp : Nat) (w' : World), w'.ownsRow base 53 3 (.slice g (n + m) cp) (n + m) (xs ++ ys) → w.grownBy w' v.ownBlock → ((Value.slice g (n + m) cp).ownBlock = v.ownBlock ∨ (Value.slice g (n + m) cp).ownBlock = some w.heap.size) → K (a.put o.dst (.slice g (n + m) cp)) w') : o.wp Tryz.prog a w K Q := by
  obtain ⟨i0, hi0, hz0, hz1, hz2⟩ := info_rch
  refine wp_append_rd w s x 43 ho base 53 i0 _ 3 56 Tryz.underlying43 hi0 hz0 hz1 hz2 rfl (by decide) v n xs hs hown 0 A m c ys hx hm hr h1 (by unfold maxLen; omega) (by omega) hb (fun h => ?_) ?_
  · have := hr.none_len h; rw [this] at hm; simp at hm; omega
  · intro v' w' hown' hg hbk
    obtain ⟨g, cp, rfl, -, -, -⟩ := own_slice hown'
    exact h g cp w' hown' hg hbk
theorem own_three (w : World) (T : TypeId) (a b c : Value) : (w.alloc (.cells #[a, b, c] T)).ownsRow w.heap.size T 3 (.slice (some ⟨w.heap.size, 0, none⟩) 1 1) 1 [a, b, c] :=
  ⟨rfl, .inr ⟨w.heap.size, 1, #[a, b, c], rfl, Nat.le_refl _, heap_alloc_new _ _, Nat.le_refl _, by simp [maxLen], rfl, rfl⟩⟩
theorem own_zero (w : World) (T : TypeId) : (w.alloc (.cells #[] T)).ownsRow w.heap.size T 3 (.slice (some ⟨w.heap.size, 0, none⟩) 0 0) 0 [] :=
  ⟨rfl, .inr ⟨w.heap.size, 0, #[], rfl, Nat.le_refl _, heap_alloc_new _ _, Nat.le_refl _, by simp [maxLen], rfl, rfl⟩⟩


def Dis (v u : Value) : Prop := ∀ x, v.ownBlock = some x → u.ownBlock ≠ some x
theorem Dis.symm {v u : Value} (h : Dis v u) : Dis u v := fun x h1 h2 => h x h2 h1
theorem Dis.grow {W : World} {base n : Nat} {e : TypeId} {size : Nat} {v v' u : Value} {xs : List Value} (h : Dis v u) (hu : W.ownsRow base e size u n xs) (hv : v'.ownBlock = v.ownBlock ∨ v'.ownBlock = some W.heap.size) : Dis v' u := by
  intro x h1 h2
  rcases hv with hv | hv
  · exact h x (hv ▸ h1) h2
  · rw [hv] at h1; cases h1
    obtain ⟨_, _, _, _, _, h3⟩ := own_slice hu
    rcases h3 with h3 | ⟨g, h3, _, h4⟩
    · rw [h3] at h2; cases h2
    · rw [h3] at h2; cases h2; omega
theorem Dis.new {W : World} {base n m c : Nat} {e : TypeId} {size : Nat} {v : Value} {xs : List Value} (h : W.ownsRow base e size v n xs) : Dis v (.slice (some ⟨W.heap.size, 0, none⟩) m c) := by
  intro x h1 h2
  simp only [Value.ownBlock, Option.some.injEq] at h2
  subst h2
  obtain ⟨_, _, _, _, _, h3⟩ := own_slice h
  rcases h3 with h3 | ⟨g, h3, _, h4⟩
  · rw [h3] at h1; cases h1
  · rw [h3] at h1; cases h1; omega
theorem own_else {W W' : World} {base n : Nat} {e : TypeId} {size : Nat} {v u : Value} {xs : List Value} (h : W.ownsRow base e size u n xs) (hg : W.grownBy W' v.ownBlock) (hd : Dis v u) : W'.ownsRow base e size u n xs :=
  own_keep h fun b o hb hv _ => (hg.block b (heap_lt hb) (fun he => hd b he.symm hv)).trans hb
theorem cap_ge {W : World} {base n m c : Nat} {A : Option Addr} {e : TypeId} {size : Nat} {xs : List Value} (h : W.ownsRow base e size (.slice A m c) n xs) : n ≤ c := by
  obtain ⟨_, _, h1, h2, _⟩ := own_slice h
  injection h1 with _ _ h3
  omega
theorem one_app {ys : List Value} {k1 c1 : Nat} {A1 : Option Addr} (h : ∀ u ∈ ys, u.oneCell' = true) : ∀ u ∈ ([.slice A1 k1 c1, .slice none 0 0, .bool true] : List Value) ++ ys, u.oneCell' = true := by
  intro u hu
  rcases List.mem_append.1 hu with hu | hu
  · simp only [List.mem_cons, List.not_mem_nil, or_false] at hu
    rcases hu with rfl | rfl | rfl <;> rfl
  · exact h u hu
theorem chCells_split {r : List ChE} {k : Nat} (hk : k < r.length) {x : ChE} : chCells (r.take k ++ x :: r.drop (k + 1)) = [] ++ (chCells r).take (k * 3) ++ (chV x ++ (chCells r).drop ((k + 1) * 3)) := by
  have h1 : chCells (r.take k) = (chCells r).take (k * 3) := by
    have e : chCells r = chCells (r.take k) ++ chCells (r.drop k) := by rw [← chCells_append, List.take_append_drop]
    rw [e]
    exact (take_app (by rw [chCells_length, List.length_take]; omega)).symm
  have h2 : chCells (r.drop (k + 1)) = (chCells r).drop ((k + 1) * 3) := by
    have e : chCells r = chCells (r.take (k + 1)) ++ chCells (r.drop (k + 1)) := by rw [← chCells_append, List.take_append_drop]
    conv => rhs; rw [e]
    exact (drop_app (by rw [chCells_length, List.length_take]; omega)).symm
  rw [chCells_append, show chCells (x :: r.drop (k + 1)) = chV x ++ chCells (r.drop (k + 1)) from rfl, h1, h2]
  simp
theorem batch_len (l : List ChM) : (batchM l).1.length ≤ 65535 := by
  unfold batchM
  split
  · simp
  · split
    · simp
    · simp only; rw [encL_length]; omega

set_option maxRecDepth 100000 in
set_option maxHeartbeats 8000000 in
theorem back_c (A B : Option Addr) (n cap nb capb : Nat) (l : List ChE) (bs : List UInt8) (hn : n = l.length) (hm : n ≤ 1048576) (hs : ∀ x ∈ l, x.1.key.length ≤ 1048576 ∧ x.1.val.length ≤ 1048576) (hcap : n ≤ cap) (hnb : nb = bs.length) (hmb : nb ≤ 1048576) (w : World)
    (hr : Rd 0 w A (chCells l)) (he : ChEach w l) (hb : Bn w.heap.size w (.slice B nb capb) bs) (hal : ∀ W, Below w.heap.size w W → Calls Tryz.prog 9 #[] W fun e W' => e = .returned (.bool true) ∧ Below W.heap.size W W') :
    Calls Tryz.prog 4 #[.slice A n cap, .slice B nb capb] w fun e w' => e = .returned (.bool true) ∧ Below w.heap.size w w' := by
  have HR := Lib.hid (And.intro hr (And.intro he (And.intro hn (And.intro hs (And.intro hb (And.intro hnb hal)))))); clear hr he hn hs hb hnb hal
  go_enter Tryz.func4, Tryz.ntmps4
  go_wp2_with (first
    | (go_at_call 17; refine (get_nil B nb capb w).mono ?_; rintro e w1 ⟨rfl, hw1⟩; have hw2 := hw1.symm; subst hw2)
    | (go_at_call 18; refine (put_nil none 0 0 _).mono ?_; rintro e w1 ⟨rfl, hw1⟩; have hw2 := hw1.symm; subst hw2)
    | (go_at_call 19; refine (snap_nil _).mono ?_; rintro e w1 ⟨rfl, hw1⟩; have hw2 := hw1.symm; subst hw2)
    | (go_at_call 20; refine (len_nil _).mono ?_; rintro e w1 ⟨rfl, hw1⟩; have hw2 := hw1.symm; subst hw2)
    | (go_at_call 16; refine (range_nil none none 0 0 0 0 _).mono ?_; rintro e w1 ⟨rfl, hw1⟩; have hw2 := hw1.symm; subst hw2))
  go_loopw [0, 8] (fun v i W => ∃ (k : Nat) (A' : Option Addr) (cap' : Nat), k ≤ n ∧ n ≤ cap' ∧ v = .slice A' n cap' ∧ i = .int .i64 (k : Int) ∧ Rd 0 W A' (chCells (rowAt l k)) ∧ Below w.heap.size w W) (fun _ i _ => n - (intOf i).toNat)
  case atStart => exact ⟨0, A, cap, by omega, hcap, rfl, rfl, by rw [rowAt_zero]; exact HR.out.1, Below.refl _ _⟩
  case round =>
    obtain ⟨k, A', cap', hk, hcap', rfl, rfl, hrk, hB⟩ := hrel
    by_cases hlt : k < n
    · have hkd : decide ((k : Int) < (n : Int)) = true := by simpa using hlt
      have hkl : k < l.length := by rw [← HR.out.2.2.1]; exact hlt
      have hkr : k < (rowAt l k).length := by rw [rowAt_length]; exact hkl
      obtain ⟨b, o, hb, hcell⟩ := hrk.addr (by rw [chCells_length]; omega)
      obtain ⟨g0, g1, g2⟩ := chCells_get (rowAt l k) k hkr
      have q0 := (hcell (k * 3) (by rw [chCells_length]; omega)).trans g0
      have q2 := (hcell (k * 3 + 2) (by rw [chCells_length]; omega)).trans g2
      rw [← Nat.add_assoc] at q2
      rw [rowAt_get hkl] at q0 q2
      obtain ⟨A1, c1, A2, c2, e1, e2⟩ := HR.out.2.1.slice hkl
      have hs1 := rowAt_succ hkl
      have hs2 := rowAt_same hkl
      obtain ⟨x, hx⟩ : ∃ x, l[k] = x := ⟨_, rfl⟩
      rw [hx] at q0 q2 e1 e2 hs1 hs2
      obtain ⟨cm, v1, v2⟩ := x
      simp only at q0 q2 e1 e2 hs2
      obtain ⟨k1, hk1⟩ : ∃ x, cm.key.length = x := ⟨_, rfl⟩
      obtain ⟨gn, hgn⟩ : ∃ x, cm.gone = x := ⟨_, rfl⟩
      rw [hk1] at e1
      rw [hgn] at q2 hs2
      subst e1 e2 hb
      cases gn with
      | false =>
        have HK := Lib.hid (And.intro hrk (And.intro hB (hs2 rfl))); clear hrk hB hs1 hs2 hcell g0 g1 g2 hx hgn
        go_wp2_with fail
        have h9 : Rd 0 wr (some ⟨b, o, none⟩) (chCells (rowAt l (k + 1))) := by
          rw [HK.out.2.2]
          exact HK.out.1
        exact ⟨⟨k + 1, some ⟨b, o, none⟩, cap', by omega, hcap', rfl, by simp, h9, HK.out.2.1⟩, by simp [intOf]; omega⟩
      | true =>
        have hce : cleanE (cm, .slice A1 k1 c1, .slice A2 cm.val.length c2) = ({ cm with val := [] }, .slice A1 k1 c1, .slice none 0 0) := by
          unfold cleanE; rw [if_pos hgn]
        rw [hce] at hs1
        have hone := chCells_one (HR.out.2.1.at_ k)
        have hrt := hrk.take (k * 3)
        have hrd := hrk.from 3 cap' (k + 1) (by rw [chCells_length, rowAt_length, ← HR.out.2.2.1]; omega)
        have HK := Lib.hid (And.intro hrk (And.intro hB (And.intro hs1 (And.intro hone (And.intro hrt hrd))))); have HGN := Lib.hid hgn; clear hrk hB hs1 hs2 hcell g0 g1 g2 hx hgn hce hone hrt hrd
        have hwk : IntKind.i64.wrap ((k : Int) + 1) = (k : Int) + 1 := IntWalk.i64_in _ (by omega)
        obtain ⟨i0, hi0, hz0, hz1, hz2⟩ := info_rch
        have s1 := fun w => run_slice_to (P := Tryz.prog) w 43 53 i0 3 Tryz.underlying43 hi0 hz1 (some ⟨b, o, none⟩) n cap' .i64 (k : Int) k rfl (by omega)
        have s2 := fun w => run_slice_from (P := Tryz.prog) w 43 53 i0 3 Tryz.underlying43 hi0 hz1 (some ⟨b, o, none⟩) n cap' .i64 ((k : Int) + 1) (k + 1) (by simp) (by omega)
        have HL := Lib.hid (And.intro (show ((chCells (rowAt l k)).take (k * 3)).length = k * 3 by rw [List.length_take, chCells_length, rowAt_length, ← HR.out.2.2.1]; omega) (And.intro (show ((chCells (rowAt l k)).drop ((k + 1) * 3)).length = (n - (k + 1)) * 3 by rw [List.length_drop, chCells_length, rowAt_length, ← HR.out.2.2.1]; omega) (And.intro (show ∀ u ∈ (chCells (rowAt l k)).take (k * 3), u.oneCell' = true from fun u hu => HK.out.2.2.2.1 u (List.mem_of_mem_take hu)) (show ∀ u ∈ (chCells (rowAt l k)).drop ((k + 1) * 3), u.oneCell' = true from fun u hu => HK.out.2.2.2.1 u (List.mem_of_mem_drop hu)))))
        have HK0 := Lib.hid hkr; clear hkr
        go_wp2_with fail
        refine wp_region_held_drew (S := (fun W => W.cell? ⟨b, o + k * 3, none⟩ = some (.slice A1 k1 c1))) (by kernel_rfl) ?_ (fun hHeld => ?_)
        · (first | assumption | go_keep)
        have hBq0 : Below wr.heap.size wr wr.drew := (Below.refl _ _).drew
        refine wpAnyH_take (i := 1) (v := ?_) rfl (by kernel_rfl) (by kernel_rfl) (by kernel_rfl) (fun _ _ _ h => h) (Or.inl ⟨by rfl, ?_⟩) hHeld ?_
        rotate_left
        · intro w hSw; (try dsimp only at hSw); go_simp; (try with_reducible rfl)
        (try simp only [Act.put, List.getElem_toArray, List.getElem_cons_succ, List.getElem_cons_zero, List.setIfInBounds_toArray, List.set_cons_zero, List.set_cons_succ])
        refine wpAnyH_take (i := 2) (v := ?_) rfl (by kernel_rfl) (by kernel_rfl) (by kernel_rfl) (fun _ _ _ h => h) (Or.inl ⟨by rfl, ?_⟩) hHeld ?_
        rotate_left
        · intro w hSw; (try dsimp only at hSw); go_simp; (try with_reducible rfl)
        (try simp only [Act.put, List.getElem_toArray, List.getElem_cons_succ, List.getElem_cons_zero, List.setIfInBounds_toArray, List.set_cons_zero, List.set_cons_succ])
        refine wpAnyH_take (i := 3) (v := ?_) rfl (by kernel_rfl) (by kernel_rfl) (by kernel_rfl) (fun _ _ _ h => h) (Or.inl ⟨by rfl, ?_⟩) hHeld ?_
        rotate_left
        · intro w hSw; (try dsimp only at hSw); go_simp; (try with_reducible rfl)
        (try simp only [Act.put, List.getElem_toArray, List.getElem_cons_succ, List.getElem_cons_zero, List.setIfInBounds_toArray, List.set_cons_zero, List.set_cons_succ])
        refine wpAnyH_take (i := 5) (v := ?_) rfl (by kernel_rfl) (by kernel_rfl) (by kernel_rfl) (fun _ _ _ h => h) (Or.inl ⟨by rfl, ?_⟩) hHeld ?_
        rotate_left
        · intro w hSw; (try dsimp only at hSw); go_simp; (try with_reducible rfl)
        (try simp only [Act.put, List.getElem_toArray, List.getElem_cons_succ, List.getElem_cons_zero, List.setIfInBounds_toArray, List.set_cons_zero, List.set_cons_succ])
        refine wpAnyH_take (i := 6) (v := ?_) rfl (by kernel_rfl) (by kernel_rfl) (by kernel_rfl) (fun _ _ _ h => h) (Or.inl ⟨by rfl, ?_⟩) hHeld ?_
        rotate_left
        · intro w hSw; (try dsimp only at hSw); go_simp; (try with_reducible rfl)
        (try simp only [Act.put, List.getElem_toArray, List.getElem_cons_succ, List.getElem_cons_zero, List.setIfInBounds_toArray, List.set_cons_zero, List.set_cons_succ])
        refine wpAnyH_take (i := 7) (v := ?_) rfl (by kernel_rfl) (by kernel_rfl) (by kernel_rfl) (fun _ _ _ h => h) (Or.inl ⟨by rfl, ?_⟩) hHeld ?_
        rotate_left
        · intro w hSw; (try dsimp only at hSw); go_simp; (try with_reducible rfl)
        (try simp only [Act.put, List.getElem_toArray, List.getElem_cons_succ, List.getElem_cons_zero, List.setIfInBounds_toArray, List.set_cons_zero, List.set_cons_succ])
        refine wpAnyH_take (i := 8) (v := ?_) rfl (by kernel_rfl) (by kernel_rfl) (by kernel_rfl) (fun _ _ _ h => h) (Or.inl ⟨by rfl, ?_⟩) hHeld ?_
        rotate_left
        · intro w hSw; (try dsimp only at hSw); go_simp; (try with_reducible rfl)
        (try simp only [Act.put, List.getElem_toArray, List.getElem_cons_succ, List.getElem_cons_zero, List.setIfInBounds_toArray, List.set_cons_zero, List.set_cons_succ])
        refine wpAnyH_take (i := 9) (v := ?_) rfl (by kernel_rfl) (by kernel_rfl) (by kernel_rfl) (fun _ _ _ h => h) (Or.inl ⟨by rfl, ?_⟩) hHeld ?_
        rotate_left
        · intro w hSw; (try dsimp only at hSw); go_simp; (try with_reducible rfl)
        (try simp only [Act.put, List.getElem_toArray, List.getElem_cons_succ, List.getElem_cons_zero, List.setIfInBounds_toArray, List.set_cons_zero, List.set_cons_succ])
        refine wpAnyH_take (i := 10) (v := ?_) rfl (by kernel_rfl) (by kernel_rfl) (by kernel_rfl) (fun _ _ _ h => h) (Or.inl ⟨by rfl, ?_⟩) hHeld ?_
        rotate_left
        · intro w hSw; (try dsimp only at hSw); go_simp; (try with_reducible rfl)
        (try simp only [Act.put, List.getElem_toArray, List.getElem_cons_succ, List.getElem_cons_zero, List.setIfInBounds_toArray, List.set_cons_zero, List.set_cons_succ])
        refine wpAnyH_take (i := 12) (v := ?_) rfl (by kernel_rfl) (by kernel_rfl) (by kernel_rfl) (fun _ _ _ h => h) (Or.inl ⟨by rfl, ?_⟩) hHeld ?_
        rotate_left
        · intro w hSw; (try dsimp only at hSw); go_simp; (try with_reducible rfl)
        (try simp only [Act.put, List.getElem_toArray, List.getElem_cons_succ, List.getElem_cons_zero, List.setIfInBounds_toArray, List.set_cons_zero, List.set_cons_succ])
        refine wpAnyH_take (i := 13) (v := ?_) rfl (by kernel_rfl) (by kernel_rfl) (by kernel_rfl) (fun _ _ _ h => h) (Or.inl ⟨by rfl, ?_⟩) hHeld ?_
        rotate_left
        · intro w hSw; (try dsimp only at hSw); go_simp; (try with_reducible rfl)
        (try simp only [Act.put, List.getElem_toArray, List.getElem_cons_succ, List.getElem_cons_zero, List.setIfInBounds_toArray, List.set_cons_zero, List.set_cons_succ])
        refine wpAnyH_take (i := 14) (v := ?_) rfl (by kernel_rfl) (by kernel_rfl) (by kernel_rfl) (fun _ _ _ h => h) (Or.inl ⟨by rfl, ?_⟩) hHeld ?_
        rotate_left
        · intro w hSw; (try dsimp only at hSw); go_simp; (try with_reducible rfl)
        (try simp only [Act.put, List.getElem_toArray, List.getElem_cons_succ, List.getElem_cons_zero, List.setIfInBounds_toArray, List.set_cons_zero, List.set_cons_succ])
        refine wpAnyH_take (i := 15) (v := ?_) rfl (by kernel_rfl) (by kernel_rfl) (by kernel_rfl) (fun _ _ _ h => h) (Or.inl ⟨by rfl, ?_⟩) hHeld ?_
        rotate_left
        · intro w hSw; (try dsimp only at hSw); go_simp; (try with_reducible rfl)
        (try simp only [Act.put, List.getElem_toArray, List.getElem_cons_succ, List.getElem_cons_zero, List.setIfInBounds_toArray, List.set_cons_zero, List.set_cons_succ])
        refine wpAnyH_ready (rs := [0, 11]) (by kernel_rfl) (by simp) ?_
        refine (AllReadyH.cons rfl (fun K hK => ?_) (AllReadyH.cons rfl (fun K hK => ?_) AllReadyH.nil))
        · go_simp
          obtain ⟨V1, hV1⟩ : ∃ V, V = (wr.alloc (.cells #[] 53)).drew := ⟨_, rfl⟩
          rw [← hV1]
          have hBw1 : Below wr.heap.size wr V1 := by rw [hV1]; exact (bnew _ _).drew
          have hBq1 : Below wr.heap.size wr V1 := hBw1
          have ownv01 : V1.ownsRow wr.heap.size 53 3 (.slice (some ⟨wr.heap.size, 0, none⟩) 0 0) 0 [] := by rw [hV1]; exact own_base (own_zero wr _) hBq0.size
          have cq1 := (hBq1.cell (p := ⟨b, o + k * 3, none⟩) (cell_lt q0)).trans q0
          clear hV1
          refine hK.out _ _ ?_ (fun hHeld2 => ?_)
          · exact cq1
          clear hK K hHeld
          rename _ => hHeld
          (try simp only [Act.put, List.getElem_toArray, List.getElem_cons_succ, List.getElem_cons_zero, List.setIfInBounds_toArray, List.set_cons_zero, List.set_cons_succ])
          refine wpAnyH_ready (rs := [4, 11]) (by kernel_rfl) (by simp) ?_
          refine (AllReadyH.cons rfl (fun K hK => ?_) (AllReadyH.cons rfl (fun K hK => ?_) AllReadyH.nil))
          · rw [if_pos (by rfl)]
            refine wp_appC _ _ rfl wr.heap.size (.slice (some ⟨wr.heap.size, 0, none⟩) 0 0) 0 [] rfl ownv01 hBq1.size (some ⟨b, o, none⟩) k cap' ((chCells (rowAt l k)).take (k * 3)) rfl HL.out.1 (HK.out.2.2.2.2.1.below hBq1) HL.out.2.2.1 (by omega) ?_
            intro g2 cp2 V2 ownv02 hg2 hbk2
            simp only [Nat.zero_add] at ownv02 hbk2 ⊢
            have hBq2 : Below wr.heap.size wr V2 := hBq1.trans (own_belw ownv01 hg2 (Nat.le_refl _) hBq1.size)
            have cq2 := (hBq2.cell (p := ⟨b, o + k * 3, none⟩) (cell_lt q0)).trans q0
            refine hK.out _ _ ?_ (fun hHeld2 => ?_)
            · exact cq2
            clear hK K hHeld
            rename _ => hHeld
            (try simp only [Act.put, List.getElem_toArray, List.getElem_cons_succ, List.getElem_cons_zero, List.setIfInBounds_toArray, List.set_cons_zero, List.set_cons_succ])
            refine wpAnyH_ready (rs := [11]) (by kernel_rfl) (by simp) ?_
            refine (AllReadyH.cons rfl (fun K hK => ?_) AllReadyH.nil)
            go_simp
            obtain ⟨V3, hV3⟩ : ∃ V, V = (V2.alloc (.cells #[.slice A1 k1 c1, .slice none 0 0, .bool true] 53)) := ⟨_, rfl⟩
            rw [← hV3]
            have hBw3 : Below V2.heap.size V2 V3 := by rw [hV3]; exact bnew _ _
            have hBq3 : Below wr.heap.size wr V3 := hBq2.trans (hBw3.mono hBq2.size)
            have ownv23 : V3.ownsRow wr.heap.size 53 3 (.slice (some ⟨V2.heap.size, 0, none⟩) 1 1) 1 [.slice A1 k1 c1, .slice none 0 0, .bool true] := by rw [hV3]; exact own_base (own_three V2 _ _ _ _) hBq2.size
            have ownv03 := own_below ownv02 hBw3
            have hd3 : Dis (.slice g2 k cp2) (.slice (some ⟨V2.heap.size, 0, none⟩) 1 1) := Dis.new ownv02
            have cq3 := (hBq3.cell (p := ⟨b, o + k * 3, none⟩) (cell_lt q0)).trans q0
            clear hV3
            refine hK.out _ _ ?_ (fun hHeld2 => ?_)
            · exact cq3
            clear hK K hHeld
            rename _ => hHeld
            (try simp only [Act.put, List.getElem_toArray, List.getElem_cons_succ, List.getElem_cons_zero, List.setIfInBounds_toArray, List.set_cons_zero, List.set_cons_succ])
            refine wpAnyH_ready (rs := [16]) (by kernel_rfl) (by simp) ?_
            refine (AllReadyH.cons rfl (fun K hK => ?_) AllReadyH.nil)
            rw [if_pos (by rfl)]
            refine wp_appC _ _ rfl wr.heap.size (.slice (some ⟨V2.heap.size, 0, none⟩) 1 1) 1 [.slice A1 k1 c1, .slice none 0 0, .bool true] rfl ownv23 hBq3.size (fromAddr 3 (some ⟨b, o, none⟩) cap' (k + 1)) (n - (k + 1)) (cap' - (k + 1)) ((chCells (rowAt l k)).drop ((k + 1) * 3)) rfl HL.out.2.1 (HK.out.2.2.2.2.2.below hBq3) HL.out.2.2.2 (by omega) ?_
            intro g4 cp4 V4 ownv24 hg4 hbk4
            have hBq4 : Below wr.heap.size wr V4 := hBq3.trans (own_belw ownv23 hg4 (Nat.le_refl _) hBq3.size)
            have ownv04 := own_else ownv03 hg4 hd3.symm
            have hd4 : Dis (.slice g2 k cp2) (.slice g4 (1 + (n - (k + 1))) cp4) := (Dis.grow hd3.symm ownv03 hbk4).symm
            have cq4 := (hBq4.cell (p := ⟨b, o + k * 3, none⟩) (cell_lt q0)).trans q0
            refine hK.out _ _ ?_ (fun hHeld2 => ?_)
            · exact cq4
            clear hK K hHeld
            rename _ => hHeld
            (try simp only [Act.put, List.getElem_toArray, List.getElem_cons_succ, List.getElem_cons_zero, List.setIfInBounds_toArray, List.set_cons_zero, List.set_cons_succ])
            refine wpAnyH_ready (rs := [17]) (by kernel_rfl) (by simp) ?_
            refine (AllReadyH.cons rfl (fun K hK => ?_) AllReadyH.nil)
            rw [if_pos (by rfl)]
            refine wp_appC _ _ rfl wr.heap.size (.slice g2 k cp2) k ([] ++ ((chCells (rowAt l k)).take (k * 3))) rfl ownv04 hBq4.size _ (1 + (n - (k + 1))) _ ([.slice A1 k1 c1, .slice none 0 0, .bool true] ++ ((chCells (rowAt l k)).drop ((k + 1) * 3))) rfl (by rw [List.length_append, HL.out.2.1]; simp; omega) ((Rd.of_own ownv24).mono (Nat.zero_le _)) (one_app HL.out.2.2.2) (by omega) ?_
            intro g5 cp5 V5 ownv05 hg5 hbk5
            have hBq5 : Below wr.heap.size wr V5 := hBq4.trans (own_belw ownv04 hg5 (Nat.le_refl _) hBq4.size)
            have ownv25 := own_else ownv24 hg5 hd4
            have hd5 : Dis (.slice g5 (k + (1 + (n - (k + 1)))) cp5) (.slice g4 (1 + (n - (k + 1))) cp4) := Dis.grow hd4 ownv24 hbk5
            have cq5 := (hBq5.cell (p := ⟨b, o + k * 3, none⟩) (cell_lt q0)).trans q0
            refine hK.out _ _ ?_ (fun hHeld2 => ?_)
            · exact cq5
            clear hK K hHeld
            rename _ => hHeld
            (try simp only [Act.put, List.getElem_toArray, List.getElem_cons_succ, List.getElem_cons_zero, List.setIfInBounds_toArray, List.set_cons_zero, List.set_cons_succ])
            refine wpAnyH_take (i := 18) (v := ?_) rfl (by kernel_rfl) (by kernel_rfl) (by kernel_rfl) (fun _ _ _ h => h) (Or.inl ⟨by rfl, ?_⟩) hHeld ?_
            rotate_left
            · intro w hSw; (try dsimp only at hSw); go_simp; (try with_reducible rfl)
            (try simp only [Act.put, List.getElem_toArray, List.getElem_cons_succ, List.getElem_cons_zero, List.setIfInBounds_toArray, List.set_cons_zero, List.set_cons_succ])
            refine wpAnyH_done (by kernel_rfl) ?_ _
            clear hHeld
            go_wp2_with fail
            have hcpq := cap_ge ownv05
            have hnn : k + (1 + (n - (k + 1))) = n := by omega
            have hRq := (Rd.of_own ownv05).mono (Nat.zero_le _)
            rw [hnn] at hcpq ⊢
            have h9 : Rd 0 V5 g5 (chCells (rowAt l (k + 1))) := by
              rw [HK.out.2.2.1, chCells_split HK0.out]
              unfold chV
              simp only [HGN.out]
              exact hRq
            exact ⟨⟨k + 1, g5, cp5, by omega, hcpq, rfl, by simp, h9, HK.out.2.1.trans (hBq5.mono HK.out.2.1.size)⟩, by simp [intOf]; omega⟩
          · go_simp
            obtain ⟨V2, hV2⟩ : ∃ V, V = (V1.alloc (.cells #[.slice A1 k1 c1, .slice none 0 0, .bool true] 53)) := ⟨_, rfl⟩
            rw [← hV2]
            have hBw2 : Below V1.heap.size V1 V2 := by rw [hV2]; exact bnew _ _
            have hBq2 : Below wr.heap.size wr V2 := hBq1.trans (hBw2.mono hBq1.size)
            have ownv22 : V2.ownsRow wr.heap.size 53 3 (.slice (some ⟨V1.heap.size, 0, none⟩) 1 1) 1 [.slice A1 k1 c1, .slice none 0 0, .bool true] := by rw [hV2]; exact own_base (own_three V1 _ _ _ _) hBq1.size
            have ownv02 := own_below ownv01 hBw2
            have hd2 : Dis (.slice (some ⟨wr.heap.size, 0, none⟩) 0 0) (.slice (some ⟨V1.heap.size, 0, none⟩) 1 1) := Dis.new ownv01
            have cq2 := (hBq2.cell (p := ⟨b, o + k * 3, none⟩) (cell_lt q0)).trans q0
            clear hV2
            refine hK.out _ _ ?_ (fun hHeld2 => ?_)
            · exact cq2
            clear hK K hHeld
            rename _ => hHeld
            (try simp only [Act.put, List.getElem_toArray, List.getElem_cons_succ, List.getElem_cons_zero, List.setIfInBounds_toArray, List.set_cons_zero, List.set_cons_succ])
            refine wpAnyH_ready (rs := [4]) (by kernel_rfl) (by simp) ?_
            refine (AllReadyH.cons rfl (fun K hK => ?_) AllReadyH.nil)
            rw [if_pos (by rfl)]
            refine wp_appC _ _ rfl wr.heap.size (.slice (some ⟨wr.heap.size, 0, none⟩) 0 0) 0 [] rfl ownv02 hBq2.size (some ⟨b, o, none⟩) k cap' ((chCells (rowAt l k)).take (k * 3)) rfl HL.out.1 (HK.out.2.2.2.2.1.below hBq2) HL.out.2.2.1 (by omega) ?_
            intro g3 cp3 V3 ownv03 hg3 hbk3
            simp only [Nat.zero_add] at ownv03 hbk3 ⊢
            have hBq3 : Below wr.heap.size wr V3 := hBq2.trans (own_belw ownv02 hg3 (Nat.le_refl _) hBq2.size)
            have ownv23 := own_else ownv22 hg3 hd2
            have hd3 : Dis (.slice g3 k cp3) (.slice (some ⟨V1.heap.size, 0, none⟩) 1 1) := Dis.grow hd2 ownv22 hbk3
            have cq3 := (hBq3.cell (p := ⟨b, o + k * 3, none⟩) (cell_lt q0)).trans q0
            refine hK.out _ _ ?_ (fun hHeld2 => ?_)
            · exact cq3
            clear hK K hHeld
            rename _ => hHeld
            (try simp only [Act.put, List.getElem_toArray, List.getElem_cons_succ, List.getElem_cons_zero, List.setIfInBounds_toArray, List.set_cons_zero, List.set_cons_succ])
            refine wpAnyH_ready (rs := [16]) (by kernel_rfl) (by simp) ?_
            refine (AllReadyH.cons rfl (fun K hK => ?_) AllReadyH.nil)
            rw [if_pos (by rfl)]
            refine wp_appC _ _ rfl wr.heap.size (.slice (some ⟨V1.heap.size, 0, none⟩) 1 1) 1 [.slice A1 k1 c1, .slice none 0 0, .bool true] rfl ownv23 hBq3.size (fromAddr 3 (some ⟨b, o, none⟩) cap' (k + 1)) (n - (k + 1)) (cap' - (k + 1)) ((chCells (rowAt l k)).drop ((k + 1) * 3)) rfl HL.out.2.1 (HK.out.2.2.2.2.2.below hBq3) HL.out.2.2.2 (by omega) ?_
            intro g4 cp4 V4 ownv24 hg4 hbk4
            have hBq4 : Below wr.heap.size wr V4 := hBq3.trans (own_belw ownv23 hg4 (Nat.le_refl _) hBq3.size)
            have ownv04 := own_else ownv03 hg4 hd3.symm
            have hd4 : Dis (.slice g3 k cp3) (.slice g4 (1 + (n - (k + 1))) cp4) := (Dis.grow hd3.symm ownv03 hbk4).symm
            have cq4 := (hBq4.cell (p := ⟨b, o + k * 3, none⟩) (cell_lt q0)).trans q0
            refine hK.out _ _ ?_ (fun hHeld2 => ?_)
            · exact cq4
            clear hK K hHeld
            rename _ => hHeld
            (try simp only [Act.put, List.getElem_toArray, List.getElem_cons_succ, List.getElem_cons_zero, List.setIfInBounds_toArray, List.set_cons_zero, List.set_cons_succ])
            refine wpAnyH_ready (rs := [17]) (by kernel_rfl) (by simp) ?_
            refine (AllReadyH.cons rfl (fun K hK => ?_) AllReadyH.nil)
            rw [if_pos (by rfl)]
            refine wp_appC _ _ rfl wr.heap.size (.slice g3 k cp3) k ([] ++ ((chCells (rowAt l k)).take (k * 3))) rfl ownv04 hBq4.size _ (1 + (n - (k + 1))) _ ([.slice A1 k1 c1, .slice none 0 0, .bool true] ++ ((chCells (rowAt l k)).drop ((k + 1) * 3))) rfl (by rw [List.length_append, HL.out.2.1]; simp; omega) ((Rd.of_own ownv24).mono (Nat.zero_le _)) (one_app HL.out.2.2.2) (by omega) ?_
            intro g5 cp5 V5 ownv05 hg5 hbk5
            have hBq5 : Below wr.heap.size wr V5 := hBq4.trans (own_belw ownv04 hg5 (Nat.le_refl _) hBq4.size)
            have ownv25 := own_else ownv24 hg5 hd4
            have hd5 : Dis (.slice g5 (k + (1 + (n - (k + 1)))) cp5) (.slice g4 (1 + (n - (k + 1))) cp4) := Dis.grow hd4 ownv24 hbk5
            have cq5 := (hBq5.cell (p := ⟨b, o + k * 3, none⟩) (cell_lt q0)).trans q0
            refine hK.out _ _ ?_ (fun hHeld2 => ?_)
            · exact cq5
            clear hK K hHeld
            rename _ => hHeld
            (try simp only [Act.put, List.getElem_toArray, List.getElem_cons_succ, List.getElem_cons_zero, List.setIfInBounds_toArray, List.set_cons_zero, List.set_cons_succ])
            refine wpAnyH_take (i := 18) (v := ?_) rfl (by kernel_rfl) (by kernel_rfl) (by kernel_rfl) (fun _ _ _ h => h) (Or.inl ⟨by rfl, ?_⟩) hHeld ?_
            rotate_left
            · intro w hSw; (try dsimp only at hSw); go_simp; (try with_reducible rfl)
            (try simp only [Act.put, List.getElem_toArray, List.getElem_cons_succ, List.getElem_cons_zero, List.setIfInBounds_toArray, List.set_cons_zero, List.set_cons_succ])
            refine wpAnyH_done (by kernel_rfl) ?_ _
            clear hHeld
            go_wp2_with fail
            have hcpq := cap_ge ownv05
            have hnn : k + (1 + (n - (k + 1))) = n := by omega
            have hRq := (Rd.of_own ownv05).mono (Nat.zero_le _)
            rw [hnn] at hcpq ⊢
            have h9 : Rd 0 V5 g5 (chCells (rowAt l (k + 1))) := by
              rw [HK.out.2.2.1, chCells_split HK0.out]
              unfold chV
              simp only [HGN.out]
              exact hRq
            exact ⟨⟨k + 1, g5, cp5, by omega, hcpq, rfl, by simp, h9, HK.out.2.1.trans (hBq5.mono HK.out.2.1.size)⟩, by simp [intOf]; omega⟩
        · go_simp
          obtain ⟨V1, hV1⟩ : ∃ V, V = (wr.alloc (.cells #[.slice A1 k1 c1, .slice none 0 0, .bool true] 53)).drew := ⟨_, rfl⟩
          rw [← hV1]
          have hBw1 : Below wr.heap.size wr V1 := by rw [hV1]; exact (bnew _ _).drew
          have hBq1 : Below wr.heap.size wr V1 := hBw1
          have ownv21 : V1.ownsRow wr.heap.size 53 3 (.slice (some ⟨wr.heap.size, 0, none⟩) 1 1) 1 [.slice A1 k1 c1, .slice none 0 0, .bool true] := by rw [hV1]; exact own_base (own_three wr _ _ _ _) hBq0.size
          have cq1 := (hBq1.cell (p := ⟨b, o + k * 3, none⟩) (cell_lt q0)).trans q0
          clear hV1
          refine hK.out _ _ ?_ (fun hHeld2 => ?_)
          · exact cq1
          clear hK K hHeld
          rename _ => hHeld
          (try simp only [Act.put, List.getElem_toArray, List.getElem_cons_succ, List.getElem_cons_zero, List.setIfInBounds_toArray, List.set_cons_zero, List.set_cons_succ])
          refine wpAnyH_ready (rs := [0]) (by kernel_rfl) (by simp) ?_
          refine (AllReadyH.cons rfl (fun K hK => ?_) AllReadyH.nil)
          go_simp
          obtain ⟨V2, hV2⟩ : ∃ V, V = (V1.alloc (.cells #[] 53)) := ⟨_, rfl⟩
          rw [← hV2]
          have hBw2 : Below V1.heap.size V1 V2 := by rw [hV2]; exact bnew _ _
          have hBq2 : Below wr.heap.size wr V2 := hBq1.trans (hBw2.mono hBq1.size)
          have ownv02 : V2.ownsRow wr.heap.size 53 3 (.slice (some ⟨V1.heap.size, 0, none⟩) 0 0) 0 [] := by rw [hV2]; exact own_base (own_zero V1 _) hBq1.size
          have ownv22 := own_below ownv21 hBw2
          have hd2 : Dis (.slice (some ⟨wr.heap.size, 0, none⟩) 1 1) (.slice (some ⟨V1.heap.size, 0, none⟩) 0 0) := Dis.new ownv21
          have hd2 := hd2.symm
          have cq2 := (hBq2.cell (p := ⟨b, o + k * 3, none⟩) (cell_lt q0)).trans q0
          clear hV2
          refine hK.out _ _ ?_ (fun hHeld2 => ?_)
          · exact cq2
          clear hK K hHeld
          rename _ => hHeld
          (try simp only [Act.put, List.getElem_toArray, List.getElem_cons_succ, List.getElem_cons_zero, List.setIfInBounds_toArray, List.set_cons_zero, List.set_cons_succ])
          refine wpAnyH_ready (rs := [4]) (by kernel_rfl) (by simp) ?_
          refine (AllReadyH.cons rfl (fun K hK => ?_) AllReadyH.nil)
          rw [if_pos (by rfl)]
          refine wp_appC _ _ rfl wr.heap.size (.slice (some ⟨V1.heap.size, 0, none⟩) 0 0) 0 [] rfl ownv02 hBq2.size (some ⟨b, o, none⟩) k cap' ((chCells (rowAt l k)).take (k * 3)) rfl HL.out.1 (HK.out.2.2.2.2.1.below hBq2) HL.out.2.2.1 (by omega) ?_
          intro g3 cp3 V3 ownv03 hg3 hbk3
          simp only [Nat.zero_add] at ownv03 hbk3 ⊢
          have hBq3 : Below wr.heap.size wr V3 := hBq2.trans (own_belw ownv02 hg3 (Nat.le_refl _) hBq2.size)
          have ownv23 := own_else ownv22 hg3 hd2
          have hd3 : Dis (.slice g3 k cp3) (.slice (some ⟨wr.heap.size, 0, none⟩) 1 1) := Dis.grow hd2 ownv22 hbk3
          have cq3 := (hBq3.cell (p := ⟨b, o + k * 3, none⟩) (cell_lt q0)).trans q0
          refine hK.out _ _ ?_ (fun hHeld2 => ?_)
          · exact cq3
          clear hK K hHeld
          rename _ => hHeld
          (try simp only [Act.put, List.getElem_toArray, List.getElem_cons_succ, List.getElem_cons_zero, List.setIfInBounds_toArray, List.set_cons_zero, List.set_cons_succ])
          refine wpAnyH_ready (rs := [16]) (by kernel_rfl) (by simp) ?_
          refine (AllReadyH.cons rfl (fun K hK => ?_) AllReadyH.nil)
          rw [if_pos (by rfl)]
          refine wp_appC _ _ rfl wr.heap.size (.slice (some ⟨wr.heap.size, 0, none⟩) 1 1) 1 [.slice A1 k1 c1, .slice none 0 0, .bool true] rfl ownv23 hBq3.size (fromAddr 3 (some ⟨b, o, none⟩) cap' (k + 1)) (n - (k + 1)) (cap' - (k + 1)) ((chCells (rowAt l k)).drop ((k + 1) * 3)) rfl HL.out.2.1 (HK.out.2.2.2.2.2.below hBq3) HL.out.2.2.2 (by omega) ?_
          intro g4 cp4 V4 ownv24 hg4 hbk4
          have hBq4 : Below wr.heap.size wr V4 := hBq3.trans (own_belw ownv23 hg4 (Nat.le_refl _) hBq3.size)
          have ownv04 := own_else ownv03 hg4 hd3.symm
          have hd4 : Dis (.slice g3 k cp3) (.slice g4 (1 + (n - (k + 1))) cp4) := (Dis.grow hd3.symm ownv03 hbk4).symm
          have cq4 := (hBq4.cell (p := ⟨b, o + k * 3, none⟩) (cell_lt q0)).trans q0
          refine hK.out _ _ ?_ (fun hHeld2 => ?_)
          · exact cq4
          clear hK K hHeld
          rename _ => hHeld
          (try simp only [Act.put, List.getElem_toArray, List.getElem_cons_succ, List.getElem_cons_zero, List.setIfInBounds_toArray, List.set_cons_zero, List.set_cons_succ])
          refine wpAnyH_ready (rs := [17]) (by kernel_rfl) (by simp) ?_
          refine (AllReadyH.cons rfl (fun K hK => ?_) AllReadyH.nil)
          rw [if_pos (by rfl)]
          refine wp_appC _ _ rfl wr.heap.size (.slice g3 k cp3) k ([] ++ ((chCells (rowAt l k)).take (k * 3))) rfl ownv04 hBq4.size _ (1 + (n - (k + 1))) _ ([.slice A1 k1 c1, .slice none 0 0, .bool true] ++ ((chCells (rowAt l k)).drop ((k + 1) * 3))) rfl (by rw [List.length_append, HL.out.2.1]; simp; omega) ((Rd.of_own ownv24).mono (Nat.zero_le _)) (one_app HL.out.2.2.2) (by omega) ?_
          intro g5 cp5 V5 ownv05 hg5 hbk5
          have hBq5 : Below wr.heap.size wr V5 := hBq4.trans (own_belw ownv04 hg5 (Nat.le_refl _) hBq4.size)
          have ownv25 := own_else ownv24 hg5 hd4
          have hd5 : Dis (.slice g5 (k + (1 + (n - (k + 1)))) cp5) (.slice g4 (1 + (n - (k + 1))) cp4) := Dis.grow hd4 ownv24 hbk5
          have cq5 := (hBq5.cell (p := ⟨b, o + k * 3, none⟩) (cell_lt q0)).trans q0
          refine hK.out _ _ ?_ (fun hHeld2 => ?_)
          · exact cq5
          clear hK K hHeld
          rename _ => hHeld
          (try simp only [Act.put, List.getElem_toArray, List.getElem_cons_succ, List.getElem_cons_zero, List.setIfInBounds_toArray, List.set_cons_zero, List.set_cons_succ])
          refine wpAnyH_take (i := 18) (v := ?_) rfl (by kernel_rfl) (by kernel_rfl) (by kernel_rfl) (fun _ _ _ h => h) (Or.inl ⟨by rfl, ?_⟩) hHeld ?_
          rotate_left
          · intro w hSw; (try dsimp only at hSw); go_simp; (try with_reducible rfl)
          (try simp only [Act.put, List.getElem_toArray, List.getElem_cons_succ, List.getElem_cons_zero, List.setIfInBounds_toArray, List.set_cons_zero, List.set_cons_succ])
          refine wpAnyH_done (by kernel_rfl) ?_ _
          clear hHeld
          go_wp2_with fail
          have hcpq := cap_ge ownv05
          have hnn : k + (1 + (n - (k + 1))) = n := by omega
          have hRq := (Rd.of_own ownv05).mono (Nat.zero_le _)
          rw [hnn] at hcpq ⊢
          have h9 : Rd 0 V5 g5 (chCells (rowAt l (k + 1))) := by
            rw [HK.out.2.2.1, chCells_split HK0.out]
            unfold chV
            simp only [HGN.out]
            exact hRq
          exact ⟨⟨k + 1, g5, cp5, by omega, hcpq, rfl, by simp, h9, HK.out.2.1.trans (hBq5.mono HK.out.2.1.size)⟩, by simp [intOf]; omega⟩
    · obtain rfl : n = k := by omega
      have hkd : decide ((n : Int) < (n : Int)) = false := by simp
      have hra : rowAt l n = l.map cleanE := by rw [HR.out.2.2.1]; exact rowAt_all l
      rw [hra] at hrk
      have HRK := Lib.hid (And.intro hrk hB); clear hrk hB hra
      obtain ⟨l', hl'⟩ : ∃ l', l.map cleanE = l' := ⟨_, rfl⟩
      have hl'n : n = l'.length := by rw [← hl', List.length_map, HR.out.2.2.1]
      have hcc : (l'.map (·.1)).map ChM.clean = l'.map (·.1) := by
        rw [← hl', map_clean, List.map_map]
        apply List.map_congr_left
        intro x _
        exact clean_clean x
      have hse : ∀ x ∈ l', x.1.key.length ≤ 1099511627776 ∧ x.1.val.length ≤ 1099511627776 := by
        intro x hx
        rw [← hl'] at hx
        obtain ⟨y, hy, rfl⟩ := List.mem_map.1 hx
        have := HR.out.2.2.2.1 y hy
        rw [cleanE_fst]
        unfold ChM.clean
        split
        · exact ⟨by simp only; omega, by simp⟩
        · omega
      have hee : ChEach wr l' := by rw [← hl']; exact (HR.out.2.1.below HRK.out.2).clean
      have hrk := HRK.out.1
      rw [hl'] at hrk
      have HL' := Lib.hid (And.intro hl'n (And.intro hcc (And.intro hse (And.intro hee (And.intro hrk HRK.out.2))))); clear hl'n hcc hse hee hrk hl' HRK
      have hBX := batch_len (l'.map (·.1))
      obtain ⟨BX, hBXe⟩ : ∃ R, batchM (l'.map (·.1)) = R := ⟨_, rfl⟩
      rw [hBXe] at hBX
      obtain ⟨X, E⟩ := BX
      have HBX := Lib.hid (And.intro hBXe hBX); clear hBXe hBX
      by_cases hE : E = 0
      · subst hE
        have hub2 := unbatch_batch HBX.out.1
        rw [HL'.out.2.1] at hub2
        have HUB2 := Lib.hid hub2; clear hub2
        go_wp2_with (first
          | (go_at_call 22; (refine (kown_c A' n cap' l' HL'.out.1 hm wr HL'.out.2.2.2.2.1 HL'.out.2.2.2.1).mono ?_); rintro e w1 ⟨v1, rfl, hown1, hb1⟩; have hl9 := HL'.out.1; rw [← hl9] at hown1; obtain ⟨A3, c3, rfl, -, -, -⟩ := own_slice hown1; clear hl9; have H1 := Lib.hid (And.intro hown1 hb1); clear hown1 hb1)
          | (go_at_call 21; (refine (batch_c A3 n c3 l' HL'.out.1 hm HL'.out.2.2.1 w1 ((Rd.of_own H1.out.1).mono (Nat.zero_le _)) (HL'.out.2.2.2.1.below H1.out.2)).mono ?_); rw [HBX.out.1]; rintro e w2 ⟨v2, rfl, hbs2, hb2⟩; obtain ⟨A4, c4, rfl, -⟩ := id hbs2; have H2 := Lib.hid (And.intro hbs2 hb2); clear hbs2 hb2))
        have hBT2 := bstep (bstep HL'.out.2.2.2.2.2 H1.out.2) H2.out.2
        refine (unbatch_c w.heap.size A4 X.length c4 X rfl (by have := HBX.out.2; have h2 : X.length ≤ 65535 := this; omega) w2 (H2.out.1.bn _) hBT2.size).mono ?_
        rw [HUB2.out]
        rintro e w3 ⟨hb3, v3, ys, rfl, hys, hown3, hbs3⟩
        have hyl : ys.length = n := by have := congrArg List.length hys; rw [List.length_map, List.length_map] at this; rw [HL'.out.1]; exact this
        rw [hyl] at hown3
        obtain ⟨A7, c7, rfl, -, -, -⟩ := own_slice hown3
        have HS := Lib.hid (ksame_c A7 A' n n c7 cap' ys l' hyl.symm HL'.out.1 hm w3 ((Rd.of_own hown3).mono (Nat.zero_le _)) hbs3.each (((HL'.out.2.2.2.2.1.below H1.out.2).below H2.out.2).below hb3) (((HL'.out.2.2.2.1.below H1.out.2).below H2.out.2).below hb3))
        have H3 := Lib.hid (And.intro (bstep hBT2 hb3) hys); clear hb3 hys hown3 hbs3 hyl hBT2
        go_wp2_with (go_at_call 15; (refine HS.out.mono ?_); rintro e w4 ⟨rfl, q4, hq4⟩; rw [decide_eq_true H3.out.2]; have HQ4 := Lib.hid hq4; clear hq4)
        have hBT : Below w.heap.size w w4 := by rw [HQ4.out]; exact ⟨H3.out.1.os, H3.out.1.tape, H3.out.1.output, H3.out.1.size, H3.out.1.block⟩
        have HBT := Lib.hid hBT; clear hBT
        obtain ⟨U, hU⟩ : ∃ U, unbatchM bs = U := ⟨_, rfl⟩
        have hub := unbatch_c w.heap.size B nb capb bs HR.out.2.2.2.2.2.1 (by omega) w4 (HR.out.2.2.2.2.1.below HBT.out) HBT.out.size
        rw [hU] at hub
        have HU := Lib.hid (And.intro hub hU); clear hub hU
        cases U with
        | none =>
          refine HU.out.1.mono ?_
          rintro e w5 ⟨hb5, rfl⟩
          have H5 := Lib.hid (bstep HBT.out hb5); clear hb5
          go_wp2_with (go_at_call 9; (refine (HR.out.2.2.2.2.2.2 _ H5.out).mono ?_); rintro e w6 ⟨rfl, hb6⟩; have H6 := Lib.hid hb6; clear hb6)
          go_ret
          exact ⟨rfl, bstep H5.out H6.out⟩
        | some cs =>
          refine HU.out.1.mono ?_
          rintro e w5 ⟨hb5, v5, xs, rfl, hxs, hown5, hbs5⟩
          subst hxs
          obtain ⟨he1, he2⟩ := enc_unbF _ bs _ (by omega) HU.out.2
          have hge := encL_ge (xs.map (·.1))
          rw [he1, List.length_map] at hge
          have hml : ∀ x ∈ xs, x.1.key.length ≤ 1099511627776 ∧ x.1.val.length ≤ 1099511627776 := fun x hx => by
            have h1 := size_mem (List.mem_map_of_mem (f := (·.1)) hx)
            rw [← encL_length, he1] at h1
            unfold ChM.size at h1
            have h2 := (he2 x.1 (List.mem_map_of_mem (f := (·.1)) hx)).2
            have h3 := HR.out.2.2.2.2.2.1
            cases hg : x.1.gone with
            | true => rw [h2 hg]; rw [hg] at h1; simp only [if_true] at h1; exact ⟨by omega, by simp⟩
            | false => rw [hg] at h1; simp only [Bool.false_eq_true, if_false] at h1; omega
          have hxl : xs.length ≤ 1048576 := by have := HR.out.2.2.2.2.2.1; omega
          have hbu := batch_unbatch HU.out.2
          obtain ⟨A5, c5, rfl, -, -, -⟩ := own_slice hown5
          have hba := batch_c A5 xs.length c5 xs rfl hxl hml w5 ((Rd.of_own hown5).mono (Nat.zero_le _)) hbs5.each
          rw [hbu] at hba
          have hB5 := bstep HBT.out hb5
          have hrb := (HR.out.2.2.2.2.1.below hB5).rd
          have hnb := HR.out.2.2.2.2.2.1
          have H5 := Lib.hid (And.intro hB5 (And.intro hrb hnb)); clear hB5 hb5 hown5 hbs5 he1 he2 hge hml hbu hrb hnb
          by_cases hbig : 65536 < 1 + bs.length
          · rw [if_pos hbig] at hba
            have hnbig : decide ((65536 : Int) ≤ (nb : Int)) = true := by simp; have := H5.out.2.2; omega
            have HBA := Lib.hid hba; clear hba
            go_wp2_with (first
              | (go_at_call 21; (refine HBA.out.mono ?_); rintro e w6 ⟨v6, rfl, hbs6, hb6⟩; obtain ⟨A6, c6, rfl, -⟩ := id hbs6; have H6 := Lib.hid (bstep H5.out.1 hb6); clear hbs6 hb6)
              | (go_at_call 9; (refine (HR.out.2.2.2.2.2.2 _ H6.out).mono ?_); rintro e w7 ⟨rfl, hb7⟩; have H7 := Lib.hid hb7; clear hb7))
            go_ret
            exact ⟨rfl, bstep H6.out H7.out⟩
          · rw [if_neg hbig] at hba
            have HBA := Lib.hid hba; clear hba hbig
            go_wp2_with (first
              | (go_at_call 21; (refine HBA.out.mono ?_); rintro e w6 ⟨v6, rfl, hbs6, hb6⟩; have h65 := H5.out.2.2; replace hbs6 : Bs 5 w6 v6 bs := hbs6; obtain ⟨A6, c6, hv6, hc6, -⟩ := id hbs6; rw [← h65] at hv6; subst hv6; clear h65; have H6 := Lib.hid (And.intro (bstep H5.out.1 hb6) (And.intro hbs6 hb6)); clear hbs6 hb6 hc6)
              | (go_at_call 24; (refine (same_c A6 B nb nb c6 capb bs bs H5.out.2.2 H5.out.2.2 w6 H6.out.2.1.toR.rd (H5.out.2.1.below H6.out.2.2)).mono ?_); rintro e w8 ⟨rfl, hw8⟩; have hw9 := hw8.symm; subst hw9; rw [show (bs == bs) = true by simp])
              | (go_at_call 9; (refine (HR.out.2.2.2.2.2.2 _ H6.out.1).mono ?_); rintro e w7 ⟨rfl, hb7⟩; have H7 := Lib.hid hb7; clear hb7))
            go_ret
            exact ⟨rfl, bstep H6.out.1 H7.out⟩
      · have HE := Lib.hid hE
        go_wp2_with (first
          | (go_at_call 22; (refine (kown_c A' n cap' l' HL'.out.1 hm wr HL'.out.2.2.2.2.1 HL'.out.2.2.2.1).mono ?_); rintro e w1 ⟨v1, rfl, hown1, hb1⟩; have hl9 := HL'.out.1; rw [← hl9] at hown1; obtain ⟨A3, c3, rfl, -, -, -⟩ := own_slice hown1; clear hl9; have H1 := Lib.hid (And.intro hown1 hb1); clear hown1 hb1)
          | (go_at_call 21; (refine (batch_c A3 n c3 l' HL'.out.1 hm HL'.out.2.2.1 w1 ((Rd.of_own H1.out.1).mono (Nat.zero_le _)) (HL'.out.2.2.2.1.below H1.out.2)).mono ?_); rw [HBX.out.1]; rintro e w2 ⟨v2, rfl, hbs2, hb2⟩; obtain ⟨A4, c4, rfl, -⟩ := id hbs2; have H2 := Lib.hid (And.intro hbs2 hb2); clear hbs2 hb2))
        have HBT := Lib.hid (bstep (bstep HL'.out.2.2.2.2.2 H1.out.2) H2.out.2)
        obtain ⟨U, hU⟩ : ∃ U, unbatchM bs = U := ⟨_, rfl⟩
        have hub := unbatch_c w.heap.size B nb capb bs HR.out.2.2.2.2.2.1 (by omega) w2 (HR.out.2.2.2.2.1.below HBT.out) HBT.out.size
        rw [hU] at hub
        have HU := Lib.hid (And.intro hub hU); clear hub hU
        cases U with
        | none =>
          refine HU.out.1.mono ?_
          rintro e w5 ⟨hb5, rfl⟩
          have H5 := Lib.hid (bstep HBT.out hb5); clear hb5
          go_wp2_with (go_at_call 9; (refine (HR.out.2.2.2.2.2.2 _ H5.out).mono ?_); rintro e w6 ⟨rfl, hb6⟩; have H6 := Lib.hid hb6; clear hb6)
          go_ret
          exact ⟨rfl, bstep H5.out H6.out⟩
        | some cs =>
          refine HU.out.1.mono ?_
          rintro e w5 ⟨hb5, v5, xs, rfl, hxs, hown5, hbs5⟩
          subst hxs
          obtain ⟨he1, he2⟩ := enc_unbF _ bs _ (by omega) HU.out.2
          have hge := encL_ge (xs.map (·.1))
          rw [he1, List.length_map] at hge
          have hml : ∀ x ∈ xs, x.1.key.length ≤ 1099511627776 ∧ x.1.val.length ≤ 1099511627776 := fun x hx => by
            have h1 := size_mem (List.mem_map_of_mem (f := (·.1)) hx)
            rw [← encL_length, he1] at h1
            unfold ChM.size at h1
            have h2 := (he2 x.1 (List.mem_map_of_mem (f := (·.1)) hx)).2
            have h3 := HR.out.2.2.2.2.2.1
            cases hg : x.1.gone with
            | true => rw [h2 hg]; rw [hg] at h1; simp only [if_true] at h1; exact ⟨by omega, by simp⟩
            | false => rw [hg] at h1; simp only [Bool.false_eq_true, if_false] at h1; omega
          have hxl : xs.length ≤ 1048576 := by have := HR.out.2.2.2.2.2.1; omega
          have hbu := batch_unbatch HU.out.2
          obtain ⟨A5, c5, rfl, -, -, -⟩ := own_slice hown5
          have hba := batch_c A5 xs.length c5 xs rfl hxl hml w5 ((Rd.of_own hown5).mono (Nat.zero_le _)) hbs5.each
          rw [hbu] at hba
          have hB5 := bstep HBT.out hb5
          have hrb := (HR.out.2.2.2.2.1.below hB5).rd
          have hnb := HR.out.2.2.2.2.2.1
          have H5 := Lib.hid (And.intro hB5 (And.intro hrb hnb)); clear hB5 hb5 hown5 hbs5 he1 he2 hge hml hbu hrb hnb
          by_cases hbig : 65536 < 1 + bs.length
          · rw [if_pos hbig] at hba
            have hnbig : decide ((65536 : Int) ≤ (nb : Int)) = true := by simp; have := H5.out.2.2; omega
            have HBA := Lib.hid hba; clear hba
            go_wp2_with (first
              | (go_at_call 21; (refine HBA.out.mono ?_); rintro e w6 ⟨v6, rfl, hbs6, hb6⟩; obtain ⟨A6, c6, rfl, -⟩ := id hbs6; have H6 := Lib.hid (bstep H5.out.1 hb6); clear hbs6 hb6)
              | (go_at_call 9; (refine (HR.out.2.2.2.2.2.2 _ H6.out).mono ?_); rintro e w7 ⟨rfl, hb7⟩; have H7 := Lib.hid hb7; clear hb7))
            go_ret
            exact ⟨rfl, bstep H6.out H7.out⟩
          · rw [if_neg hbig] at hba
            have HBA := Lib.hid hba; clear hba hbig
            go_wp2_with (first
              | (go_at_call 21; (refine HBA.out.mono ?_); rintro e w6 ⟨v6, rfl, hbs6, hb6⟩; have h65 := H5.out.2.2; replace hbs6 : Bs 5 w6 v6 bs := hbs6; obtain ⟨A6, c6, hv6, hc6, -⟩ := id hbs6; rw [← h65] at hv6; subst hv6; clear h65; have H6 := Lib.hid (And.intro (bstep H5.out.1 hb6) (And.intro hbs6 hb6)); clear hbs6 hb6 hc6)
              | (go_at_call 24; (refine (same_c A6 B nb nb c6 capb bs bs H5.out.2.2 H5.out.2.2 w6 H6.out.2.1.toR.rd (H5.out.2.1.below H6.out.2.2)).mono ?_); rintro e w8 ⟨rfl, hw8⟩; have hw9 := hw8.symm; subst hw9; rw [show (bs == bs) = true by simp])
              | (go_at_call 9; (refine (HR.out.2.2.2.2.2.2 _ H6.out.1).mono ?_); rintro e w7 ⟨rfl, hb7⟩; have H7 := Lib.hid hb7; clear hb7))
            go_ret
            exact ⟨rfl, bstep H6.out.1 H7.out⟩
end Go.Proofs.YtnljhabpcoiihaaGreatDoor
