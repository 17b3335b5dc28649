/- Rows of changes: what they are; the law's Own and Same. -/
import Derived.Test.YtnljhabpcoiihaaGreatDoorKvP
import Derived.Test.YtnljhabpcoiihaaGreatDoorRDsk
set_option linter.all false
namespace Go.Proofs.YtnljhabpcoiihaaGreatDoor
open Go.RowKit

/-- a change and the two slices that bear it -/
abbrev ChE := ChM × Value × Value
def chV (x : ChE) : List Value := [x.2.1, x.2.2, .bool x.1.gone]
def chCells (l : List ChE) : List Value := l.flatMap chV
theorem chCells_length (l : List ChE) : (chCells l).length = l.length * 3 := by
  induction l with
  | nil => rfl
  | cons p r ih => simp only [chCells, List.flatMap_cons, List.length_append, List.length_cons] at ih ⊢; rw [ih]; simp [chV]; omega
theorem chCells_append (a b : List ChE) : chCells (a ++ b) = chCells a ++ chCells b := by simp [chCells]
theorem chCells_get : ∀ (l : List ChE) (k : Nat) (h : k < l.length), (chCells l)[k * 3]? = some l[k].2.1 ∧ (chCells l)[k * 3 + 1]? = some l[k].2.2 ∧ (chCells l)[k * 3 + 2]? = some (.bool l[k].1.gone)
  | [], k, h => by simp at h
  | p :: r, 0, h => by simp [chCells, chV]
  | p :: r, k + 1, h => by
    have ih := chCells_get r k (by simpa using h)
    have e : chCells (p :: r) = chV p ++ chCells r := rfl
    have e3 : (k + 1) * 3 = k * 3 + 3 := by omega
    rw [e, e3]
    have hl : (chV p).length = 3 := rfl
    refine ⟨?_, ?_, ?_⟩
    · rw [List.getElem?_append_right (by rw [hl]; omega), hl]; simpa using ih.1
    · rw [List.getElem?_append_right (by rw [hl]; omega), hl]; simpa [Nat.add_right_comm, Nat.add_assoc] using ih.2.1
    · rw [List.getElem?_append_right (by rw [hl]; omega), hl]; simpa [Nat.add_right_comm, Nat.add_assoc] using ih.2.2
def ChEach (w : World) (l : List ChE) : Prop := ∀ x ∈ l, BytesR 0 w x.2.1 x.1.key ∧ BytesR 0 w x.2.2 x.1.val
theorem ChEach.below {w w' : World} {l : List ChE} (h : ChEach w l) (hb : Below w.heap.size w w') : ChEach w' l := fun x hx => ⟨(h x hx).1.below hb, (h x hx).2.below hb⟩
theorem ChEach.slice {w : World} {l : List ChE} (h : ChEach w l) {k : Nat} (hk : k < l.length) : ∃ A c B d, l[k].2.1 = .slice A l[k].1.key.length c ∧ l[k].2.2 = .slice B l[k].1.val.length d := by
  obtain ⟨⟨A, c, h1, _⟩, ⟨B, d, h2, _⟩⟩ := h l[k] (List.getElem_mem hk)
  exact ⟨A, c, B, d, h1, h2⟩
theorem info_ch : ∃ i0, Tryz.prog.info? 87 = some i0 ∧ i0.zero = some (.agg #[.slice none 0 0, .slice none 0 0, .bool false]) ∧ i0.size = 3 ∧ i0.bytes = 56 :=
  info_parts (show (Tryz.prog.info? 87).map (fun i => (i.zero, i.size, i.bytes)) = some (some (.agg #[.slice none 0 0, .slice none 0 0, .bool false]), 3, 56) by kernel_rfl)
theorem rd_three (w : World) (T : TypeId) (a b c : Value) : Rd 0 (w.alloc (.cells #[a, b, c] T)) (some ⟨w.heap.size, 0, none⟩) [a, b, c] :=
  Or.inr ⟨_, _, Nat.zero_le _, rfl, fun k hk => by
    have h3 : k < 3 := by simpa using hk
    match k, h3 with
    | 0, _ => simp [go_sem]
    | 1, _ => simp [go_sem]
    | 2, _ => simp [go_sem]⟩
theorem ualloc0 (w : World) (o o2 : Obj) : ((w.alloc o).alloc o2).drew.heap[w.heap.size]? = some o := (Below.heap_alloc (w.alloc o) o2 _ (by simp)).trans (heap_alloc_new w o)
theorem ualloc1 (w : World) (o o2 : Obj) : ((w.alloc o).alloc o2).drew.heap[w.heap.size + 1]? = some o2 := by
  have := heap_alloc_new (w.alloc o) o2
  rw [World.size_alloc] at this
  exact this
theorem wp_appk {P : Program} {o : Oper} {a : Act} {w : World} {K : Act → World → Prop} {Q : Exit → Act → World → Prop} (s x : Operand) (t : TypeId)
    (ho : o.op = .call { callee := .builtin .append, args := #[s, x], argTypes := #[t, t] }) (v u : Value) (hs : a.eval s = v) (hx : a.eval x = u) {v' : Value} {w' : World}
    (hr : (Builtin.append_ #[t, t] o.type #[v, u]).run P w = .ok v' w') (h : K (a.put o.dst v') w') : o.wp P a w K Q := by
  unfold Oper.wp execOp
  simp only [ho, resolve, invoke, builtin, Sem.run_bind, Sem.run_pure, Result.andThen_ok, List.map_toArray, List.map_cons, List.map_nil, hs, hx, hr]
  exact h
/-- a change is appended to a row of one's own -/
theorem app_ch (W : World) (base : Nat) (v : Value) (xs : List ChE) (hown : W.ownsRow base 87 3 v xs.length (chCells xs)) (hb : base ≤ W.heap.size) (hl : xs.length ≤ 8388608) (a b : Value) (g : Bool) (ha : a.oneCell' = true) (hbo : b.oneCell' = true) (c : ChM) (hg : c.gone = g) :
    ∃ v' W2, (Builtin.append_ #[40, 40] 40 #[v, .slice (some ⟨W.heap.size, 0, none⟩) 1 1]).run Tryz.prog (W.alloc (.cells #[a, b, .bool g] 87)).drew = .ok v' W2 ∧
      W2.ownsRow base 87 3 v' (xs ++ [(c, a, b)]).length (chCells (xs ++ [(c, a, b)])) ∧ Below base W W2 := by
  obtain ⟨iI, hiI, hz0, hz1, hz2⟩ := info_ch
  have hbn : Below W.heap.size W (W.alloc (.cells #[a, b, .bool g] 87)).drew := (bnew W _).drew
  have hown1 := own_below hown hbn
  obtain ⟨v', W2, happ, hown', hgrow', hblk'⟩ := run_append_rd (P := Tryz.prog) (W.alloc (.cells #[a, b, .bool g] 87)).drew base 40 40 87 iI _ 3 56 Tryz.underlying40 hiI hz0 hz1 hz2 rfl (by decide) v xs.length (chCells xs)
    hown1 0 (some ⟨W.heap.size, 0, none⟩) 1 1 [a, b, .bool g] rfl (rd_three W _ a b (.bool g)).drew (by
      intro u hu
      simp only [List.mem_cons, List.not_mem_nil, or_false] at hu
      rcases hu with rfl | rfl | rfl
      · exact ha
      · exact hbo
      · rfl) (by unfold maxLen; omega) (by omega) (by simp [World.drew]; omega) (fun h => by cases h)
  refine ⟨v', W2, happ, ?_, ?_⟩
  · rw [chCells_append, List.length_append]
    subst hg
    exact hown'
  · exact (hbn.mono hb).trans (own_belw hown1 hgrow' (Nat.le_refl _) (by simp [World.drew]; omega))

set_option maxRecDepth 100000 in
set_option maxHeartbeats 1000000 in
theorem kown_c (A : Option Addr) (n cap : Nat) (l : List ChE) (hn : n = l.length) (hm : n ≤ 1048576) (w : World) (hr : Rd 0 w A (chCells l)) (he : ChEach w l) :
    Calls Tryz.prog 22 #[.slice A n cap] w fun e w' => ∃ v, e = .returned v ∧ w'.ownsRow w.heap.size 87 3 v l.length (chCells l) ∧ Below w.heap.size w w' := by
  have HR := Lib.hid (And.intro hr (And.intro he hn)); clear hr he hn
  go_enter Tryz.func22, Tryz.ntmps22
  go_wp2_with fail
  go_loopw [3, 4] (fun v i W => ∃ k : Nat, k ≤ n ∧ i = .int .i64 k ∧ Hid (W.ownsRow w.heap.size 87 3 v (l.take k).length (chCells (l.take k))) ∧ Below w.heap.size w W) (fun _ i _ => n - (intOf i).toNat)
  case atStart => exact ⟨0, by omega, rfl, Lib.hid (World.ownsRow_nil _ _ _ _), Below.refl _ _⟩
  case round =>
    obtain ⟨k, hk, rfl, HO, hB⟩ := hrel
    by_cases hlt : k < n
    · have hkd : decide ((k : Int) < (n : Int)) = true := by simpa using hlt
      have hkl : k < l.length := by rw [← HR.out.2.2]; exact hlt
      obtain ⟨b, o, hb, hcell⟩ := HR.out.1.addr (by rw [chCells_length]; omega)
      obtain ⟨g0, g1, g2⟩ := chCells_get l k hkl
      have q0 := (hcell (k * 3) (by rw [chCells_length]; omega)).trans g0
      have q1 := (hcell (k * 3 + 1) (by rw [chCells_length]; omega)).trans g1
      have q2 := (hcell (k * 3 + 2) (by rw [chCells_length]; omega)).trans g2
      rw [← Nat.add_assoc] at q1 q2
      obtain ⟨A1, c1, A2, c2, e1, e2⟩ := HR.out.2.1.slice hkl
      obtain ⟨x, hx⟩ : ∃ x, l[k] = x := ⟨_, rfl⟩
      rw [hx] at q0 q1 q2 e1 e2
      obtain ⟨cm, v1, v2⟩ := x
      simp only at q0 q1 q2 e1 e2
      obtain ⟨k1, hk1⟩ : ∃ x, cm.key.length = x := ⟨_, rfl⟩
      obtain ⟨k2, hk2⟩ : ∃ x, cm.val.length = x := ⟨_, rfl⟩
      obtain ⟨gn, hgn⟩ : ∃ x, cm.gone = x := ⟨_, rfl⟩
      rw [hk1] at e1
      rw [hk2] at e2
      rw [hgn] at q2
      subst e1 e2 hb
      have htk : l.take (k + 1) = l.take k ++ [(cm, .slice A1 k1 c1, .slice A2 k2 c2)] := by rw [List.take_succ_eq_append_getElem hkl, hx]
      have w0 := q0
      have w1 := q1
      have w2 := q2
      replace q0 := (hB.cell (cell_lt q0)).trans q0
      replace q1 := (hB.cell (cell_lt q1)).trans q1
      replace q2 := (hB.cell (cell_lt q2)).trans q2
      obtain ⟨v', W2, happ, hown', hb2⟩ := app_ch wr w.heap.size _ (l.take k) HO.out hB.size (by rw [List.length_take]; omega) (.slice A1 k1 c1) (.slice A2 k2 c2) gn rfl rfl cm hgn
      have hB2 : Below w.heap.size w W2 := hB.trans hb2
      have r0 := (hB2.cell (cell_lt w0)).trans w0
      have r1 := (hB2.cell (cell_lt w1)).trans w1
      have r2 := (hB2.cell (cell_lt w2)).trans w2
      have HAPP := Lib.hid happ
      have HN := Lib.hid (And.intro hown' (And.intro hB2 htk)); clear happ hown' hb2 hB2 htk w0 w1 w2 hcell g0 g1 g2 hx hk1 hk2 hgn hB
      go_wp2_with fail
      refine wp_region_held_drew (S := (fun W => W.cell? ⟨b, o + k * 3, none⟩ = some (.slice A1 k1 c1) ∧ W.cell? ⟨b, o + k * 3 + 1, none⟩ = some (.slice A2 k2 c2) ∧ W.cell? ⟨b, o + k * 3 + 2, none⟩ = some (.bool gn))) (by kernel_rfl) ?_ (fun hHeld => ?_)
      · (try dsimp only); (first | (refine ⟨?_, ?_, ?_⟩ <;> assumption) | go_keep)
      refine wpAnyH_take (i := 0) (v := ?_) rfl (by kernel_rfl) (by kernel_rfl) (by kernel_rfl) (fun _ _ _ h => h) (Or.inl ⟨by rfl, ?_⟩) hHeld ?_
      rotate_left
      · intro w hSw; (try dsimp only at hSw); go_simp; (try with_reducible rfl)
      (try simp only [Act.put, List.getElem_toArray, List.getElem_cons_succ, List.getElem_cons_zero, List.setIfInBounds_toArray, List.set_cons_zero, List.set_cons_succ])
      refine wpAnyH_take (i := 1) (v := ?_) rfl (by kernel_rfl) (by kernel_rfl) (by kernel_rfl) (fun _ _ _ h => h) (Or.inl ⟨by rfl, ?_⟩) hHeld ?_
      rotate_left
      · intro w hSw; (try dsimp only at hSw); go_simp; (try with_reducible rfl)
      (try simp only [Act.put, List.getElem_toArray, List.getElem_cons_succ, List.getElem_cons_zero, List.setIfInBounds_toArray, List.set_cons_zero, List.set_cons_succ])
      refine wpAnyH_take (i := 2) (v := ?_) rfl (by kernel_rfl) (by kernel_rfl) (by kernel_rfl) (fun _ _ _ h => h) (Or.inl ⟨by rfl, ?_⟩) hHeld ?_
      rotate_left
      · intro w hSw; (try dsimp only at hSw); go_simp; (try with_reducible rfl)
      (try simp only [Act.put, List.getElem_toArray, List.getElem_cons_succ, List.getElem_cons_zero, List.setIfInBounds_toArray, List.set_cons_zero, List.set_cons_succ])
      refine wpAnyH_take (i := 3) (v := ?_) rfl (by kernel_rfl) (by kernel_rfl) (by kernel_rfl) (fun _ _ _ h => h) (Or.inl ⟨by rfl, ?_⟩) hHeld ?_
      rotate_left
      · intro w hSw; (try dsimp only at hSw); go_simp; (try with_reducible rfl)
      (try simp only [Act.put, List.getElem_toArray, List.getElem_cons_succ, List.getElem_cons_zero, List.setIfInBounds_toArray, List.set_cons_zero, List.set_cons_succ])
      refine wpAnyH_take (i := 4) (v := ?_) rfl (by kernel_rfl) (by kernel_rfl) (by kernel_rfl) (fun _ _ _ h => h) (Or.inl ⟨by rfl, ?_⟩) hHeld ?_
      rotate_left
      · intro w hSw; (try dsimp only at hSw); go_simp; (try with_reducible rfl)
      (try simp only [Act.put, List.getElem_toArray, List.getElem_cons_succ, List.getElem_cons_zero, List.setIfInBounds_toArray, List.set_cons_zero, List.set_cons_succ])
      refine wpAnyH_take (i := 5) (v := ?_) rfl (by kernel_rfl) (by kernel_rfl) (by kernel_rfl) (fun _ _ _ h => h) (Or.inl ⟨by rfl, ?_⟩) hHeld ?_
      rotate_left
      · intro w hSw; (try dsimp only at hSw); go_simp; (try with_reducible rfl)
      (try simp only [Act.put, List.getElem_toArray, List.getElem_cons_succ, List.getElem_cons_zero, List.setIfInBounds_toArray, List.set_cons_zero, List.set_cons_succ])
      refine wpAnyH_take (i := 6) (v := ?_) rfl (by kernel_rfl) (by kernel_rfl) (by kernel_rfl) (fun _ _ _ h => h) (Or.inl ⟨by rfl, ?_⟩) hHeld ?_
      rotate_left
      · intro w hSw; (try dsimp only at hSw); go_simp; (try with_reducible rfl)
      (try simp only [Act.put, List.getElem_toArray, List.getElem_cons_succ, List.getElem_cons_zero, List.setIfInBounds_toArray, List.set_cons_zero, List.set_cons_succ])
      refine wpAnyH_take (i := 7) (v := ?_) rfl (by kernel_rfl) (by kernel_rfl) (by kernel_rfl) (fun _ _ _ h => h) (Or.inl ⟨by rfl, ?_⟩) hHeld ?_
      rotate_left
      · intro w hSw; (try dsimp only at hSw); go_simp; (try with_reducible rfl)
      (try simp only [Act.put, List.getElem_toArray, List.getElem_cons_succ, List.getElem_cons_zero, List.setIfInBounds_toArray, List.set_cons_zero, List.set_cons_succ])
      refine wpAnyH_take (i := 8) (v := ?_) rfl (by kernel_rfl) (by kernel_rfl) (by kernel_rfl) (fun _ _ _ h => h) (Or.inl ⟨by rfl, ?_⟩) hHeld ?_
      rotate_left
      · intro w hSw; (try dsimp only at hSw); go_simp; (try with_reducible rfl)
      (try simp only [Act.put, List.getElem_toArray, List.getElem_cons_succ, List.getElem_cons_zero, List.setIfInBounds_toArray, List.set_cons_zero, List.set_cons_succ])
      refine wpAnyH_take (i := 9) (v := ?_) rfl (by kernel_rfl) (by kernel_rfl) (by kernel_rfl) (fun _ _ _ h => h) (Or.inl ⟨by rfl, ?_⟩) hHeld ?_
      rotate_left
      · intro w hSw; (try dsimp only at hSw); go_simp; (try with_reducible rfl)
      (try simp only [Act.put, List.getElem_toArray, List.getElem_cons_succ, List.getElem_cons_zero, List.setIfInBounds_toArray, List.set_cons_zero, List.set_cons_succ])
      refine wpAnyH_take (i := 10) (v := ?_) rfl (by kernel_rfl) (by kernel_rfl) (by kernel_rfl) (fun _ _ _ h => h) (Or.inl ⟨by rfl, ?_⟩) hHeld ?_
      rotate_left
      · intro w hSw; (try dsimp only at hSw); go_simp; (try with_reducible rfl)
      (try simp only [Act.put, List.getElem_toArray, List.getElem_cons_succ, List.getElem_cons_zero, List.setIfInBounds_toArray, List.set_cons_zero, List.set_cons_succ])
      refine wpAnyH_take (i := 11) (v := ?_) rfl (by kernel_rfl) (by kernel_rfl) (by kernel_rfl) (fun _ _ _ h => h) (Or.inl ⟨by rfl, ?_⟩) hHeld ?_
      rotate_left
      · intro w hSw; (try dsimp only at hSw); go_simp; (try with_reducible rfl)
      (try simp only [Act.put, List.getElem_toArray, List.getElem_cons_succ, List.getElem_cons_zero, List.setIfInBounds_toArray, List.set_cons_zero, List.set_cons_succ])
      refine wpAnyH_take (i := 12) (v := ?_) rfl (by kernel_rfl) (by kernel_rfl) (by kernel_rfl) (fun _ _ _ h => h) (Or.inl ⟨by rfl, ?_⟩) hHeld ?_
      rotate_left
      · intro w hSw; (try dsimp only at hSw); go_simp; (try with_reducible rfl)
      (try simp only [Act.put, List.getElem_toArray, List.getElem_cons_succ, List.getElem_cons_zero, List.setIfInBounds_toArray, List.set_cons_zero, List.set_cons_succ])
      refine wpAnyH_take (i := 13) (v := ?_) rfl (by kernel_rfl) (by kernel_rfl) (by kernel_rfl) (fun _ _ _ h => h) (Or.inl ⟨by rfl, ?_⟩) hHeld ?_
      rotate_left
      · intro w hSw; (try dsimp only at hSw); go_simp; (try with_reducible rfl)
      (try simp only [Act.put, List.getElem_toArray, List.getElem_cons_succ, List.getElem_cons_zero, List.setIfInBounds_toArray, List.set_cons_zero, List.set_cons_succ])
      refine wpAnyH_take (i := 14) (v := ?_) rfl (by kernel_rfl) (by kernel_rfl) (by kernel_rfl) (fun _ _ _ h => h) (Or.inl ⟨by rfl, ?_⟩) hHeld ?_
      rotate_left
      · intro w hSw; (try dsimp only at hSw); go_simp; (try with_reducible rfl)
      (try simp only [Act.put, List.getElem_toArray, List.getElem_cons_succ, List.getElem_cons_zero, List.setIfInBounds_toArray, List.set_cons_zero, List.set_cons_succ])
      refine wpAnyH_take (i := 15) (v := ?_) rfl (by kernel_rfl) (by kernel_rfl) (by kernel_rfl) (fun _ _ _ h => h) (Or.inl ⟨by rfl, ?_⟩) hHeld ?_
      rotate_left
      · intro w hSw; (try dsimp only at hSw); go_simp; (try with_reducible rfl)
      (try simp only [Act.put, List.getElem_toArray, List.getElem_cons_succ, List.getElem_cons_zero, List.setIfInBounds_toArray, List.set_cons_zero, List.set_cons_succ])
      refine wpAnyH_ready (rs := [16]) (by kernel_rfl) (by simp) ?_
      refine (AllReadyH.cons rfl (fun K hK => ?_) AllReadyH.nil)
      go_simp
      refine hK.out _ _ ?_ (fun hHeld2 => ?_)
      · (try dsimp only); (first | (refine ⟨?_, ?_, ?_⟩ <;> assumption) | go_keep)
      clear hK K hHeld
      rename _ => hHeld
      (try simp only [Act.put, List.getElem_toArray, List.getElem_cons_succ, List.getElem_cons_zero, List.setIfInBounds_toArray, List.set_cons_zero, List.set_cons_succ])
      refine wpAnyH_ready (rs := [17]) (by kernel_rfl) (by simp) ?_
      refine (AllReadyH.cons rfl (fun K hK => ?_) AllReadyH.nil)
      go_simp
      refine hK.out _ _ ?_ (fun hHeld2 => ?_)
      · (try dsimp only); (first | (refine ⟨?_, ?_, ?_⟩ <;> assumption) | go_keep)
      clear hK K hHeld
      rename _ => hHeld
      (try simp only [Act.put, List.getElem_toArray, List.getElem_cons_succ, List.getElem_cons_zero, List.setIfInBounds_toArray, List.set_cons_zero, List.set_cons_succ])
      refine wpAnyH_ready (rs := [18]) (by kernel_rfl) (by simp) ?_
      refine (AllReadyH.cons rfl (fun K hK => ?_) AllReadyH.nil)
      refine wp_appk _ _ _ rfl _ _ rfl rfl HAPP.out ?_
      refine hK.out _ _ ?_ (fun hHeld2 => ?_)
      · (try dsimp only); (first | (refine ⟨?_, ?_, ?_⟩ <;> assumption) | go_keep)
      clear hK K hHeld
      rename _ => hHeld
      (try simp only [Act.put, List.getElem_toArray, List.getElem_cons_succ, List.getElem_cons_zero, List.setIfInBounds_toArray, List.set_cons_zero, List.set_cons_succ])
      refine wpAnyH_ready (rs := [19]) (by kernel_rfl) (by simp) ?_
      refine (AllReadyH.cons rfl (fun K hK => ?_) AllReadyH.nil)
      go_simp
      refine hK.out _ _ ?_ (fun hHeld2 => ?_)
      · (try dsimp only); (first | (refine ⟨?_, ?_, ?_⟩ <;> assumption) | go_keep)
      clear hK K hHeld
      rename _ => hHeld
      (try simp only [Act.put, List.getElem_toArray, List.getElem_cons_succ, List.getElem_cons_zero, List.setIfInBounds_toArray, List.set_cons_zero, List.set_cons_succ])
      refine wpAnyH_done (by kernel_rfl) ?_ _
      clear hHeld
      rotate_left 1
      go_wp2_with fail
      exact ⟨⟨k + 1, by omega, rfl, Lib.hid (by rw [HN.out.2.2]; exact HN.out.1), HN.out.2.1⟩, by simp [intOf]; omega⟩
    · obtain rfl : k = n := by omega
      have hkd : decide ((k : Int) < (k : Int)) = false := by simp
      have HB := Lib.hid hB; clear hB
      have hall : l.take k = l := List.take_of_length_le (by rw [HR.out.2.2]; omega)
      have HO2 := HO.out
      rw [hall] at HO2
      have HO3 := Lib.hid HO2; clear HO2 HO hall
      go_wp2_with fail
      go_ret
      exact ⟨_, rfl, HO3.out, HB.out⟩
end Go.Proofs.YtnljhabpcoiihaaGreatDoor
