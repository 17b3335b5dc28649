/- The store's write and Put. -/
import Derived.Test.YtnljhabpcoiihaaGreatDoorKvD
import Derived.Test.YtnljhabpcoiihaaGreatDoorKvB
import Derived.Test.YtnljhabpcoiihaaGreatDoorKvC
import Derived.Test.YtnljhabpcoiihaaGreatDoorLApp
import Derived.Test.YtnljhabpcoiihaaGreatDoorLog
set_option linter.all false
namespace Go.Proofs.YtnljhabpcoiihaaGreatDoor
open Go.RowKit

/-- a store -/
structure StoX (n : Nat) (w : World) (bs bl bd bm : Nat) (D : DiskM) (G : LogM) (m : KvM) (br : Bool) : Prop where
  le : n ≤ bs ∧ n ≤ bm
  at_ : w.heap[bs]? = some (.cells #[.pointer (some ⟨bl, 0, none⟩), .map (some bm), .bool br] 106 (0, 0))
  log : LogR n w bl bd G
  disk : DiskR n w bd D
  map : MapS w bm m
  ne : bm ≠ D.mp ∧ D.pm ≠ some bm
theorem StoX.below {n : Nat} {w w' : World} {bs bl bd bm : Nat} {D : DiskM} {G : LogM} {m : KvM} {br : Bool} (h : StoX n w bs bl bd bm D G m br) (hb : Below w.heap.size w w') : StoX n w' bs bl bd bm D G m br :=
  ⟨h.le, (hb.block _ (heap_lt h.at_)).trans h.at_, h.log.below hb, h.disk.below hb, h.map.below hb, h.ne⟩

theorem StoX.mark {n : Nat} {w : World} {bs bl bd bm : Nat} {D : DiskM} {G : LogM} {m : KvM} {br : Bool} (h : StoX n w bs bl bd bm D G m br) (b : Bool) : StoX n (w.setCell ⟨bs, 2, none⟩ (.bool b)) bs bl bd bm D G m b := by
  have hk : ∀ (x : Nat) (o : Obj), w.heap[x]? = some o → tagOf o ≠ some 106 → (w.setCell ⟨bs, 2, none⟩ (.bool b)).heap[x]? = some o := fun x o hx ht =>
    heap_setCell_ne hx (by rintro rfl; rw [h.at_] at hx; cases hx; exact ht rfl)
  refine ⟨h.le, by rw [Joins.block_setCell h.at_]; rfl, h.log.keeps fun x o hx ht => hk x o hx (by rcases ht with ht | ht | ht | ht <;> rw [ht] <;> simp), h.disk.keeps fun x o hx ht => hk x o hx (by rcases ht with ht | ht | ht | ht <;> rw [ht] <;> simp), h.map.keeps (fun o ho => hk _ _ ho ?_) fun x o hx ht => hk x o hx (by rw [ht]; simp), h.ne⟩
  obtain ⟨c, xs, hX, _⟩ := h.map
  rw [hX.at_] at ho; cases ho; simp [tagOf]

def LogM.write (D : DiskM) (G : LogM) (b : List UInt8) : DiskM × LogM × Int :=
  if (LogM.append D G b).2.2 = 0 then LogM.sync (LogM.append D G b).1 (LogM.append D G b).2.1 else LogM.append D G b
theorem dsync_mp (D : DiskM) (s : List UInt8) : (D.sync s).1.mp = D.mp := by
  have h := step_mp D (dnameB s)
  unfold DiskM.sync
  repeat' split
  all_goals exact h
theorem lsync_mp (D : DiskM) (G : LogM) : (LogM.sync D G).1.mp = D.mp := by
  unfold LogM.sync
  repeat' split
  all_goals first | rfl | exact dsync_mp _ _
theorem lapp_mp (D : DiskM) (G : LogM) (b : List UInt8) : (LogM.append D G b).1.mp = D.mp := by
  unfold LogM.append
  repeat' split
  all_goals first | rfl | exact lay_mp _ _ _ _ _ | exact lsync_mp _ _ | exact (lay_mp _ _ _ _ _).trans (lsync_mp _ _)
theorem dsync_pm (D : DiskM) (s : List UInt8) : (D.sync s).1.pm = D.pm := by
  have h := step_pm D (dnameB s)
  unfold DiskM.sync
  repeat' split
  all_goals exact h
theorem append_pm (D : DiskM) (s l : List UInt8) : (D.append s l).1.pm = D.pm := by
  have h := step_pm D (dnameB s)
  unfold DiskM.append
  repeat' split
  all_goals exact h
theorem lay_pm (D : DiskM) (G : LogM) (p : Option PartM) (nx : PartM) (b : List UInt8) : (LogM.lay D G p nx b).1.pm = D.pm := by
  unfold LogM.lay
  split
  · exact append_pm _ _ _
  · exact append_pm _ _ _
theorem lsync_pm (D : DiskM) (G : LogM) : (LogM.sync D G).1.pm = D.pm := by
  unfold LogM.sync
  repeat' split
  all_goals first | rfl | exact dsync_pm _ _
theorem lapp_pm (D : DiskM) (G : LogM) (b : List UInt8) : (LogM.append D G b).1.pm = D.pm := by
  unfold LogM.append
  repeat' split
  all_goals first | rfl | exact lay_pm _ _ _ _ _ | exact lsync_pm _ _ | exact (lay_pm _ _ _ _ _).trans (lsync_pm _ _)
/-- a map of no disk's is turned -/
theorem DiskR.grown {n : Nat} {w w' : World} {bd bm : Nat} {D : DiskM} (h : DiskR n w bd D) (hg : w.grownBy w' (some bm)) (h1 : bm ≠ D.mp ∧ D.pm ≠ some bm) (h3 : ∃ o, w.heap[bm]? = some o ∧ tagOf o = none) : DiskR n w' bd D := by
  obtain ⟨m', clock, pv, xs, hX⟩ := h
  have hk : ∀ (b : Nat) (o : Obj), w.heap[b]? = some o → b ≠ bm → w'.heap[b]? = some o := fun b o hb hne => (hg.block b (heap_lt hb) (by simp; omega)).trans hb
  have hkt : ∀ (b : Nat) (o : Obj), w.heap[b]? = some o → tagOf o ≠ none → w'.heap[b]? = some o := fun b o hb ht => hk b o hb (by
    rintro rfl
    obtain ⟨o', h4, h5⟩ := h3
    rw [hb] at h4; cases h4; exact ht h5)
  refine ⟨m', clock, pv, xs, hX.le, hkt _ _ hX.at_ (by simp [tagOf]), ?_, hX.files.keeps (fun o ho => hk _ o ho (by rw [← hX.apart.2.1]; exact Ne.symm h1.1)) (fun x hx o ho => hkt _ o ho (by obtain ⟨_, v, h2, _⟩ := hX.files.each x hx; rw [ho] at h2; injection h2 with h2; subst h2; simp [tagOf])) (fun b o hb ht => hkt b o hb (by rw [ht]; simp)), hX.same, hX.fits, hX.apart⟩
  rcases hX.plan with h | ⟨bp, es, c, rfl, hn, hb, hl⟩
  · exact .inl h
  · refine .inr ⟨bp, es, c, rfl, hn, hk _ _ hb ?_, hl⟩
    rintro rfl
    have h5 := hX.apart.2.2
    injection h5 with h5
    exact h1.2 h5.symm
theorem StoX.grown {n : Nat} {w w' : World} {bs bl bd bm : Nat} {D : DiskM} {G : LogM} {m m' : KvM} {br : Bool} (h : StoX n w bs bl bd bm D G m br) (hg : w.grownBy w' (some bm)) (hM : MapS w' bm m') : StoX n w' bs bl bd bm D G m' br := by
  have hbm : ∃ o, w.heap[bm]? = some o ∧ tagOf o = none := by obtain ⟨_, _, hX, _⟩ := h.map; exact ⟨_, hX.at_, rfl⟩
  have hkt : ∀ (b : Nat) (o : Obj), w.heap[b]? = some o → tagOf o ≠ none → w'.heap[b]? = some o := fun b o hb ht => (hg.block b (heap_lt hb) (by
    intro e
    simp only [Option.some.injEq] at e
    subst e
    obtain ⟨o', h4, h5⟩ := hbm
    rw [hb] at h4; cases h4; exact ht h5)).trans hb
  exact ⟨h.le, hkt _ _ h.at_ (by simp [tagOf]), h.log.keeps fun b o hb ht => hkt b o hb (by rcases ht with ht | ht | ht | ht <;> rw [ht] <;> simp), h.disk.grown hg h.ne hbm, hM, h.ne⟩
theorem StoX.turn {n : Nat} {T : List (Option TypeId)} {w a w' : World} {bs bl bd bm : Nat} {D : DiskM} {G : LogM} {m : KvM} {br : Bool} (h : StoX n w bs bl bd bm D G m br) (ht : Turn n T a w) (hT : none ∈ T) (hg : w.grownBy w' (some bm)) : Turn n T a w' := by
  refine ht.grown hg fun r hr => ?_
  cases hr
  refine ⟨h.le.2, fun o ho => ?_⟩
  obtain ⟨_, _, hX, _⟩ := h.map
  rw [hX.at_] at ho; cases ho; exact hT
theorem wp_bytes {w : World} {o : Oper} {a : Act} {K : Act → World → Prop} {Q : Exit → Act → World → Prop} (s x : Operand)
    (ho : o.op = .call { callee := .builtin .append, args := #[s, x], argTypes := #[29, 29] }) (base : Nat) (v : Value) (n : Nat) (pre : List UInt8) (hs : a.eval s = v)
    (hown : w.ownsRow base 5 1 v n (bytesV pre)) (hb : base ≤ w.heap.size) (A : Option Addr) (m c : Nat) (l : List UInt8) (hx : a.eval x = .slice A m c) (hm : m = l.length) (hr : Rd 0 w A (bytesV l)) (hsz : n + m ≤ 140737488355328)
    (h : ∀ (g : Option Addr) (cp : Nat) (w' : World), w'.ownsRow base 5 1 (.slice g (n + m) cp) (n + m) (bytesV (pre ++ l)) → Turn base [some 5] w w' → Below base w w' → K (a.put o.dst (.slice g (n + m) cp)) w') : o.wp Tryz.prog a w K Q := by
  obtain ⟨i0, hi0, hz0, hz1, hz2⟩ := info8
  refine wp_append_rd w s x 29 ho base 5 i0 _ 1 1 Tryz.underlying29 hi0 hz0 hz1 hz2 rfl (by decide) v n (bytesV pre) hs hown 0 A m c (bytesV l) hx (by rw [bytesV_length]; omega) hr (bytesV_one _) (by unfold maxLen; omega) (by omega) hb ?_ ?_
  · intro h; have := hr.none_len h; rw [hm, ← bytesV_length, this]; rfl
  · intro v' w' hown' hgrow' hblk'
    rw [← bytesV_append] at hown'
    obtain ⟨g, cp, rfl, -, -, -⟩ := own_slice hown'
    exact h g cp w' hown' (own_turnd hown hgrow') (own_belw hown hgrow' (Nat.le_refl _) hb)
/-- the types that a store's write turns -/
abbrev TSt : List (Option TypeId) := [some 86, none, some 91, some 143, some 159, some 29, some 106]

set_option maxRecDepth 100000 in
set_option maxHeartbeats 2000000 in
theorem write_c (n bs bl bd bm : Nat) (D : DiskM) (G : LogM) (m : KvM) (br : Bool) (x : UInt8) (A : Option Addr) (nb cap : Nat) (b : List UInt8) (hm : nb ≤ 140737488000000) (w : World) (hS : StoX n w bs bl bd bm D G m br) (hg : Glob n w) (hn : n ≤ w.heap.size) (hb : Bn n w (.slice A nb cap) b) (hnb : nb = b.length)
    (hfr : ∀ p ∈ G.parts, (0 ≤ p.frm ∧ p.frm ≤ 9223372036854775807) ∧ p.many ≤ 1099511627776 ∧ p.size ≤ 1099511627776) (hfew : G.recs.length ≤ 549755813888 ∧ G.parts.length ≤ 549755813888)
    (hfr2 : ∀ p ∈ (LogM.append D G (x :: b)).2.1.parts, 0 ≤ p.frm ∧ p.frm ≤ 9223372036854775807) :
    Calls Tryz.prog 56 #[.pointer (some ⟨bs, 0, none⟩), .int .u8 (x.toNat : Int), .slice A nb cap] w fun e w' => e = .returned (.int .i64 (LogM.write D G (x :: b)).2.2) ∧
      StoX n w' bs bl bd bm (LogM.write D G (x :: b)).1 (LogM.write D G (x :: b)).2.1 m (decide ((LogM.write D G (x :: b)).2.2 ≠ 0)) ∧ Turn n TSt w w' := by
  obtain ⟨R, hR⟩ : ∃ R, LogM.write D G (x :: b) = R := ⟨_, rfl⟩
  rw [hR]
  unfold LogM.write at hR
  have hmp1 := lapp_mp D G (x :: b)
  have q0 := Joins.cell_of_block hS.at_ 0
  simp at q0
  have HR := Lib.hid (And.intro hS (And.intro hg (And.intro hn (And.intro hb (And.intro hnb (And.intro hfr (And.intro hfew hfr2))))))); clear hS hg hn hb hnb hfr hfew hfr2
  have HRR := Lib.hid (And.intro hR hmp1); clear hR hmp1
  go_enter Tryz.func56, Tryz.ntmps56
  go_wp2_with fail
  refine wp_region_held_drew (S := (fun W => W.cell? ⟨bs, 0, none⟩ = some (.pointer (some ⟨bl, 0, none⟩)))) (by kernel_rfl) ?_ (fun hHeld => ?_)
  · (first | assumption | go_keep)
  refine wpAnyH_take (i := 0) (v := ?_) rfl (by kernel_rfl) (by kernel_rfl) (by kernel_rfl) (fun _ _ _ h => h) (Or.inl ⟨by rfl, ?_⟩) hHeld ?_
  rotate_left
  · intro w hSw; (try dsimp only at hSw); go_simp; (try with_reducible rfl)
  (try simp only [Act.put, List.getElem_toArray, List.getElem_cons_succ, List.getElem_cons_zero, List.setIfInBounds_toArray, List.set_cons_zero, List.set_cons_succ])
  refine wpAnyH_take (i := 1) (v := ?_) rfl (by kernel_rfl) (by kernel_rfl) (by kernel_rfl) (fun _ _ _ h => h) (Or.inl ⟨by rfl, ?_⟩) hHeld ?_
  rotate_left
  · intro w hSw; (try dsimp only at hSw); go_simp; (try with_reducible rfl)
  (try simp only [Act.put, List.getElem_toArray, List.getElem_cons_succ, List.getElem_cons_zero, List.setIfInBounds_toArray, List.set_cons_zero, List.set_cons_succ])
  refine wpAnyH_take (i := 2) (v := ?_) rfl (by kernel_rfl) (by kernel_rfl) (by kernel_rfl) (fun _ _ _ h => h) (Or.inl ⟨by rfl, ?_⟩) hHeld ?_
  rotate_left
  · intro w hSw; (try dsimp only at hSw); go_simp; (try with_reducible rfl)
  (try simp only [Act.put, List.getElem_toArray, List.getElem_cons_succ, List.getElem_cons_zero, List.setIfInBounds_toArray, List.set_cons_zero, List.set_cons_succ])
  refine wpAnyH_take (i := 3) (v := ?_) rfl (by kernel_rfl) (by kernel_rfl) (by kernel_rfl) (fun _ _ _ h => h) (Or.inl ⟨by rfl, ?_⟩) hHeld ?_
  rotate_left
  · intro w hSw; (try dsimp only at hSw); go_simp; (try with_reducible rfl)
  (try simp only [Act.put, List.getElem_toArray, List.getElem_cons_succ, List.getElem_cons_zero, List.setIfInBounds_toArray, List.set_cons_zero, List.set_cons_succ])
  refine wpAnyH_take (i := 4) (v := ?_) rfl (by kernel_rfl) (by kernel_rfl) (by kernel_rfl) (fun _ _ _ h => h) (Or.inl ⟨by rfl, ?_⟩) hHeld ?_
  rotate_left
  · intro w hSw; (try dsimp only at hSw); go_simp; (try with_reducible rfl)
  (try simp only [Act.put, List.getElem_toArray, List.getElem_cons_succ, List.getElem_cons_zero, List.setIfInBounds_toArray, List.set_cons_zero, List.set_cons_succ])
  refine wpAnyH_take (i := 6) (v := ?_) rfl (by kernel_rfl) (by kernel_rfl) (by kernel_rfl) (fun _ _ _ h => h) (Or.inl ⟨by rfl, ?_⟩) hHeld ?_
  rotate_left
  · intro w hSw; (try dsimp only at hSw); go_simp; (try with_reducible rfl)
  (try simp only [Act.put, List.getElem_toArray, List.getElem_cons_succ, List.getElem_cons_zero, List.setIfInBounds_toArray, List.set_cons_zero, List.set_cons_succ])
  refine wpAnyH_ready (rs := [5]) (by kernel_rfl) (by simp) ?_
  refine (AllReadyH.cons rfl (fun K hK => ?_) AllReadyH.nil)
  go_simp
  obtain ⟨V1, hV1⟩ : ∃ V, V = (w.alloc (.cells #[.int .u8 (x.toNat : Int)] 5)).drew := ⟨_, rfl⟩
  rw [← hV1]
  have hB1 : Below w.heap.size w V1 := by rw [hV1]; exact (bnew _ _).drew
  have own1 : V1.ownsRow w.heap.size 5 1 (.slice (some ⟨w.heap.size, 0, none⟩) 1 1) 1 (bytesV [x]) := by rw [hV1]; exact own_new w 5 #[.int .u8 (x.toNat : Int)] 1 rfl (by simp [maxLen])
  have cq1 := (hB1.cell (p := ⟨bs, 0, none⟩) (cell_lt q0)).trans q0
  clear hV1
  refine hK.out _ _ ?_ (fun hHeld2 => ?_)
  · exact cq1
  clear hK K hHeld
  rename _ => hHeld
  (try simp only [Act.put, List.getElem_toArray, List.getElem_cons_succ, List.getElem_cons_zero, List.setIfInBounds_toArray, List.set_cons_zero, List.set_cons_succ])
  refine wpAnyH_ready (rs := [7]) (by kernel_rfl) (by simp) ?_
  refine (AllReadyH.cons rfl (fun K hK => ?_) AllReadyH.nil)
  rw [if_pos (by rfl)]
  refine wp_bytes _ _ rfl w.heap.size (.slice (some ⟨w.heap.size, 0, none⟩) 1 1) 1 [x] rfl own1 hB1.size A nb cap b rfl HR.out.2.2.2.2.1 ((HR.out.2.2.2.1.below hB1).rd) (by omega) ?_
  intro g2 cp2 V2 own2 hT2 hB2'
  have hB2 : Below w.heap.size w V2 := hB1.trans hB2'
  have cq2 := (hB2.cell (p := ⟨bs, 0, none⟩) (cell_lt q0)).trans q0
  refine hK.out _ _ ?_ (fun hHeld2 => ?_)
  · exact cq2
  clear hK K hHeld
  rename _ => hHeld
  (try simp only [Act.put, List.getElem_toArray, List.getElem_cons_succ, List.getElem_cons_zero, List.setIfInBounds_toArray, List.set_cons_zero, List.set_cons_succ])
  refine wpAnyH_ready (rs := [8]) (by kernel_rfl) (by simp) ?_
  refine (AllReadyH.cons rfl (fun K hK => ?_) AllReadyH.nil)
  go_simp
  have hown9 : Bs 5 V2 (.slice g2 (1 + nb) cp2) (x :: b) := own_bs' own2 (by have := HR.out.2.2.2.2.1; simp; omega)
  refine (wapp_c n bl bd D G (x :: b) _ V2 (HR.out.1.disk.below hB2) (HR.out.1.log.below hB2) (HR.out.2.1.below (hB2.mono HR.out.2.2.1)) (Nat.le_trans HR.out.2.2.1 hB2.size) (hown9.bn n) HR.out.2.2.2.2.2.1 HR.out.2.2.2.2.2.2.1).mono ?_
  rintro e w3 ⟨rfl, hD3, hL3, hT3, hM3⟩
  have hat3 := hT3.block _ _ ((hB2.block _ (heap_lt HR.out.1.at_)).trans HR.out.1.at_) (.inr (by simp [tagOf]))
  have cq3 := Joins.cell_of_block hat3 0
  simp at cq3
  have H3 := Lib.hid (And.intro hD3 (And.intro hL3 (And.intro hT3 (And.intro hM3 (And.intro hat3 hB2))))); clear hD3 hL3 hT3 hM3 hat3 hown9 own1 own2 hT2 hB2'
  go_wp2_with fail
  refine hK.out _ _ ?_ (fun hHeld2 => ?_)
  · exact cq3
  clear hK K hHeld
  rename _ => hHeld
  (try simp only [Act.put, List.getElem_toArray, List.getElem_cons_succ, List.getElem_cons_zero, List.setIfInBounds_toArray, List.set_cons_zero, List.set_cons_succ])
  refine wpAnyH_take (i := 9) (v := ?_) rfl (by kernel_rfl) (by kernel_rfl) (by kernel_rfl) (fun _ _ _ h => h) (Or.inl ⟨by rfl, ?_⟩) hHeld ?_
  rotate_left
  · intro w hSw; (try dsimp only at hSw); go_simp; (try with_reducible rfl)
  (try simp only [Act.put, List.getElem_toArray, List.getElem_cons_succ, List.getElem_cons_zero, List.setIfInBounds_toArray, List.set_cons_zero, List.set_cons_succ])
  refine wpAnyH_done (by kernel_rfl) ?_ _
  clear hHeld
  obtain ⟨AP, hAP⟩ : ∃ R, LogM.append D G (x :: b) = R := ⟨_, rfl⟩
  have HAP := Lib.hid hAP
  rw [hAP]
  clear hAP
  have hS3 : StoX n w3 bs bl bd bm AP.1 AP.2.1 m br := by
    have h3 := H3.out
    rw [HAP.out] at h3
    obtain ⟨c, xs, hX, hkv⟩ := HR.out.1.map
    have hmpe : AP.1.mp = D.mp := by rw [← HAP.out]; exact HRR.out.2
    have hpme : AP.1.pm = D.pm := by rw [← HAP.out]; exact lapp_pm _ _ _
    refine ⟨HR.out.1.le, h3.2.2.2.2.1, h3.2.1, h3.1, (HR.out.1.map.below hB2).keeps (fun o ho => ?_) (fun x o hx ht => h3.2.2.1.block x o hx (.inr (by rw [ht]; simp))), by rw [hmpe, hpme]; exact HR.out.1.ne⟩
    have ho2 := (hB2.block _ (heap_lt hX.at_)).trans hX.at_
    refine h3.2.2.2.1 _ _ ho ?_ (by rw [hmpe]; exact HR.out.1.ne.1)
    rw [ho2] at ho; cases ho; rfl
  have hT3 : Turn n TSt w w3 := (Turn.of_below hB2).trans (H3.out.2.2.1.mono (Nat.le_refl _) (by simp [TSt]))
  have hg3 : Glob n w3 := HR.out.2.1.below (hT3.below HR.out.2.2.1)
  have hfr2 := HR.out.2.2.2.2.2.2.2
  rw [HAP.out] at hfr2
  have hn3 : n ≤ w3.heap.size := Nat.le_trans HR.out.2.2.1 hT3.size
  have HS3 := Lib.hid (And.intro hS3 (And.intro hT3 (And.intro hg3 (And.intro hfr2 hn3)))); clear hS3 hT3 hg3 hfr2 hn3 cq1 cq2 cq3 q0 hB1 hB2
  have hR := HRR.out.1
  rw [HAP.out] at hR
  have HR2 := Lib.hid hR; clear hR
  by_cases h0 : AP.2.2 = 0
  · have hR := HR2.out
    rw [if_pos h0] at hR
    have HR3 := Lib.hid hR; clear hR
    have d1 : (AP.2.2 == 0) = true := by simpa using h0
    have q3 := Joins.cell_of_block HS3.out.1.at_ 0
    simp at q3
    go_wp2_with fail
    refine (wsync_c n bl bd AP.1 AP.2.1 w3 HS3.out.1.disk HS3.out.1.log HS3.out.2.2.1 HS3.out.2.2.2.2 HS3.out.2.2.2.1).mono ?_
    rw [HR3.out]
    rintro e w4 ⟨rfl, hD4, hL4, hT4⟩
    have hmp2 := lsync_mp AP.1 AP.2.1
    have hpm2 := lsync_pm AP.1 AP.2.1
    rw [HR3.out] at hmp2 hpm2
    have hS4 : StoX n w4 bs bl bd bm R.1 R.2.1 m br := by
      refine ⟨HS3.out.1.le, hT4.block _ _ HS3.out.1.at_ (.inr (by simp [tagOf])), hL4, hD4, HS3.out.1.map.keeps (fun o ho => hT4.block _ _ ho (.inr ?_)) (fun x o hx ht => hT4.block x o hx (.inr (by rw [ht]; simp))), by rw [hmp2, hpm2]; exact HS3.out.1.ne⟩
      obtain ⟨c, xs, hX, _⟩ := HS3.out.1.map
      rw [hX.at_] at ho; cases ho; simp [tagOf]
    have hT04 : Turn n TSt w w4 := HS3.out.2.1.trans (hT4.mono (Nat.le_refl _) (by simp [TSt]))
    have c2 := Joins.cell_of_block hS4.at_ 2
    have f2 := Joins.unfrozen_of_block hS4.at_ 2
    simp at c2
    have H4 := Lib.hid (And.intro hS4 hT04); clear hS4 hT04 hD4 hL4 hT4 hmp2 hpm2 q3
    go_wp2_with fail
    go_ret
    refine ⟨rfl, ?_, H4.out.2.setCell H4.out.1.at_ H4.out.1.le.1 (by simp [TSt]) _ _⟩
    rw [show decide (R.2.2 ≠ 0) = (R.2.2 != 0) by rw [Bool.eq_iff_iff]; simp]
    exact H4.out.1.mark _
  · have d1 : (AP.2.2 == 0) = false := by simpa using h0
    have hR := HR2.out
    rw [if_neg h0] at hR
    subst hR
    have c2 := Joins.cell_of_block HS3.out.1.at_ 2
    have f2 := Joins.unfrozen_of_block HS3.out.1.at_ 2
    simp at c2
    go_wp2_with fail
    go_ret
    refine ⟨rfl, ?_, HS3.out.2.1.setCell HS3.out.1.at_ HS3.out.1.le.1 (by simp [TSt]) _ _⟩
    rw [show decide (AP.2.2 ≠ 0) = (AP.2.2 != 0) by rw [Bool.eq_iff_iff]; simp]
    exact HS3.out.1.mark _

structure StM where
  D : DiskM
  G : LogM
  m : KvM
  br : Bool
def StM.put (s : StM) (l : List ChM) : StM × Int :=
  if s.br = true then (s, 74)
  else if (batchM l).2 ≠ 0 then (s, (batchM l).2)
  else if (LogM.write s.D s.G (0 :: (batchM l).1)).2.2 = 0 then (⟨(LogM.write s.D s.G (0 :: (batchM l).1)).1, (LogM.write s.D s.G (0 :: (batchM l).1)).2.1, doM s.m l, false⟩, 0)
  else (⟨(LogM.write s.D s.G (0 :: (batchM l).1)).1, (LogM.write s.D s.G (0 :: (batchM l).1)).2.1, s.m, true⟩, (LogM.write s.D s.G (0 :: (batchM l).1)).2.2)
abbrev StoR (n : Nat) (w : World) (bs bl bd bm : Nat) (s : StM) : Prop := StoX n w bs bl bd bm s.D s.G s.m s.br
theorem batch_len' (l : List ChM) : (batchM l).1.length ≤ 65535 := by
  unfold batchM
  split
  · simp
  · split
    · simp
    · simp only; rw [encL_length]; omega

set_option maxRecDepth 100000 in
set_option maxHeartbeats 2000000 in
theorem put_c (n bs bl bd bm : Nat) (s : StM) (A : Option Addr) (nl cap : Nat) (l : List ChE) (hnl : nl = l.length) (hm : nl ≤ 1048576) (hs : ∀ x ∈ l, x.1.key.length ≤ 1099511627776 ∧ x.1.val.length ≤ 1099511627776) (w : World) (hS : StoR n w bs bl bd bm s) (hg : Glob n w) (hn : n ≤ w.heap.size)
    (hrow : ∀ W, Turn n TSt w W → Rd 0 W A (chCells l) ∧ ChEach W l)
    (hfr : ∀ p ∈ s.G.parts, (0 ≤ p.frm ∧ p.frm ≤ 9223372036854775807) ∧ p.many ≤ 1099511627776 ∧ p.size ≤ 1099511627776) (hfew : s.G.recs.length ≤ 549755813888 ∧ s.G.parts.length ≤ 549755813888)
    (hfr2 : ∀ p ∈ (LogM.append s.D s.G (0 :: (batchM (l.map (·.1))).1)).2.1.parts, 0 ≤ p.frm ∧ p.frm ≤ 9223372036854775807) :
    Calls Tryz.prog 18 #[.pointer (some ⟨bs, 0, none⟩), .slice A nl cap] w fun e w' => e = .returned (.int .i64 (s.put (l.map (·.1))).2) ∧ StoR n w' bs bl bd bm (s.put (l.map (·.1))).1 ∧ Turn n TSt w w' := by
  have q2 := Joins.cell_of_block hS.at_ 2
  simp at q2
  obtain ⟨R, hR⟩ : ∃ R, s.put (l.map (·.1)) = R := ⟨_, rfl⟩
  rw [hR]
  unfold StM.put at hR
  have HR := Lib.hid (And.intro hS (And.intro hg (And.intro hn (And.intro hrow (And.intro hnl (And.intro hs (And.intro hfr (And.intro hfew hfr2)))))))); clear hS hg hn hrow hnl hs hfr hfew hfr2
  cases hbr : s.br with
  | true =>
    rw [hbr, if_pos rfl] at hR
    subst hR
    rw [hbr] at q2
    have HBR := Lib.hid hbr; clear hbr
    go_enter Tryz.func18, Tryz.ntmps18
    go_wp2
    go_ret
    exact ⟨rfl, HR.out.1, Turn.refl _ _ _⟩
  | false =>
    rw [hbr, if_neg (by simp)] at hR
    rw [hbr] at q2
    have HBR := Lib.hid hbr; clear hbr
    have hbl := batch_len' (l.map (·.1))
    have hfr2 := HR.out.2.2.2.2.2.2.2.2
    obtain ⟨hr0, he0⟩ := HR.out.2.2.2.1 w (Turn.refl _ _ _)
    have hba := batch_c A nl cap l HR.out.2.2.2.2.1 hm HR.out.2.2.2.2.2.1 w hr0 he0
    obtain ⟨BX, hBX⟩ : ∃ R, batchM (l.map (·.1)) = R := ⟨_, rfl⟩
    rw [hBX] at hR hbl hfr2 hba
    obtain ⟨X, E⟩ := BX
    simp only at hR hbl hfr2 hba
    have HBA := Lib.hid (And.intro hba (And.intro hbl (And.intro hfr2 hR))); clear hba hbl hfr2 hR hBX hr0 he0
    by_cases hE : E = 0
    · subst hE
      have hR := HBA.out.2.2.2
      rw [if_neg (by simp)] at hR
      obtain ⟨WR, hWR⟩ : ∃ R, LogM.write s.D s.G (0 :: X) = R := ⟨_, rfl⟩
      rw [hWR] at hR
      obtain ⟨D', G', e'⟩ := WR
      simp only at hR
      by_cases h0 : e' = 0
      · subst h0
        rw [if_pos rfl] at hR
        have HW := Lib.hid (And.intro hWR hR); clear hWR hR
        go_enter Tryz.func18, Tryz.ntmps18
        go_wp2_with (first
          | (go_at_call 21; (refine HBA.out.1.mono ?_); rintro e w1 ⟨v1, rfl, hbs1, hb1⟩; obtain ⟨A1, c1, rfl, -⟩ := id hbs1; have H1 := Lib.hid (And.intro hbs1 hb1); clear hbs1 hb1)
          | (go_at_call 56; (refine (write_c n bs bl bd bm s.D s.G s.m s.br 0 A1 X.length c1 X (by have := HBA.out.2.1; omega) w1 (HR.out.1.below H1.out.2) (HR.out.2.1.below (H1.out.2.mono HR.out.2.2.1)) (Nat.le_trans HR.out.2.2.1 H1.out.2.size) (H1.out.1.bn n) rfl HR.out.2.2.2.2.2.2.1 HR.out.2.2.2.2.2.2.2.1 HBA.out.2.2.1).mono ?_); rw [HW.out.1]; rintro e w2 ⟨rfl, hS2, hT2⟩; have H2 := Lib.hid (And.intro hS2 ((Turn.of_below H1.out.2).trans hT2)); clear hS2 hT2)
          | (go_at_call 57; (refine (do_c bs bm s.m _ _ A nl cap l HR.out.2.2.2.2.1 hm HR.out.2.2.2.2.2.1 w2 H2.out.1.at_ H2.out.1.map (HR.out.2.2.2.1 w2 H2.out.2).1 (HR.out.2.2.2.1 w2 H2.out.2).2).mono ?_); rintro e w3 ⟨⟨v3, rfl⟩, hM3, hg3⟩; have H3 := Lib.hid (And.intro hM3 hg3); clear hM3 hg3))
        go_ret
        rw [← HW.out.2]
        have h3 := H2.out.1.grown H3.out.2 H3.out.1
        exact ⟨rfl, h3, H2.out.1.turn H2.out.2 (by simp [TSt]) H3.out.2⟩
      · rw [if_neg h0] at hR
        have d1 : (e' == 0) = false := by simpa using h0
        have HW := Lib.hid (And.intro hWR hR); clear hWR hR
        go_enter Tryz.func18, Tryz.ntmps18
        go_wp2_with (first
          | (go_at_call 21; (refine HBA.out.1.mono ?_); rintro e w1 ⟨v1, rfl, hbs1, hb1⟩; obtain ⟨A1, c1, rfl, -⟩ := id hbs1; have H1 := Lib.hid (And.intro hbs1 hb1); clear hbs1 hb1)
          | (go_at_call 56; (refine (write_c n bs bl bd bm s.D s.G s.m s.br 0 A1 X.length c1 X (by have := HBA.out.2.1; omega) w1 (HR.out.1.below H1.out.2) (HR.out.2.1.below (H1.out.2.mono HR.out.2.2.1)) (Nat.le_trans HR.out.2.2.1 H1.out.2.size) (H1.out.1.bn n) rfl HR.out.2.2.2.2.2.2.1 HR.out.2.2.2.2.2.2.2.1 HBA.out.2.2.1).mono ?_); rw [HW.out.1]; rintro e w2 ⟨rfl, hS2, hT2⟩; have H2 := Lib.hid (And.intro hS2 ((Turn.of_below H1.out.2).trans hT2)); clear hS2 hT2))
        go_ret
        rw [← HW.out.2]
        have h2 := H2.out.1
        rw [show decide ((D', G', e').2.2 ≠ 0) = true by simpa using h0] at h2
        exact ⟨rfl, h2, H2.out.2⟩
    · have hR := HBA.out.2.2.2
      rw [if_pos hE] at hR
      subst hR
      have d1 : (E == 0) = false := by simpa using hE
      go_enter Tryz.func18, Tryz.ntmps18
      go_wp2_with (go_at_call 21; (refine HBA.out.1.mono ?_); rintro e w1 ⟨v1, rfl, hbs1, hb1⟩; obtain ⟨A1, c1, rfl, -⟩ := id hbs1; have H1 := Lib.hid (And.intro hbs1 hb1); clear hbs1 hb1)
      go_ret
      exact ⟨rfl, HR.out.1.below H1.out.2, Turn.of_below H1.out.2⟩
end Go.Proofs.YtnljhabpcoiihaaGreatDoor
