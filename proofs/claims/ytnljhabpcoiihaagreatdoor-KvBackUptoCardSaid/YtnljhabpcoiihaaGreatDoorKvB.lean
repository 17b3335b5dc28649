/- The store's Batch. -/
import Derived.Test.YtnljhabpcoiihaaGreatDoorKvR
import Derived.Test.YtnljhabpcoiihaaGreatDoorNext
set_option linter.all false
namespace Go.Proofs.YtnljhabpcoiihaaGreatDoor
open Go.RowKit
open Wal (fourB)

theorem own_turnd {W W' : World} {m n : Nat} {e : TypeId} {size : Nat} {v : Value} {xs : List Value} (h : W.ownsRow m e size v n xs) (hg : W.grownBy W' v.ownBlock) : Turn m [some e] W W' :=
  (Turn.refl m _ W).grown hg fun r hr => by
    obtain ⟨_, ⟨h1, _⟩ | ⟨g, cap, cur, hv, hgm, hh, _⟩⟩ := h
    · subst h1; cases hr
    · subst hv; cases hr
      exact ⟨hgm, fun o ho => by rw [hh] at ho; cases ho; simp [tagOf]⟩
/-- an append whose run is known; the walk stands still behind it -/
theorem wpList_app1 {P : Program} {w : World} {ops : Array Oper} {rest : List Oper} {o : Oper} {a : Act} {Q : Exit → Act → World → Prop} (hgd : o.guard = none) (s x : Operand) (t : TypeId)
    (ho : o.op = .call { callee := .builtin .append, args := #[s, x], argTypes := #[t, t] }) (v u : Value) (hs : a.eval s = v) (hx : a.eval x = u) {v' : Value} {w' : World}
    (hr : (Builtin.append_ #[t, t] o.type #[v, u]).run P w = .ok v' w') (h : True → wpList P ops Q rest (a.put o.dst v') w') : wpList P ops Q (o :: rest) a w :=
  wpList_appk hgd s x t ho v u hs hx hr (h trivial)
/-- bytes are appended to bytes of one's own -/
theorem app_bytes (W : World) (base : Nat) (v : Value) (n : Nat) (pre : List UInt8) (hn : n = pre.length) (hown : W.ownsRow base 5 1 v n (bytesV pre)) (hb : base ≤ W.heap.size) (A : Option Addr) (m c : Nat) (l : List UInt8) (hm : m = l.length) (hr : Rd 0 W A (bytesV l)) (hs : pre.length + l.length ≤ 140737488355328) :
    ∃ v' W2, (Builtin.append_ #[29, 29] 29 #[v, .slice A m c]).run Tryz.prog W = .ok v' W2 ∧
      W2.ownsRow base 5 1 v' (pre ++ l).length (bytesV (pre ++ l)) ∧ Turn base [some 5] W W2 ∧ Below base W W2 := by
  obtain ⟨i0, hi0, hz0, hz1, hz2⟩ := info8
  subst hm hn
  obtain ⟨v', W2, happ, hown', hgrow', hblk'⟩ := run_append_rd (P := Tryz.prog) W base 29 29 5 i0 _ 1 1 Tryz.underlying29 hi0 hz0 hz1 hz2 rfl (by decide) v pre.length (bytesV pre)
    hown 0 A l.length c (bytesV l) (by rw [bytesV_length]; omega) hr (bytesV_one _) (by unfold maxLen; omega) (by omega) hb (by intro h; have := hr.none_len h; rw [← bytesV_length, this]; rfl)
  refine ⟨v', W2, happ, ?_, own_turnd hown hgrow', own_belw hown hgrow' (Nat.le_refl _) hb⟩
  rw [List.length_append, bytesV_append]
  exact hown'
/-- bytes are appended to bytes of one's own; the walk stands still behind it -/
theorem wpList_bytesK {w : World} {ops : Array Oper} {rest : List Oper} {o : Oper} {a : Act} {Q : Exit → Act → World → Prop} (hgd : o.guard = none) (s x : Operand)
    (ho : o.op = .call { callee := .builtin .append, args := #[s, x], argTypes := #[29, 29] }) (base : Nat) (v : Value) (n : Nat) (pre : List UInt8) (hs : a.eval s = v)
    (hown : w.ownsRow base 5 1 v n (bytesV pre)) (hb : base ≤ w.heap.size) (A : Option Addr) (m c : Nat) (l : List UInt8) (hx : a.eval x = .slice A m c) (hm : m = l.length) (hr : Rd 0 w A (bytesV l)) (hsz : n + m ≤ 140737488355328)
    (h : ∀ (g : Option Addr) (cp : Nat) (w' : World), w'.ownsRow base 5 1 (.slice g (n + m) cp) (n + m) (bytesV (pre ++ l)) → Turn base [some 5] w w' → Below base w w' → wpList Tryz.prog ops Q rest (a.put o.dst (.slice g (n + m) cp)) w') :
    wpList Tryz.prog ops Q (o :: rest) a w := by
  obtain ⟨i0, hi0, hz0, hz1, hz2⟩ := info8
  refine wpList_append_rd w hgd s x 29 ho base 5 i0 _ 1 1 Tryz.underlying29 hi0 hz0 hz1 hz2 rfl (by decide) v n (bytesV pre) hs hown 0 A m c (bytesV l) hx (by rw [bytesV_length]; omega) hr (bytesV_one _) (by unfold maxLen; omega) (by omega) hb ?_ ?_
  · intro h; have := hr.none_len h; rw [hm, ← bytesV_length, this]; rfl
  · intro v' w' hown' hgrow' hblk'
    rw [← bytesV_append] at hown'
    obtain ⟨g, cp, rfl, -, -, -⟩ := own_slice hown'
    exact h g cp w' hown' (own_turnd hown hgrow') (own_belw hown hgrow' (Nat.le_refl _) hb)
theorem own_fit {W : World} {base : Nat} {e : TypeId} {v : Value} {n : Nat} {L L' : List UInt8} (h : W.ownsRow base e 1 v n (bytesV L)) (hL : L = L') : W.ownsRow base e 1 v L'.length (bytesV L') := by
  subst hL
  have := h.1
  rw [bytesV_length, Nat.mul_one] at this
  rw [this]; exact h
theorem enc_fit {l : List ChM} {m : List ChM} {pre : List UInt8} {cm : ChM} {k1 k2 : Nat} (hl : m = l ++ [cm]) (hp : encL l = pre) (h1 : cm.key.length = k1) (h2 : cm.val.length = k2) :
    (cm.gone = true → pre ++ [UInt8.ofNat (k1 / 256), UInt8.ofNat (k1 % 256)] ++ cm.key ++ [255, 255, 255, 255] = encL m) ∧
    (cm.gone = false → pre ++ [UInt8.ofNat (k1 / 256), UInt8.ofNat (k1 % 256)] ++ cm.key ++ fourB k2 ++ cm.val = encL m) := by
  subst hl hp h1 h2
  have he : encL (l ++ [cm]) = encL l ++ cm.enc := by simp [encL]
  rw [he]
  unfold ChM.enc ChM.tail
  refine ⟨fun h => ?_, fun h => ?_⟩ <;> (rw [h]; simp)
theorem rd_two {W : World} {z : Nat} {T : TypeId} {x y : Int} {a b : UInt8} (hz : W.heap[z]? = some (.cells #[.int .u8 x, .int .u8 y] T (0, 0))) (h1 : x = (a.toNat : Int)) (h2 : y = (b.toNat : Int)) : Rd 0 W (some ⟨z, 0, none⟩) (bytesV [a, b]) :=
  Or.inr ⟨_, 0, Nat.zero_le _, rfl, fun j hj => by
    rw [Joins.cell_of_block hz]
    subst h1 h2
    have h3 : j < 2 := by simpa [bytesV] using hj
    match j, h3 with
    | 0, _ => rfl
    | 1, _ => rfl⟩
theorem rd_four {T : TypeId} {x y z u : Int} {a b c d : UInt8} (w : World) (h1 : x = (a.toNat : Int)) (h2 : y = (b.toNat : Int)) (h3 : z = (c.toNat : Int)) (h4 : u = (d.toNat : Int)) : Rd 0 (w.alloc (.cells #[.int .u8 x, .int .u8 y, .int .u8 z, .int .u8 u] T)) (some ⟨w.heap.size, 0, none⟩) (bytesV [a, b, c, d]) :=
  Or.inr ⟨_, 0, Nat.zero_le _, rfl, fun j hj => by
    rw [Joins.cell_of_block (heap_alloc_new w _)]
    subst h1 h2 h3 h4
    have h3 : j < 4 := by simpa [bytesV] using hj
    match j, h3 with
    | 0, _ => rfl
    | 1, _ => rfl
    | 2, _ => rfl
    | 3, _ => rfl⟩
def sizeTo (l : List ChE) (k : Nat) : Nat := min (1 + sizeL ((l.take k).map (·.1))) 65537
theorem sizeTo_succ {l : List ChE} {k : Nat} (h : k < l.length) : sizeTo l (k + 1) = min (sizeTo l k + l[k].1.size) 65537 := by
  unfold sizeTo sizeL
  rw [List.take_succ_eq_append_getElem h]
  simp only [List.map_append, List.map_cons, List.map_nil, List.sum_append, List.sum_cons, List.sum_nil]
  omega

set_option maxRecDepth 100000 in
set_option maxHeartbeats 4000000 in
theorem batch_c (A : Option Addr) (n cap : Nat) (l : List ChE) (hn : n = l.length) (hm : n ≤ 1048576) (hs : ∀ x ∈ l, x.1.key.length ≤ 1099511627776 ∧ x.1.val.length ≤ 1099511627776) (w : World) (hr : Rd 0 w A (chCells l)) (he : ChEach w l) :
    Calls Tryz.prog 21 #[.slice A n cap] w fun e w' => ∃ v, e = .returned (.tuple #[v, .int .i64 (batchM (l.map (·.1))).2]) ∧ Bs 5 w' v (batchM (l.map (·.1))).1 ∧ Below w.heap.size w w' := by
  have HR := Lib.hid (And.intro hr (And.intro he (And.intro hn hs))); clear hr he hn hs
  obtain ⟨R, hR⟩ : ∃ R, batchM (l.map (·.1)) = R := ⟨_, rfl⟩
  rw [hR]
  have HB := Lib.hid hR; clear hR
  go_enter Tryz.func21, Tryz.ntmps21
  go_wp2_with fail
  go_loopw [4, 14] (fun sv i W => ∃ k : Nat, k ≤ n ∧ i = .int .i64 (k : Int) ∧ sv = .int .i64 (sizeTo l k : Nat) ∧ Hid (∀ j (h : j < l.length), j < k → l[j].1.ok = true) ∧ Below w.heap.size w W) (fun _ i _ => n - (intOf i).toNat)
  case atStart => exact ⟨0, by omega, rfl, by simp [sizeTo, sizeL], Lib.hid (fun j h hj => by omega), Below.refl _ _⟩
  case round =>
    obtain ⟨k, hk, rfl, rfl, HA, hB⟩ := hrel
    have hst : sizeTo l k ≤ 65537 := Nat.min_le_right _ _
    by_cases hlt : k < n
    · have hkd : decide ((k : Int) < (n : Int)) = true := by simpa using hlt
      have hkl : k < l.length := by rw [← HR.out.2.2.1]; exact hlt
      have hsuc := sizeTo_succ hkl
      obtain ⟨b, o, hb, hcell⟩ := HR.out.1.addr (by rw [chCells_length]; omega)
      obtain ⟨g0, g1, g2⟩ := chCells_get l k hkl
      have q0 := (hcell (k * 3) (by rw [chCells_length]; omega)).trans g0
      have q1 := (hcell (k * 3 + 1) (by rw [chCells_length]; omega)).trans g1
      have q2 := (hcell (k * 3 + 2) (by rw [chCells_length]; omega)).trans g2
      rw [← Nat.add_assoc] at q1 q2
      obtain ⟨A1, c1, A2, c2, e1, e2⟩ := HR.out.2.1.slice hkl
      obtain ⟨hs1, hs2⟩ := HR.out.2.2.2 l[k] (List.getElem_mem hkl)
      have hall : l[k].1.ok = true → ∀ j (h : j < l.length), j < k + 1 → l[j].1.ok = true := fun hx j h hj => by
        by_cases hjk : j = k
        · subst hjk; exact hx
        · exact HA.out j h (by omega)
      have hbad : l[k].1.ok = false → (l.map (·.1)).all ChM.ok = false := fun hx => by
        rw [← Bool.not_eq_true]
        intro h
        have := List.all_eq_true.1 h l[k].1 (List.mem_map_of_mem (List.getElem_mem hkl))
        rw [hx] at this; cases this
      obtain ⟨x, hx⟩ : ∃ x, l[k] = x := ⟨_, rfl⟩
      rw [hx] at q0 q1 q2 e1 e2 hs1 hs2 hsuc hall hbad
      obtain ⟨cm, v1, v2⟩ := x
      simp only at q0 q1 q2 e1 e2 hs1 hs2 hsuc hall hbad
      unfold ChM.size at hsuc
      obtain ⟨k1, hk1⟩ : ∃ x, cm.key.length = x := ⟨_, rfl⟩
      obtain ⟨k2, hk2⟩ : ∃ x, cm.val.length = x := ⟨_, rfl⟩
      obtain ⟨gn, hgn⟩ : ∃ x, cm.gone = x := ⟨_, rfl⟩
      have hoke : cm.ok = (decide (1 ≤ k1) && decide (k1 ≤ 64)) := by unfold ChM.ok; rw [hk1]
      rw [hoke] at hall hbad
      rw [hk1] at e1 hs1 hsuc
      rw [hk2] at e2 hs2 hsuc
      rw [hgn] at q2 hsuc
      subst e1 e2 hb
      obtain ⟨S, hS⟩ : ∃ S, sizeTo l k = S := ⟨_, rfl⟩
      rw [hS] at hst hsuc ⊢
      replace q0 := (hB.cell (cell_lt q0)).trans q0
      replace q1 := (hB.cell (cell_lt q1)).trans q1
      replace q2 := (hB.cell (cell_lt q2)).trans q2
      have HK := Lib.hid (And.intro hall (And.intro hbad (And.intro hsuc hB)))
      clear hcell g0 g1 g2 hx hk1 hk2 hgn hB hS hkl hall hbad hsuc hoke
      by_cases hok : 1 ≤ k1 ∧ k1 ≤ 64
      · obtain ⟨ho1, ho2⟩ := hok
        have d1 : decide ((k1 : Int) < 1) = false := by simp; omega
        have d2 : decide ((64 : Int) < (k1 : Int)) = false := by simp; omega
        cases gn with
        | true =>
          go_wp2_with fail
          exact ⟨⟨k + 1, by omega, rfl, by rw [HK.out.2.2.1]; exact congrArg (Value.int .i64) (by simp; omega), Lib.hid (HK.out.1 (by simp; omega)), HK.out.2.2.2.trans ((bnew wr _).mono HK.out.2.2.2.size)⟩, by simp [intOf]; omega⟩
        | false =>
          go_wp2_with fail
          exact ⟨⟨k + 1, by omega, rfl, by rw [HK.out.2.2.1]; exact congrArg (Value.int .i64) (by simp; omega), Lib.hid (HK.out.1 (by simp; omega)), HK.out.2.2.2.trans ((bnew wr _).mono HK.out.2.2.2.size)⟩, by simp [intOf]; omega⟩
      · have hbd := HK.out.2.1 (by simp; omega)
        have hRe := HB.out
        unfold batchM at hRe
        rw [if_pos hbd] at hRe
        have HRe := Lib.hid hRe
        clear hbd hRe
        by_cases h1 : k1 < 1
        · have d1 : decide ((k1 : Int) < 1) = true := by simp; omega
          go_wp2_with fail
          go_ret2
          rw [← HRe.out]
          exact ⟨_, rfl, Bs.nil _ _, HK.out.2.2.2.trans ((bnew wr _).mono HK.out.2.2.2.size)⟩
        · have d1 : decide ((k1 : Int) < 1) = false := by simp; omega
          have d2 : decide ((64 : Int) < (k1 : Int)) = true := by simp; omega
          go_wp2_with fail
          go_ret2
          rw [← HRe.out]
          exact ⟨_, rfl, Bs.nil _ _, HK.out.2.2.2.trans ((bnew wr _).mono HK.out.2.2.2.size)⟩
    · obtain rfl : n = k := by omega
      have hkd : decide ((n : Int) < (n : Int)) = false := by simp
      have hall : (l.map (·.1)).all ChM.ok = true := List.all_eq_true.2 fun c hc => by
        obtain ⟨x, hx, rfl⟩ := List.mem_map.1 hc
        obtain ⟨j, hj, rfl⟩ := List.getElem_of_mem hx
        exact HA.out j hj (by have := HR.out.2.2.1; omega)
      have hsz : sizeTo l n = min (1 + sizeL (l.map (·.1))) 65537 := by
        unfold sizeTo
        rw [List.take_of_length_le (by have := HR.out.2.2.1; omega)]
      have hRe := HB.out
      unfold batchM at hRe
      rw [if_neg (by rw [hall]; simp)] at hRe
      obtain ⟨S, hS⟩ : ∃ S, sizeTo l n = S := ⟨_, rfl⟩
      rw [hS] at hst hsz ⊢
      have HBB := Lib.hid hB; clear hB
      by_cases hbig : 65536 < S
      · rw [if_pos (by omega)] at hRe
        have HRe := Lib.hid hRe
        have d1 : decide ((65536 : Int) < (S : Int)) = true := by simp; omega
        clear hRe hsz hall hS
        go_wp2_with fail
        go_ret2
        rw [← HRe.out]
        exact ⟨_, rfl, Bs.nil _ _, HBB.out⟩
      · rw [if_neg (by omega)] at hRe
        have HRe := Lib.hid (And.intro hRe (show sizeL (l.map (·.1)) ≤ 65535 by omega))
        have d1 : decide ((65536 : Int) < (S : Int)) = false := by simp; omega
        clear hRe hsz hall hS
        go_wp2_with fail
        go_loopw [7, 49] (fun ov i W => ∃ k : Nat, k ≤ n ∧ i = .int .i64 (k : Int) ∧ Hid (W.ownsRow w.heap.size 5 1 ov (encL ((l.take k).map (·.1))).length (bytesV (encL ((l.take k).map (·.1))))) ∧ Below w.heap.size w W) (fun _ i _ => n - (intOf i).toNat)
        case atStart => exact ⟨0, by omega, rfl, Lib.hid (World.ownsRow_nil _ _ _ _), HBB.out⟩
        case round =>
          obtain ⟨k, hk, rfl, HO, hB⟩ := hrel
          by_cases hlt : k < n
          · have hkd2 : decide ((k : Int) < (n : Int)) = true := by simpa using hlt
            have hkl : k < l.length := by rw [← HR.out.2.2.1]; exact hlt
            obtain ⟨b, o, hb, hcell⟩ := HR.out.1.addr (by rw [chCells_length]; omega)
            obtain ⟨g0, g1, g2⟩ := chCells_get l k hkl
            have q0 := (hcell (k * 3) (by rw [chCells_length]; omega)).trans g0
            have q1 := (hcell (k * 3 + 1) (by rw [chCells_length]; omega)).trans g1
            have q2 := (hcell (k * 3 + 2) (by rw [chCells_length]; omega)).trans g2
            rw [← Nat.add_assoc] at q1 q2
            have hxa := HR.out.2.1 l[k] (List.getElem_mem hkl)
            have hokk := HA.out k hkl hlt
            have htk : (l.take (k + 1)).map (·.1) = (l.take k).map (·.1) ++ [l[k].1] := by
              rw [List.take_succ_eq_append_getElem hkl, List.map_append]; rfl
            have hmem := size_mem (List.mem_map_of_mem (f := (·.1)) (List.getElem_mem hkl))
            have hpre : (encL ((l.take k).map (·.1))).length ≤ 65535 := by
              rw [encL_length]
              refine Nat.le_trans ?_ HRe.out.2
              unfold sizeL
              conv => rhs; rw [← List.take_append_drop k l]
              simp only [List.map_append, List.sum_append]
              omega
            obtain ⟨x, hx⟩ : ∃ x, l[k] = x := ⟨_, rfl⟩
            rw [hx] at q0 q1 q2 hxa hokk htk hmem
            obtain ⟨cm, v1, v2⟩ := x
            obtain ⟨⟨A1, c1, e1, hc1, r1⟩, ⟨A2, c2, e2, hc2, r2⟩⟩ := hxa
            simp only at e1 e2 q0 q1 q2 hokk htk hmem r1 r2 hc1 hc2
            have hsz2 := HRe.out.2
            obtain ⟨k1, hk1⟩ : ∃ x, cm.key.length = x := ⟨_, rfl⟩
            obtain ⟨k2, hk2⟩ : ∃ x, cm.val.length = x := ⟨_, rfl⟩
            obtain ⟨gn, hgn⟩ : ∃ x, cm.gone = x := ⟨_, rfl⟩
            have hk64 : k1 ≤ 64 := by
              simp only [ChM.ok, Bool.and_eq_true, decide_eq_true_eq] at hokk
              omega
            rw [hk1] at e1
            rw [hk2] at e2
            rw [hgn] at q2
            subst e1 e2 hb
            replace q0 := (hB.cell (cell_lt q0)).trans q0
            replace q1 := (hB.cell (cell_lt q1)).trans q1
            replace q2 := (hB.cell (cell_lt q2)).trans q2
            obtain ⟨pre, hpr⟩ : ∃ x, encL ((l.take k).map (·.1)) = x := ⟨_, rfl⟩
            have hown := HO.out
            rw [hpr] at hown hpre
            have HK := Lib.hid (And.intro hown (And.intro hB (And.intro (r1.below hB) (And.intro (r2.below hB) (And.intro htk (And.intro hpr (And.intro hk1 (And.intro hk2 (And.intro hgn (And.intro hmem (And.intro hpre hsz2)))))))))))
            have HKR := Lib.hid (And.intro r1 r2)
            clear hown hB r1 r2 htk hpr hk1 hk2 hgn hmem hsz2 hcell g0 g1 g2 hx HO hkl hokk
            obtain ⟨A0, c0, rfl, -, -, -⟩ := own_slice HK.out.1
            have HE := Lib.hid (enc_fit (cm := cm) HK.out.2.2.2.2.1 HK.out.2.2.2.2.2.1 HK.out.2.2.2.2.2.2.1 HK.out.2.2.2.2.2.2.2.1)
            cases gn with
            | true =>
              go_wp2_with fail
              go_region
              go_wp2_with (at_builtin; refine wpList_bytesK rfl _ _ rfl w.heap.size _ pre.length pre rfl ?q1 ?q2 _ 2 2 [UInt8.ofNat (k1 / 256), UInt8.ofNat (k1 % 256)] rfl rfl ?q3 ?q4 ?_)
              case q1 => exact own_below HK.out.1 ((bnew2 _ _ _).drew)
              case q2 => have := HK.out.2.1.size; simp [World.drew]; omega
              case q3 => exact rd_two (ualloc1 _ _ _) (by simp [UInt8.toNat_ofNat'] <;> omega) (by simp [UInt8.toNat_ofNat'] <;> omega)
              case q4 => have := HK.out.2.2.2.2.2.2.2.2.2.2.1; simp; omega
              intro g1 cp1 W1 own1 T1 B1
              obtain ⟨P1, hP1⟩ : ∃ x, pre ++ [UInt8.ofNat (k1 / 256), UInt8.ofNat (k1 % 256)] = x := ⟨_, rfl⟩
              rw [hP1] at own1
              have HP1 := Lib.hid hP1; clear hP1
              have hbx1 := T1.block _ _ (ualloc0 wr _ _) (.inr (by simp [tagOf]))
              have hB1 : Below w.heap.size w W1 := (HK.out.2.1.trans (((bnew2 _ _ _).drew).mono HK.out.2.1.size)).trans B1
              have z0 := Joins.cell_of_block hbx1 0
              have z1 := Joins.cell_of_block hbx1 1
              simp at z0 z1
              have H1 := Lib.hid (And.intro own1 (And.intro hB1 hbx1)); clear own1 T1 B1 hB1 hbx1
              go_wp2_with (at_builtin; refine wpList_bytesK rfl _ _ rfl w.heap.size _ (pre.length + 2) P1 rfl ?q1 ?q2 A1 k1 c1 cm.key rfl ?q5 ?q3 ?q4 ?_)
              case q1 => exact H1.out.1
              case q2 => exact H1.out.2.1.size
              case q5 => exact HK.out.2.2.2.2.2.2.1.symm
              case q3 => exact HKR.out.1.below H1.out.2.1
              case q4 => have := HK.out.2.2.2.2.2.2.2.2.2.2.1; have := HK.out.2.2.2.2.2.2.1; simp; omega
              intro g2 cp2 W2 own2 T2 B2
              obtain ⟨P2, hP2⟩ : ∃ x, P1 ++ cm.key = x := ⟨_, rfl⟩
              rw [hP2] at own2
              have HP2 := Lib.hid hP2; clear hP2
              have hbx2 := T2.block _ _ H1.out.2.2 (.inr (by simp [tagOf]))
              have hB2 : Below w.heap.size w W2 := H1.out.2.1.trans B2
              have H2 := Lib.hid (And.intro own2 (And.intro hB2 hbx2)); clear own2 T2 B2 hB2 hbx2 z0 z1
              go_wp2_with (at_builtin; refine wpList_bytesK rfl _ _ rfl w.heap.size _ (pre.length + 2 + k1) P2 rfl ?q1 ?q2 _ 4 4 [255, 255, 255, 255] rfl rfl ?q3 ?q4 ?_)
              case q1 => exact own_below H2.out.1 (bnew _ _)
              case q2 => have := H2.out.2.1.size; simp; omega
              case q3 => exact rd_four _ rfl rfl rfl rfl
              case q4 => have := HK.out.2.2.2.2.2.2.2.2.2.2.1; have := HK.out.2.2.2.2.2.2.1; simp; omega
              intro g3 cp3 W3 own3 T3 B3
              obtain ⟨P3, hP3⟩ : ∃ x, P2 ++ [255, 255, 255, 255] = x := ⟨_, rfl⟩
              rw [hP3] at own3
              have HP3 := Lib.hid hP3; clear hP3
              have H3 := Lib.hid (And.intro own3 ((H2.out.2.1.trans ((bnew _ _).mono H2.out.2.1.size)).trans B3)); clear own3 T3 B3
              go_wp2_with (at_builtin; refine wpList_bytesK rfl _ _ rfl w.heap.size _ (pre.length + 2 + k1 + 4) P3 rfl ?q1 ?q2 none 0 0 [] rfl ?q5 ?q3 ?q4 ?_)
              case q1 => exact H3.out.1
              case q2 => exact H3.out.2.size
              case q5 => exact rfl
              case q3 => exact Rd.nil _ _ _
              case q4 => have := HK.out.2.2.2.2.2.2.2.2.2.2; have := HK.out.2.2.2.2.2.2.1; have := HK.out.2.2.2.2.2.2.2.1; simp; omega
              intro g4 cp4 W4 own4 T4 B4
              have H4 := Lib.hid (And.intro own4 (H3.out.2.trans B4)); clear own4 T4 B4
              go_wp2_with fail
              exact ⟨⟨k + 1, by omega, rfl, Lib.hid (own_fit H4.out.1 (by rw [← HP3.out, ← HP2.out, ← HP1.out]; exact HE.out.1 HK.out.2.2.2.2.2.2.2.2.1)), H4.out.2⟩, by simp [intOf]; omega⟩
            | false =>
              have hk2b : k2 ≤ 65535 := by
                have h := HK.out.2.2.2.2.2.2.2.2.2.1
                have h2 := HK.out.2.2.2.2.2.2.2.2.2.2.2
                unfold ChM.size at h
                rw [HK.out.2.2.2.2.2.2.2.1, HK.out.2.2.2.2.2.2.2.2.1] at h
                simp only [Bool.false_eq_true, if_false] at h
                omega
              go_wp2_with fail
              go_region
              go_wp2_with (at_builtin; refine wpList_bytesK rfl _ _ rfl w.heap.size _ pre.length pre rfl ?q1 ?q2 _ 2 2 [UInt8.ofNat (k1 / 256), UInt8.ofNat (k1 % 256)] rfl rfl ?q3 ?q4 ?_)
              case q1 => exact own_below HK.out.1 ((bnew2 _ _ _).drew)
              case q2 => have := HK.out.2.1.size; simp [World.drew]; omega
              case q3 => exact rd_two (ualloc1 _ _ _) (by simp [UInt8.toNat_ofNat'] <;> omega) (by simp [UInt8.toNat_ofNat'] <;> omega)
              case q4 => have := HK.out.2.2.2.2.2.2.2.2.2.2.1; simp; omega
              intro g1 cp1 W1 own1 T1 B1
              obtain ⟨P1, hP1⟩ : ∃ x, pre ++ [UInt8.ofNat (k1 / 256), UInt8.ofNat (k1 % 256)] = x := ⟨_, rfl⟩
              rw [hP1] at own1
              have HP1 := Lib.hid hP1; clear hP1
              have hbx1 := T1.block _ _ (ualloc0 wr _ _) (.inr (by simp [tagOf]))
              have hB1 : Below w.heap.size w W1 := (HK.out.2.1.trans (((bnew2 _ _ _).drew).mono HK.out.2.1.size)).trans B1
              have z0 := Joins.cell_of_block hbx1 0
              have z1 := Joins.cell_of_block hbx1 1
              simp at z0 z1
              have H1 := Lib.hid (And.intro own1 (And.intro hB1 hbx1)); clear own1 T1 B1 hB1 hbx1
              go_wp2_with (at_builtin; refine wpList_bytesK rfl _ _ rfl w.heap.size _ (pre.length + 2) P1 rfl ?q1 ?q2 A1 k1 c1 cm.key rfl ?q5 ?q3 ?q4 ?_)
              case q1 => exact H1.out.1
              case q2 => exact H1.out.2.1.size
              case q5 => exact HK.out.2.2.2.2.2.2.1.symm
              case q3 => exact HKR.out.1.below H1.out.2.1
              case q4 => have := HK.out.2.2.2.2.2.2.2.2.2.2.1; have := HK.out.2.2.2.2.2.2.1; simp; omega
              intro g2 cp2 W2 own2 T2 B2
              obtain ⟨P2, hP2⟩ : ∃ x, P1 ++ cm.key = x := ⟨_, rfl⟩
              rw [hP2] at own2
              have HP2 := Lib.hid hP2; clear hP2
              have hbx2 := T2.block _ _ H1.out.2.2 (.inr (by simp [tagOf]))
              have hB2 : Below w.heap.size w W2 := H1.out.2.1.trans B2
              have H2 := Lib.hid (And.intro own2 (And.intro hB2 hbx2)); clear own2 T2 B2 hB2 hbx2 z0 z1
              go_wp2_with (at_builtin; refine wpList_bytesK rfl _ _ rfl w.heap.size _ (pre.length + 2 + k1) P2 rfl ?q1 ?q2 _ 4 4 (fourB k2) rfl rfl ?q3 ?q4 ?_)
              case q1 => exact own_below H2.out.1 (bnew _ _)
              case q2 => have := H2.out.2.1.size; simp; omega
              case q3 => exact rd_four _ (by simp [fourB, UInt8.toNat_ofNat'] <;> omega) (by simp [fourB, UInt8.toNat_ofNat'] <;> omega) (by simp [fourB, UInt8.toNat_ofNat'] <;> omega) (by simp [fourB, UInt8.toNat_ofNat'] <;> omega)
              case q4 => have := HK.out.2.2.2.2.2.2.2.2.2.2.1; have := HK.out.2.2.2.2.2.2.1; simp [Wal.fourB_length]; omega
              intro g3 cp3 W3 own3 T3 B3
              obtain ⟨P3, hP3⟩ : ∃ x, P2 ++ (fourB k2) = x := ⟨_, rfl⟩
              rw [hP3] at own3
              have HP3 := Lib.hid hP3; clear hP3
              have H3 := Lib.hid (And.intro own3 ((H2.out.2.1.trans ((bnew _ _).mono H2.out.2.1.size)).trans B3)); clear own3 T3 B3
              go_wp2_with (at_builtin; refine wpList_bytesK rfl _ _ rfl w.heap.size _ (pre.length + 2 + k1 + 4) P3 rfl ?q1 ?q2 A2 k2 c2 cm.val rfl ?q5 ?q3 ?q4 ?_)
              case q1 => exact H3.out.1
              case q2 => exact H3.out.2.size
              case q5 => exact HK.out.2.2.2.2.2.2.2.1.symm
              case q3 => exact HKR.out.2.below H3.out.2
              case q4 => have := HK.out.2.2.2.2.2.2.2.2.2.2; have := HK.out.2.2.2.2.2.2.1; have := HK.out.2.2.2.2.2.2.2.1; simp [Wal.fourB_length]; omega
              intro g4 cp4 W4 own4 T4 B4
              have H4 := Lib.hid (And.intro own4 (H3.out.2.trans B4)); clear own4 T4 B4
              go_wp2_with fail
              exact ⟨⟨k + 1, by omega, rfl, Lib.hid (own_fit H4.out.1 (by rw [← HP3.out, ← HP2.out, ← HP1.out]; exact HE.out.2 HK.out.2.2.2.2.2.2.2.2.1)), H4.out.2⟩, by simp [intOf]; omega⟩
          · obtain rfl : n = k := by omega
            have hkd2 : decide ((n : Int) < (n : Int)) = false := by simp
            have hown := HO.out
            rw [List.take_of_length_le (by have := HR.out.2.2.1; omega)] at hown
            obtain ⟨A0, c0, rfl, -, -, -⟩ := own_slice hown
            have HK := Lib.hid (And.intro hown hB); clear hown hB
            go_wp2_with fail
            go_ret2
            rw [← HRe.out.1]
            exact ⟨_, rfl, (Bs.of_own HK.out.1), HK.out.2⟩
end Go.Proofs.YtnljhabpcoiihaaGreatDoor
