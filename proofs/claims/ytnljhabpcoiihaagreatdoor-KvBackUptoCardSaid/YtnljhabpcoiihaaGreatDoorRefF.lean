/- The reference's frames. -/
import Derived.Test.YtnljhabpcoiihaaGreatDoorNext
set_option linter.all false
namespace Go.Proofs.YtnljhabpcoiihaaGreatDoor
open Go.RowKit
open Wal (crc fourB numB frameB nextB)

theorem own_bel {w w' : World} {base base' n : Nat} {e : TypeId} {size : Nat} {v : Value} {xs : List Value} (h : w.ownsRow base e size v n xs) (hg : w.grownBy w' v.ownBlock) (hb : base' ≤ base) (hs : base' ≤ w.heap.size) : Below base' w w' :=
  (Below.refl _ _).grown hg hs fun k hk => by
    obtain ⟨_, _, _, _, _, h⟩ := own_slice h
    rcases h with h | ⟨g, h, hg, _⟩
    · rw [h] at hk; cases hk
    · rw [h] at hk; cases hk; omega

/-- an append of bytes onto bytes of the call's own -/
theorem wpList_bytes {w : World} {ops : Array Oper} {rest : List Oper} {o : Oper} {a : Act} {Q : Exit → Act → World → Prop} (hgd : o.guard = none) (s x : Operand)
    (ho : o.op = .call { callee := .builtin .append, args := #[s, x], argTypes := #[29, 29] })
    (base : Nat) (v : Value) (xs : List UInt8) (hs : a.eval s = v) (n : Nat) (hn : n = xs.length) (hown : w.ownsRow base 5 1 v n (bytesV xs))
    (B : Nat) (A : Option Addr) (m c : Nat) (l : List UInt8) (hx : a.eval x = .slice A m c) (hm : m = l.length) (hr : Rd B w A (bytesV l))
    (hsz : xs.length + l.length ≤ 140737488355328) (hbase : base ≤ w.heap.size)
    (h : ∀ v' w', w'.ownsRow base 5 1 v' (xs ++ l).length (bytesV (xs ++ l)) → Below base w w' → wpList Tryz.prog ops Q rest (a.put o.dst v') w') : wpList Tryz.prog ops Q (o :: rest) a w := by
  obtain ⟨i0, hi0, hz0, hz1, hz2⟩ := info8
  subst hm
  subst hn
  refine wpList_append_rd w hgd s x 29 ho base 5 i0 _ 1 1 Tryz.underlying29 hi0 hz0 hz1 hz2 rfl (by decide) v _ (bytesV xs) hs hown B A l.length c (bytesV l) hx (by rw [bytesV_length]; omega) hr (bytesV_one _) ?q1 ?q2 hbase ?q4 ?_
  case q1 => unfold maxLen; omega
  case q2 => omega
  case q4 => intro h; have := hr.none_len h; rw [← bytesV_length, this]; rfl
  intro v' w' hown' hgrow _
  refine h v' w' ?_ (own_bel hown hgrow (Nat.le_refl _) hbase)
  rw [List.length_append, bytesV_append]
  exact hown'

theorem own_nil (w : World) : (w.alloc (.cells #[] 5)).ownsRow w.heap.size 5 1 (.slice (some ⟨w.heap.size, 0, none⟩) 0 0) ([] : List UInt8).length (bytesV []) :=
  own_new w 5 #[] 0 rfl (by simp)

set_option maxRecDepth 100000 in
set_option maxHeartbeats 400000 in
theorem rframe_c (A : Option Addr) (n cap : Nat) (l : List UInt8) (hn : n = l.length) (hm : n ≤ 70368744175616) (w : World) (hr : Rd 0 w A (bytesV l)) :
    Calls Tryz.prog 11 #[.slice A n cap] w fun e w' => ∃ v, e = .returned v ∧ w'.ownsRow w.heap.size 5 1 v (frameB l).length (bytesV (frameB l)) ∧ Below w.heap.size w w' := by
  have HR := Lib.hid (And.intro hn hr); clear hn hr
  obtain ⟨F, hF⟩ : ∃ F, frameB l = F := ⟨_, rfl⟩
  rw [hF]
  have HF := Lib.hid hF; clear hF
  obtain ⟨K, hK, hK2⟩ : ∃ K : Nat, IntKind.u32.wrap (n : Int) = (K : Int) ∧ K = n % 4294967296 := ⟨n % 4294967296, by rw [IntKind.wrap_u32']; omega, rfl⟩
  have hKlt : K < 4294967296 := by omega
  have HK := Lib.hid (And.intro hK2 hKlt); clear hK2 hKlt
  go_enter Tryz.func11, Tryz.ntmps11
  go_wp2_with fail
  refine (rfour_s K HK.out.2 _).mono ?_
  rintro e w1 ⟨A1, c1, rfl, hown1, hb1⟩
  have H1 := Lib.hid (And.intro hown1 hb1); clear hown1 hb1
  go_wp2_with (at_builtin; refine wpList_bytes rfl _ _ rfl w1.heap.size _ [] rfl 0 rfl (own_nil w1) 0 A1 4 c1 (fourB K) rfl rfl (((Rd.of_own H1.out.1).mono (Nat.zero_le _)).alloc _) (by simp [Wal.fourB_length]) (by simp) ?_)
  intro v2 w2 hown2 hb2
  have hb2 : Below w1.heap.size w1 w2 := (bnew w1 _).trans hb2
  have H2 := Lib.hid (And.intro hown2 hb2); clear hown2 hb2
  go_wp2_with fail
  refine (rsum_c A1 c1 (fourB K) 4 rfl (by omega) w2 (((Rd.of_own H1.out.1).mono (Nat.zero_le _)).below H2.out.2)).mono ?_
  rintro e w3 ⟨rfl, rfl⟩
  go_wp2_with fail
  refine (rfour_s (crc (fourB K)) (Wal.crc_lt _) _).mono ?_
  rintro e w4 ⟨A4, c4, rfl, hown4, hb4⟩
  have H4 := Lib.hid (And.intro hown4 hb4); clear hown4 hb4
  go_wp2_with (at_builtin; refine wpList_bytes rfl _ _ rfl w1.heap.size _ _ rfl _ rfl (own_below H2.out.1 H4.out.2) 0 A4 4 c4 (fourB (crc (fourB K))) rfl rfl ((Rd.of_own H4.out.1).mono (Nat.zero_le _)) (by simp [Wal.fourB_length]) (Nat.le_trans H2.out.2.size H4.out.2.size) ?_)
  intro v5 w5 hown5 hb5
  have hb5 : Below w1.heap.size w1 w5 := (H2.out.2.trans (H4.out.2.mono H2.out.2.size)).trans hb5
  have H5 := Lib.hid (And.intro hown5 hb5); clear hown5 hb5
  go_wp2_with fail
  refine (rsum_c A cap l n HR.out.1 (by omega) w5 (HR.out.2.below (bstep H1.out.2 H5.out.2))).mono ?_
  rintro e w6 ⟨rfl, rfl⟩
  go_wp2_with fail
  refine (rfour_s (crc l) (Wal.crc_lt _) _).mono ?_
  rintro e w7 ⟨A7, c7, rfl, hown7, hb7⟩
  have H7 := Lib.hid (And.intro hown7 hb7); clear hown7 hb7
  go_wp2_with (at_builtin; refine wpList_bytes rfl _ _ rfl w1.heap.size _ _ rfl _ rfl (own_below H5.out.1 H7.out.2) 0 A7 4 c7 (fourB (crc l)) rfl rfl ((Rd.of_own H7.out.1).mono (Nat.zero_le _)) (by simp [Wal.fourB_length]) (Nat.le_trans H5.out.2.size H7.out.2.size) ?_)
  intro v8 w8 hown8 hb8
  have hb8 : Below w1.heap.size w1 w8 := (H5.out.2.trans (H7.out.2.mono H5.out.2.size)).trans hb8
  have H8 := Lib.hid (And.intro hown8 hb8); clear hown8 hb8
  go_wp2_with (at_builtin; refine wpList_bytes rfl _ _ rfl w1.heap.size _ _ rfl _ rfl H8.out.1 0 A n cap l rfl HR.out.1 (HR.out.2.below (bstep H1.out.2 H8.out.2)) (by have := HR.out.1; simp [Wal.fourB_length]; omega) H8.out.2.size ?_)
  intro v9 w9 hown9 hb9
  have hb9 : Below w1.heap.size w1 w9 := H8.out.2.trans hb9
  have H9 := Lib.hid (And.intro hown9 hb9); clear hown9 hb9
  go_wp2
  go_ret
  have e1 : [] ++ fourB K ++ fourB (crc (fourB K)) ++ fourB (crc l) ++ l = F := by
    rw [← HF.out, frameB, ← HR.out.1, ← HK.out.1]
    simp
  have hown : w9.ownsRow w1.heap.size 5 1 v9 F.length (bytesV F) := by
    have h := H9.out.1
    rw [← e1]
    simpa using h
  exact ⟨v9, rfl, own_base hown H1.out.2.size, bstep H1.out.2 H9.out.2⟩

theorem bdrewN (w : World) (k : Nat) : Below w.heap.size w (w.drewN k) := ⟨rfl, rfl, rfl, Nat.le_refl _, fun _ _ => rfl⟩
theorem bdrewN' {n : Nat} {w w' : World} (h : Below n w w') (k : Nat) : Below n w (w'.drewN k) := ⟨h.os, h.tape, h.output, h.size, h.block⟩
theorem bdrew {w w' : World} {n : Nat} (h : Below n w w') : Below n w w'.drew := ⟨h.os, h.tape, h.output, h.size, h.block⟩
theorem fours_iff (a : Nat) (ha : a < 4294967296) (l : List UInt8) (h : l.length = 4) : fourB a ≠ l ↔ a ≠ numB l := not_congr (Wal.four_eq_iff ha h)
theorem Rd.take_bytes {n : Nat} {w : World} {A : Option Addr} {l : List UInt8} (h : Rd n w A (bytesV l)) (m : Nat) : Rd n w A (bytesV (l.take m)) := by
  have := h.take m
  unfold bytesV at this ⊢
  rw [List.map_take]
  exact this
theorem Rd.drop_bytes {n : Nat} {w : World} {A : Option Addr} {l : List UInt8} (h : Rd n w A (bytesV l)) (cap m : Nat) (hc : l.length ≤ cap) : Rd n w (fromAddr 1 A cap m) (bytesV (l.drop m)) := by
  have := h.from 1 cap m (by rw [bytesV_length]; omega)
  rw [Nat.mul_one] at this
  unfold bytesV at this ⊢
  rw [List.map_drop]
  exact this

set_option maxRecDepth 100000 in
set_option maxHeartbeats 1000000 in
theorem rnext_c (A : Option Addr) (n cap : Nat) (l : List UInt8) (hn : n = l.length) (hm : n ≤ 140737488351232) (hc : n ≤ cap) (w : World) (hr : Rd 0 w A (bytesV l)) :
    Calls Tryz.prog 80 #[.slice A n cap] w fun e w' => ∃ v, e = .returned (.tuple #[v, .int .i64 ((nextB l).2.1 : Nat), .int .i64 ((nextB l).2.2 : Nat)]) ∧ Bs 5 w' v ((nextB l).1.getD []) ∧ Below w.heap.size w w' := by
  have HR := Lib.hid (And.intro hn hr); clear hr
  obtain ⟨NB, hNB⟩ : ∃ N, nextB l = N := ⟨_, rfl⟩
  rw [hNB]
  unfold nextB at hNB
  rw [← hn] at hNB
  obtain ⟨i0, hi0, hz0, hz1, hz2⟩ := info8
  by_cases h12 : n < 12
  · rw [if_pos h12] at hNB
    subst hNB
    clear hi0 hz0 hz1 hz2 hn
    go_enter Tryz.func80, Tryz.ntmps80
    go_wp2
    go_ret3
    exact ⟨_, rfl, Bs.nil _ _, Below.refl _ _⟩
  · rw [if_neg h12] at hNB
    have HNB := Lib.hid (And.intro hNB hn)
    have hnl := hn
    clear hNB hn
    have s4 := fun w => run_slice_to (P := Tryz.prog) w 29 5 i0 1 Tryz.underlying29 hi0 hz1 A n cap .i64 4 4 rfl (by omega)
    have s4f := fun w => run_slice_from (P := Tryz.prog) w 29 5 i0 1 Tryz.underlying29 hi0 hz1 A n cap .i64 4 4 rfl (by omega)
    have s8f := fun w => run_slice_from (P := Tryz.prog) w 29 5 i0 1 Tryz.underlying29 hi0 hz1 A n cap .i64 8 8 rfl (by omega)
    have hl4 : (l.take 4).length = 4 := by rw [List.length_take]; omega
    have hl48 : ((l.drop 4).take 4).length = 4 := by rw [List.length_take, List.length_drop]; omega
    have hl812 : ((l.drop 8).take 4).length = 4 := by rw [List.length_take, List.length_drop]; omega
    have hN4 := Wal.numB_lt (l.take 4)
    have hM4 := Wal.numB_lt ((l.drop 4).take 4)
    rw [hl4] at hN4
    rw [hl48] at hM4
    have hq := fours_iff (crc (l.take 4)) (Wal.crc_lt _) _ hl48
    have hC4 := Wal.crc_lt (l.take 4)
    have call1 := fun (W : World) (hb : Below w.heap.size w W) => number_c A cap l n HR.out.1 (by omega) W (HR.out.2.below hb)
    have call2 := fun (W : World) (hb : Below w.heap.size w W) => rsum_c A cap (l.take 4) 4 hl4.symm (by omega) W ((HR.out.2.below hb).take_bytes 4)
    have call3 := fun (W : World) (hb : Below w.heap.size w W) => number_c (fromAddr 1 A cap 4) (cap - 4) (l.drop 4) (n - 4) (by rw [List.length_drop, HR.out.1]) (by omega) W ((HR.out.2.below hb).drop_bytes cap 4 (by rw [← HR.out.1]; exact hc))
    generalize hN : numB (l.take 4) = N at *
    generalize hM : numB ((l.drop 4).take 4) = M at *
    generalize hC : crc (l.take 4) = C at *
    clear hl4 hl48 hnl
    have HC := Lib.hid (And.intro call1 (And.intro call2 call3)); clear call1 call2 call3
    by_cases hCM : C = M
    · subst hCM
      have hNB := HNB.out.1
      by_cases hbig : 65536 < N
      · rw [if_pos (.inr hbig)] at hNB
        have HNB2 := Lib.hid hNB; clear hNB hN hM hC hq
        go_enter Tryz.func80, Tryz.ntmps80
        go_wp2_with (go_at_call 113; refine (HC.out.1 _ (Below.refl _ _)).mono ?_; rintro e w1 ⟨rfl, k1, rfl⟩)
        go_region_with (first
          | (go_at_call 40; refine (HC.out.2.1 _ (bdrew (bdrewN _ _))).mono ?_; rintro e w2 ⟨rfl, rfl⟩)
          | (go_at_call 113; refine (HC.out.2.2 _ (bdrew (bdrewN _ _))).mono ?_; rintro e w3 ⟨rfl, k3, rfl⟩))
        go_wp2
        go_ret3
        rw [← HNB2.out]
        exact ⟨_, rfl, Bs.nil _ _, bdrewN _ _⟩
      · rw [if_neg (fun h => h.elim (fun h => hq.1 h rfl) hbig)] at hNB
        have HQ := Lib.hid hq; clear hq
        have wN : IntKind.i64.wrap (N : Int) = (N : Int) := IntWalk.i64_in _ (by omega)
        by_cases hshort : n - 12 < N
        · rw [if_pos hshort] at hNB
          have HNB2 := Lib.hid hNB; clear hNB hN hM hC
          have hsh : (n : Int) - 12 < (N : Int) := by omega
          go_enter Tryz.func80, Tryz.ntmps80
          go_wp2_with (go_at_call 113; refine (HC.out.1 _ (Below.refl _ _)).mono ?_; rintro e w1 ⟨rfl, k1, rfl⟩)
          go_region_with (first
            | (go_at_call 40; refine (HC.out.2.1 _ (bdrew (bdrewN _ _))).mono ?_; rintro e w2 ⟨rfl, rfl⟩)
            | (go_at_call 113; refine (HC.out.2.2 _ (bdrew (bdrewN _ _))).mono ?_; rintro e w3 ⟨rfl, k3, rfl⟩))
          all_goals go_wp2
          all_goals go_ret3
          all_goals rw [← HNB2.out]
          all_goals exact ⟨_, rfl, Bs.nil _ _, bdrewN _ _⟩
        · rw [if_neg hshort] at hNB
          obtain ⟨X, hX⟩ : ∃ X, (l.drop 12).take N = X := ⟨_, rfl⟩
          rw [hX] at hNB
          have hXl : X.length = N := by rw [← hX, List.length_take, List.length_drop, ← HR.out.1]; omega
          have hrX := rd_cut HR.out.2 (cap := cap) (by rw [← HR.out.1]; exact hc) 12 N
          rw [hX] at hrX
          have s12 := fun w => run_slice_range (P := Tryz.prog) w 29 5 i0 1 Tryz.underlying29 hi0 hz1 A n cap .i64 .i64 12 (12 + (N : Int)) 12 (12 + N) rfl (by omega) (by omega) (by omega)
          rw [show 12 + N - 12 = N by omega] at s12
          have call4 := fun (W : World) (hb : Below w.heap.size w W) => number_c (fromAddr 1 A cap 8) (cap - 8) (l.drop 8) (n - 8) (by rw [List.length_drop, HR.out.1]) (by omega) W ((HR.out.2.below hb).drop_bytes cap 8 (by rw [← HR.out.1]; exact hc))
          have hq2 := fours_iff (crc X) (Wal.crc_lt _) _ hl812
          have hX4 := Wal.crc_lt X
          have hM8 := Wal.numB_lt ((l.drop 8).take 4)
          rw [hl812] at hM8
          generalize hM2 : numB ((l.drop 8).take 4) = M2 at *
          obtain ⟨C2, hC2⟩ : ∃ C2, crc X = C2 := ⟨_, rfl⟩
          rw [hC2] at hq2 hX4
          have HX := Lib.hid (And.intro hXl (And.intro hrX (And.intro hC2 call4))); clear hXl hrX hC2 call4
          have HNB2 := Lib.hid hNB; clear hNB hN hM hC hM2 hX
          have hsh : ¬ (n : Int) - 12 < (N : Int) := by omega
          have w12 : IntKind.i64.wrap (12 + (N : Int)) = 12 + (N : Int) := IntWalk.i64_in _ (by omega)
          go_enter Tryz.func80, Tryz.ntmps80
          go_wp2_with (go_at_call 113; refine (HC.out.1 _ (Below.refl _ _)).mono ?_; rintro e w1 ⟨rfl, k1, rfl⟩)
          go_region_with (first
            | (go_at_call 40; refine (HC.out.2.1 _ (bdrew (bdrewN _ _))).mono ?_; rintro e w2 ⟨rfl, rfl⟩)
            | (go_at_call 113; refine (HC.out.2.2 _ (bdrew (bdrewN _ _))).mono ?_; rintro e w3 ⟨rfl, k3, rfl⟩))
          generalize hW3 : w.drewN _ = W3
          have hb3 : Below w.heap.size w W3 := by rw [← hW3]; exact bdrewN _ _
          have HB3 := Lib.hid hb3; clear hb3 hW3
          go_wp2_with (at_builtin; refine wpList_bytes rfl _ _ rfl W3.heap.size _ [] rfl 0 rfl (own_nil W3) 0 (fromAddr 1 A cap 12) N (cap - 12) X rfl HX.out.1.symm ((HX.out.2.1.below HB3.out).alloc _) (by rw [HX.out.1]; simp; omega) (by simp) ?_)
          intro v4 w4 hown4 hb4
          have hb4 : Below w.heap.size w w4 := bstep HB3.out ((bnew W3 _).trans hb4)
          have hown4 : w4.ownsRow w.heap.size 5 1 v4 N (bytesV X) := by
            have h := own_base hown4 HB3.out.size
            rw [← HX.out.1]
            simpa using h
          obtain ⟨A4, c4, rfl, hc4, _, _⟩ := own_slice hown4
          have call5 := fun (W : World) (hb : Below w4.heap.size w4 W) => rsum_c A4 c4 X N HX.out.1.symm (by omega) W (((Rd.of_own hown4).mono (Nat.zero_le _)).below hb)
          rw [HX.out.2.2.1] at call5
          have call6 := fun (W : World) (hb : Below w4.heap.size w4 W) => HX.out.2.2.2 W (bstep hb4 hb)
          have H4 := Lib.hid (And.intro hown4 (And.intro hb4 (And.intro call5 call6))); clear hown4 hb4 call5 call6 hc4
          go_wp2_with fail
          by_cases hCM2 : C2 = M2
          · subst hCM2
            have hNB := HNB2.out
            rw [if_neg (fun h => by rw [HX.out.2.2.1] at h; exact hq2.1 h rfl)] at hNB
            have HQ2 := Lib.hid hq2; clear hq2
            have HNB3 := Lib.hid hNB; clear hNB
            go_region_with (first
              | (go_at_call 40; refine (H4.out.2.2.1 _ (bdrew (Below.refl _ _))).mono ?_; rintro e w5 ⟨rfl, rfl⟩)
              | (go_at_call 113; refine (H4.out.2.2.2 _ (bdrew (Below.refl _ _))).mono ?_; rintro e w6 ⟨rfl, k6, rfl⟩))
            all_goals go_wp2
            all_goals go_ret3
            all_goals rw [← HNB3.out]
            all_goals
              have hbs : Bs 5 w4 (.slice A4 N c4) X := Bs.of_own (base := w.heap.size) (by rw [HX.out.1]; exact H4.out.1)
              exact ⟨_, rfl, hbs.keeps fun _ _ h _ => h, bdrewN' H4.out.2.1 _⟩
          · have hNB := HNB2.out
            rw [if_pos (by rw [HX.out.2.2.1]; exact hq2.2 hCM2)] at hNB
            have HNB3 := Lib.hid hNB; clear hNB hq2
            have hne : ((C2 : Int) != (M2 : Int)) = true := by simp; omega
            go_region_with (first
              | (go_at_call 40; refine (H4.out.2.2.1 _ (bdrew (Below.refl _ _))).mono ?_; rintro e w5 ⟨rfl, rfl⟩)
              | (go_at_call 113; refine (H4.out.2.2.2 _ (bdrew (Below.refl _ _))).mono ?_; rintro e w6 ⟨rfl, k6, rfl⟩))
            all_goals go_wp2
            all_goals go_ret3
            all_goals rw [← HNB3.out]
            all_goals exact ⟨_, rfl, Bs.nil _ _, bdrewN' H4.out.2.1 _⟩
    · have hNB := HNB.out.1
      rw [if_pos (.inl (hq.2 hCM))] at hNB
      have hne : ((C : Int) != (M : Int)) = true := by simp; omega
      have HNB2 := Lib.hid hNB; clear hNB hN hM hC hq
      go_enter Tryz.func80, Tryz.ntmps80
      go_wp2_with (go_at_call 113; refine (HC.out.1 _ (Below.refl _ _)).mono ?_; rintro e w1 ⟨rfl, k1, rfl⟩)
      first
        | (go_region_with (first
        | (go_at_call 40; refine (HC.out.2.1 _ (bdrew (bdrewN _ _))).mono ?_; rintro e w2 ⟨rfl, rfl⟩)
        | (go_at_call 113; refine (HC.out.2.2 _ (bdrew (bdrewN _ _))).mono ?_; rintro e w3 ⟨rfl, k3, rfl⟩)))
        | fail
      all_goals go_wp2
      all_goals go_ret3
      all_goals rw [← HNB2.out]
      all_goals exact ⟨_, rfl, Bs.nil _ _, bdrewN _ _⟩
end Go.Proofs.YtnljhabpcoiihaaGreatDoor
