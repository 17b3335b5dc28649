/- The store's change: the first one of a record. -/
import Derived.Test.YtnljhabpcoiihaaGreatDoorKvP
import Derived.Test.YtnljhabpcoiihaaGreatDoorLApp
import Derived.Test.YtnljhabpcoiihaaGreatDoorFrs
set_option linter.all false
namespace Go.Proofs.YtnljhabpcoiihaaGreatDoor
open Go.RowKit
open Wal (numB)

theorem Bn.keepK {n : Nat} {w w' : World} {v : Value} {l : List UInt8} (h : Bn n w v l) (hk : ∀ (b : Nat) (o : Obj), w.heap[b]? = some o → (b < n ∨ tagOf o = some 5) → w'.heap[b]? = some o) : Bn n w' v l := by
  obtain ⟨A, cap, rfl, hc, hm, hl | ⟨b, o, c, t, f, rfl, hb, hbt, hk'⟩⟩ := h
  · exact ⟨A, cap, rfl, hc, hm, .inl hl⟩
  · exact ⟨_, cap, rfl, hc, hm, .inr ⟨b, o, c, t, f, rfl, hk b _ hb (hbt.imp id fun e => by rw [e]; rfl), hbt, hk'⟩⟩
theorem Bn.below {n : Nat} {w w' : World} {v : Value} {l : List UInt8} (h : Bn n w v l) (hb : Below w.heap.size w w') : Bn n w' v l :=
  h.keepK fun b o h1 _ => (hb.block b (heap_lt h1)).trans h1

theorem Bn.keepO {n x0 : Nat} {w w' : World} {v : Value} {l : List UInt8} (h : Bn n w v l) (hx : n ≤ x0) {T : TypeId} (hT : T ≠ 5) (h0 : ∃ c f, w.heap[x0]? = some (.cells c T f)) (hk : ∀ (b : Nat) (o : Obj), w.heap[b]? = some o → b ≠ x0 → w'.heap[b]? = some o) : Bn n w' v l :=
  h.keepK fun b o hb hc => hk b o hb (by
    rintro rfl
    obtain ⟨c, f, h0⟩ := h0
    rw [h0] at hb; cases hb
    rcases hc with hc | hc
    · omega
    · simp [tagOf] at hc; exact hT hc)
theorem Bn.from {n : Nat} {w : World} {A : Option Addr} {m cap : Nat} {l : List UInt8} (h : Bn n w (.slice A m cap) l) {k : Nat} (hk : k ≤ l.length) :
    Bn n w (.slice (fromAddr 1 A cap k) (m - k) (cap - k)) (l.drop k) := by
  obtain ⟨A', cap', hA, hc, hm, hl⟩ := h
  injection hA with h1 h2 h3
  subst h1 h2 h3
  refine ⟨_, _, by rw [List.length_drop], by rw [List.length_drop]; omega, by omega, ?_⟩
  rcases hl with rfl | ⟨b, o, c, t, f, rfl, hb, ht, hk'⟩
  · left; simp
  · by_cases hd : l.length ≤ k
    · left; exact List.drop_eq_nil_of_le hd
    · right
      refine ⟨b, o + k, c, t, f, ?_, hb, ht, fun j hj => ?_⟩
      · unfold fromAddr
        rw [if_neg (by omega)]
        unfold Addr.add
        by_cases h0 : k * 1 = 0
        · have : k = 0 := by omega
          subst this; rfl
        · have h1 : ¬ k = 0 := by omega
          simp [h1]
      · rw [List.length_drop] at hj
        rw [Nat.add_assoc, hk' (k + j) (by omega)]
        unfold bytesV
        rw [List.map_drop, List.getElem?_drop]

/-- what change leaves -/
def ChgPost (n0 : Nat) (w : World) (R : Option (ChM × List UInt8)) (e : Ending) (w' : World) : Prop :=
  Below w.heap.size w w' ∧ match R with
  | none => e = .returned (.tuple #[.agg #[.slice none 0 0, .slice none 0 0, .bool false], .slice none 0 0, .bool false])
  | some (c, r) => ∃ kv vv A cp, e = .returned (.tuple #[.agg #[kv, vv, .bool c.gone], .slice A r.length cp, .bool true]) ∧ Bs 5 w' kv c.key ∧ Bs 5 w' vv c.val ∧ Bn n0 w' (.slice A r.length cp) r

theorem own_bs {W : World} {base n : Nat} {v : Value} {l : List UInt8} (h : W.ownsRow base 5 1 v n (bytesV l)) (hn : l.length = n) : Bs 5 W v l := by
  subst hn; exact Bs.of_own h
theorem take_two {l : List UInt8} (h : 2 ≤ l.length) : l.take 2 = [l[0]'(by omega), l[1]'(by omega)] := by
  match l, h with
  | x :: y :: r, _ => rfl
theorem two_bits (a b : UInt8) : bits .or .i64 (wrap64 (wrap64 (a.toNat : Int) * 256)) (wrap64 (b.toNat : Int)) = ((numB [a, b] : Nat) : Int) := by
  have h1 := num_step [a, b] 0 (by decide) (by simp)
  have h2 := num_step [a, b] 1 (by decide) (by simp)
  simp only [List.take, List.getElem_cons_zero, List.getElem_cons_succ] at h1 h2
  have ha := a.toNat_lt
  have e : (numB [a] : Nat) = a.toNat := by simp [numB]
  rw [e] at h2
  rw [wrap_id (a.toNat : Int) (by omega) (by omega)]
  exact h2

set_option maxRecDepth 100000 in
set_option maxHeartbeats 4000000 in
theorem change_c (n0 : Nat) (A : Option Addr) (n cap : Nat) (l : List UInt8) (hn : n = l.length) (hm : n ≤ 1073741824) (w : World) (hr : Bn n0 w (.slice A n cap) l) (hn0 : n0 ≤ w.heap.size) :
    Calls Tryz.prog 93 #[.slice A n cap] w (ChgPost n0 w (changeM l)) := by
  obtain ⟨R, hR⟩ : ∃ R, changeM l = R := ⟨_, rfl⟩
  rw [hR]
  unfold changeM at hR
  rw [← hn] at hR
  have HR := Lib.hid (And.intro hr hn); clear hr hn
  obtain ⟨i0, hi0, hz0, hz1, hz2⟩ := info8
  by_cases h2 : n < 2
  · rw [if_pos h2] at hR
    subst hR
    clear hi0 hz0 hz1 hz2
    go_enter Tryz.func93, Tryz.ntmps93
    go_wp2
    exact bodyPost_ret (v := .tuple #[.agg #[.slice none 0 0, .slice none 0 0, .bool false], .slice none 0 0, .bool false]) (by simp [results, Tryz.results93, go_sem]) rfl ⟨bnew _ _, rfl⟩
  · rw [if_neg h2] at hR
    have HNB := Lib.hid hR; clear hR
    obtain ⟨b, o, hA, hcell⟩ := (HR.out.1.rd).addr (by rw [bytesV_length, ← HR.out.2]; omega)
    have q0 := (hcell 0 (by rw [bytesV_length, ← HR.out.2]; omega)).trans (bytesV_get l 0 (by rw [← HR.out.2]; omega))
    have q1 := (hcell 1 (by rw [bytesV_length, ← HR.out.2]; omega)).trans (bytesV_get l 1 (by rw [← HR.out.2]; omega))
    clear hcell
    subst hA
    obtain ⟨x0, hx0⟩ : ∃ x, l[0]'(by rw [← HR.out.2]; omega) = x := ⟨_, rfl⟩
    obtain ⟨x1, hx1⟩ : ∃ x, l[1]'(by rw [← HR.out.2]; omega) = x := ⟨_, rfl⟩
    rw [hx0] at q0
    rw [hx1] at q1
    have HX := Lib.hid (And.intro hx0 hx1); clear hx0 hx1
    rw [Nat.add_zero] at q0
    have hbl := cell_lt q0
    have q1' : (w.alloc (.cells #[.slice none 0 0, .slice none 0 0, .bool false] 87)).drew.cell? ⟨b, o + 1, none⟩ = some (.int .u8 (x1.toNat : Int)) := ((bnew w _).drew.cell (p := ⟨b, o + 1, none⟩) hbl).trans q1
    have q0' : (w.alloc (.cells #[.slice none 0 0, .slice none 0 0, .bool false] 87)).drew.cell? ⟨b, o, none⟩ = some (.int .u8 (x0.toNat : Int)) := ((bnew w _).drew.cell (p := ⟨b, o, none⟩) hbl).trans q0
    go_enter Tryz.func93, Tryz.ntmps93
    go_wp2_with fail
    go_region
    rw [two_bits x0 x1]
    have ht2 : l.take 2 = [x0, x1] := by
      rw [← HX.out.1, ← HX.out.2]
      exact take_two (by rw [← HR.out.2]; omega)
    have hRe := HNB.out
    rw [ht2] at hRe
    have hNlt : numB [x0, x1] < 65536 := Wal.numB_lt [x0, x1]
    obtain ⟨N, hN⟩ : ∃ N, numB [x0, x1] = N := ⟨_, rfl⟩
    rw [hN] at hRe hNlt ⊢
    have HNB2 := Lib.hid hRe; clear hRe hN ht2
    have hB0 : Below w.heap.size w (w.alloc (.cells #[.slice none 0 0, .slice none 0 0, .bool false] 87)).drew := (bnew w _).drew
    have hbx0 : (w.alloc (.cells #[.slice none 0 0, .slice none 0 0, .bool false] 87)).drew.heap[w.heap.size]? = some (.cells #[.slice none 0 0, .slice none 0 0, .bool false] 87 (0, 0)) := heap_alloc_new w _
    clear q0 q1 q0' q1'
    generalize (w.alloc (.cells #[.slice none 0 0, .slice none 0 0, .bool false] 87)).drew = W0 at hB0 hbx0 ⊢
    have z0 := Joins.cell_of_block hbx0 0
    have z1 := Joins.cell_of_block hbx0 1
    have z2 := Joins.cell_of_block hbx0 2
    have zf := Joins.unfrozen_of_block hbx0
    simp at z0 z1 z2
    have H0 := Lib.hid (And.intro hB0 hbx0); clear hB0 hbx0
    by_cases hbad : (N < 1 ∨ 64 < N) ∨ n < 6 + N
    · have hRe := HNB2.out
      rw [if_pos hbad] at hRe
      subst hRe
      clear hi0 hz0 hz1 hz2
      by_cases ha : N < 1
      · have d1 : decide ((N : Int) < 1) = true := by simp; omega
        go_wp2
        exact bodyPost_ret (v := .tuple #[.agg #[.slice none 0 0, .slice none 0 0, .bool false], .slice none 0 0, .bool false]) (by simp [results, Tryz.results93, go_sem, z0, z1, z2]) rfl ⟨((H0.out.1.setCell (Nat.le_refl _) _).setCell (Nat.le_refl _) _).setCell (Nat.le_refl _) _, rfl⟩
      · have d1 : decide ((N : Int) < 1) = false := by simp; omega
        by_cases hb : 64 < N
        · have d2 : decide ((64 : Int) < (N : Int)) = true := by simp; omega
          go_wp2
          exact bodyPost_ret (v := .tuple #[.agg #[.slice none 0 0, .slice none 0 0, .bool false], .slice none 0 0, .bool false]) (by simp [results, Tryz.results93, go_sem, z0, z1, z2]) rfl ⟨((H0.out.1.setCell (Nat.le_refl _) _).setCell (Nat.le_refl _) _).setCell (Nat.le_refl _) _, rfl⟩
        · have d2 : decide ((64 : Int) < (N : Int)) = false := by simp; omega
          have d3 : decide ((n : Int) < 6 + (N : Int)) = true := by simp; omega
          go_wp2
          exact bodyPost_ret (v := .tuple #[.agg #[.slice none 0 0, .slice none 0 0, .bool false], .slice none 0 0, .bool false]) (by simp [results, Tryz.results93, go_sem, z0, z1, z2]) rfl ⟨((H0.out.1.setCell (Nat.le_refl _) _).setCell (Nat.le_refl _) _).setCell (Nat.le_refl _) _, rfl⟩
    · have hRe := HNB2.out
      rw [if_neg hbad] at hRe
      have HNB3 := Lib.hid hRe; clear hRe
      have d1 : decide ((N : Int) < 1) = false := by simp; omega
      have d2 : decide ((64 : Int) < (N : Int)) = false := by simp; omega
      have d3 : decide ((n : Int) < 6 + (N : Int)) = false := by simp; omega
      have hN64 : N ≤ 64 := by omega
      have hn6 : 6 + N ≤ n := by omega
      clear hbad
      obtain ⟨M2, hM2⟩ : ∃ M, 2 + N = M := ⟨_, rfl⟩
      obtain ⟨M6, hM6⟩ : ∃ M, 6 + N = M := ⟨_, rfl⟩
      have hcap := HR.out.1.le
      rw [← HR.out.2] at hcap
      have s2 := fun w => run_slice_range (P := Tryz.prog) w 29 5 i0 1 Tryz.underlying29 hi0 hz1 (some ⟨b, o, none⟩) n cap .i64 .i64 2 (M2 : Int) 2 M2 rfl rfl (by omega) (by omega)
      have s6 := fun w => run_slice_range (P := Tryz.prog) w 29 5 i0 1 Tryz.underlying29 hi0 hz1 (some ⟨b, o, none⟩) n cap .i64 .i64 (M2 : Int) (M6 : Int) M2 M6 rfl rfl (by omega) (by omega)
      have s7 := fun w => run_slice_from (P := Tryz.prog) w 29 5 i0 1 Tryz.underlying29 hi0 hz1 (some ⟨b, o, none⟩) n cap .i64 (M6 : Int) M6 rfl (by omega)
      rw [show M2 - 2 = N by omega] at s2
      rw [show M6 - M2 = 4 by omega] at s6
      have hw2 : 2 + (N : Int) = (M2 : Int) := by omega
      have hw6 : 6 + (N : Int) = (M6 : Int) := by omega
      have hw2' : IntKind.i64.wrap (M2 : Int) = (M2 : Int) := IntWalk.i64_in _ (by omega)
      have hw6' : IntKind.i64.wrap (M6 : Int) = (M6 : Int) := IntWalk.i64_in _ (by omega)
      rw [hw6] at d3
      have hrK := (rd_cut HR.out.1.rd (cap := cap) (by rw [← HR.out.2]; exact hcap) 2 N).below H0.out.1
      have hr4 := (rd_cut HR.out.1.rd (cap := cap) (by rw [← HR.out.2]; exact hcap) M2 4).below H0.out.1
      have hlK : ((l.drop 2).take N).length = N := by rw [List.length_take, List.length_drop, ← HR.out.2]; omega
      have hl4 : ((l.drop M2).take 4).length = 4 := by rw [List.length_take, List.length_drop, ← HR.out.2]; omega
      have HC := Lib.hid (bclone_c (fromAddr 1 (some ⟨b, o, none⟩) cap 2) N (cap - 2) ((l.drop 2).take N) hlK.symm W0 (by omega) hrK)
      have HK := Lib.hid (And.intro hr4 (And.intro hlK hl4)); clear hrK hr4 hlK hl4
      go_wp2_with (go_at_call 55; (with_reducible refine HC.out.mono ?_); rintro e w1 ⟨v1, rfl, hown1, hb1⟩; rw [HK.out.2.1] at hown1; obtain ⟨A1, c1, rfl, -, -, -⟩ := own_slice hown1; have y0 := zf; have hbx1 := (hb1.block _ (heap_lt H0.out.2)).trans H0.out.2; have u0 := Joins.cell_of_block hbx1 0; have uf := Joins.unfrozen_of_block hbx1 0; have H1 := Lib.hid (And.intro hown1 (And.intro hb1 hbx1)); clear hown1 hb1 hbx1; simp at u0)
      have hB1 : Below w.heap.size w (w1.setCell ⟨w.heap.size, 0, none⟩ (.slice A1 N c1)) := (H0.out.1.trans (H1.out.2.1.mono H0.out.1.size)).setCell (Nat.le_refl _) _
      have hbx1 : (w1.setCell ⟨w.heap.size, 0, none⟩ (.slice A1 N c1)).heap[w.heap.size]? = some (.cells #[.slice A1 N c1, .slice none 0 0, .bool false] 87 (0, 0)) := by rw [Joins.block_setCell H1.out.2.2]; rfl
      have hbk1 : Bs 5 (w1.setCell ⟨w.heap.size, 0, none⟩ (.slice A1 N c1)) (.slice A1 N c1) ((l.drop 2).take N) :=
        (own_bs H1.out.1 HK.out.2.1).keeps fun b o hb ht => heap_setCell_ne' hb (by rintro rfl; rw [H1.out.2.2] at hb; cases hb; simp [tagOf] at ht)
      clear u0 uf z0 z1 z2 zf y0
      generalize w1.setCell ⟨w.heap.size, 0, none⟩ (.slice A1 N c1) = W2 at hB1 hbx1 hbk1 ⊢
      have hr4 := (rd_cut HR.out.1.rd (cap := cap) (by rw [← HR.out.2]; exact hcap) M2 4).below hB1
      have hq4 := HK.out.2.2
      obtain ⟨q, hq⟩ : ∃ q, (l.drop M2).take 4 = q := ⟨_, rfl⟩
      rw [hq] at hr4 hq4
      obtain ⟨b4, o4, hA4, hcell4⟩ := hr4.addr (by rw [bytesV_length]; omega)
      have H2 := Lib.hid (And.intro hB1 (And.intro hbx1 (And.intro hbk1 (And.intro hcell4 (And.intro hq hq4))))); clear hB1 hbx1 hbk1 hcell4 hq hq4 hr4
      rw [hA4]
      have HA4 := Lib.hid hA4; clear hA4
      go_loopw [6, 50] (fun s i wr => ∃ (k : Nat), k ≤ 4 ∧ i = .int .i64 k ∧ s = .int .i64 (numB (q.take k) : Nat) ∧ W2 = wr) (fun _ i _ => 4 - (intOf i).toNat)
      case atStart => exact ⟨0, by omega, rfl, rfl, rfl⟩
      case round =>
        obtain ⟨k, hk, rfl, rfl, rfl⟩ := hrel
        by_cases hlt : k < 4
        · have hkl : k < q.length := by rw [H2.out.2.2.2.2.2]; omega
          have q0 := (H2.out.2.2.2.1 k (by rw [bytesV_length]; omega)).trans (bytesV_get q k (by omega))
          go_wp2_with fail
          rw [num_step q k hlt hkl]
          exact ⟨⟨k + 1, by omega, rfl, rfl, trivial⟩, by simp [intOf]; omega⟩
        · obtain rfl : k = 4 := by omega
          rw [show q.take 4 = q from List.take_of_length_le (by rw [H2.out.2.2.2.2.2]; exact Nat.le_refl _)]
          have hSlt := Wal.numB_lt q
          rw [H2.out.2.2.2.2.2] at hSlt
          have hRe := HNB3.out
          rw [hM2, hM6, H2.out.2.2.2.2.1] at hRe
          obtain ⟨S, hS⟩ : ∃ S, numB q = S := ⟨_, rfl⟩
          rw [hS] at hSlt hRe ⊢
          have z0 := Joins.cell_of_block H2.out.2.1 0
          have z1 := Joins.cell_of_block H2.out.2.1 1
          have z2 := Joins.cell_of_block H2.out.2.1 2
          have zf := Joins.unfrozen_of_block H2.out.2.1
          simp at z0 z1 z2
          have hlR : (l.drop M6).length = n - M6 := by rw [List.length_drop, ← HR.out.2]
          have hbR := (HR.out.1.below H2.out.1).from (k := M6) (by rw [← HR.out.2]; omega)
          obtain ⟨AR, hAR⟩ : ∃ x, fromAddr 1 (some ⟨b, o, none⟩) cap M6 = x := ⟨_, rfl⟩
          obtain ⟨NR, hNR⟩ : ∃ x, n - M6 = x := ⟨_, rfl⟩
          obtain ⟨CR, hCR⟩ : ∃ x, cap - M6 = x := ⟨_, rfl⟩
          rw [hAR, hNR, hCR] at hbR
          rw [hNR] at hlR
          simp only [hAR, hNR, hCR] at s7
          have hNC : NR ≤ CR := by omega
          have hNn : NR ≤ 1073741824 := by omega
          have HAR := Lib.hid (And.intro hAR (And.intro hNR hCR)); clear hAR hNR hCR
          by_cases hff : S = 4294967295
          · rw [if_pos hff] at hRe
            subst hRe hff
            have HF := Lib.hid (And.intro hlR hbR); clear hlR hbR hS
            go_wp2
            refine bodyPost_ret (v := .tuple #[.agg #[.slice A1 N c1, .slice none 0 0, .bool true], .slice AR NR CR, .bool true]) (by simp [results, Tryz.results93, go_sem, z0, z1, z2]) rfl ⟨(((H2.out.1.setCell (Nat.le_refl _) _).setCell (Nat.le_refl _) _).setCell (Nat.le_refl _) _).setCell (Nat.le_refl _) _, ?_⟩
            have hk : ∀ (x : Nat) (ob : Obj), W2.heap[x]? = some ob → x ≠ w.heap.size → ((((W2.setCell ⟨w.heap.size, 2, none⟩ (.bool true)).setCell ⟨w.heap.size, 0, none⟩ (.slice A1 N c1)).setCell ⟨w.heap.size, 1, none⟩ (.slice none 0 0)).setCell ⟨w.heap.size, 2, none⟩ (.bool true)).heap[x]? = some ob :=
              fun x ob hb hne => heap_setCell_ne' (heap_setCell_ne' (heap_setCell_ne' (heap_setCell_ne' hb hne) hne) hne) hne
            have hkb : ∀ (x : Nat) (ob : Obj), W2.heap[x]? = some ob → tagOf ob ≠ some 87 → ((((W2.setCell ⟨w.heap.size, 2, none⟩ (.bool true)).setCell ⟨w.heap.size, 0, none⟩ (.slice A1 N c1)).setCell ⟨w.heap.size, 1, none⟩ (.slice none 0 0)).setCell ⟨w.heap.size, 2, none⟩ (.bool true)).heap[x]? = some ob :=
              fun x ob hb ht => hk x ob hb (by rintro rfl; rw [H2.out.2.1] at hb; cases hb; exact ht rfl)
            refine ⟨_, _, AR, CR, ?_, H2.out.2.2.1.keeps fun x ob hb ht => hkb x ob hb (by rw [ht]; simp), Bs.nil _ _, ?_⟩
            · rw [HF.out.1]
            · rw [HF.out.1]
              exact HF.out.2.keepO hn0 (T := 87) (by decide) ⟨_, _, H2.out.2.1⟩ hk
          · rw [if_neg hff] at hRe
            by_cases hbig : NR < S
            · rw [hlR, if_pos hbig] at hRe
              subst hRe
              have d4 : ((S : Int) == 4294967295) = false := by simp; omega
              have d5 : decide ((NR : Int) < (S : Int)) = true := by simp; omega
              clear hlR hbR hS
              go_wp2
              exact bodyPost_ret (v := .tuple #[.agg #[.slice none 0 0, .slice none 0 0, .bool false], .slice none 0 0, .bool false]) (by simp [results, Tryz.results93, go_sem, z0, z1, z2]) rfl ⟨((H2.out.1.setCell (Nat.le_refl _) _).setCell (Nat.le_refl _) _).setCell (Nat.le_refl _) _, rfl⟩
            · rw [hlR, if_neg hbig] at hRe
              subst hRe
              have d4 : ((S : Int) == 4294967295) = false := by simp; omega
              have d5 : decide ((NR : Int) < (S : Int)) = false := by simp; omega
              have s8 := fun w => run_slice_to (P := Tryz.prog) w 29 5 i0 1 Tryz.underlying29 hi0 hz1 AR NR CR .i64 (S : Int) S rfl (by omega)
              have s9 := fun w => run_slice_from (P := Tryz.prog) w 29 5 i0 1 Tryz.underlying29 hi0 hz1 AR NR CR .i64 (S : Int) S rfl (by omega)
              have hlV : ((l.drop M6).take S).length = S := by rw [List.length_take, hlR]; omega
              have hrV : Rd 0 W2 AR (bytesV ((l.drop M6).take S)) := by
                have := hbR.rd.take S
                unfold bytesV at this ⊢
                rw [List.map_take]
                exact this
              have HC2 := Lib.hid (bclone_c AR S CR ((l.drop M6).take S) hlV.symm W2 (by omega) hrV)
              have HF := Lib.hid (And.intro hlR (And.intro hbR hlV)); clear hlR hbR hS hlV hrV
              go_wp2_with (go_at_call 55; (with_reducible refine HC2.out.mono ?_); rintro e w3 ⟨v3, rfl, hown3, hb3⟩; rw [HF.out.2.2] at hown3; obtain ⟨A3, c3, rfl, -, -, -⟩ := own_slice hown3; have hbx3 := (hb3.block _ (heap_lt H2.out.2.1)).trans H2.out.2.1; have u0 := Joins.cell_of_block hbx3 0; have u1 := Joins.cell_of_block hbx3 1; have u2 := Joins.cell_of_block hbx3 2; have uf := Joins.unfrozen_of_block hbx3; have H3 := Lib.hid (And.intro hown3 (And.intro hb3 hbx3)); clear hown3 hb3 hbx3; simp at u0 u1 u2)
              have hB4 : Below w.heap.size w (w3.setCell ⟨w.heap.size, 1, none⟩ (.slice A3 S c3)) := (H2.out.1.trans (H3.out.2.1.mono H2.out.1.size)).setCell (Nat.le_refl _) _
              have hbx4 : (w3.setCell ⟨w.heap.size, 1, none⟩ (.slice A3 S c3)).heap[w.heap.size]? = some (.cells #[.slice A1 N c1, .slice A3 S c3, .bool false] 87 (0, 0)) := by rw [Joins.block_setCell H3.out.2.2]; rfl
              have hk4 : ∀ (x : Nat) (ob : Obj), w3.heap[x]? = some ob → x ≠ w.heap.size → (w3.setCell ⟨w.heap.size, 1, none⟩ (.slice A3 S c3)).heap[x]? = some ob := fun x ob hb hne => heap_setCell_ne' hb hne
              clear u0 u1 u2 uf z0 z1 z2 zf
              generalize w3.setCell ⟨w.heap.size, 1, none⟩ (.slice A3 S c3) = W4 at hB4 hbx4 hk4 ⊢
              have z0 := Joins.cell_of_block hbx4 0
              have z1 := Joins.cell_of_block hbx4 1
              have z2 := Joins.cell_of_block hbx4 2
              have zf := Joins.unfrozen_of_block hbx4
              simp at z0 z1 z2
              have H4 := Lib.hid (And.intro hB4 (And.intro hbx4 hk4)); clear hB4 hbx4 hk4
              go_region
              go_wp2_with fail
              refine bodyPost_ret (v := .tuple #[.agg #[.slice A1 N c1, .slice A3 S c3, .bool false], .slice (fromAddr 1 AR CR S) (NR - S) (CR - S), .bool true]) (by simp [results, Tryz.results93, go_sem, z0, z1, z2]) rfl ⟨(((H4.out.1.setCell (Nat.le_refl _) _).setCell (Nat.le_refl _) _).setCell (Nat.le_refl _) _).drew, ?_⟩
              have hk : ∀ (x : Nat) (ob : Obj), W4.heap[x]? = some ob → x ≠ w.heap.size → (((W4.setCell ⟨w.heap.size, 0, none⟩ (.slice A1 N c1)).setCell ⟨w.heap.size, 1, none⟩ (.slice A3 S c3)).setCell ⟨w.heap.size, 2, none⟩ (.bool false)).drew.heap[x]? = some ob :=
                fun x ob hb hne => heap_setCell_ne' (heap_setCell_ne' (heap_setCell_ne' hb hne) hne) hne
              have hk3 : ∀ (x : Nat) (ob : Obj), w3.heap[x]? = some ob → x ≠ w.heap.size → (((W4.setCell ⟨w.heap.size, 0, none⟩ (.slice A1 N c1)).setCell ⟨w.heap.size, 1, none⟩ (.slice A3 S c3)).setCell ⟨w.heap.size, 2, none⟩ (.bool false)).drew.heap[x]? = some ob :=
                fun x ob hb hne => hk x ob (H4.out.2.2 x ob hb hne) hne
              have hne3 : ∀ (x : Nat) (ob : Obj), w3.heap[x]? = some ob → tagOf ob = some 5 → x ≠ w.heap.size := fun x ob hb ht => by
                rintro rfl; rw [H3.out.2.2] at hb; cases hb; simp [tagOf] at ht
              have hne2 : ∀ (x : Nat) (ob : Obj), W2.heap[x]? = some ob → tagOf ob = some 5 → x ≠ w.heap.size := fun x ob hb ht => by
                rintro rfl; rw [H2.out.2.1] at hb; cases hb; simp [tagOf] at ht
              have hlR2 : (l.drop M6).length = NR := HF.out.1
              refine ⟨_, _, fromAddr 1 AR CR S, CR - S, ?_, (H2.out.2.2.1.below H3.out.2.1).keeps fun x ob hb ht => hk3 x ob hb (hne3 x ob hb ht), (own_bs H3.out.1 HF.out.2.2).keeps fun x ob hb ht => hk3 x ob hb (hne3 x ob hb ht), ?_⟩
              · rw [List.length_drop, hlR2]
              · have h9 := ((HF.out.2.1.below H3.out.2.1).keepO hn0 (T := 87) (by decide) ⟨_, _, H3.out.2.2⟩ hk3).from (k := S) (by rw [hlR2]; omega)
                rw [List.length_drop, hlR2]
                exact h9
end Go.Proofs.YtnljhabpcoiihaaGreatDoor
