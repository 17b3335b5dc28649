/- A record's frame. Which record bytes begin with. -/
import Derived.Test.YtnljhabpcoiihaaGreatDoorByt
import Derived.Deep.RegionWith
set_option linter.all false
namespace Go.Proofs.YtnljhabpcoiihaaGreatDoor
open Go.RowKit
open Wal (crc fourB numB frameB)

theorem rd_new4 (w : World) (T : TypeId) (a b c d : Value) : Rd 0 (w.alloc (.cells #[a, b, c, d] T)) (some ⟨w.heap.size, 0, none⟩) [a, b, c, d] := by
  refine .inr ⟨w.heap.size, 0, Nat.zero_le _, rfl, fun k hk => ?_⟩
  rw [Joins.cell_of_block (heap_alloc_new w _)]
  simp
theorem bsl4 {w : World} {v1 v2 v3 v4 : Value} {l1 l2 l3 l4 : List UInt8} (h1 : BytesR 0 w v1 l1) (h2 : BytesR 0 w v2 l2) (h3 : BytesR 0 w v3 l3) (h4 : BytesR 0 w v4 l4) : Bsl w [v1, v2, v3, v4] [l1, l2, l3, l4] := by
  refine ⟨rfl, fun k v l hv hl => ?_⟩
  match k with
  | 0 => simp at hv hl; subst hv hl; exact h1
  | 1 => simp at hv hl; subst hv hl; exact h2
  | 2 => simp at hv hl; subst hv hl; exact h3
  | 3 => simp at hv hl; subst hv hl; exact h4
  | k + 4 => simp at hv

theorem own_rd {w : World} {base n : Nat} {A : Option Addr} {c : Nat} {l : List UInt8} {e : TypeId} (h : w.ownsRow base e 1 (.slice A n c) n (bytesV l)) (hn : n = l.length) : BytesR 0 w (.slice A n c) l := by
  subst hn
  exact (BytesR.of_own h).mono (Nat.zero_le _)

/-- four, its result as a slice -/
theorem four_s (x : Nat) (hx : x < 4294967296) (w : World) :
    Calls Tryz.prog 144 #[.int .u32 (x : Nat)] w fun e w' => ∃ A c, e = .returned (.slice A 4 c) ∧ w'.ownsRow w.heap.size 5 1 (.slice A 4 c) 4 (bytesV (fourB x)) ∧ Below w.heap.size w w' :=
  (four_c x hx w).mono fun e w' ⟨v, h1, h2, h3⟩ => by
    obtain ⟨A, c, rfl, _⟩ := own_slice h2
    exact ⟨A, c, h1, h2, h3⟩
theorem rfour_s (x : Nat) (hx : x < 4294967296) (w : World) :
    Calls Tryz.prog 39 #[.int .u32 (x : Nat)] w fun e w' => ∃ A c, e = .returned (.slice A 4 c) ∧ w'.ownsRow w.heap.size 5 1 (.slice A 4 c) 4 (bytesV (fourB x)) ∧ Below w.heap.size w w' :=
  (rfour_c x hx w).mono fun e w' ⟨v, h1, h2, h3⟩ => by
    obtain ⟨A, c, rfl, _⟩ := own_slice h2
    exact ⟨A, c, h1, h2, h3⟩

set_option maxRecDepth 100000 in
set_option maxHeartbeats 400000 in
theorem frame_c (A : Option Addr) (n cap : Nat) (l : List UInt8) (hn : n = l.length) (hm : n ≤ 140737488351232) (hc : n ≤ cap) (w : World) (hr : Rd 0 w A (bytesV l)) :
    Calls Tryz.prog 118 #[.slice A n cap] w fun e w' => ∃ v, e = .returned v ∧ w'.ownsRow w.heap.size 5 1 v (frameB l).length (bytesV (frameB l)) ∧ Below w.heap.size w w' := by
  have HR := Lib.hid (And.intro hn hr); clear hn hr
  obtain ⟨F, hF⟩ : ∃ F, frameB l = F := ⟨_, rfl⟩
  rw [hF]
  have HF := Lib.hid hF; clear hF
  obtain ⟨K, hK, hK2⟩ : ∃ K : Nat, IntKind.u32.wrap (n : Int) = (K : Int) ∧ K = n % 4294967296 := ⟨n % 4294967296, by rw [IntKind.wrap_u32']; omega, rfl⟩
  have hKlt : K < 4294967296 := by omega
  obtain ⟨N4, hN4⟩ : ∃ N4, fourB K = N4 := ⟨_, rfl⟩
  have hN4l : N4.length = 4 := by rw [← hN4]; rfl
  have HK := Lib.hid (And.intro hK2 (And.intro hKlt (And.intro hN4 hN4l))); clear hK2 hKlt hN4 hN4l
  go_enter Tryz.func118, Tryz.ntmps118
  go_wp2_with fail
  refine (four_s K HK.out.2.1 _).mono ?_
  rintro e w1 ⟨A1, c1, rfl, hown1, hb1⟩
  have H1 := Lib.hid (And.intro hown1 hb1); clear hown1 hb1
  go_wp2_with fail
  refine (sum_c A1 c1 (fourB K) 4 rfl (by omega) w1 ((Rd.of_own H1.out.1).mono (Nat.zero_le _))).mono ?_
  rintro e w2 ⟨rfl, rfl⟩
  go_wp2_with fail
  refine (four_s (crc (fourB K)) (Wal.crc_lt _) _).mono ?_
  rintro e w3 ⟨A3, c3, rfl, hown3, hb3⟩
  have H3 := Lib.hid (And.intro hown3 hb3); clear hown3 hb3
  go_wp2_with fail
  refine (sum_c A cap l n HR.out.1 (by omega) w3 (HR.out.2.below (bstep H1.out.2 H3.out.2))).mono ?_
  rintro e w4 ⟨rfl, rfl⟩
  go_wp2_with fail
  refine (four_s (crc l) (Wal.crc_lt _) _).mono ?_
  rintro e w5 ⟨A5, c5, rfl, hown5, hb5⟩
  have H5 := Lib.hid (And.intro hown5 hb5); clear hown5 hb5
  go_wp2_with fail
  have hb6 := bnew w5 (.cells #[.slice A1 4 c1, .slice A3 4 c3, .slice A5 4 c5, .slice A n cap] 29)
  have hcat := concat_c (some ⟨w5.heap.size, 0, none⟩) 4 4 [.slice A1 4 c1, .slice A3 4 c3, .slice A5 4 c5, .slice A n cap] [fourB K, fourB (crc (fourB K)), fourB (crc l), l] rfl (by omega)
    (by simp [Wal.fourB_length]; have := HR.out.1; omega) _ (rd_new4 w5 29 _ _ _ _)
    (bsl4 ((own_rd H1.out.1 rfl).below (bstep (bstep H3.out.2 H5.out.2) hb6)) ((own_rd H3.out.1 rfl).below (bstep H5.out.2 hb6)) ((own_rd H5.out.1 rfl).below hb6)
      ⟨A, cap, by rw [HR.out.1], by rw [← HR.out.1]; exact hc, HR.out.2.below (bstep (bstep (bstep H1.out.2 H3.out.2) H5.out.2) hb6)⟩)
  refine hcat.mono ?_
  rintro e w6 ⟨v, rfl, hown, hb7⟩
  have H6 := Lib.hid (And.intro hown (And.intro hb6 hb7)); clear hown hb6 hb7
  go_wp2_with fail
  go_ret
  have e1 : ([fourB K, fourB (crc (fourB K)), fourB (crc l), l] : List (List UInt8)).flatten = F := by
    rw [← HF.out, frameB, ← HR.out.1, ← HK.out.1]
    simp
  have hown := H6.out.1
  rw [e1] at hown
  have hb := bstep (bstep (bstep (bstep H1.out.2 H3.out.2) H5.out.2) H6.out.2.1) H6.out.2.2
  refine ⟨v, rfl, own_base hown ?_, hb⟩
  have := H1.out.2.size; have := H3.out.2.size; have := H5.out.2.size
  simp; omega
end Go.Proofs.YtnljhabpcoiihaaGreatDoor
set_option linter.all false
namespace Go.Proofs.YtnljhabpcoiihaaGreatDoor
open Go.RowKit
open Wal (crc fourB numB nextB)

theorem BytesR.rd {n : Nat} {w : World} {A : Option Addr} {m c : Nat} {l : List UInt8} (h : BytesR n w (.slice A m c) l) : Rd n w A (bytesV l) := by
  obtain ⟨A', c', hA, _, hr⟩ := h
  injection hA with h1 h2 h3
  subst h1
  exact hr

theorem bel_drew {w w' : World} (h : Below w.drew.heap.size w.drew w') : Below w.heap.size w w' := ⟨h.os, h.tape, h.output, h.size, h.block⟩

theorem rd_cut {w : World} {A : Option Addr} {cap : Nat} {l : List UInt8} (h : Rd 0 w A (bytesV l)) (hc : l.length ≤ cap) (i m : Nat) : Rd 0 w (fromAddr 1 A cap i) (bytesV ((l.drop i).take m)) := by
  have := (h.from 1 cap i (by rw [bytesV_length]; omega)).take m
  unfold bytesV
  rw [List.map_take, List.map_drop]
  rw [Nat.mul_one] at this
  exact this

theorem run_slice_to {P : Program} (w : World) (t e : TypeId) (i : TypeInfo) (size : Nat) (ht : P.underlying t = some (.slice e)) (hi : P.info? e = some i) (hs : i.size = size)
    (A : Option Addr) (len cap : Nat) (k : IntKind) (x : Int) (n : Nat) (hx : x = n) (h : n ≤ cap) :
    (Instr.slice t (.slice A len cap) none (some (.int k x)) none).run P w = .ok (.slice A n cap) w := by
  subst hs hx
  have hA : (if cap = 0 then A else A.map (·.add (0 * i.size))) = A := by
    split
    · rfl
    · cases A <;> simp [Addr.add]
  simp [Instr.slice, run_underlying ht, Instr.sliceBounds, Instr.sliceBound, asIntOf, sizeOf, typeInfo, hi, h]
  try (simpa using hA)

theorem i64_or_nat (a b : Nat) (ha : a < 4611686018427387904) (hb : b < 4611686018427387904) : bits .or .i64 (a : Int) (b : Int) = ((a ||| b : Nat) : Int) := by
  have hx : a ||| b < 2 ^ 62 := Nat.or_lt_two_pow (by omega) (by omega)
  show IntKind.i64.wrap ((BitVec.ofInt 64 (a : Int) ||| BitVec.ofInt 64 (b : Int)).toNat : Int) = _
  rw [BitVec.toNat_or, ofInt_u64 a (by omega), ofInt_u64 b (by omega)]
  exact IntWalk.i64_in _ (by omega)
theorem num_step (l : List UInt8) (k : Nat) (hk : k < 4) (hl : k < l.length) :
    bits .or .i64 (wrap64 ((numB (l.take k) : Nat) * 256)) (wrap64 (l[k].toNat : Int)) = ((numB (l.take (k + 1)) : Nat) : Int) := by
  have h8 := l[k].toNat_lt
  have hb : numB (l.take k) < 16777216 := by
    refine Nat.lt_of_lt_of_le (Wal.numB_lt _) ?_
    have : (l.take k).length ≤ 3 := by rw [List.length_take]; omega
    exact Nat.le_trans (Nat.pow_le_pow_right (by omega) this) (by omega)
  rw [wrap_id _ (by omega) (by omega), wrap_id _ (by omega) (by omega)]
  rw [show ((numB (l.take k) : Nat) : Int) * 256 = ((2 ^ 8 * numB (l.take k) : Nat) : Int) by omega]
  rw [i64_or_nat _ _ (by omega) (by omega), ← Nat.two_pow_add_eq_or_of_lt (by omega)]
  rw [List.take_succ_eq_append_getElem hl, Wal.numB_append_one]
  congr 1
  omega

set_option maxRecDepth 100000 in
set_option maxHeartbeats 4000000 in
theorem next_c (A : Option Addr) (n cap : Nat) (l : List UInt8) (hn : n = l.length) (hm : n ≤ 140737488351232) (hc : n ≤ cap) (w : World) (hr : Rd 0 w A (bytesV l)) :
    Calls Tryz.prog 132 #[.slice A n cap] w fun e w' => ∃ v, e = .returned (.tuple #[v, .int .i64 ((nextB l).2.1 : Nat), .int .i64 ((nextB l).2.2 : Nat)]) ∧ Bs 5 w' v ((nextB l).1.getD []) ∧ Below w.heap.size w w' := by
  have HR := Lib.hid (And.intro hn hr); clear hr
  obtain ⟨NB, hNB⟩ : ∃ N, nextB l = N := ⟨_, rfl⟩
  rw [hNB]
  unfold nextB at hNB
  rw [← hn] at hNB
  obtain ⟨i0, hi0, hz0, hz1, hz2⟩ := info8
  by_cases h12 : n < 12
  · rw [if_pos h12] at hNB
    subst hNB
    clear hi0 hz0 hz1 hz2 hn
    go_enter Tryz.func132, Tryz.ntmps132
    go_wp2
    go_ret3
    exact ⟨_, rfl, Bs.nil _ _, Below.refl _ _⟩
  · rw [if_neg h12] at hNB
    have HNB := Lib.hid (And.intro hNB hn); clear hNB hn
    have s4 := fun w => run_slice_to (P := Tryz.prog) w 29 5 i0 1 Tryz.underlying29 hi0 hz1 A n cap .i64 4 4 rfl (by omega)
    have s48 := fun w => run_slice_range (P := Tryz.prog) w 29 5 i0 1 Tryz.underlying29 hi0 hz1 A n cap .i64 .i64 4 8 4 8 rfl rfl (by omega) (by omega)
    go_enter Tryz.func132, Tryz.ntmps132
    go_wp2_with fail
    go_loopw [5, 14] (fun s i wr => ∃ (k : Nat), k ≤ 4 ∧ i = .int .i64 k ∧ s = .int .i64 (numB (l.take k) : Nat) ∧ w = wr) (fun _ i _ => 4 - (intOf i).toNat)
    case atStart => exact ⟨0, by omega, rfl, rfl, rfl⟩
    case round =>
      obtain ⟨k, hk, rfl, rfl, rfl⟩ := hrel
      by_cases hlt : k < 4
      · have hkl : k < l.length := by rw [← HNB.out.2]; omega
        obtain ⟨b, o, hA, hcell⟩ := HR.out.2.addr (by rw [bytesV_length]; omega)
        have q0 := (hcell k (by rw [bytesV_length]; omega)).trans (bytesV_get l k (by omega))
        clear hcell
        subst hA
        go_wp2_with fail
        rw [num_step l k hlt hkl]
        exact ⟨⟨k + 1, by omega, rfl, rfl, trivial⟩, by simp [intOf]; omega⟩
      · obtain rfl : k = 4 := by omega
        have hr4 : Rd 0 w A (bytesV (l.take 4)) := by
          have := HR.out.2.take 4
          unfold bytesV at this ⊢
          rw [List.map_take]
          exact this
        have hr48 : Rd 0 w (fromAddr 1 A cap 4) (bytesV ((l.drop 4).take 4)) := by
          have := (HR.out.2.from 1 cap 4 (by rw [bytesV_length, ← HNB.out.2]; omega)).take 4
          unfold bytesV
          rw [List.map_take, List.map_drop]
          exact this
        have hl4 : (l.take 4).length = 4 := by rw [List.length_take, ← HNB.out.2]; omega
        have hl48 : ((l.drop 4).take 4).length = 4 := by rw [List.length_take, List.length_drop, ← HNB.out.2]; omega
        have hN4 := Wal.numB_lt (l.take 4)
        rw [hl4] at hN4
        obtain ⟨N, hN⟩ : ∃ N, numB (l.take 4) = N := ⟨_, rfl⟩
        rw [hN] at hN4 ⊢
        obtain ⟨q, hq⟩ : ∃ q, (fourB (crc (l.take 4)) == (l.drop 4).take 4) = q := ⟨_, rfl⟩
        have HQ := Lib.hid (And.intro hr4 (And.intro hr48 (And.intro hl4 (And.intro hl48 (And.intro hN hq))))); clear hr4 hr48 hl4 hl48 hN hq
        have hNB := HNB.out.1
        have hcond : (fourB (crc (l.take 4)) ≠ (l.drop 4).take 4) ↔ q = false := by rw [← HQ.out.2.2.2.2.2]; simp
        rw [HQ.out.2.2.2.2.1] at hNB
        cases q with
        | false =>
          rw [if_pos (.inl (hcond.2 rfl))] at hNB
          have HNB2 := Lib.hid hNB; clear hNB hcond
          go_wp2_with fail
          first
            | (go_region_with
                (first
                  | (go_at_call 145; refine (sum_c A cap (l.take 4) 4 HQ.out.2.2.1.symm (by omega) _ HQ.out.1.drew).mono ?_; rintro e w1 ⟨rfl, rfl⟩)
                  | (go_at_call 144; refine (four_s (crc (l.take 4)) (Wal.crc_lt _) _).mono ?_; rintro e w1 ⟨A1, c1, rfl, hown1, hb1⟩; have H1 := Lib.hid (And.intro hown1 hb1))
                  | (go_at_call 163; refine (equal_c _ _ 4 4 _ _ (fourB (crc (l.take 4))) ((l.drop 4).take 4) rfl HQ.out.2.2.2.1.symm _ (own_rd H1.out.1 rfl).rd (HQ.out.2.1.drew.below H1.out.2)).mono ?_; rintro e w1 ⟨rfl, rfl⟩; rw [HQ.out.2.2.2.2.2])))
            | fail
          go_wp2
          go_ret3
          rw [← HNB2.out]
          exact ⟨_, rfl, Bs.nil _ _, bel_drew H1.out.2⟩
        | true =>
          have hne : ¬ (fourB (crc (l.take 4)) ≠ (l.drop 4).take 4) := fun h => by have := hcond.1 h; cases this
          by_cases hbig : 65536 < N
          · rw [if_pos (.inr hbig)] at hNB
            have HNB2 := Lib.hid hNB; clear hNB hcond hne
            go_wp2_with fail
            go_region_with
              (first
                | (go_at_call 145; refine (sum_c A cap (l.take 4) 4 HQ.out.2.2.1.symm (by omega) _ HQ.out.1.drew).mono ?_; rintro e w1 ⟨rfl, rfl⟩)
                | (go_at_call 144; refine (four_s (crc (l.take 4)) (Wal.crc_lt _) _).mono ?_; rintro e w1 ⟨A1, c1, rfl, hown1, hb1⟩; have H1 := Lib.hid (And.intro hown1 hb1))
                | (go_at_call 163; refine (equal_c _ _ 4 4 _ _ (fourB (crc (l.take 4))) ((l.drop 4).take 4) rfl HQ.out.2.2.2.1.symm _ (own_rd H1.out.1 rfl).rd (HQ.out.2.1.drew.below H1.out.2)).mono ?_; rintro e w1 ⟨rfl, rfl⟩; rw [HQ.out.2.2.2.2.2]))
            go_wp2
            go_ret3
            rw [← HNB2.out]
            exact ⟨_, rfl, Bs.nil _ _, bel_drew H1.out.2⟩
          · rw [if_neg (fun h => h.elim hne hbig)] at hNB
            have HNB2 := Lib.hid hNB; clear hNB hcond hne
            go_wp2_with fail
            go_region_with
              (first
                | (go_at_call 145; refine (sum_c A cap (l.take 4) 4 HQ.out.2.2.1.symm (by omega) _ HQ.out.1.drew).mono ?_; rintro e w1 ⟨rfl, rfl⟩)
                | (go_at_call 144; refine (four_s (crc (l.take 4)) (Wal.crc_lt _) _).mono ?_; rintro e w1 ⟨A1, c1, rfl, hown1, hb1⟩; have H1 := Lib.hid (And.intro hown1 hb1))
                | (go_at_call 163; refine (equal_c _ _ 4 4 _ _ (fourB (crc (l.take 4))) ((l.drop 4).take 4) rfl HQ.out.2.2.2.1.symm _ (own_rd H1.out.1 rfl).rd (HQ.out.2.1.drew.below H1.out.2)).mono ?_; rintro e w1 ⟨rfl, rfl⟩; rw [HQ.out.2.2.2.2.2]))
            by_cases hshort : n - 12 < N
            · have hNB := HNB2.out
              rw [if_pos hshort] at hNB
              have HNB3 := Lib.hid hNB; clear hNB
              go_wp2
              go_ret3
              rw [← HNB3.out]
              exact ⟨_, rfl, Bs.nil _ _, bel_drew H1.out.2⟩
            · have hNB := HNB2.out
              rw [if_neg hshort] at hNB
              have HNB3 := Lib.hid hNB; clear hNB
              have hlX : ((l.drop 12).take N).length = N := by rw [List.length_take, List.length_drop, ← HNB.out.2]; omega
              have hl812 : ((l.drop 8).take 4).length = 4 := by rw [List.length_take, List.length_drop, ← HNB.out.2]; omega
              have hrX := rd_cut HR.out.2 (cap := cap) (by rw [← HNB.out.2]; exact hc) 12 N
              have hr8 := rd_cut HR.out.2 (cap := cap) (by rw [← HNB.out.2]; exact hc) 8 4
              obtain ⟨X, hX⟩ : ∃ X, (l.drop 12).take N = X := ⟨_, rfl⟩
              obtain ⟨q2, hq2⟩ : ∃ q, (fourB (crc X) == (l.drop 8).take 4) = q := ⟨_, rfl⟩
              rw [hX] at hlX hrX
              obtain ⟨M, hM⟩ : ∃ M, 12 + N = M := ⟨_, rfl⟩
              have s12 := fun w => run_slice_range (P := Tryz.prog) w 29 5 i0 1 Tryz.underlying29 hi0 hz1 A n cap .i64 .i64 12 (M : Int) 12 M rfl rfl (by omega) (by omega)
              have s812 := fun w => run_slice_range (P := Tryz.prog) w 29 5 i0 1 Tryz.underlying29 hi0 hz1 A n cap .i64 .i64 8 12 8 12 rfl rfl (by omega) (by omega)
              rw [show M - 12 = N by omega] at s12
              rw [show 12 - 8 = 4 by omega] at s812
              have hw12 : 12 + (N : Int) = (M : Int) := by omega
              have hw13 : IntKind.i64.wrap (M : Int) = (M : Int) := IntWalk.i64_in _ (by omega)
              have hb1 := bel_drew H1.out.2
              have HS := Lib.hid (And.intro hlX (And.intro hl812 (And.intro (hrX.below hb1) (And.intro (hr8.below hb1) (And.intro hX hq2))))); clear hlX hl812 hrX hr8 hX hq2 hb1
              clear s4 s48
              have hNB := HNB3.out
              rw [HS.out.2.2.2.2.1] at hNB
              have hcond : (fourB (crc X) ≠ (l.drop 8).take 4) ↔ q2 = false := by rw [← HS.out.2.2.2.2.2]; simp
              have hNlt : N ≤ 140737488355328 := by omega
              cases q2 with
              | false =>
                rw [if_pos (hcond.2 rfl)] at hNB
                have HNB4 := Lib.hid hNB; clear hNB hcond
                go_wp2_with fail
                go_region_with
                  (first
                    | (go_at_call 145; refine (sum_c (fromAddr 1 A cap 12) (cap - 12) X N HS.out.1.symm (by omega) _ HS.out.2.2.1.drew).mono ?_; rintro e w2 ⟨rfl, rfl⟩)
                    | (go_at_call 144; refine (four_s (crc X) (Wal.crc_lt _) _).mono ?_; rintro e w2 ⟨A2, c2, rfl, hown2, hb2⟩; have H2 := Lib.hid (And.intro hown2 hb2))
                    | (go_at_call 163; refine (equal_c _ _ 4 4 _ _ (fourB (crc X)) ((l.drop 8).take 4) rfl HS.out.2.1.symm _ (own_rd H2.out.1 rfl).rd (HS.out.2.2.2.1.drew.below H2.out.2)).mono ?_; rintro e w3 ⟨rfl, rfl⟩; rw [HS.out.2.2.2.2.2]))
                go_wp2
                go_ret3
                rw [← HNB4.out]
                exact ⟨_, rfl, Bs.nil _ _, bstep (bel_drew H1.out.2) (bel_drew H2.out.2)⟩
              | true =>
                rw [if_neg (fun h => by have := hcond.1 h; cases this)] at hNB
                have HNB4 := Lib.hid hNB; clear hNB hcond
                go_wp2_with fail
                go_region_with
                  (first
                    | (go_at_call 145; refine (sum_c (fromAddr 1 A cap 12) (cap - 12) X N HS.out.1.symm (by omega) _ HS.out.2.2.1.drew).mono ?_; rintro e w2 ⟨rfl, rfl⟩)
                    | (go_at_call 144; refine (four_s (crc X) (Wal.crc_lt _) _).mono ?_; rintro e w2 ⟨A2, c2, rfl, hown2, hb2⟩; have H2 := Lib.hid (And.intro hown2 hb2))
                    | (go_at_call 163; refine (equal_c _ _ 4 4 _ _ (fourB (crc X)) ((l.drop 8).take 4) rfl HS.out.2.1.symm _ (own_rd H2.out.1 rfl).rd (HS.out.2.2.2.1.drew.below H2.out.2)).mono ?_; rintro e w3 ⟨rfl, rfl⟩; rw [HS.out.2.2.2.2.2]))
                go_wp2_with (go_at_call 55; refine (bclone_c (fromAddr 1 A cap 12) N (cap - 12) X HS.out.1.symm _ hNlt (HS.out.2.2.1.below (bel_drew H2.out.2))).mono ?_; rintro e w4 ⟨v4, rfl, hown4, hb4⟩; have H4 := Lib.hid (And.intro hown4 hb4); clear hown4 hb4)
                go_ret3
                rw [← HNB4.out]
                refine ⟨_, ?_, Bs.of_own H4.out.1, bstep (bstep (bel_drew H1.out.2) (bel_drew H2.out.2)) H4.out.2⟩
                simp only [hM]
                rfl
end Go.Proofs.YtnljhabpcoiihaaGreatDoor
