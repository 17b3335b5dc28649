/- chain's 'right' of a block; encode, EncodeBlock. -/
import Derived.Test.YtildkoabfdfjlaaCItem
set_option linter.all false
namespace Go.Proofs.Ytildkoabfdfjlaa
open Go.RowKit
open Rlp (It)

theorem FitsAlls_strs (l : List (List UInt8)) : FitsAlls (l.map It.str) := FitsAlls.of_mem fun x hx => by
  obtain ⟨s, _, rfl⟩ := List.mem_map.1 hx
  simp [FitsAll]
theorem blk_fits {b : BlkI} (h : b.Ok) : FitsAll (blkIt b) := by
  have := h.n1
  simp [blkIt, FitsAll, FitsAlls, FitsAlls_strs]
  omega

def EncPostE (w : World) (r : Except Int (List UInt8)) (e : Ending) (w' : World) : Prop :=
  match r with
  | .ok y => ∃ A cap, e = .returned (.tuple #[.slice A y.length cap, .int .i64 0]) ∧ y.length ≤ cap ∧ Rd w.heap.size w' A (bytesV y) ∧ Below w.heap.size w w'
  | .error k => e = .returned (.tuple #[.slice none 0 0, .int .i64 k]) ∧ Below w.heap.size w w'
theorem EncPostE.ok {w w' : World} {r : Except Int (List UInt8)} {y : List UInt8} (hr : r = .ok y) {A : Option Addr} {cap : Nat} (h1 : y.length ≤ cap) (h2 : Rd w.heap.size w' A (bytesV y)) (h3 : Below w.heap.size w w') :
    EncPostE w r (.returned (.tuple #[.slice A y.length cap, .int .i64 0])) w' := by subst hr; exact ⟨A, cap, rfl, h1, h2, h3⟩
theorem EncPostE.no {w w' : World} {r : Except Int (List UInt8)} {k : Int} (hr : r = .error k) (h3 : Below w.heap.size w w') :
    EncPostE w r (.returned (.tuple #[.slice none 0 0, .int .i64 k])) w' := by subst hr; exact ⟨rfl, h3⟩

theorem blkV_get (b : BlkI) (hb : b.Ok) (v : Value) : (blkV b v)[0]? = some (.int .u64 b.height) ∧ (blkV b v)[65]? = some (.int .i64 b.proposer) ∧ (blkV b v)[66]? = some (.int .i64 b.round) ∧ (blkV b v)[67]? = some v ∧ (blkV b v).length = 68 := by
  have hp := bytesV_length b.prev
  have hs := bytesV_length b.state
  rw [hb.p] at hp
  rw [hb.s] at hs
  unfold blkV
  refine ⟨rfl, ?_, ?_, ?_, by simp [hp, hs]⟩ <;> (rw [List.getElem?_cons_succ, List.getElem?_append_right (by omega), List.getElem?_append_right (by omega), hp, hs]; rfl)
theorem blkV_one (b : BlkI) (A : Option Addr) (n c : Nat) : ∀ u ∈ blkV b (.slice A n c), u.oneCell' = true := by
  intro u hu
  simp only [blkV, List.mem_cons, List.mem_append, List.not_mem_nil, or_false] at hu
  rcases hu with rfl | hu | hu | rfl | rfl | rfl
  · rfl
  · exact bytesV_one _ u hu
  · exact bytesV_one _ u hu
  · rfl
  · rfl
  · rfl

set_option maxRecDepth 100000 in
set_option maxHeartbeats 1000000 in
theorem bright_c (b : BlkI) (hb : b.Ok) (A : Option Addr) (cap : Nat) (vals : List Value) (w : World) (hr : Rd 0 w A vals) (hs : StrsR 0 w b.txs vals) :
    Calls Try.prog 38 #[.agg (blkV b (.slice A b.txs.length cap)).toArray] w fun e w' => e = .returned (.int .i64 (if rightB b then 0 else 70)) ∧ Below w.heap.size w w' := by
  have HIT : Hid (∀ W, Below w.heap.size w W → Calls Try.prog 54 #[.agg (blkV b (.slice A b.txs.length cap)).toArray] W (GivesItem W (blkIt b))) :=
    fun W hW => bitem_c b hb A cap vals W (hr.below hW) (hs.below hW)
  obtain ⟨e0, e65, e66, e67, hlen⟩ := blkV_get b hb (.slice A b.txs.length cap)
  have hl := hb.n1
  have HFT := Lib.hid (blk_fits hb)
  obtain ⟨n, hn⟩ : ∃ n, b.txs.length = n := ⟨_, rfl⟩
  rw [hn] at e67 hl hlen HIT ⊢
  obtain ⟨L, hL⟩ : ∃ L, blkV b (.slice A n cap) = L := ⟨_, rfl⟩
  rw [hn, hL] at e0 e65 e66
  rw [hL] at e67 hlen HIT ⊢
  obtain ⟨res, hres⟩ : ∃ q : Int, (if rightB b then 0 else 70) = q := ⟨_, rfl⟩
  rw [hres]
  have HRES : Hid ((if rightB b then (0 : Int) else 70) = res) := hres
  obtain ⟨HT, hHT⟩ : ∃ x, b.height = x := ⟨_, rfl⟩
  obtain ⟨PR, hPR⟩ : ∃ x, b.proposer = x := ⟨_, rfl⟩
  obtain ⟨RD, hRD⟩ : ∃ x, b.round = x := ⟨_, rfl⟩
  rw [hHT] at e0
  rw [hPR] at e65
  rw [hRD] at e66
  have HNM := Lib.hid (And.intro hHT (And.intro hPR (And.intro hRD hn)))
  have HLEN := Lib.hid hlen
  clear hr hs hn hL hres hHT hPR hRD hlen
  have hno : rightB b = false → res = 70 := fun h => by rw [← HRES.out, h]; rfl
  have HNO := Lib.hid hno; clear hno
  by_cases hz : HT = 0
  · obtain rfl := hz
    have hr70 := HNO.out (by simp [rightB, HNM.out.1])
    subst hr70
    go_enter Try.func38, Try.ntmps38
    go_wp2_with fail
    exact bodyPost_ret (v := .int .i64 70) (by simp [results, Try.results38]) rfl ⟨rfl, bnew _ _⟩
  · have hz1 : (HT == 0) = false := by simpa using hz
    have HRD : Hid (Rd 0 ((w.alloc (.cells L.toArray 77)).alloc (.cells #[.int .i64 PR, .int .i64 RD] 3)) (some ⟨w.heap.size + 1, 0, none⟩) (intsV [PR, RD])) := by
      have := rd_new (w.alloc (.cells L.toArray 77)) [.int .i64 PR, .int .i64 RD] 3
      rw [World.size_alloc] at this
      exact this
    cases hsm : smalls [PR, RD] with
    | false =>
      have hr70 := HNO.out (by simp [rightB, HNM.out.2.1, HNM.out.2.2.1, hsm])
      subst hr70
      have HSM := Lib.hid hsm; clear hsm
      have HSMC : Hid (∀ W A, Rd 0 W A (intsV [PR, RD]) → Calls Try.prog 53 #[.slice A 2 2] W fun e w' => e = .returned (.bool false) ∧ w' = W) := fun W A h => by
        have := small_c A 2 [PR, RD] (by simp) W h
        rw [HSM.out] at this; exact this
      go_enter Try.func38, Try.ntmps38
      go_wp2_with (go_at_call 53; (with_reducible refine (HSMC.out _ _ HRD.out).mono ?_); rintro e w1 ⟨rfl, rfl⟩)
      exact bodyPost_ret (v := .int .i64 70) (by simp [results, Try.results38]) rfl ⟨rfl, bnew2 _ _ _⟩
    | true =>
      have HSM := Lib.hid hsm; clear hsm
      have HSMC : Hid (∀ W A, Rd 0 W A (intsV [PR, RD]) → Calls Try.prog 53 #[.slice A 2 2] W fun e w' => e = .returned (.bool true) ∧ w' = W) := fun W A h => by
        have := small_c A 2 [PR, RD] (by simp) W h
        rw [HSM.out] at this; exact this
      by_cases h64 : n ≤ 64
      · have hd : decide ((64 : Int) < (n : Int)) = false := by simp; omega
        cases he : Rlp.encode (blkIt b) with
        | none =>
          have hr70 := HNO.out (by simp [rightB, he])
          subst hr70
          have HENC : Hid (∀ W c0 c1 c2, ItemR 0 W (blkIt b) c0 c1 c2 → Calls Try.prog 14 #[.agg #[c0, c1, c2]] W fun e w' => e = .returned (.tuple #[.slice none 0 0, .int .i64 3]) ∧ Below W.heap.size W w') := fun W c0 c1 c2 h => by
            have := encode_c (blkIt b) HFT.out c0 c1 c2 W h
            rw [he] at this; exact this
          clear he
          go_enter Try.func38, Try.ntmps38
          go_wp2_with (first
            | (go_at_call 53; (with_reducible refine (HSMC.out _ _ HRD.out).mono ?_); rintro e w1 ⟨rfl, rfl⟩)
            | (refine wpList_load_mid rfl 77 _ rfl w.heap.size 0 rfl L _ (World.rangeAt_alloc (range_new _ _ _) _) Try.underlying77 rfl (by rw [HLEN.out]; kernel_rfl) ?_)
            | (go_at_call 54; (with_reducible refine gives_at (HIT.out _ (bnew2 _ _ _)) _ ?_); intro f1 B1 m1 c1 C1 d1 e1 w2 HI2 hB2)
            | (go_at_call 14; (with_reducible refine (HENC.out _ _ _ _ (ItemR.mono (Nat.zero_le _) _ _ _ _ HI2.out)).mono ?_); rintro e w3 ⟨rfl, hB3⟩))
          exact bodyPost_ret (v := .int .i64 70) (by simp [results, Try.results38]) rfl ⟨rfl, bstep (bstep (bnew2 _ _ _) hB2) hB3⟩
        | some y =>
          have HENC : Hid (∀ W c0 c1 c2, ItemR 0 W (blkIt b) c0 c1 c2 → Calls Try.prog 14 #[.agg #[c0, c1, c2]] W fun e w' => ∃ A cap, e = .returned (.tuple #[.slice A y.length cap, .int .i64 0]) ∧ Below W.heap.size W w') := fun W c0 c1 c2 h => by
            have := encode_c (blkIt b) HFT.out c0 c1 c2 W h
            rw [he] at this
            refine this.mono ?_
            rintro e w' ⟨v, rfl, ⟨A, cap, rfl, _, _⟩, hB⟩
            exact ⟨A, cap, rfl, hB⟩
          by_cases hy : y.length ≤ 24576
          · have hr0 : res = 0 := by
              rw [← HRES.out, if_pos]
              simp only [rightB, HNM.out.1, HNM.out.2.1, HNM.out.2.2.1, HSM.out, he]
              simp [hz, HNM.out.2.2.2, h64, hy]
            subst hr0
            have hdy : decide ((24576 : Int) < (y.length : Int)) = false := by simp; omega
            clear he
            go_enter Try.func38, Try.ntmps38
            go_wp2_with (first
              | (go_at_call 53; (with_reducible refine (HSMC.out _ _ HRD.out).mono ?_); rintro e w1 ⟨rfl, rfl⟩)
              | (refine wpList_load_mid rfl 77 _ rfl w.heap.size 0 rfl L _ (World.rangeAt_alloc (range_new _ _ _) _) Try.underlying77 rfl (by rw [HLEN.out]; kernel_rfl) ?_)
              | (go_at_call 54; (with_reducible refine gives_at (HIT.out _ (bnew2 _ _ _)) _ ?_); intro f1 B1 m1 c1 C1 d1 e1 w2 HI2 hB2)
              | (go_at_call 14; (with_reducible refine (HENC.out _ _ _ _ (ItemR.mono (Nat.zero_le _) _ _ _ _ HI2.out)).mono ?_); rintro e w3 ⟨A3, c3, rfl, hB3⟩))
            exact bodyPost_ret (v := .int .i64 0) (by simp [results, Try.results38]) rfl ⟨rfl, bstep (bstep (bnew2 _ _ _) hB2) hB3⟩
          · have hr70 := HNO.out (by simp only [rightB, he]; simp [hy])
            subst hr70
            have hdy : decide ((24576 : Int) < (y.length : Int)) = true := by simp; omega
            clear he
            go_enter Try.func38, Try.ntmps38
            go_wp2_with (first
              | (go_at_call 53; (with_reducible refine (HSMC.out _ _ HRD.out).mono ?_); rintro e w1 ⟨rfl, rfl⟩)
              | (refine wpList_load_mid rfl 77 _ rfl w.heap.size 0 rfl L _ (World.rangeAt_alloc (range_new _ _ _) _) Try.underlying77 rfl (by rw [HLEN.out]; kernel_rfl) ?_)
              | (go_at_call 54; (with_reducible refine gives_at (HIT.out _ (bnew2 _ _ _)) _ ?_); intro f1 B1 m1 c1 C1 d1 e1 w2 HI2 hB2)
              | (go_at_call 14; (with_reducible refine (HENC.out _ _ _ _ (ItemR.mono (Nat.zero_le _) _ _ _ _ HI2.out)).mono ?_); rintro e w3 ⟨A3, c3, rfl, hB3⟩))
            exact bodyPost_ret (v := .int .i64 70) (by simp [results, Try.results38]) rfl ⟨rfl, bstep (bstep (bnew2 _ _ _) hB2) hB3⟩
      · have hd : decide ((64 : Int) < (n : Int)) = true := by simp; omega
        have hr70 := HNO.out (by simp [rightB, HNM.out.2.2.2, h64])
        subst hr70
        go_enter Try.func38, Try.ntmps38
        go_wp2_with (go_at_call 53; (with_reducible refine (HSMC.out _ _ HRD.out).mono ?_); rintro e w1 ⟨rfl, rfl⟩)
        exact bodyPost_ret (v := .int .i64 70) (by simp [results, Try.results38]) rfl ⟨rfl, bnew2 _ _ _⟩
end Go.Proofs.Ytildkoabfdfjlaa
