/- chain's reader of a vote. -/
import Derived.Test.YtildkoabfdfjlaaBlk
set_option linter.all false
namespace Go.Proofs.Ytildkoabfdfjlaa
open Go.RowKit
open Rlp (It)

/-- a vote, as lists -/
structure Vot where
  kind : Nat
  height : Nat
  round : Nat
  block : List UInt8
  by_ : Nat
  sig : List UInt8

def rdVote (its : List It) : Option Vot :=
  match rdInt 2147483647 its with
  | none => none
  | some (k, r1) =>
    match rdNumber r1 with
    | none => none
    | some (h, r2) =>
      match rdInt 2147483647 r2 with
      | none => none
      | some (rd, r3) =>
        match rdInto 32 r3 with
        | none => none
        | some (b, r4) =>
          match rdInt 2147483647 r4 with
          | none => none
          | some (y, r5) =>
            match rdInto 64 r5 with
            | some (s, []) => some ⟨k, h, rd, b, y, s⟩
            | _ => none

def votCells (v : Vot) : List Value := .int .i64 (v.kind : Int) :: .int .u64 (v.height : Int) :: .int .i64 (v.round : Int) :: (bytesV v.block ++ .int .i64 (v.by_ : Int) :: bytesV v.sig)

theorem votCells_one (v : Vot) : ∀ u ∈ votCells v, u.oneCell' = true := by
  intro u hu
  simp only [votCells, List.mem_cons, List.mem_append] at hu
  rcases hu with rfl | rfl | rfl | hu | rfl | hu
  · rfl
  · rfl
  · rfl
  · exact bytesV_one _ u hu
  · rfl
  · exact bytesV_one _ u hu
theorem vot_fin (cur : Array Value) (hs : cur.size = 100) (k h r y : Value) (b s : List UInt8) (hb : b.length = 32) (hs' : s.length = 64) :
    lay ((lay (((cur.setIfInBounds 0 k).setIfInBounds 1 h).setIfInBounds 2 r) 3 b).setIfInBounds 35 y) 36 s = (k :: h :: r :: (bytesV b ++ y :: bytesV s)).toArray := by
  have z1 : (((cur.setIfInBounds 0 k).setIfInBounds 1 h).setIfInBounds 2 r).size = 100 := by simpa using hs
  have z2 : (lay (((cur.setIfInBounds 0 k).setIfInBounds 1 h).setIfInBounds 2 r) 3 b).size = 100 := by rw [lay_size (by omega)]; exact z1
  have z3 : ((lay (((cur.setIfInBounds 0 k).setIfInBounds 1 h).setIfInBounds 2 r) 3 b).setIfInBounds 35 y).size = 100 := by simpa using z2
  have hbb := bytesV_length b
  have hbs := bytesV_length s
  apply Array.ext_getElem?
  intro i
  rw [show (k :: h :: r :: (bytesV b ++ y :: bytesV s)).toArray[i]? = (k :: h :: r :: (bytesV b ++ y :: bytesV s))[i]? from List.getElem?_toArray ..]
  by_cases h100 : 100 ≤ i
  · rw [Array.getElem?_eq_none (by rw [lay_size (by omega)]; omega), List.getElem?_eq_none (by simp [hbb, hbs, hb, hs']; omega)]
  by_cases h36 : 36 ≤ i
  · rw [lay_in (by omega) h36 (by omega)]
    obtain ⟨j, rfl⟩ : ∃ j, i = j + 36 := ⟨i - 36, by omega⟩
    rw [show j + 36 = (j + 33) + 1 + 1 + 1 by omega, List.getElem?_cons_succ, List.getElem?_cons_succ, List.getElem?_cons_succ, List.getElem?_append_right (by omega), hbb, hb, show j + 33 - 32 = j + 1 by omega, List.getElem?_cons_succ]
    congr 1
  rw [lay_get (by omega) (by omega)]
  by_cases h35 : i = 35
  · subst h35
    rw [Array.getElem?_setIfInBounds_self, if_pos (by omega)]
    rw [List.getElem?_cons_succ, List.getElem?_cons_succ, List.getElem?_cons_succ, List.getElem?_append_right (by omega), hbb, hb]; rfl
  rw [Array.getElem?_setIfInBounds_ne (by omega)]
  by_cases h3 : 3 ≤ i
  · rw [lay_in (by omega) h3 (by omega)]
    obtain ⟨j, rfl⟩ : ∃ j, i = j + 3 := ⟨i - 3, by omega⟩
    rw [show j + 3 = j + 1 + 1 + 1 by omega, List.getElem?_cons_succ, List.getElem?_cons_succ, List.getElem?_cons_succ, List.getElem?_append_left (by omega)]
    congr 1
  rw [lay_get (by omega) (by omega)]
  match i, h3 with
  | 0, _ => simp [Array.getElem?_setIfInBounds, hs]
  | 1, _ => simp [Array.getElem?_setIfInBounds, hs]
  | 2, _ => simp [Array.getElem?_setIfInBounds, hs]
  | i + 3, h => omega

def VotPost (m : Nat) (w : World) (its : List It) (e : Ending) (w' : World) : Prop :=
  match rdVote its with
  | none => e = .panicked (wrg 11) ∧ Below m w w'
  | some v => e = .returned (.agg (votCells v).toArray) ∧ Below m w w'
theorem VotPost.no {m : Nat} {w : World} {its : List It} {w' : World} (h : rdVote its = none) (hb : Below m w w') : VotPost m w its (.panicked (wrg 11)) w' := by
  unfold VotPost; rw [h]; exact ⟨rfl, hb⟩

set_option maxRecDepth 100000 in
set_option maxHeartbeats 1000000 in
theorem rvote_c (n mm m : Nat) (w : World) (R : Nat) (its : List It) (hm : m ≤ R) (hc : Cur n mm w R its) :
    Calls Try.prog 44 #[.pointer (some ⟨R, 0, none⟩)] w (VotPost m w its) := by
  have hR := hc.lt
  have hmR := hc.le
  have HC := Lib.hid hc; clear hc
  go_enter Try.func44, Try.ntmps44
  go_wp2_with fail
  refine (rint_c n mm _ R its 2147483647 (by decide) (HC.out.below (bnew w _))).mono ?_
  cases hk : rdInt 2147483647 its with
  | none =>
    rintro e w1 ⟨rfl, hM⟩
    exact ⟨rfl, VotPost.no (by simp [rdVote, hk]) (((Moves2.new w _).trans (Moves2.of hM)).below hm (by omega) (by omega))⟩
  | some p =>
    obtain ⟨k, r1⟩ := p
    rintro e w1 ⟨rfl, hC1, hM⟩
    obtain ⟨cur, hcu, hcs, hc0, hc1, hc2, hc35⟩ : ∃ cur, w1.heap[w.heap.size]? = some (.cells cur 94 (0, 0)) ∧ cur.size = 100 ∧ cur[0]? = some (.int .i64 0) ∧ cur[1]? = some (.int .u64 0) ∧ cur[2]? = some (.int .i64 0) ∧ cur[35]? = some (.int .i64 0) :=
      ⟨_, (hM.block w.heap.size (by simp) (by intro e; injection e; omega)).trans (World.alloc_heap_new w _), rfl, rfl, rfl, rfl, rfl⟩
    have S1 : St n mm R w.heap.size 94 w w1 r1 cur := ⟨hR, hC1, (Moves2.new w _).trans (Moves2.of hM), hcu⟩
    have HS1 := Lib.hid S1; clear S1 hM hC1 hcu
    have HP := Lib.hid (And.intro hc0 (And.intro hc1 (And.intro hc2 hc35))); clear hc0 hc1 hc2 hc35
    go_wp2_with fail
    refine (rnumber_c n mm w1 R r1 HS1.out.cu).mono ?_
    cases hh : rdNumber r1 with
    | none =>
      rintro e w2 ⟨rfl, hM⟩
      exact ⟨rfl, VotPost.no (by simp [rdVote, hk, hh]) (HS1.out.no hM hm (by omega))⟩
    | some p =>
      obtain ⟨h, r2⟩ := p
      rintro e w2 ⟨rfl, hC2, hM⟩
      have HS2 := Lib.hid (HS1.out.move hC2 hM); clear HS1 hC2 hM
      go_wp2_with fail
      refine (rint_c n mm w2 R r2 2147483647 (by decide) HS2.out.cu).mono ?_
      cases hr : rdInt 2147483647 r2 with
      | none =>
        rintro e w3 ⟨rfl, hM⟩
        exact ⟨rfl, VotPost.no (by simp [rdVote, hk, hh, hr]) (HS2.out.no hM hm (by omega))⟩
      | some p =>
        obtain ⟨rd, r3⟩ := p
        rintro e w3 ⟨rfl, hC3, hM⟩
        have HS3 := Lib.hid (HS2.out.move hC3 hM); clear HS2 hC3 hM
        have y0 := HS3.out.cell HP.out.1
        have y1 := HS3.out.cell HP.out.2.1
        have y2 := HS3.out.cell HP.out.2.2.1
        have f0 := HS3.out.frozen 0
        have f1 := HS3.out.frozen 1
        have f2 := HS3.out.frozen 2
        go_wp2_with fail
        have S4 := ((HS3.out.set 0 (.int .i64 (k : Int))).set 1 (.int .u64 (h : Int))).set 2 (.int .i64 (rd : Int))
        obtain ⟨W4, hW4⟩ : ∃ W, ((w3.setCell ⟨w.heap.size, 0, none⟩ (.int .i64 (k : Int))).setCell ⟨w.heap.size, 1, none⟩ (.int .u64 (h : Int))).setCell ⟨w.heap.size, 2, none⟩ (.int .i64 (rd : Int)) = W := ⟨_, rfl⟩
        rw [hW4] at S4 ⊢
        obtain ⟨cur4, hcur4⟩ : ∃ c, ((cur.setIfInBounds 0 (.int .i64 (k : Int))).setIfInBounds 1 (.int .u64 (h : Int))).setIfInBounds 2 (.int .i64 (rd : Int)) = c := ⟨_, rfl⟩
        rw [hcur4] at S4
        have hcs4 : cur4.size = 100 := by rw [← hcur4]; simpa using hcs
        clear hW4 y0 y1 y2 f0 f1 f2 HS3
        refine (rinto_c n mm W4 R r3 32 (by decide) S4.cu w.heap.size 3 32 cur4 94 S4.hp (by omega) (by omega) (by omega)).mono ?_
        unfold IntoRes
        cases hb : rdInto 32 r3 with
        | none =>
          rintro e w5 ⟨rfl, hM⟩
          exact ⟨rfl, VotPost.no (by simp [rdVote, hk, hh, hr, hb]) (S4.no hM hm (by omega))⟩
        | some p =>
          obtain ⟨bv, r4⟩ := p
          rintro e w5 hI
          have S5 := S4.into hI
          obtain ⟨rfl, _⟩ := hI
          have hbl : bv.length = 32 := rdInto_len hb
          have hcs5 : (lay cur4 3 bv).size = 100 := by rw [lay_size (by omega)]; exact hcs4
          obtain ⟨cur5, hcur5⟩ : ∃ c, lay cur4 3 bv = c := ⟨_, rfl⟩
          rw [hcur5] at S5 hcs5
          clear S4
          have HS5 := Lib.hid S5; clear S5
          go_wp2_with fail
          refine (rint_c n mm w5 R r4 2147483647 (by decide) HS5.out.cu).mono ?_
          cases hy : rdInt 2147483647 r4 with
          | none =>
            rintro e w6 ⟨rfl, hM⟩
            exact ⟨rfl, VotPost.no (by simp [rdVote, hk, hh, hr, hb, hy]) (HS5.out.no hM hm (by omega))⟩
          | some p =>
            obtain ⟨yv, r5⟩ := p
            rintro e w6 ⟨rfl, hC6, hM⟩
            have HS6 := Lib.hid (HS5.out.move hC6 hM); clear HS5 hC6 hM
            have hc35 : cur5[35]? = some (.int .i64 0) := by
              rw [← hcur5, lay_get (by omega) (by omega), ← hcur4, Array.getElem?_setIfInBounds_ne (by decide), Array.getElem?_setIfInBounds_ne (by decide), Array.getElem?_setIfInBounds_ne (by decide)]; exact HP.out.2.2.2
            have y0 := HS6.out.cell hc35
            have f0 := HS6.out.frozen 35
            clear hc35
            go_wp2_with fail
            have S7 := HS6.out.set 35 (.int .i64 (yv : Int))
            obtain ⟨W7, hW7⟩ : ∃ W, w6.setCell ⟨w.heap.size, 35, none⟩ (.int .i64 (yv : Int)) = W := ⟨_, rfl⟩
            rw [hW7] at S7 ⊢
            obtain ⟨cur7, hcur7⟩ : ∃ c, cur5.setIfInBounds 35 (.int .i64 (yv : Int)) = c := ⟨_, rfl⟩
            rw [hcur7] at S7
            have hcs7 : cur7.size = 100 := by rw [← hcur7]; simpa using hcs5
            clear hW7 y0 f0 HS6
            refine (rinto_c n mm W7 R r5 64 (by decide) S7.cu w.heap.size 36 64 cur7 94 S7.hp (by omega) (by omega) (by omega)).mono ?_
            unfold IntoRes
            cases hs : rdInto 64 r5 with
            | none =>
              rintro e w8 ⟨rfl, hM⟩
              exact ⟨rfl, VotPost.no (by simp [rdVote, hk, hh, hr, hb, hy, hs]) (S7.no hM hm (by omega))⟩
            | some p =>
              obtain ⟨sv, r6⟩ := p
              rintro e w8 hI
              have S8 := S7.into hI
              obtain ⟨rfl, _⟩ := hI
              have hsl : sv.length = 64 := rdInto_len hs
              have hfs : (lay cur7 36 sv).size = 100 := by rw [lay_size (by omega)]; exact hcs7
              obtain ⟨fin, hfin⟩ : ∃ c, lay cur7 36 sv = c := ⟨_, rfl⟩
              rw [hfin] at S8 hfs
              have hF : fin = (votCells ⟨k, h, rd, bv, yv, sv⟩).toArray := by
                rw [← hfin, ← hcur7, ← hcur5, ← hcur4]
                exact vot_fin cur hcs _ _ _ _ bv sv hbl hsl
              have HF := Lib.hid hF
              clear S7 hF hcur4 hcur5 hcur7 hfin
              have HS8 := Lib.hid S8; clear S8
              go_wp2_with fail
              cases r6 with
              | cons x r7 =>
                refine (end_no n mm w8 R x r7 HS8.out.cu).mono ?_
                rintro e w9 ⟨rfl, rfl⟩
                exact ⟨rfl, VotPost.no (by simp [rdVote, hk, hh, hr, hb, hy, hs]) (HS8.out.mv.below hm (by omega) (by omega))⟩
              | nil =>
                refine (end_yes n mm w8 R HS8.out.cu).mono ?_
                rintro e w9 ⟨rfl, rfl⟩
                have hhp := HS8.out.hp
                have hgr : w9.rangeAt w.heap.size 0 fin.toList := fun j u hj => by
                  rw [Nat.zero_add]; exact cell_of_heap hhp (by simpa using hj)
                have hth : w9.there w.heap.size 0 fin.size := fun j hj => by
                  rw [Nat.zero_add]
                  exact ⟨by rw [cell_of_heap hhp (Array.getElem?_eq_getElem hj)]; rfl, by simp [World.frozen?, hhp]⟩
                have h1c : fin.all (·.oneCell') = true := by
                  rw [HF.out, Array.all_eq_true_iff_forall_mem]
                  intro u hu
                  exact votCells_one _ u (by simpa using hu)
                have hself : w9.setCells w.heap.size 0 fin.toList = w9 := setCells_self hhp _ 0 (fun j u hj => by rw [Nat.zero_add]; simpa using hj)
                have HN := Lib.hid (And.intro hk (And.intro hh (And.intro hr (And.intro hb (And.intro hy hs))))); clear hk hh hr hb hy hs
                clear hhp
                go_wp2_with (first
                  | (refine wpList_load_mid rfl 94 _ rfl w.heap.size 0 rfl fin.toList _ hgr Try.underlying94 rfl (by rw [Array.length_toList, hfs]; kernel_rfl) ?_)
                  | (refine wpList_store_mid rfl 94 _ _ rfl w.heap.size 0 fin rfl (by simp [Act.eval, Act.put]) hth (by rw [hfs]; kernel_rfl) h1c ?_; rw [hself]))
                refine bodyPost_ret (v := .agg fin) ?_ rfl ?_
                · have hlv := run_loadVar_mid (P := Try.prog) w9 w.heap.size 0 94 fin.toList _ hgr Try.underlying94 rfl (by rw [Array.length_toList, hfs]; kernel_rfl)
                  have hfl : fin.toList.toArray = fin := by simp
                  rw [hfl] at hlv
                  exact results_cell (p := ⟨w.heap.size, 0, none⟩) Try.results44 (by simp [Act.put]) hlv
                · obtain ⟨h1, h2, h3, h4, h5, h6⟩ := HN.out
                  have hv : rdVote its = some ⟨k, h, rd, bv, yv, sv⟩ := by simp [rdVote, h1, h2, h3, h4, h5, h6]
                  unfold VotPost
                  rw [hv]
                  exact ⟨by rw [← HF.out], HS8.out.mv.below hm (by omega) (by omega)⟩
end Go.Proofs.Ytildkoabfdfjlaa
