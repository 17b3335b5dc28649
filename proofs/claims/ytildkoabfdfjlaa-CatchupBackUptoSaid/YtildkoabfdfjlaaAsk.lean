/- chain.opened. chain's 'right' of a vote. catchup.EncodeAsk. catchup.items. catchup.DecodeAsk. -/
import Derived.Test.YtildkoabfdfjlaaVote
set_option linter.all false
namespace Go.Proofs.Ytildkoabfdfjlaa
open Go.RowKit
open Rlp (It)

/-- the items of a list that is so written; else chain's panic -/
def opn (l : List UInt8) : Except Int (List It) :=
  match Rlp.decode l with
  | .error k => .error k
  | .ok (.str _) => .error 11
  | .ok (.list its) => .ok its

def OpnPost (w : World) (r : Except Int (List It)) (e : Ending) (w' : World) : Prop :=
  match r with
  | .error k => e = .panicked (wrg k) ∧ Below w.heap.size w w'
  | .ok its => ∃ R mm, e = .returned (.pointer (some ⟨R, 0, none⟩)) ∧ w.heap.size ≤ R ∧ Cur w.heap.size mm w' R its ∧ Below w.heap.size w w'

set_option maxRecDepth 100000 in
set_option maxHeartbeats 400000 in
theorem copened_c (l : List UInt8) (A : Option Addr) (n cap : Nat) (hn : n = l.length) (hc : n ≤ cap) (w : World) (hrd : Rd 0 w A (bytesV l)) :
    Calls Try.prog 36 #[.slice A n cap] w (OpnPost w (opn l)) := by
  have HC := Lib.hid (decode_c l A n cap hn hc w hrd); clear hrd hn hc
  go_enter Try.func36, Try.ntmps36
  go_wp2_with fail
  refine HC.out.mono ?_
  cases hd : Rlp.decode l with
  | error k =>
    have hk : (k != 0) = true := by simpa using decode_err hd
    have ho : opn l = .error k := by unfold opn; rw [hd]
    rintro e w1 ⟨rfl, hB⟩
    have HO := Lib.hid ho; clear ho hd
    go_wp2_with fail
    refine ⟨rfl, ?_⟩
    rw [HO.out]
    exact ⟨rfl, bstep hB (bnew _ _)⟩
  | ok x =>
    rintro e w1 ⟨c0, c1, c2, rfl, hI, hB⟩
    obtain ⟨f, A1, k1, cp1, B1, m1, d1, rfl, rfl, rfl⟩ := hI.shape
    have HI := Lib.hid hI; clear hI
    have HD := Lib.hid hd; clear hd
    go_wp2_with fail
    cases x with
    | str s =>
      refine (list_no s w.heap.size _ _ _ _ (ItemR.below (bnew _ _) _ _ _ _ HI.out)).mono ?_
      rintro e w2 ⟨rfl, hB2⟩
      have ho : opn l = .error 11 := by unfold opn; rw [HD.out]
      refine ⟨rfl, ?_⟩
      rw [ho]
      exact ⟨rfl, bstep (bstep hB (bnew _ _)) hB2⟩
    | list its =>
      refine (list_yes its w.heap.size w1.heap.size _ _ _ _ (by simp) (ItemR.keep (fun b o v _ h => cell_cut (cell_lt h) ((World.cell?_of_block (Below.heap_alloc w1 _ b (cell_lt h))).trans h)) _ _ _ _ HI.out)).mono ?_
      rintro e w2 ⟨R, rfl, hR, hC, hB2⟩
      have ho : opn l = .ok its := by unfold opn; rw [HD.out]
      have HO := Lib.hid ho; clear ho
      have HCB := Lib.hid (And.intro hC (And.intro hB2 (And.intro hB hR))); clear hC hB2 hB hR
      go_wp2
      go_ret
      rw [HO.out]
      obtain ⟨h1, h2, h3, h4⟩ := HCB.out
      exact ⟨R, w1.heap.size, rfl, by have := h3.size; simp at h4; omega, h1, bstep (bstep h3 (bnew _ _)) h2⟩
end Go.Proofs.Ytildkoabfdfjlaa
namespace Go.Proofs.Ytildkoabfdfjlaa
open Go.RowKit
open Rlp (It)

/-- a vote's cells, whatever the numbers -/
def votV (k : Int) (h : Int) (r : Int) (b : List UInt8) (y : Int) (s : List UInt8) : List Value := .int .i64 k :: .int .u64 h :: .int .i64 r :: (bytesV b ++ .int .i64 y :: bytesV s)

set_option maxRecDepth 100000 in
set_option maxHeartbeats 400000 in
theorem vright_c (k h r y : Int) (b s : List UInt8) (hb : b.length = 32) (hs : s.length = 64) (w : World) :
    Calls Try.prog 85 #[.agg (votV k h r b y s).toArray] w fun e w' => e = .returned (.int .i64 (if smalls [k, r, y] then 0 else 71)) ∧ Below w.heap.size w w' := by
  obtain ⟨cs, hcs⟩ : ∃ cs, (votV k h r b y s).toArray = cs := ⟨_, rfl⟩
  have h0 : cs[0]? = some (.int .i64 k) := by rw [← hcs]; rfl
  have h2 : cs[2]? = some (.int .i64 r) := by rw [← hcs]; rfl
  have h35 : cs[35]? = some (.int .i64 y) := by
    rw [← hcs]
    unfold votV
    rw [List.getElem?_toArray, List.getElem?_cons_succ, List.getElem?_cons_succ, List.getElem?_cons_succ, List.getElem?_append_right (by rw [bytesV_length]; omega), bytesV_length, hb]; rfl
  rw [hcs]
  clear hcs
  go_enter Try.func85, Try.ntmps85
  go_wp2_with fail
  refine (small_c (some ⟨w.heap.size + 1, 0, none⟩) 3 [k, r, y] (by simp) _ (Or.inr ⟨_, _, Nat.zero_le _, rfl, fun j hj => ?_⟩)).mono ?_
  · have h3 : j < 3 := by simpa [intsV] using hj
    match j, h3 with
    | 0, _ => simp [go_sem, intsV]
    | 1, _ => simp [go_sem, intsV]
    | 2, _ => simp [go_sem, intsV]
  · rintro e w1 ⟨rfl, rfl⟩
    cases hb : smalls [k, r, y] with
    | true =>
      go_wp2
      all_goals exact bodyPost_ret (v := .int .i64 0) (by simp [results, Try.results85]) rfl ⟨by simp, bnew2 _ _ _⟩
    | false =>
      go_wp2
      all_goals exact bodyPost_ret (v := .int .i64 71) (by simp [results, Try.results85]) rfl ⟨by simp, bnew2 _ _ _⟩
end Go.Proofs.Ytildkoabfdfjlaa
namespace Go.Proofs.Ytildkoabfdfjlaa
open Go.RowKit
open Rlp (It)

set_option maxRecDepth 100000 in
set_option maxHeartbeats 400000 in
theorem encask_c (h : Int) (h0 : 0 ≤ h) (h1 : Hid (h ≤ 18446744073709551615)) (y : List UInt8) (hy : Hid (Rlp.encode (.list [.str (Rlp.short h.toNat)]) = some y)) (hf : Hid (FitsAll (.list [.str (Rlp.short h.toNat)]))) (w : World) :
    Calls Try.prog 5 #[.int .u64 h] w (GivesBytes w y) := by
  go_enter Try.func5, Try.ntmps5
  go_wp2_with fail
  refine (num_c h h0 h1 _).mono ?_
  rintro e w1 ⟨c0, c1, c2, rfl, hI, hB⟩
  obtain ⟨f, A1, k1, cp1, B1, m1, d1, rfl, rfl, rfl⟩ := hI.shape
  have HI := Lib.hid hI; clear hI
  go_wp2_with fail
  refine (list_c (some ⟨w1.heap.size, 0, none⟩) 1 [.str (Rlp.short h.toNat)] [.bool f, .slice A1 k1 cp1, .slice B1 m1 d1] _ (Lib.hid (by simp)) (Lib.hid ⟨Or.inr ⟨_, _, Nat.zero_le _, rfl, fun j hj => ?_⟩, ?_⟩) (Lib.hid (fun h => by cases h))).mono ?_
  · have h3 : j < 3 := by simpa using hj
    match j, h3 with
    | 0, _ => simp [go_sem]
    | 1, _ => simp [go_sem]
    | 2, _ => simp [go_sem]
  · simp only [ItemsR]
    exact ⟨_, _, _, [], rfl, ItemR.mono (Nat.zero_le _) _ _ _ _ (ItemR.below (bnew _ _) _ _ _ _ HI.out), rfl⟩
  · rintro e w2 ⟨A', cap', rfl, hcap, hR, hB2⟩
    have hit : ItemR 0 w2 (.list [.str (Rlp.short h.toNat)]) (.bool true) (.slice none 0 0) (.slice A' 1 cap') := by
      refine ItemR.mk_list hcap (hR.mono (Nat.zero_le _)) ?_ none 0
      simp only [ItemsR]
      exact ⟨_, _, _, [], rfl, ItemR.mono (Nat.zero_le _) _ _ _ _ (ItemR.below hB2 _ _ _ _ (ItemR.below (bnew _ _) _ _ _ _ HI.out)), rfl⟩
    have HT := Lib.hid hit; clear hit hR
    go_wp2_with fail
    refine (encode_c _ hf.out _ _ _ w2 HT.out).mono ?_
    rw [hy.out]
    rintro e w3 ⟨v, rfl, hv, hB3⟩
    have HV := Lib.hid (And.intro hv hB3); clear hv
    obtain ⟨Av, cv, rfl, _⟩ := HV.out.1
    go_wp2
    refine bodyPost_ret (v := .slice Av y.length cv) (by simp [results, Try.results5]) rfl ?_
    refine ⟨_, rfl, HV.out.1.mono ?_, bstep (bstep (bstep hB (bnew _ _)) hB2) HV.out.2⟩
    have := hB.size; have := hB2.size; simp at this; omega
end Go.Proofs.Ytildkoabfdfjlaa
namespace Go.Proofs.Ytildkoabfdfjlaa
open Go.RowKit
open Rlp (It)

def kids : It → List It
  | .list l => l
  | .str _ => []
/-- the items of a list of so many -/
def itsOf (l : List UInt8) (k : Nat) : Except Int (List It) :=
  match Rlp.decode l with
  | .error e => .error e
  | .ok x => if (kids x).length = k then .ok (kids x) else .error 11

def ItsPost (w : World) (r : Except Int (List It)) (e : Ending) (w' : World) : Prop :=
  match r with
  | .error k => e = .returned (.tuple #[.slice none 0 0, .int .i64 k]) ∧ Below w.heap.size w w'
  | .ok its => ∃ A cap cs, e = .returned (.tuple #[.slice A its.length cap, .int .i64 0]) ∧ its.length ≤ cap ∧ Rd w.heap.size w' A cs ∧ ItemsR w.heap.size w' its cs ∧ Below w.heap.size w w'

theorem kids_of {n : Nat} {w : World} {x : It} {c0 c1 c2 : Value} (h : ItemR n w x c0 c1 c2) : ∃ A cap cs, c2 = .slice A (kids x).length cap ∧ (kids x).length ≤ cap ∧ Rd n w A cs ∧ ItemsR n w (kids x) cs := by
  cases x with
  | str s =>
    simp only [ItemR] at h
    obtain ⟨_, _, h3⟩ := h
    obtain ⟨A, cap, h3⟩ := h3
    exact ⟨A, cap, [], h3, Nat.zero_le _, Rd.nil _ _ _, by simp [kids, ItemsR]⟩
  | list l =>
    simp only [ItemR] at h
    obtain ⟨_, _, A, cap, cs, h3, h4, h5, h6⟩ := h
    exact ⟨A, cap, cs, h3, h4, h5, h6⟩

set_option maxRecDepth 100000 in
set_option maxHeartbeats 400000 in
theorem its_c (l : List UInt8) (A : Option Addr) (n cap : Nat) (hn : n = l.length) (hc : n ≤ cap) (k : Nat) (w : World) (hrd : Rd 0 w A (bytesV l)) :
    Calls Try.prog 12 #[.slice A n cap, .int .i64 (k : Int)] w (ItsPost w (itsOf l k)) := by
  have HC := Lib.hid (decode_c l A n cap hn hc w hrd); clear hrd hn hc
  go_enter Try.func12, Try.ntmps12
  go_wp2_with fail
  refine HC.out.mono ?_
  cases hd : Rlp.decode l with
  | error e0 =>
    have hk : (e0 != 0) = true := by simpa using decode_err hd
    have ho : itsOf l k = .error e0 := by unfold itsOf; rw [hd]
    rintro e w1 ⟨rfl, hB⟩
    have HO := Lib.hid ho; clear ho hd
    go_wp2
    refine bodyPost_ret (v := .tuple #[.slice none 0 0, .int .i64 e0]) (by simp [results, Try.results12]) rfl ?_
    rw [HO.out]
    exact ⟨rfl, bstep hB (bnew _ _)⟩
  | ok x =>
    rintro e w1 ⟨c0, c1, c2, rfl, hI, hB⟩
    obtain ⟨f, A1, k1, cp1, B1, m1, d1, rfl, rfl, rfl⟩ := hI.shape
    obtain ⟨A2, cp2, cs, he, hcap, hr, hi⟩ := kids_of hI
    injection he with he1 he2 he3
    subst he1 he2 he3
    have HI := Lib.hid (And.intro hcap (And.intro hr hi)); clear hI hcap hr hi
    have HD := Lib.hid hd; clear hd
    by_cases hlen : (kids x).length = k
    · have ho : itsOf l k = .ok (kids x) := by unfold itsOf; rw [HD.out]; simp only; rw [if_pos hlen]
      have HO := Lib.hid ho; clear ho
      subst hlen
      go_wp2
      refine bodyPost_ret (v := .tuple #[.slice B1 (kids x).length d1, .int .i64 0]) (by simp [results, Try.results12]) rfl ?_
      rw [HO.out]
      exact ⟨_, _, cs, rfl, HI.out.1, HI.out.2.1.alloc _, ItemsR.below (bnew _ _) _ _ HI.out.2.2, bstep hB (bnew _ _)⟩
    · have ho : itsOf l k = .error 11 := by unfold itsOf; rw [HD.out]; simp only; rw [if_neg hlen]
      have HO := Lib.hid ho; clear ho
      have hne : (((kids x).length : Int) != (k : Int)) = true := by simpa using (by omega : ¬ ((kids x).length : Int) = k)
      clear hlen
      go_wp2
      refine bodyPost_ret (v := .tuple #[.slice none 0 0, .int .i64 11]) (by simp [results, Try.results12]) rfl ?_
      rw [HO.out]
      exact ⟨rfl, bstep hB (bnew _ _)⟩
end Go.Proofs.Ytildkoabfdfjlaa
namespace Go.Proofs.Ytildkoabfdfjlaa
open Go.RowKit
open Rlp (It)

def decAsk (l : List UInt8) : Nat × Int :=
  match itsOf l 1 with
  | .error e => (0, e)
  | .ok its => match its with
    | x :: _ => if (uintPair x).2 = 0 then ((uintPair x).1, 0) else (0, 11)
    | [] => (0, 11)

theorem itsOf_err {l : List UInt8} {k : Nat} {e : Int} (h : itsOf l k = .error e) : e ≠ 0 := by
  unfold itsOf at h
  cases hd : Rlp.decode l with
  | error e0 => rw [hd] at h; cases h; exact decode_err hd
  | ok x =>
    rw [hd] at h
    simp only at h
    split at h
    · cases h
    · cases h; decide
theorem itsOf_len {l : List UInt8} {k : Nat} {its : List It} (h : itsOf l k = .ok its) : its.length = k := by
  unfold itsOf at h
  cases hd : Rlp.decode l with
  | error e0 => rw [hd] at h; cases h
  | ok x =>
    rw [hd] at h
    simp only at h
    split at h
    · cases h; assumption
    · cases h

set_option maxRecDepth 100000 in
set_option maxHeartbeats 400000 in
theorem decask_c (l : List UInt8) (A : Option Addr) (n cap : Nat) (hn : n = l.length) (hc : n ≤ cap) (w : World) (hrd : Rd 0 w A (bytesV l)) :
    Calls Try.prog 4 #[.slice A n cap] w fun e w' => e = .returned (.tuple #[.int .u64 ((decAsk l).1 : Int), .int .i64 (decAsk l).2]) ∧ Below w.heap.size w w' := by
  have HC := Lib.hid (its_c l A n cap hn hc 1 w hrd); clear hrd hn hc
  obtain ⟨dv, hdv⟩ : ∃ d, decAsk l = d := ⟨_, rfl⟩
  rw [hdv]
  have HDV := Lib.hid hdv; clear hdv
  go_enter Try.func4, Try.ntmps4
  go_wp2_with fail
  refine HC.out.mono ?_
  cases hi : itsOf l 1 with
  | error e0 =>
    have hk : (e0 != 0) = true := by simpa using itsOf_err hi
    have ho : dv = (0, e0) := by rw [← HDV.out]; unfold decAsk; rw [hi]
    subst ho
    rintro e w1 ⟨rfl, hB⟩
    clear hi
    go_wp2
    exact bodyPost_ret (v := .tuple #[.int .u64 0, .int .i64 e0]) (by simp [results, Try.results4]) rfl ⟨rfl, hB⟩
  | ok its =>
    have hlen := itsOf_len hi
    match its, hlen with
    | [x], _ =>
    rintro e w1 ⟨A2, cap2, cs, rfl, hcap, hr, hit, hB⟩
    simp only [ItemsR] at hit
    obtain ⟨c0, c1, c2, cs', rfl, hx, rfl⟩ := hit
    obtain ⟨f, A1, k1, cp1, B1, m1, d1, rfl, rfl, rfl⟩ := hx.shape
    obtain ⟨b, o, rfl, hk⟩ := hr.addr (by simp)
    have y0 := hk 0 (by simp)
    have y1 := hk 1 (by simp)
    have y2 := hk 2 (by simp)
    simp only [List.getElem?_cons_zero, List.getElem?_cons_succ, Nat.add_zero] at y0 y1 y2
    have HX := Lib.hid hx; clear hx hk hr hcap
    have ho : dv = if (uintPair x).2 = 0 then ((uintPair x).1, 0) else (0, 11) := by rw [← HDV.out]; unfold decAsk; rw [hi]
    have HO := Lib.hid ho; clear ho hi HDV
    go_wp2_with fail
    refine (uint_item_c x _ _ _ w1 (ItemR.mono (Nat.zero_le _) _ _ _ _ HX.out)).mono ?_
    obtain ⟨pv, pe, hp⟩ : ∃ pv pe, uintPair x = (pv, pe) := ⟨_, _, rfl⟩
    have ho := HO.out
    rw [hp] at ho ⊢
    clear hp HO
    rintro e w2 ⟨rfl, hB2⟩
    by_cases he : pe = 0
    · subst he
      simp only [if_true] at ho
      subst ho
      go_wp2
      exact bodyPost_ret (v := .tuple #[.int .u64 (pv : Int), .int .i64 0]) (by simp [results, Try.results4]) rfl ⟨rfl, bstep hB hB2⟩
    · simp only [if_neg he] at ho
      subst ho
      have hne : (pe != 0) = true := by simpa using he
      go_wp2
      exact bodyPost_ret (v := .tuple #[.int .u64 0, .int .i64 11]) (by simp [results, Try.results4]) rfl ⟨rfl, bstep hB hB2⟩
end Go.Proofs.Ytildkoabfdfjlaa
