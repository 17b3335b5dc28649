/- The plain law of answers: what is written reads back, and what is read was so written. -/
import Derived.Test.YtildkoabfdfjlaaBItem
set_option linter.all false
namespace Go.Proofs.Ytildkoabfdfjlaa
open Go.RowKit
open Rlp (It)

def Vot.toI (v : Vot) : VotI := ⟨v.kind, v.height, v.round, v.block, v.by_, v.sig⟩
def Blk.toI (b : Blk) : BlkI := ⟨b.height, b.prev, b.state, b.proposer, b.round, b.txs⟩
/-- a commit, of whatever numbers -/
structure ComI where
  height : Int
  round : Int
  block : List UInt8
  votes : List VotI
/-- a commit that has been read -/
structure ComN where
  height : Nat
  round : Nat
  block : List UInt8
  votes : List Vot
def ComN.toI (c : ComN) : ComI := ⟨c.height, c.round, c.block, c.votes.map Vot.toI⟩
def comIt (c : ComI) : It := .list [.str (Rlp.short c.height.toNat), .str (Rlp.short c.round.toNat), .str c.block, .list (c.votes.map votIt)]

theorem uint_short (n : Nat) (h : n ≤ 18446744073709551615) : uintPair (.str (Rlp.short n)) = (n, 0) := by
  have hl := Rlp.short_length_le (n := n) (k := 8) (by omega)
  unfold uintPair
  simp only
  rw [if_neg (by omega), if_neg ?_, Rlp.readBE_short]
  by_cases h0 : n = 0
  · subst h0; rw [Rlp.short_zero]; decide
  · have := Rlp.short_head n h0
    cases hs : Rlp.short n with
    | nil => exact absurd (Rlp.short_eq_nil.1 hs) h0
    | cons a r => rw [hs] at this; simpa using this
theorem short_uint {x : It} (h : (uintPair x).2 = 0) : x = .str (Rlp.short (uintPair x).1) ∧ (uintPair x).1 ≤ 18446744073709551615 := by
  cases x with
  | list l => simp [uintPair] at h
  | str b =>
    simp only [uintPair] at h ⊢
    by_cases h1 : 8 < b.length
    · rw [if_pos h1] at h; simp at h
    · rw [if_neg h1] at h ⊢
      by_cases h2 : b.headD 1 = 0
      · rw [if_pos h2] at h; simp at h
      · rw [if_neg h2]
        simp only
        rw [Rlp.short_readBE b h2]
        have := readBE_small (l := b) (by omega)
        exact ⟨rfl, by omega⟩

theorem rdNumber_inv {its r : List It} {v : Nat} (h : rdNumber its = some (v, r)) : its = .str (Rlp.short v) :: r ∧ v ≤ 18446744073709551615 := by
  cases its with
  | nil => cases h
  | cons x l =>
    simp only [rdNumber] at h
    by_cases he : (uintPair x).2 = 0
    · rw [if_pos he] at h; cases h
      obtain ⟨h1, h2⟩ := short_uint he
      exact ⟨by rw [← h1], h2⟩
    · rw [if_neg he] at h; cases h
theorem rdNumber_mk (v : Nat) (r : List It) (h : v ≤ 18446744073709551615) : rdNumber (.str (Rlp.short v) :: r) = some (v, r) := by
  simp [rdNumber, uint_short v h]
theorem rdInt_inv {most : Nat} {its r : List It} {v : Nat} (h : rdInt most its = some (v, r)) : its = .str (Rlp.short v) :: r ∧ v ≤ most := by
  unfold rdInt at h
  cases hq : rdNumber its with
  | none => rw [hq] at h; cases h
  | some p =>
    rw [hq] at h
    simp only at h
    by_cases he : p.1 ≤ most
    · rw [if_pos he] at h; cases h; exact ⟨(rdNumber_inv hq).1, he⟩
    · rw [if_neg he] at h; cases h
theorem rdInt_mk (most v : Nat) (r : List It) (h : v ≤ most) (hm : most ≤ 18446744073709551615) : rdInt most (.str (Rlp.short v) :: r) = some (v, r) := by
  unfold rdInt
  rw [rdNumber_mk v r (by omega)]
  simp [h]
theorem rdInto_inv {len : Nat} {its r : List It} {l : List UInt8} (h : rdInto len its = some (l, r)) : its = .str l :: r ∧ l.length = len := by
  unfold rdInto at h
  split at h
  · split at h
    · cases h; exact ⟨rfl, by assumption⟩
    · cases h
  · cases h
theorem rdInto_mk (len : Nat) (l : List UInt8) (r : List It) (h : l.length = len) : rdInto len (.str l :: r) = some (l, r) := by
  simp [rdInto, h]

theorem smalls_spec (l : List Int) : smalls l = true ↔ ∀ n ∈ l, 0 ≤ n ∧ n ≤ 2147483647 := by
  simp [smalls]

theorem rdVote_inv {its : List It} {v : Vot} (h : rdVote its = some v) : .list its = votIt v.toI ∧ v.toI.Ok ∧ v.toI.small = true := by
  unfold rdVote at h
  cases h1 : rdInt 2147483647 its with
  | none => simp [h1] at h
  | some p =>
    obtain ⟨k, r1⟩ := p
    simp only [h1] at h
    cases h2 : rdNumber r1 with
    | none => simp [h2] at h
    | some p =>
      obtain ⟨ht, r2⟩ := p
      simp only [h2] at h
      cases h3 : rdInt 2147483647 r2 with
      | none => simp [h3] at h
      | some p =>
        obtain ⟨rd, r3⟩ := p
        simp only [h3] at h
        cases h4 : rdInto 32 r3 with
        | none => simp [h4] at h
        | some p =>
          obtain ⟨b, r4⟩ := p
          simp only [h4] at h
          cases h5 : rdInt 2147483647 r4 with
          | none => simp [h5] at h
          | some p =>
            obtain ⟨y, r5⟩ := p
            simp only [h5] at h
            cases h6 : rdInto 64 r5 with
            | none => simp [h6] at h
            | some p =>
              obtain ⟨s, r6⟩ := p
              simp only [h6] at h
              cases r6 with
              | cons x l => simp at h
              | nil =>
                simp only [Option.some.injEq] at h
                subst h
                obtain ⟨e1, b1⟩ := rdInt_inv h1
                obtain ⟨e2, b2⟩ := rdNumber_inv h2
                obtain ⟨e3, b3⟩ := rdInt_inv h3
                obtain ⟨e4, b4⟩ := rdInto_inv h4
                obtain ⟨e5, b5⟩ := rdInt_inv h5
                obtain ⟨e6, b6⟩ := rdInto_inv h6
                subst e6 e5 e4 e3 e2 e1
                refine ⟨by simp [votIt, Vot.toI], ⟨b4, b6, by simp [Vot.toI], by simp only [Vot.toI]; omega, by simp only [Vot.toI]; omega, by simp only [Vot.toI]; omega, by simp only [Vot.toI]; omega⟩, ?_⟩
                unfold VotI.small
                rw [smalls_spec]
                intro n hn
                simp only [Vot.toI, List.mem_cons, List.not_mem_nil, or_false] at hn
                rcases hn with rfl | rfl | rfl <;> omega

def VotI.toN (v : VotI) : Vot := ⟨v.kind.toNat, v.height.toNat, v.round.toNat, v.block, v.by_.toNat, v.sig⟩
theorem VotI.toN_toI {v : VotI} (h : v.Ok) (hs : v.small = true) : v.toN.toI = v := by
  unfold VotI.small at hs
  rw [smalls_spec] at hs
  have h1 := hs v.kind (by simp)
  have h2 := hs v.round (by simp)
  have h3 := hs v.by_ (by simp)
  have h4 := h.h0
  obtain ⟨k, ht, r, b, y, s⟩ := v
  simp only [VotI.toN, Vot.toI] at *
  rw [Int.toNat_of_nonneg h1.1, Int.toNat_of_nonneg h2.1, Int.toNat_of_nonneg h3.1, Int.toNat_of_nonneg h4]
def votIts (v : VotI) : List It := [.str (Rlp.short v.kind.toNat), .str (Rlp.short v.height.toNat), .str (Rlp.short v.round.toNat), .str v.block, .str (Rlp.short v.by_.toNat), .str v.sig]
theorem votIt_eq (v : VotI) : votIt v = .list (votIts v) := rfl
theorem rdVote_mk {v : VotI} (h : v.Ok) (hs : v.small = true) : rdVote (votIts v) = some v.toN := by
  unfold VotI.small at hs
  rw [smalls_spec] at hs
  have h1 := hs v.kind (by simp)
  have h2 := hs v.round (by simp)
  have h3 := hs v.by_ (by simp)
  have h4 := h.h1
  unfold rdVote votIts
  rw [rdInt_mk _ _ _ (by omega) (by decide)]
  simp only
  rw [rdNumber_mk _ _ (by omega)]
  simp only
  rw [rdInt_mk _ _ _ (by omega) (by decide)]
  simp only
  rw [rdInto_mk _ _ _ h.b]
  simp only
  rw [rdInt_mk _ _ _ (by omega) (by decide)]
  simp only
  rw [rdInto_mk _ _ _ h.s]
  rfl

def rdVotes : List It → Option (List Vot)
  | [] => some []
  | .list l :: r => match rdVote l with
    | some v => (rdVotes r).map (v :: ·)
    | none => none
  | .str _ :: _ => none
theorem rdVotes_inv : ∀ {its : List It} {vs : List Vot}, rdVotes its = some vs → its = (vs.map Vot.toI).map votIt ∧ (∀ v ∈ vs, v.toI.Ok ∧ v.toI.small = true)
  | [], vs, h => by cases h; simp
  | .str _ :: _, vs, h => by cases h
  | .list l :: r, vs, h => by
    simp only [rdVotes] at h
    cases hv : rdVote l with
    | none => simp [hv] at h
    | some v =>
      simp only [hv] at h
      cases hr : rdVotes r with
      | none => simp [hr] at h
      | some t =>
        simp only [hr, Option.map_some, Option.some.injEq] at h
        subst h
        obtain ⟨e1, e2⟩ := rdVote_inv hv
        obtain ⟨f1, f2⟩ := rdVotes_inv hr
        refine ⟨by rw [f1, e1]; rfl, fun x hx => ?_⟩
        rcases List.mem_cons.1 hx with rfl | hx
        · exact e2
        · exact f2 x hx
theorem rdVotes_mk : ∀ {vs : List VotI}, (∀ v ∈ vs, v.Ok) → vs.all VotI.small = true → rdVotes (vs.map votIt) = some (vs.map VotI.toN)
  | [], _, _ => rfl
  | v :: r, h, hs => by
    simp only [List.all_cons, Bool.and_eq_true] at hs
    show rdVotes (.list (votIts v) :: r.map votIt) = _
    simp only [rdVotes]
    rw [rdVote_mk (h v (by simp)) hs.1]
    simp only
    rw [rdVotes_mk (vs := r) (fun x hx => h x (by simp [hx])) hs.2]; rfl

/-- what reading a commit gives -/
def rdCom (its : List It) : Option ComN :=
  match rdNumber its with
  | none => none
  | some (h, r1) =>
    match rdInt 2147483647 r1 with
    | none => none
    | some (rd, r2) =>
      match rdInto 32 r2 with
      | none => none
      | some (b, r3) =>
        match r3 with
        | [.list vl] => (rdVotes vl).map fun vs => ⟨h, rd, b, vs⟩
        | _ => none
structure ComI.Ok (c : ComI) : Prop where
  b : c.block.length = 32
  h0 : 0 ≤ c.height
  h1 : c.height ≤ 18446744073709551615
  r1 : c.round ≤ 9223372036854775807
  v : ∀ v ∈ c.votes, v.Ok
  n1 : c.votes.length ≤ 1048576
def rightC (c : ComI) : Bool := smalls [c.round] && c.votes.all VotI.small
def encCom (c : ComI) : Except Int (List UInt8) :=
  if rightC c then (match Rlp.encode (comIt c) with | some y => .ok y | none => .error 3) else .error 71
def decCom (x : List UInt8) : Except Int ComN :=
  match opn x with
  | .error k => .error k
  | .ok its => match rdCom its with
    | none => .error 11
    | some c => .ok c

theorem rdCom_inv {its : List It} {c : ComN} (h : rdCom its = some c) : .list its = comIt c.toI ∧ rightC c.toI = true ∧ c.block.length = 32 ∧ (∀ v ∈ c.votes, v.toI.Ok) ∧ c.height ≤ 18446744073709551615 ∧ c.round ≤ 2147483647 := by
  unfold rdCom at h
  cases h1 : rdNumber its with
  | none => simp [h1] at h
  | some p =>
    obtain ⟨ht, r1⟩ := p
    simp only [h1] at h
    cases h2 : rdInt 2147483647 r1 with
    | none => simp [h2] at h
    | some p =>
      obtain ⟨rd, r2⟩ := p
      simp only [h2] at h
      cases h3 : rdInto 32 r2 with
      | none => simp [h3] at h
      | some p =>
        obtain ⟨b, r3⟩ := p
        simp only [h3] at h
        split at h
        · rename_i vl
          cases hv : rdVotes vl with
          | none => simp [hv] at h
          | some vs =>
            simp only [hv, Option.map_some, Option.some.injEq] at h
            subst h
            obtain ⟨e1, b1⟩ := rdNumber_inv h1
            obtain ⟨e2, b2⟩ := rdInt_inv h2
            obtain ⟨e3, b3⟩ := rdInto_inv h3
            obtain ⟨e4, b4⟩ := rdVotes_inv hv
            subst e4 e3 e2 e1
            refine ⟨by simp [comIt, ComN.toI], ?_, b3, fun v hv => (b4 v hv).1, b1, b2⟩
            simp only [rightC, ComN.toI, Bool.and_eq_true, List.all_map, List.all_eq_true, Function.comp]
            refine ⟨(smalls_spec _).2 fun n hn => ?_, fun v hv => (b4 v hv).2⟩
            simp only [List.mem_singleton] at hn
            subst hn; omega
        · cases h
theorem opn_inv {x : List UInt8} {its : List It} (h : opn x = .ok its) : Rlp.decode x = .ok (.list its) := by
  unfold opn at h
  split at h
  · cases h
  · cases h
  · cases h; assumption
theorem encCom_decCom {x : List UInt8} {c : ComN} (h : decCom x = .ok c) : encCom c.toI = .ok x := by
  unfold decCom at h
  cases ho : opn x with
  | error k => simp [ho] at h
  | ok its =>
    simp only [ho] at h
    cases hr : rdCom its with
    | none => simp [hr] at h
    | some d =>
      simp only [hr, Except.ok.injEq] at h
      subst h
      obtain ⟨e1, e2, _⟩ := rdCom_inv hr
      unfold encCom
      rw [if_pos e2, ← e1, Rlp.encode_decode (opn_inv ho)]
def ComI.toN (c : ComI) : ComN := ⟨c.height.toNat, c.round.toNat, c.block, c.votes.map VotI.toN⟩
theorem ComI.toN_toI {c : ComI} (h : c.Ok) (hs : rightC c = true) : c.toN.toI = c := by
  simp only [rightC, Bool.and_eq_true, List.all_eq_true, smalls_spec, List.mem_singleton, forall_eq] at hs
  obtain ⟨ht, rd, b, vs⟩ := c
  have h0 := h.h0
  have hv := h.v
  simp only [ComI.toN, ComN.toI, List.map_map] at *
  rw [Int.toNat_of_nonneg hs.1.1, Int.toNat_of_nonneg h0]
  congr 1
  conv => rhs; rw [← List.map_id vs]
  exact List.map_congr_left fun v hv' => VotI.toN_toI (hv v hv') (hs.2 v hv')
theorem decCom_encCom {c : ComI} {y : List UInt8} (hok : c.Ok) (h : encCom c = .ok y) : decCom y = .ok c.toN ∧ c.toN.toI = c := by
  unfold encCom at h
  by_cases hr : rightC c = true
  · rw [if_pos hr] at h
    cases he : Rlp.encode (comIt c) with
    | none => simp [he] at h
    | some z =>
      simp only [he, Except.ok.injEq] at h
      subst h
      refine ⟨?_, ComI.toN_toI hok hr⟩
      have hd := Rlp.decode_encode he
      have h1 := hok.h1
      have hs := hr
      simp only [rightC, Bool.and_eq_true, smalls_spec, List.mem_singleton, forall_eq] at hs
      have ho : opn z = .ok [.str (Rlp.short c.height.toNat), .str (Rlp.short c.round.toNat), .str c.block, .list (c.votes.map votIt)] := by unfold opn; rw [hd]; rfl
      unfold decCom
      rw [ho]
      simp only
      unfold rdCom
      rw [rdNumber_mk _ _ (by omega)]
      simp only
      rw [rdInt_mk _ _ _ (by omega) (by decide)]
      simp only
      rw [rdInto_mk _ _ _ hok.b]
      simp only
      rw [rdVotes_mk hok.v hs.2]
      rfl
  · rw [if_neg hr] at h; cases h

/-- is a block right? -/
def rightB (b : BlkI) : Bool := (b.height != 0) && smalls [b.proposer, b.round] && decide (b.txs.length ≤ 64) && (match Rlp.encode (blkIt b) with | some y => decide (y.length ≤ 24576) | none => false)
def encBlk (b : BlkI) : Except Int (List UInt8) :=
  if rightB b then (match Rlp.encode (blkIt b) with | some y => .ok y | none => .error 3) else .error 70
def decBlk (x : List UInt8) : Except Int Blk :=
  match opn x with
  | .error k => .error k
  | .ok its => match rdBlock its with
    | none => .error 11
    | some b => if rightB b.toI then .ok b else .error 70

theorem rdStrs_inv : ∀ {its : List It} {l : List (List UInt8)}, rdStrs its = some l → its = l.map It.str
  | [], l, h => by cases h; rfl
  | .str s :: r, l, h => by
    simp only [rdStrs] at h
    cases hr : rdStrs r with
    | none => simp [hr] at h
    | some t =>
      simp only [hr, Option.map_some, Option.some.injEq] at h
      subst h
      rw [rdStrs_inv hr]; rfl
  | .list _ :: _, l, h => by cases h
theorem rdStrs_mk : ∀ (l : List (List UInt8)), rdStrs (l.map It.str) = some l
  | [] => rfl
  | x :: r => by simp only [List.map_cons, rdStrs, rdStrs_mk r]; rfl

theorem rdBlock_inv {its : List It} {b : Blk} (h : rdBlock its = some b) : .list its = blkIt b.toI ∧ b.prev.length = 32 ∧ b.state.length = 32 ∧ b.height ≤ 18446744073709551615 ∧ b.proposer ≤ 2147483647 ∧ b.round ≤ 2147483647 := by
  unfold rdBlock at h
  cases h1 : rdNumber its with
  | none => simp [h1] at h
  | some p =>
    obtain ⟨ht, r1⟩ := p
    simp only [h1] at h
    cases h2 : rdInto 32 r1 with
    | none => simp [h2] at h
    | some p =>
      obtain ⟨pv, r2⟩ := p
      simp only [h2] at h
      cases h3 : rdInto 32 r2 with
      | none => simp [h3] at h
      | some p =>
        obtain ⟨sv, r3⟩ := p
        simp only [h3] at h
        cases h4 : rdInt 2147483647 r3 with
        | none => simp [h4] at h
        | some p =>
          obtain ⟨pr, r4⟩ := p
          simp only [h4] at h
          cases h5 : rdInt 2147483647 r4 with
          | none => simp [h5] at h
          | some p =>
            obtain ⟨rd, r5⟩ := p
            simp only [h5] at h
            split at h
            · rename_i tl
              cases hv : rdStrs tl with
              | none => simp [hv] at h
              | some txs =>
                simp only [hv, Option.map_some, Option.some.injEq] at h
                subst h
                obtain ⟨e1, b1⟩ := rdNumber_inv h1
                obtain ⟨e2, b2⟩ := rdInto_inv h2
                obtain ⟨e3, b3⟩ := rdInto_inv h3
                obtain ⟨e4, b4⟩ := rdInt_inv h4
                obtain ⟨e5, b5⟩ := rdInt_inv h5
                have e6 := rdStrs_inv hv
                subst e6 e5 e4 e3 e2 e1
                exact ⟨by simp [blkIt, Blk.toI], b2, b3, b1, b4, b5⟩
            · cases h
theorem encBlk_decBlk {x : List UInt8} {b : Blk} (h : decBlk x = .ok b) : encBlk b.toI = .ok x := by
  unfold decBlk at h
  cases ho : opn x with
  | error k => simp [ho] at h
  | ok its =>
    simp only [ho] at h
    cases hr : rdBlock its with
    | none => simp [hr] at h
    | some d =>
      simp only [hr] at h
      by_cases hR : rightB d.toI = true
      · rw [if_pos hR] at h
        cases h
        obtain ⟨e1, _⟩ := rdBlock_inv hr
        unfold encBlk
        rw [if_pos hR, ← e1, Rlp.encode_decode (opn_inv ho)]
      · rw [if_neg hR] at h; cases h
def BlkI.toN (b : BlkI) : Blk := ⟨b.height.toNat, b.prev, b.state, b.proposer.toNat, b.round.toNat, b.txs⟩
theorem BlkI.toN_toI {b : BlkI} (h : b.Ok) (hs : smalls [b.proposer, b.round] = true) : b.toN.toI = b := by
  rw [smalls_spec] at hs
  have h1 := hs b.proposer (by simp)
  have h2 := hs b.round (by simp)
  have h0 := h.h0
  obtain ⟨ht, p, s, pr, rd, txs⟩ := b
  simp only [BlkI.toN, Blk.toI] at *
  rw [Int.toNat_of_nonneg h1.1, Int.toNat_of_nonneg h2.1, Int.toNat_of_nonneg h0]
theorem decBlk_encBlk {b : BlkI} {y : List UInt8} (hok : b.Ok) (h : encBlk b = .ok y) : decBlk y = .ok b.toN ∧ b.toN.toI = b := by
  unfold encBlk at h
  by_cases hr : rightB b = true
  · rw [if_pos hr] at h
    cases he : Rlp.encode (blkIt b) with
    | none => simp [he] at h
    | some z =>
      simp only [he, Except.ok.injEq] at h
      subst h
      have hs : smalls [b.proposer, b.round] = true := by
        simp only [rightB, Bool.and_eq_true] at hr; exact hr.1.1.2
      have ht := BlkI.toN_toI hok hs
      refine ⟨?_, ht⟩
      have hd := Rlp.decode_encode he
      have h1 := hok.h1
      rw [smalls_spec] at hs
      have hs1 := hs b.proposer (by simp)
      have hs2 := hs b.round (by simp)
      have ho : opn z = .ok [.str (Rlp.short b.height.toNat), .str b.prev, .str b.state, .str (Rlp.short b.proposer.toNat), .str (Rlp.short b.round.toNat), .list (b.txs.map It.str)] := by unfold opn; rw [hd]; rfl
      have hrd : rdBlock [.str (Rlp.short b.height.toNat), .str b.prev, .str b.state, .str (Rlp.short b.proposer.toNat), .str (Rlp.short b.round.toNat), .list (b.txs.map It.str)] = some b.toN := by
        unfold rdBlock
        rw [rdNumber_mk _ _ (by omega)]
        simp only
        rw [rdInto_mk _ _ _ hok.p]
        simp only
        rw [rdInto_mk _ _ _ hok.s]
        simp only
        rw [rdInt_mk _ _ _ (by omega) (by decide)]
        simp only
        rw [rdInt_mk _ _ _ (by omega) (by decide)]
        simp only
        rw [rdStrs_mk]
        rfl
      unfold decBlk
      rw [ho]
      simp only
      rw [hrd]
      simp only
      rw [ht, if_pos hr]
  · rw [if_neg hr] at h; cases h

def encAns (b : BlkI) (c : ComI) : Except Int (List UInt8) :=
  match encBlk b with
  | .error e => .error e
  | .ok x => match encCom c with
    | .error e => .error e
    | .ok y => match Rlp.encode (.list [.str x, .str y]) with
      | some z => .ok z
      | none => .error 3
def decAns (x : List UInt8) : Except Int (Blk × ComN) :=
  match itsOf x 2 with
  | .error e => .error e
  | .ok [.str u, .str v] => (match decBlk u with
    | .error e => .error e
    | .ok b => match decCom v with
      | .error e => .error e
      | .ok c => .ok (b, c))
  | .ok _ => .error 11
theorem itsOf_inv {x : List UInt8} {k : Nat} {its : List It} (hk : 0 < k) (h : itsOf x k = .ok its) : Rlp.decode x = .ok (.list its) := by
  unfold itsOf at h
  cases hd : Rlp.decode x with
  | error e => simp [hd] at h
  | ok y =>
    simp only [hd] at h
    split at h
    · rename_i hlen
      cases h
      cases y with
      | str s => simp [kids] at hlen; omega
      | list l => rfl
    · cases h
theorem decAns_encAns {b : BlkI} {c : ComI} {z : List UInt8} (hb : b.Ok) (hc : c.Ok) (h : encAns b c = .ok z) : decAns z = .ok (b.toN, c.toN) ∧ b.toN.toI = b ∧ c.toN.toI = c := by
  unfold encAns at h
  cases h1 : encBlk b with
  | error e => simp [h1] at h
  | ok x =>
    simp only [h1] at h
    cases h2 : encCom c with
    | error e => simp [h2] at h
    | ok y =>
      simp only [h2] at h
      cases he : Rlp.encode (.list [.str x, .str y]) with
      | none => simp [he] at h
      | some u =>
        simp only [he, Except.ok.injEq] at h
        subst h
        obtain ⟨d1, t1⟩ := decBlk_encBlk hb h1
        obtain ⟨d2, t2⟩ := decCom_encCom hc h2
        refine ⟨?_, t1, t2⟩
        have hi : itsOf u 2 = .ok [.str x, .str y] := by unfold itsOf; rw [Rlp.decode_encode he]; simp [kids]
        unfold decAns
        rw [hi]
        simp only [d1, d2]
theorem encAns_decAns {x : List UInt8} {b : Blk} {c : ComN} (h : decAns x = .ok (b, c)) : encAns b.toI c.toI = .ok x := by
  unfold decAns at h
  split at h
  · cases h
  · rename_i u v hi
    cases h1 : decBlk u with
    | error e => simp [h1] at h
    | ok b' =>
      simp only [h1] at h
      cases h2 : decCom v with
      | error e => simp [h2] at h
      | ok c' =>
        simp only [h2, Except.ok.injEq, Prod.mk.injEq] at h
        obtain ⟨rfl, rfl⟩ := h
        unfold encAns
        rw [encBlk_decBlk h1]
        simp only
        rw [encCom_decCom h2]
        simp only
        rw [Rlp.encode_decode (itsOf_inv (by decide) hi)]
  · cases h
theorem decAsk_enc (h : Int) (h0 : 0 ≤ h) (h1 : h ≤ 18446744073709551615) {y : List UInt8} (he : Rlp.encode (.list [.str (Rlp.short h.toNat)]) = some y) : decAsk y = (h.toNat, 0) := by
  have hi : itsOf y 1 = .ok [.str (Rlp.short h.toNat)] := by unfold itsOf; rw [Rlp.decode_encode he]; simp [kids]
  unfold decAsk
  rw [hi]
  simp [uint_short h.toNat (by omega)]
theorem enc_decAsk {x : List UInt8} {m : Nat} (h : decAsk x = (m, 0)) : Rlp.encode (.list [.str (Rlp.short m)]) = some x ∧ m ≤ 18446744073709551615 := by
  unfold decAsk at h
  cases hi : itsOf x 1 with
  | error e =>
    simp only [hi, Prod.mk.injEq] at h
    exact absurd h.2 (itsOf_err hi)
  | ok its =>
    have hl := itsOf_len hi
    match its, hl with
    | [y], _ =>
      simp only [hi] at h
      by_cases he : (uintPair y).2 = 0
      · rw [if_pos he] at h
        simp only [Prod.mk.injEq, and_true] at h
        obtain ⟨e1, e2⟩ := short_uint he
        rw [h] at e1 e2
        refine ⟨?_, e2⟩
        rw [← e1]
        exact Rlp.encode_decode (itsOf_inv (by decide) hi)
      · rw [if_neg he] at h; simp at h
end Go.Proofs.Ytildkoabfdfjlaa
