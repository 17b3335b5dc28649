/- chain's 'item' of a block. -/
import Derived.Test.YtildkoabfdfjlaaVItem
set_option linter.all false
namespace Go.Proofs.Ytildkoabfdfjlaa
open Go.RowKit
open Rlp (It)

/-- a block, of whatever numbers -/
structure BlkI where
  height : Int
  prev : List UInt8
  state : List UInt8
  proposer : Int
  round : Int
  txs : List (List UInt8)
def blkV (b : BlkI) (v : Value) : List Value := .int .u64 b.height :: (bytesV b.prev ++ (bytesV b.state ++ [.int .i64 b.proposer, .int .i64 b.round, v]))
structure BlkI.Ok (b : BlkI) : Prop where
  p : b.prev.length = 32
  s : b.state.length = 32
  h0 : 0 ≤ b.height
  h1 : b.height ≤ 18446744073709551615
  p1 : b.proposer ≤ 9223372036854775807
  r1 : b.round ≤ 9223372036854775807
  n1 : b.txs.length ≤ 1048576
  t1 : ∀ t ∈ b.txs, t.length ≤ 1048576
/-- the item of a block -/
def blkIt (b : BlkI) : It := .list [.str (Rlp.short b.height.toNat), .str b.prev, .str b.state, .str (Rlp.short b.proposer.toNat), .str (Rlp.short b.round.toNat), .list (b.txs.map It.str)]

/-- these cells are slices that read as these strings, in blocks from n on -/
def StrsR (n : Nat) (w : World) : List (List UInt8) → List Value → Prop
  | [], cs => cs = []
  | l :: r, cs => ∃ A cap cs', cs = .slice A l.length cap :: cs' ∧ l.length ≤ cap ∧ Rd n w A (bytesV l) ∧ StrsR n w r cs'
theorem StrsR.below {n : Nat} {w w' : World} (hb : Below w.heap.size w w') : ∀ {l : List (List UInt8)} {cs : List Value}, StrsR n w l cs → StrsR n w' l cs
  | [], cs, h => h
  | x :: r, cs, h => by
    obtain ⟨A, cap, cs', h1, h2, h3, h4⟩ := h
    exact ⟨A, cap, cs', h1, h2, h3.below hb, StrsR.below hb h4⟩
theorem StrsR.length {n : Nat} {w : World} : ∀ {l : List (List UInt8)} {cs : List Value}, StrsR n w l cs → cs.length = l.length
  | [], cs, h => by cases (show cs = [] from h); rfl
  | x :: r, cs, h => by
    obtain ⟨A, cap, cs', rfl, h2, h3, h4⟩ := h
    simp [StrsR.length h4]
theorem StrsR.at {n : Nat} {w : World} : ∀ {l : List (List UInt8)} {cs : List Value}, StrsR n w l cs → ∀ k (hk : k < l.length), ∃ A cap, cs[k]? = some (.slice A l[k].length cap) ∧ l[k].length ≤ cap ∧ Rd n w A (bytesV l[k])
  | [], cs, h, k, hk => by simp at hk
  | x :: r, cs, h, 0, hk => by
    obtain ⟨A, cap, cs', rfl, h2, h3, h4⟩ := h
    exact ⟨A, cap, rfl, h2, h3⟩
  | x :: r, cs, h, k + 1, hk => by
    obtain ⟨A, cap, cs', rfl, h2, h3, h4⟩ := h
    simpa using StrsR.at h4 k (by simpa using hk)

theorem StrsR.get {n : Nat} {w : World} {l : List (List UInt8)} {cs : List Value} (h : StrsR n w l cs) {k : Nat} {t : List UInt8} (hk : l[k]? = some t) : ∃ A cap, cs[k]? = some (.slice A t.length cap) ∧ t.length ≤ cap ∧ Rd n w A (bytesV t) := by
  obtain ⟨hlt, rfl⟩ := List.getElem?_eq_some_iff.1 hk
  exact h.at k hlt
theorem take_get_snoc {α : Type} (l : List α) (k : Nat) (t : α) (hk : l[k]? = some t) : l.take (k + 1) = l.take k ++ [t] := by
  obtain ⟨hlt, rfl⟩ := List.getElem?_eq_some_iff.1 hk
  exact List.take_succ_eq_append_getElem hlt
theorem take_map_snoc {α : Type} (f : α → It) (l : List α) (k : Nat) (hk : k < l.length) : (l.take (k + 1)).map f = (l.take k).map f ++ [f l[k]] := by
  rw [List.take_succ_eq_append_getElem hk, List.map_append]; rfl

theorem listN_c (A : Option Addr) (cap n : Nat) (l : List It) (cs : List Value) (w : World) (hn : l.length = n) (hl : n ≤ 2000000) (hr : Hid (Rd 0 w A cs ∧ ItemsR 0 w l cs)) (hA : A = none → n = 0) :
    Calls Try.prog 15 #[.slice A n cap] w fun e w' => ∃ A' cap', e = .returned (.agg #[.bool true, .slice none 0 0, .slice A' n cap']) ∧ n ≤ cap' ∧ Rd w.heap.size w' A' cs ∧ Below w.heap.size w w' := by
  subst hn
  exact list_c A cap l cs w (Lib.hid (by omega)) hr (Lib.hid hA)

/-- a loop that appends items: what is so after k of them -/
structure ItI (N : Nat) (W0 : World) (its : List It) (v : Value) (W : World) : Prop where
  own : ∃ cs, W.ownsRow N 50 3 v its.length cs ∧ Stay N W v.ownBlock its cs
  be : Below N W0 W
  sz : N ≤ W.heap.size
theorem ItI.nil (N : Nat) (W0 : World) (h : N ≤ W0.heap.size) : ItI N W0 [] (.slice none 0 0) W0 := ⟨⟨[], World.ownsRow_nil _ _ _ _, Stay.nil _ _ _⟩, Below.refl _ _, h⟩
theorem ItI.blk {N : Nat} {W0 W : World} {its : List It} {v : Value} (h : ItI N W0 its v W) : ∀ k, v.ownBlock = some k → N ≤ k ∧ k < W.heap.size := by
  obtain ⟨cs, hown, _⟩ := h.own
  intro k hk
  exact ⟨(hown.lt k hk).1, (hown.lt k hk).2⟩
/-- one round -/
theorem ItI.step {N : Nat} {W0 W w1 w3 : World} {its : List It} {v v' : Value} {x : It} {f : Bool} {A B : Option Addr} {k c m d : Nat} {o : Obj} {cs : List Value} (h : ItI N W0 its v W) (hcs : W.ownsRow N 50 3 v its.length cs ∧ Stay N W v.ownBlock its cs)
    (hI : ItemR W.heap.size w1 x (.bool f) (.slice A k c) (.slice B m d)) (hB : Below W.heap.size W w1)
    (hown : w3.ownsRow N 50 3 v' (its.length + 1) (cs ++ [.bool f, .slice A k c, .slice B m d]))
    (hgrow : (w1.alloc o).grownBy w3 v.ownBlock) (hblk : v'.ownBlock = v.ownBlock ∨ v'.ownBlock = some (w1.alloc o).heap.size) : ItI N W0 (its ++ [x]) v' w3 := by
  have hsz := h.sz
  have hBs := hB.size
  have hgs := hgrow.size
  simp only [World.size_alloc] at hgs hblk
  refine ⟨⟨cs ++ [.bool f, .slice A k c, .slice B m d], by rw [List.length_append]; exact hown, ?_⟩, ?_, by omega⟩
  · have hvb := h.blk
    have h1 : Stay N (w1.alloc o) v.ownBlock (its ++ [x]) (cs ++ [.bool f, .slice A k c, .slice B m d]) := by
      refine Stay.below ?_ (bnew w1 o)
      exact Stay.append (hcs.2.below hB) (Stay.one hI hsz (fun k hk => (hvb k hk).2))
    refine h1.grown hgrow.size (fun k _ hk hne => hgrow.block k hk (fun e => hne e.symm)) (fun k hk hne => ?_)
    rcases hblk with e | e
    · rw [e]; exact hne
    · rw [e]; intro e2; injection e2 with e2; simp only [World.size_alloc] at hk; omega
  · have hvb := h.blk
    exact h.be.trans ⟨hgrow.os.trans hB.os, hgrow.tape.trans hB.tape, hgrow.output.trans hB.output, by omega, fun k hk => (hgrow.block k (by simp; omega) (fun e => by have := (hvb k e.symm).1; omega)).trans ((Below.heap_alloc _ _ _ (by omega)).trans (hB.block k (by omega)))⟩

def ItRel (N : Nat) (W0 : World) (all : List It) (v i : Value) (W : World) : Prop := ∃ k : Nat, k ≤ all.length ∧ i = .int .i64 k ∧ ItI N W0 (all.take k) v W

set_option maxRecDepth 100000 in
set_option maxHeartbeats 1000000 in
theorem bitem_c (b : BlkI) (hb : b.Ok) (A : Option Addr) (cap : Nat) (vals : List Value) (w : World) (hr : Rd 0 w A vals) (hs : StrsR 0 w b.txs vals) :
    Calls Try.prog 54 #[.agg (blkV b (.slice A b.txs.length cap)).toArray] w (GivesItem w (blkIt b)) := by
  have HS := Lib.hid (And.intro hr hs); clear hr hs
  have HOK := Lib.hid hb
  have hl := hb.n1
  clear hb
  obtain ⟨n, hn⟩ : ∃ n, b.txs.length = n := ⟨_, rfl⟩
  rw [hn] at hl ⊢
  have HN := Lib.hid hn; clear hn
  obtain ⟨cs, hcs⟩ : ∃ cs, (blkV b (.slice A n cap)).toArray = cs := ⟨_, rfl⟩
  have hp := bytesV_length b.prev
  have hst := bytesV_length b.state
  rw [HOK.out.p] at hp
  rw [HOK.out.s] at hst
  have e67 : cs[67]? = some (.slice A n cap) := by
    rw [← hcs]; unfold blkV
    rw [List.getElem?_toArray, List.getElem?_cons_succ, List.getElem?_append_right (by omega), List.getElem?_append_right (by omega), hp, hst]; rfl
  have HE : Hid (cs[0]? = some (.int .u64 b.height) ∧ cs[65]? = some (.int .i64 b.proposer) ∧ cs[66]? = some (.int .i64 b.round) ∧ (∀ j, j < 32 → cs[1 + j]? = (bytesV b.prev)[j]?) ∧ (∀ j, j < 32 → cs[33 + j]? = (bytesV b.state)[j]?)) := by
    refine Lib.hid ?_
    rw [← hcs]; unfold blkV
    refine ⟨rfl, ?_, ?_, fun j hj => ?_, fun j hj => ?_⟩
    · rw [List.getElem?_toArray, List.getElem?_cons_succ, List.getElem?_append_right (by omega), List.getElem?_append_right (by omega), hp, hst]; rfl
    · rw [List.getElem?_toArray, List.getElem?_cons_succ, List.getElem?_append_right (by omega), List.getElem?_append_right (by omega), hp, hst]; rfl
    · rw [List.getElem?_toArray, show 1 + j = j + 1 by omega, List.getElem?_cons_succ, List.getElem?_append_left (by omega)]
    · rw [List.getElem?_toArray, show 33 + j = (j + 32) + 1 by omega, List.getElem?_cons_succ, List.getElem?_append_right (by omega), hp, List.getElem?_append_left (by omega)]; congr 1
  rw [hcs]
  clear hcs hp hst
  obtain ⟨iI, hiI, hzI0, hzI1, hzI2⟩ := info_parts item_info
  go_enter Try.func54, Try.ntmps54
  go_wp2_with fail
  obtain ⟨W0, hW0⟩ : ∃ W, (w.alloc (.cells cs 77)).alloc (.cells #[.bool false, .slice none 0 0, .slice none 0 0] 50) = W := ⟨_, rfl⟩
  have hB0 : Below w.heap.size w W0 := by rw [← hW0]; exact bnew2 _ _ _
  have hz0 : W0.heap.size = w.heap.size + 2 := by rw [← hW0]; simp
  have hbx0 : W0.heap[w.heap.size]? = some (.cells cs 77 (0, 0)) := by
    rw [← hW0, Below.heap_alloc _ _ _ (by simp)]; exact World.alloc_heap_new _ _
  have hit0 : W0.heap[w.heap.size + 1]? = some (.cells #[.bool false, .slice none 0 0, .slice none 0 0] 50 (0, 0)) := by
    rw [← hW0]
    have := World.alloc_heap_new (w.alloc (.cells cs 77)) (.cells #[.bool false, .slice none 0 0, .slice none 0 0] 50)
    rwa [World.size_alloc] at this
  have z67 : W0.cell? ⟨w.heap.size, 67, none⟩ = some (.slice A n cap) := cell_of_heap hbx0 e67
  rw [hW0]
  have HW := Lib.hid (And.intro hB0 (And.intro hz0 (And.intro hbx0 hit0)))
  clear hW0 hB0 hz0 hbx0 hit0 e67
  go_wp2_with fail
  go_loopw [3, 9] (fun v i wr => ItRel (w.heap.size + 2) W0 (b.txs.map It.str) v i wr) (fun _ i _ => n - (intOf i).toNat)
  case atStart => exact ⟨0, Nat.zero_le _, rfl, by simpa using ItI.nil (w.heap.size + 2) W0 (by rw [HW.out.2.1]; omega)⟩
  case round =>
    obtain ⟨k, hk, rfl, hI⟩ := hrel
    rw [List.length_map, HN.out] at hk
    have HI := Lib.hid hI; clear hI
    by_cases hlt : k < n
    · obtain ⟨t, ht⟩ : ∃ t, b.txs[k]? = some t := ⟨_, List.getElem?_eq_getElem (by rw [HN.out]; exact hlt)⟩
      obtain ⟨A1, cap1, h1, h2, h3⟩ := HS.out.2.get ht
      obtain ⟨bb, o, hA, hc⟩ := HS.out.1.addr (by rw [HS.out.2.length, HN.out]; omega)
      subst hA
      have hBw : Below w.heap.size w wr := HW.out.1.trans (HI.out.be.mono (by omega))
      have r0 : wr.cell? ⟨bb, o + k, none⟩ = some (.slice A1 t.length cap1) := by
        have := (hc k (by rw [HS.out.2.length, HN.out]; omega)).trans h1
        exact (hBw.cell (p := ⟨bb, o + k, none⟩) (cell_lt this)).trans this
      have HT := Lib.hid (And.intro ht (And.intro h2 (h3.below hBw)))
      have htl : t.length ≤ 140737488355328 := by have := HOK.out.t1 t (List.mem_of_getElem? ht); omega
      have hkm : (k : Int) + 1 ≤ 9223372036854775807 := by omega
      clear ht h1 h2 h3 hc hBw
      obtain ⟨vs, hown, hst⟩ := HI.out.own
      have HO := Lib.hid (And.intro hown hst); clear hown hst
      have hkl : (List.take k (b.txs.map It.str)).length = k := by rw [List.length_take, List.length_map, HN.out]; omega
      have HKL := Lib.hid hkl; clear hkl
      go_wp2_with (first
        | (go_at_call 19; (with_reducible refine gives_at (strN_c A1 cap1 t.length t rfl htl _ HT.out.2.2) _ ?_); intro f1 B1 m1 c1 C1 d1 e1 w1 HIt hB1)
        | (at_builtin; refine wpList_append_rd _ rfl _ _ 45 rfl (w.heap.size + 2) 50 iI _ 3 56 Try.underlying45 hiI hzI0 hzI1 hzI2 rfl (by decide) _ _ vs rfl (own_below HO.out.1 (bstep hB1 (bnew w1 _))) 0 (some ⟨w1.heap.size, 0, none⟩) 1 1 [.bool f1, .slice B1 m1 c1, .slice C1 d1 e1] rfl rfl (rd_new w1 _ _) (by simp [Value.oneCell']) (by rw [HKL.out]; unfold maxLen; omega) (by rw [HKL.out]; omega) (by have := HI.out.sz; have := hB1.size; simp; omega) (fun h => by cases h) ?_
           intro v' w3 hown3 hgrow3 hblk3))
      have hstep := Lib.hid (ItI.step HI.out HO.out HIt.out hB1 hown3 hgrow3 hblk3)
      clear hown3 hgrow3 hblk3
      go_wp2
      go_roundw
      case rel =>
        refine ⟨k + 1, by rw [List.length_map, HN.out]; omega, by go_num, ?_⟩
        rw [take_get_snoc (b.txs.map It.str) k (.str t) (by rw [List.getElem?_map, HT.out.1]; rfl)]
        exact hstep.out
      case measure => simp [intOf]; omega
    · obtain rfl : k = n := by omega
      clear hlt hk
      have hall : List.take k (b.txs.map It.str) = b.txs.map It.str := List.take_of_length_le (by rw [List.length_map, HN.out]; omega)
      have HI2 := HI.out
      rw [hall] at HI2
      have HI3 := Lib.hid HI2; clear HI2 HI hall
      obtain ⟨vs, hown, hst⟩ := HI3.out.own
      have hkl : (b.txs.map It.str).length = k := by rw [List.length_map, HN.out]
      rw [hkl] at hown
      obtain ⟨A3, cap3, rfl, hcap3, _, _⟩ := own_slice hown
      have hA3 : A3 = none → k = 0 := by
        intro h
        obtain ⟨hl0, ⟨_, h0⟩ | ⟨g, cp, cur, hv, _⟩⟩ := hown
        · exact h0
        · injection hv with hv _ _; rw [h] at hv; cases hv
      have HTX := Lib.hid (And.intro hkl (And.intro (Rd.of_own hown) hst.here))
      have hsz0 := HI3.out.sz
      have hBw : Below w.heap.size w wr := HW.out.1.trans (HI3.out.be.mono (by omega))
      have hbx : wr.heap[w.heap.size]? = some (.cells cs 77 (0, 0)) := (HI3.out.be.block _ (by omega)).trans HW.out.2.2.1
      have hit : wr.heap[w.heap.size + 1]? = some (.cells #[.bool false, .slice none 0 0, .slice none 0 0] 50 (0, 0)) := (HI3.out.be.block _ (by omega)).trans HW.out.2.2.2
      have HBX : Hid (∀ W : World, Below wr.heap.size wr W →
          (W.cell? ⟨w.heap.size, 0, none⟩ = some (.int .u64 b.height) ∧ W.cell? ⟨w.heap.size, 65, none⟩ = some (.int .i64 b.proposer) ∧ W.cell? ⟨w.heap.size, 66, none⟩ = some (.int .i64 b.round)) ∧
          Rd 0 W (some ⟨w.heap.size, 1, none⟩) (bytesV b.prev) ∧ Rd 0 W (some ⟨w.heap.size, 33, none⟩) (bytesV b.state)) := by
        intro W hW
        have hb := (hW.block _ (by omega)).trans hbx
        refine ⟨⟨cell_of_heap hb HE.out.1, cell_of_heap hb HE.out.2.1, cell_of_heap hb HE.out.2.2.1⟩, Or.inr ⟨_, _, Nat.zero_le _, rfl, fun j hj => ?_⟩, Or.inr ⟨_, _, Nat.zero_le _, rfl, fun j hj => ?_⟩⟩
        · rw [bytesV_length, HOK.out.p] at hj
          rw [← HE.out.2.2.2.1 j hj]; simp [World.cell?, hb]
        · rw [bytesV_length, HOK.out.s] at hj
          rw [← HE.out.2.2.2.2 j hj]; simp [World.cell?, hb]
      have HIT : Hid (∀ W : World, Below wr.heap.size wr W → ZeroItem (w.heap.size + 1) W) := fun W hW => ZeroItem.of ((hW.block _ (by omega)).trans hit)
      obtain ⟨⟨q0, q1, q2⟩, _, _⟩ := HBX.out wr (Below.refl _ _)
      have HZ := Lib.hid (And.intro hBw hsz0)
      have H0 := HOK.out.h0
      have H1 := Lib.hid HOK.out.h1
      have P1 := HOK.out.p1
      have R1 := HOK.out.r1
      obtain ⟨HT, hHT⟩ : ∃ x, b.height = x := ⟨_, rfl⟩
      obtain ⟨PR, hPR⟩ : ∃ x, b.proposer = x := ⟨_, rfl⟩
      obtain ⟨RD, hRD⟩ : ∃ x, b.round = x := ⟨_, rfl⟩
      have HNM := Lib.hid (And.intro hHT (And.intro hPR hRD))
      rw [hHT] at q0 H0 H1 HBX
      rw [hPR] at q1 P1 HBX
      rw [hRD] at q2 R1 HBX
      clear hown hst hkl hsz0 hBw hbx hit HI3 HE hHT hPR hRD hiI hzI0 hzI1 hzI2 HW
      go_wp2_with fail
      go_region_held3 (fun w' => w'.cell? ⟨w.heap.size, 0, none⟩ = some (.int .u64 HT) ∧ w'.cell? ⟨w.heap.size, 65, none⟩ = some (.int .i64 PR) ∧ w'.cell? ⟨w.heap.size, 66, none⟩ = some (.int .i64 RD))
        (first
          | exact (HBX.out _ HbG).1
          | exact (HBX.out _ (HbF.alloc HbF.size _)).1
          | exact (HBX.out _ HbF).1
          | exact (HBX.out _ HbE).1
          | exact (HBX.out _ HbD).1
          | exact (HBX.out _ HbC).1
          | exact (HBX.out _ HbB).1
          | exact (HBX.out _ HbA).1
          | go_keep)
        (first
          | (go_at_call 59; first
              | ((with_reducible refine gives_at (cnum_c PR P1 _) _ ?_); intro fD AD kD cD BD mD dD wD HD hD; have HbD : Below wr.heap.size wr wD := bstep HbC hD)
              | ((with_reducible refine gives_at (cnum_c RD R1 _) _ ?_); intro fE AE kE cE BE mE dE wE HE hE; have HbE : Below wr.heap.size wr wE := bstep HbD hE))
          | (go_at_call 16; (with_reducible refine gives_at (num_c HT H0 H1 _) _ ?_); intro fA AA kA cA BA mA dA wA HA hA; have HbA : Below wr.heap.size wr wA := bstep ((Below.refl _ wr).drew) hA)
          | (go_at_call 19; first
              | ((with_reducible refine gives_at (strN_c (some ⟨w.heap.size, 1, none⟩) 32 32 b.prev HOK.out.p (by decide) _ (HBX.out _ HbA).2.1) _ ?_); intro fB AB kB cB BB mB dB wB HB hB; have HbB : Below wr.heap.size wr wB := bstep HbA hB)
              | ((with_reducible refine gives_at (strN_c (some ⟨w.heap.size, 33, none⟩) 32 32 b.state HOK.out.s (by decide) _ (HBX.out _ HbB).2.2) _ ?_); intro fC AC kC cC BC mC dC wC HC hC; have HbC : Below wr.heap.size wr wC := bstep HbB hC))
          | (go_at_call 15; first
              | ((with_reducible refine (listN_c A3 cap3 k (b.txs.map It.str) vs _ HTX.out.1 (by omega) (Lib.hid ⟨(HTX.out.2.1.below HbE).mono (Nat.zero_le _), ItemsR.mono (Nat.zero_le _) _ _ (ItemsR.below HbE _ _ HTX.out.2.2)⟩) hA3).mono ?_); rintro e wF ⟨AF, cF, rfl, hcF, hrF, hF⟩; have HbF : Below wr.heap.size wr wF := bstep HbE hF
                 have HF : Hid (ItemR (w.heap.size + 2) wF (.list (b.txs.map It.str)) (.bool true) (.slice none 0 0) (.slice AF k cF)) := by
                   have hh := ItemR.mk_list (n := w.heap.size + 2) (w := wF) (A := AF) (cap := cF) (its := b.txs.map It.str) (cs := vs) (by rw [HTX.out.1]; exact hcF) (hrF.mono (by have := HZ.out.2; have := HbE.size; omega)) (ItemsR.below HbF _ _ HTX.out.2.2) none 0
                   rw [HTX.out.1] at hh; exact hh
                 clear hcF hrF)
              | (have HI6 := Lib.hid (item6 (w.heap.size + 2) (wF.alloc (.cells #[.bool fA, .slice AA kA cA, .slice BA mA dA, .bool fB, .slice AB kB cB, .slice BB mB dB, .bool fC, .slice AC kC cC, .slice BC mC dC, .bool fD, .slice AD kD cD, .slice BD mD dD, .bool fE, .slice AE kE cE, .slice BE mE dE, .bool true, .slice none 0 0, .slice AF k cF] 50)) HA.out (bstep (bstep (bstep (bstep (bstep hB hC) hD) hE) hF) (bnew wF _)) HZ.out.2 HB.out (bstep (bstep (bstep (bstep hC hD) hE) hF) (bnew wF _)) (by have := HZ.out.2; have := HbA.size; omega) HC.out (bstep (bstep (bstep hD hE) hF) (bnew wF _)) (by have := HZ.out.2; have := HbB.size; omega) HD.out (bstep (bstep hE hF) (bnew wF _)) (by have := HZ.out.2; have := HbC.size; omega) HE.out (bstep hF (bnew wF _)) (by have := HZ.out.2; have := HbD.size; omega) HF.out (bnew wF _) (Nat.le_refl _))
                 clear HA HB HC HD HE HF hA hB hC hD hE hF HbA HbB HbC HbD HbE
                 (with_reducible refine (listN_c (some ⟨wF.heap.size, 0, none⟩) 6 6 [.str (Rlp.short HT.toNat), .str b.prev, .str b.state, .str (Rlp.short PR.toNat), .str (Rlp.short RD.toNat), .list (b.txs.map It.str)] _ _ rfl (by decide) (Lib.hid ⟨rd_new wF _ _, ItemsR.mono (Nat.zero_le _) _ _ HI6.out⟩) (fun h => by cases h)).mono ?_)
                 rintro e wG ⟨A', cap', rfl, hcap, hR, hG⟩; have HbG : Below wr.heap.size wr wG := bstep (bstep HbF (bnew wF _)) hG; obtain ⟨g0, g1, g2, g3, g4, g5⟩ := HIT.out _ HbG
                 have HL := Lib.hid (And.intro hcap (And.intro hR (ItemsR.below hG _ _ HI6.out))); clear hcap hR hG HI6)))
      have hszF := HbF.size
      have hfin : ItemR (w.heap.size + 1 + 1) wG (blkIt b) (.bool true) (.slice none 0 0) (.slice A' 6 cap') := by
        have := ItemR.mk_list HL.out.1 (HL.out.2.1.mono (by have := HZ.out.2; simp; omega)) HL.out.2.2 none 0
        unfold blkIt
        rw [HNM.out.1, HNM.out.2.1, HNM.out.2.2]
        exact this
      obtain ⟨r1, r2⟩ := item_ret (w := w) (w.heap.size + 1) (by omega) hfin (HZ.out.1.trans (HbG.mono (by have := HZ.out.2; omega)))
      have HR1 := Lib.hid (And.intro r1 r2); clear r1 r2 hfin
      go_wp2
      exact bodyPost_ret (v := .agg #[.bool true, .slice none 0 0, .slice A' 6 cap']) (by simp [results, Try.results54, go_sem, g0, g1, g2]) rfl ⟨_, _, _, rfl, HR1.out.1, HR1.out.2⟩
end Go.Proofs.Ytildkoabfdfjlaa
