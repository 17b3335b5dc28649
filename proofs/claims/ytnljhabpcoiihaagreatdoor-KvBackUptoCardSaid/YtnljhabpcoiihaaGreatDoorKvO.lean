/- The store's load and Open. -/
import Derived.Test.YtnljhabpcoiihaaGreatDoorKvW
import Derived.Test.YtnljhabpcoiihaaGreatDoorKvU
import Derived.Test.YtnljhabpcoiihaaGreatDoorOpenW
set_option linter.all false
namespace Go.Proofs.YtnljhabpcoiihaaGreatDoor
open Go.RowKit

/-- is a snapshot bad: a key that is struck, or not behind the one before it -/
def badK : Option (List UInt8) → List ChM → Bool
  | _, [] => false
  | p, c :: r => c.gone || (match p with | some k => decide (¬ k < c.key) | none => false) || badK (some c.key) r
/-- a record of the log -/
def loadK (m : KvM) : List UInt8 → Option KvM
  | [] => none
  | x :: r => if 1 < x.toNat then none else match unbatchM r with
    | none => none
    | some l => if x.toNat = 1 then (if badK none l = true then none else some (doM [] l)) else some (doM m l)
def LoadPost (w : World) (bm : Nat) (R : Option KvM) (e : Ending) (w' : World) : Prop :=
  w.grownBy w' (some bm) ∧ match R with
  | some m' => e = .returned (.int .i64 0) ∧ MapS w' bm m'
  | none => e = .returned (.int .i64 34)
theorem grown_of_below {w w' : World} {bm : Nat} (h : Below w.heap.size w w') : w.grownBy w' (some bm) := ⟨h.os, h.tape, h.output, h.size, fun k hk _ => h.block k hk⟩
theorem unb_small {r : List UInt8} {cs : List ChM} (h : unbatchM r = some cs) : cs.length ≤ r.length ∧ ∀ c ∈ cs, c.key.length ≤ r.length ∧ c.val.length ≤ r.length := by
  obtain ⟨he1, he2⟩ := enc_unbF _ r _ (by omega) h
  have hge := encL_ge cs
  rw [he1] at hge
  refine ⟨hge, fun c hc => ?_⟩
  have h1 := size_mem hc
  rw [← encL_length, he1] at h1
  unfold ChM.size at h1
  have h2 := (he2 c hc).2
  cases hg : c.gone with
  | true => rw [h2 hg]; rw [hg] at h1; simp only [if_true] at h1; exact ⟨by omega, by simp⟩
  | false => rw [hg] at h1; simp only [Bool.false_eq_true, if_false] at h1; omega

set_option maxRecDepth 100000 in
set_option maxHeartbeats 2000000 in
theorem load0_c (bs bm : Nat) (m : KvM) (lp br : Value) (r : List UInt8) (hm : r.length ≤ 1048575) (v : Value) (w : World) (hS : w.heap[bs]? = some (.cells #[lp, .map (some bm), br] 106 (0, 0))) (hM : MapS w bm m) (hb : Bs 5 w v (0 :: r)) :
    Calls Tryz.prog 48 #[.pointer (some ⟨bs, 0, none⟩), v] w (LoadPost w bm (loadK m (0 :: r))) := by
  obtain ⟨R, hR⟩ : ∃ R, loadK m (0 :: r) = R := ⟨_, rfl⟩
  rw [hR]
  unfold loadK at hR
  (try dsimp only at hR)
  rw [if_neg (by decide)] at hR
  obtain ⟨A, cap, hv, hc, hmx, -⟩ := id hb
  subst hv
  obtain ⟨b, o, hA, hcell⟩ := hb.toR.rd.addr (by simp [bytesV])
  have q0 := (hcell 0 (by simp [bytesV])).trans (bytesV_get (0 :: r) 0 (by simp))
  rw [Nat.add_zero] at q0
  replace q0 : w.cell? ⟨b, o, none⟩ = some (.int .u8 0) := q0
  clear hcell
  subst hA
  obtain ⟨n, hn⟩ : ∃ n, (0 :: r : List UInt8).length = n := ⟨_, rfl⟩
  rw [hn] at hc
  have hn' : r.length + 1 = n := by rw [← hn]; rfl
  obtain ⟨i0, hi0, hz0, hz1, hz2⟩ := info8
  have s1 := fun w => run_slice_from (P := Tryz.prog) w 29 5 i0 1 Tryz.underlying29 hi0 hz1 (some ⟨b, o, none⟩) n cap .i64 1 1 rfl (by omega)
  have hbr := (hb.bn 0).from (k := 1) (by simp)
  rw [hn] at hbr ⊢
  have hub := unbatch_c 0 _ (n - 1) (cap - 1) r (by omega) (by omega) w hbr (Nat.zero_le _)
  have hlen : decide ((n : Int) = 0) = false := by simp; omega
  have hlen2 : ((n : Int) == 0) = false := by simp; omega
  have h0n : 0 < n := by omega
  obtain ⟨U, hU⟩ : ∃ U, unbatchM r = U := ⟨_, rfl⟩
  rw [hU] at hub hR
  have HU := Lib.hid (And.intro hub (And.intro hU (And.intro hR (And.intro hS (And.intro hM hn'))))); clear hub hU hR hS hM hn hn' hb hbr
  cases U with
  | none =>
    go_enter Tryz.func48, Tryz.ntmps48
    go_wp2_with (go_at_call 23; (refine HU.out.1.mono ?_); rintro e w1 ⟨hb1, rfl⟩; have H1 := Lib.hid hb1; clear hb1)
    go_ret
    have hR := HU.out.2.2.1
    (try dsimp only at hR)
    subst hR
    exact ⟨grown_of_below H1.out, rfl⟩
  | some cs =>
    go_enter Tryz.func48, Tryz.ntmps48
    go_wp2_with (first
      | (go_at_call 23; (refine HU.out.1.mono ?_); rintro e w1 ⟨hb1, v1, xs, rfl, hxs, hown1, hbs1⟩; obtain ⟨A1, c1, rfl, -, -, -⟩ := own_slice hown1; have q1 := (hb1.cell (p := ⟨b, o, none⟩) (cell_lt q0)).trans q0; have H1 := Lib.hid (And.intro hb1 (And.intro hxs (And.intro hown1 hbs1))); clear hb1 hxs hown1 hbs1)
      | (go_at_call 57; (refine (do_c bs bm m lp br A1 xs.length c1 xs rfl (by have h := unb_small HU.out.2.1; have h2 := H1.out.2.1; rw [← h2, List.length_map] at h; have := h.1; omega) (fun x hx => by have h := (unb_small HU.out.2.1).2 x.1 (by rw [← H1.out.2.1]; exact List.mem_map_of_mem hx); omega) w1 ((H1.out.1.block _ (heap_lt HU.out.2.2.2.1)).trans HU.out.2.2.2.1) (HU.out.2.2.2.2.1.below H1.out.1) ((Rd.of_own H1.out.2.2.1).mono (Nat.zero_le _)) H1.out.2.2.2.each).mono ?_); rintro e w2 ⟨⟨v2, rfl⟩, hM2, hg2⟩; have H2 := Lib.hid (And.intro hM2 hg2); clear hM2 hg2))
    go_ret
    have hR := HU.out.2.2.1
    (try dsimp only at hR)
    rw [if_neg (by decide)] at hR
    subst hR
    have hM2 := H2.out.1
    rw [H1.out.2.1] at hM2
    exact ⟨grown_bel (grown_of_below H1.out.1) (Below.refl _ _) H2.out.2, rfl, hM2⟩

def loadAll (m : KvM) : List (List UInt8) → Option KvM
  | [] => some m
  | b :: r => match loadK m b with
    | none => none
    | some m' => loadAll m' r
theorem loadAll_snoc (m : KvM) (l : List (List UInt8)) (b : List UInt8) : loadAll m (l ++ [b]) = (loadAll m l).bind fun m' => loadK m' b := by
  induction l generalizing m with
  | nil => simp only [List.nil_append, loadAll, Option.bind_some]; cases loadK m b <;> rfl
  | cons x r ih =>
    simp only [List.cons_append, loadAll]
    cases loadK m x with
    | none => rfl
    | some m' => exact ih m'
theorem loadAll_none {m m' : KvM} {l r : List (List UInt8)} {b : List UInt8} (h : loadAll m l = some m') (hb : loadK m' b = none) : loadAll m (l ++ b :: r) = none := by
  induction l generalizing m with
  | nil =>
    simp only [loadAll, Option.some.injEq] at h
    subst h
    simp only [List.nil_append, loadAll, hb]
  | cons x t ih =>
    simp only [List.cons_append, loadAll] at h ⊢
    cases hx : loadK m x with
    | none => rfl
    | some m1 => rw [hx] at h; exact ih h
def openK (D : DiskM) (name : List UInt8) (most : Int) : DiskM × Option (LogM × KvM) × Int :=
  match (openM D name most).2.1 with
  | none => ((openM D name most).1, none, (openM D name most).2.2)
  | some G => match loadAll [] G.recs with
    | some m => ((openM D name most).1, some (G, m), 0)
    | none => ((openM D name most).1, none, 34)
def KOpenPost (n bd : Nat) (w : World) (R : DiskM × Option (LogM × KvM) × Int) (e : Ending) (w' : World) : Prop :=
  (match R.2.1 with
    | some (G, m) => ∃ bs bl bm, e = .returned (.tuple #[.pointer (some ⟨bs, 0, none⟩), .int .i64 0]) ∧ StoX n w' bs bl bd bm R.1 G m false
    | none => e = .returned (.tuple #[.pointer none, .int .i64 R.2.2])) ∧ DiskR n w' bd R.1 ∧ Turn n TSt w w'
theorem openAll_none : ∀ (N : List Int) (j : Nat) (D D' : DiskM) (G : LogM) (c : Int), openAll N j D G = (D', none, c) → c ≠ 0
  | [], j, D, D', G, c, h => by simp [openAll] at h
  | k :: N, j, D, D', G, c, h => by
    unfold openAll at h
    obtain ⟨L, hL⟩ : ∃ L, LogM.load D (if j = 0 then { G with first := k } else G) k N.isEmpty = L := ⟨_, rfl⟩
    rw [hL] at h
    by_cases h0 : L.2.2 ≠ 0
    · rw [if_pos h0] at h
      cases h
      exact h0
    · rw [if_neg h0] at h
      exact openAll_none N _ _ _ _ _ h
theorem openM_none {D D' : DiskM} {name : List UInt8} {most c : Int} (h : openM D name most = (D', none, c)) : c ≠ 0 := by
  unfold openM at h
  split at h
  · cases h; decide
  · split at h
    · cases h; decide
    · exact openAll_none _ _ _ _ _ _ h
theorem get_at {G : LogM} {k : Nat} (h : k < G.recs.length) : LogM.get G (G.first + k) = some G.recs[k] := by
  unfold LogM.get LogM.fin
  rw [if_neg (by omega), show (G.first + (k : Int) - G.first).toNat = k by omega, List.getElem?_eq_getElem h]

set_option maxRecDepth 100000 in
set_option maxHeartbeats 4000000 in
theorem kopen_c (n bd : Nat) (D : DiskM) (name : List UInt8) (most : Int) (hnm : name.length ≤ 1048576) (w : World) (hD : DiskR n w bd D) (hg : Glob n w) (hn : n ≤ w.heap.size)
    (hld : ∀ G, (openM D name most).2.1 = some G → ∀ b ∈ G.recs, b.length ≤ 1048576 ∧ ∀ (bs bm : Nat) (m : KvM) (lp br v : Value) (W : World), W.heap[bs]? = some (.cells #[lp, .map (some bm), br] 106 (0, 0)) → MapS W bm m → Bs 5 W v b →
      Calls Tryz.prog 48 #[.pointer (some ⟨bs, 0, none⟩), v] W (LoadPost W bm (loadK m b))) :
    Calls Tryz.prog 13 #[.pointer (some ⟨bd, 0, none⟩), .string ⟨name.toArray⟩, .int .i64 most] w (KOpenPost n bd w (openK D name most)) := by
  obtain ⟨R, hR⟩ : ∃ R, openK D name most = R := ⟨_, rfl⟩
  rw [hR]
  unfold openK at hR
  have hop := open_c n bd D name most hnm w hD hg hn
  have hno := fun D' c => openM_none (D := D) (D' := D') (name := name) (most := most) (c := c)
  obtain ⟨RS, hRS⟩ : ∃ R, openM D name most = R := ⟨_, rfl⟩
  rw [hRS] at hop hR hno
  simp only [hRS] at hld
  obtain ⟨D', og, c⟩ := RS
  (try dsimp only at hR)
  have hmm := @run_makeMap Tryz.prog
  cases og with
  | none =>
    have hc := hno D' c rfl
    have d1 : (c == 0) = false := by simpa using hc
    have d2 : (c != 0) = true := by simpa using hc
    (try dsimp only at hR)
    subst hR
    have HO := Lib.hid hop; clear hop hRS hno hld hD hg hc
    go_enter Tryz.func13, Tryz.ntmps13
    go_wp2_with (go_at_call 44; (refine HO.out.mono ?_); rintro e w1 ⟨rfl, hD1, hT1⟩; have H1 := Lib.hid (And.intro hD1 hT1); clear hD1 hT1)
    go_ret2
    exact ⟨rfl, H1.out.1, H1.out.2.mono (Nat.le_refl _) (by simp [TLd, TSt])⟩
  | some G =>
    have HO := Lib.hid (And.intro hop (And.intro hR (And.intro (hld G rfl) (And.intro hg hn)))); clear hop hR hRS hno hld hD hg hn
    go_enter Tryz.func13, Tryz.ntmps13
    go_wp2_with (go_at_call 44; (refine HO.out.1.mono ?_); rintro e w1 ⟨⟨bl, rfl, hbl, hL1⟩, hD1, hT1⟩; have H1 := Lib.hid (And.intro hL1 (And.intro hD1 (And.intro hT1 hbl))); clear hL1 hD1 hT1 hbl)
    have hmpl : ∃ bm0 clock pv xs, DiskX n w1 bd bm0 clock pv xs D' := H1.out.2.1
    obtain ⟨bm, hbm⟩ : ∃ b, w1.heap.size = b := ⟨_, rfl⟩
    obtain ⟨w3, hw3⟩ : ∃ V, V = ((w1.alloc (.map #[] 0)).alloc (.cells #[.pointer (some ⟨bl, 0, none⟩), .map (some w1.heap.size), .bool false] 106)) := ⟨_, rfl⟩
    rw [← hw3]
    have hB3 : Below w1.heap.size w1 w3 := by rw [hw3]; exact bnew2 _ _ _
    have hn1 : n ≤ w1.heap.size := Nat.le_trans HO.out.2.2.2.2 H1.out.2.2.1.size
    have hS3 : StoX n w3 (bm + 1) bl bd bm D' G [] false := by
      obtain ⟨bm0, clock, pv, xs, hX⟩ := hmpl
      have h0 := heap_lt hX.files.at_
      refine ⟨by omega, ?_, H1.out.1.below hB3, H1.out.2.1.below hB3, ⟨0, [], ⟨?_, by simp, by simp, by simp⟩, rfl⟩, ?_, ?_⟩
      · have := heap_alloc_new (w1.alloc (.map #[] 0)) (.cells #[.pointer (some ⟨bl, 0, none⟩), .map (some w1.heap.size), .bool false] 106)
        rw [World.size_alloc] at this
        rw [hw3, ← hbm]; exact this
      · rw [hw3, ← hbm]; exact (Below.heap_alloc _ _ _ (by simp)).trans (heap_alloc_new w1 _)
      · rw [hX.apart.2.1]; omega
      · intro he
        rcases hX.plan with ⟨h, _⟩ | ⟨bp, es, c, h, _, hb, _⟩
        · have h5 := hX.apart.2.2
          rw [h] at h5; injection h5 with h5
          rw [he] at h5; cases h5
        · have h5 := hX.apart.2.2
          rw [h] at h5; injection h5 with h5
          rw [he] at h5; injection h5 with h5
          subst h5
          have := heap_lt hb; omega
    have hT3 : Turn n TSt w w3 := ((H1.out.2.2.1).mono (Nat.le_refl _) (by simp [TLd, TSt])).bel hB3
    have hfew := (show ∃ pv rv vs, LogX n w1 bl bd pv rv vs G from H1.out.1)
    have hfst : (0 ≤ G.first ∧ G.first ≤ 1000000000) ∧ G.recs.length ≤ 1099511627776 := by
      obtain ⟨_, _, _, hX⟩ := hfew
      exact ⟨hX.fst, hX.few.1⟩
    rw [hbm]
    have HS3 := Lib.hid (And.intro hS3 hT3); clear hS3 hT3 hB3 hw3 hbm hmpl hfew hn1
    obtain ⟨N, hN⟩ : ∃ N, G.recs.length = N := ⟨_, rfl⟩
    rw [hN] at hfst
    obtain ⟨F, hF⟩ : ∃ F, G.first = F := ⟨_, rfl⟩
    rw [hF] at hfst
    have HNF := Lib.hid (And.intro hN hF); clear hN hF
    have hf9 := first_c n bl bd G w3 HS3.out.1.log
    rw [HNF.out.2] at hf9
    have HF9 := Lib.hid hf9; clear hf9
    go_wp2_with (go_at_call 45; (refine HF9.out.mono ?_); rintro e w4 ⟨rfl, hw4⟩; have hw5 := hw4.symm; subst hw5)
    go_loopw [11] (fun i W => ∃ (k : Nat) (m : KvM), k ≤ N ∧ i = .int .i64 (F + (k : Int)) ∧ loadAll [] (G.recs.take k) = some m ∧ StoX n W (bm + 1) bl bd bm D' G m false ∧ Turn n TSt w W) (fun i _ => (F + (N : Int) - intOf i).toNat)
    case atStart => exact ⟨0, [], by omega, by simp, rfl, HS3.out.1, HS3.out.2⟩
    case round =>
      obtain ⟨k, m, hk, rfl, hlo, hSk, hTk⟩ := hrel
      have he9 := end_c n bl bd G wr hSk.log
      rw [show G.fin = F + (N : Int) by unfold LogM.fin; rw [HNF.out.1, HNF.out.2]] at he9
      have HE9 := Lib.hid he9; clear he9
      by_cases hlt : k < N
      · have hkd : decide (F + (k : Int) < F + (N : Int)) = true := by simp; omega
        have HK := Lib.hid (And.intro hlo (And.intro hSk hTk)); clear hlo hSk hTk
        go_wp2_with (go_at_call 46; (refine HE9.out.mono ?_); rintro e w5 ⟨rfl, q5, hq5⟩; have HQ5 := Lib.hid hq5; clear hq5)
        have hbd5 : Below wr.heap.size wr w5 := by rw [HQ5.out]; exact ⟨rfl, rfl, rfl, Nat.le_refl _, fun _ _ => rfl⟩
        have hkl : k < G.recs.length := by rw [HNF.out.1]; exact hlt
        have hga := get_at hkl
        have hmem := List.getElem_mem hkl
        have hsp : G.recs = G.recs.take k ++ G.recs[k] :: G.recs.drop (k + 1) := by rw [List.getElem_cons_drop, List.take_append_drop]
        have hts : G.recs.take (k + 1) = G.recs.take k ++ [G.recs[k]] := List.take_succ_eq_append_getElem hkl
        obtain ⟨b, hb⟩ : ∃ b, G.recs[k] = b := ⟨_, rfl⟩
        rw [hb] at hga hmem hsp hts
        rw [HNF.out.2] at hga
        obtain ⟨hbl1, hld1⟩ := HO.out.2.2.1 b hmem
        have hgc := get_c n bl bd G (F + (k : Int)) (by omega) (by have := hfst.2; omega) w5 (HK.out.2.1.below hbd5).log (fun l hl => by have := (HO.out.2.2.1 l hl).1; omega)
        rw [hga] at hgc
        simp only [Option.isSome_some, if_true, Option.getD_some] at hgc
        have hS5 := HK.out.2.1.below hbd5
        obtain ⟨LK, hLK⟩ : ∃ L, loadK m b = L := ⟨_, rfl⟩
        have HGC := Lib.hid (And.intro hgc (And.intro hld1 (And.intro hsp (And.intro hts (And.intro hS5 (And.intro (HK.out.2.2.bel hbd5) hLK)))))); clear hgc hld1 hsp hts hS5 hbd5 hga hmem hb hbl1 hLK
        go_wp2_with fail
        refine HGC.out.1.mono ?_
        rintro e w6 ⟨v6, rfl, hbs6, hb6⟩
        obtain ⟨A6, c6, hv6, -⟩ := id hbs6
        subst hv6
        have hS6 := HGC.out.2.2.2.2.1.below hb6
        have hl6 := HGC.out.2.1 (bm + 1) bm m _ _ _ w6 hS6.at_ hS6.map hbs6
        rw [HGC.out.2.2.2.2.2.2] at hl6
        have H6 := Lib.hid (And.intro hS6 (And.intro hl6 (HGC.out.2.2.2.2.2.1.bel hb6))); clear hS6 hl6 hbs6 hb6
        cases LK with
        | none =>
          go_wp2_with (go_at_call 48; (refine H6.out.2.1.mono ?_); rintro e w7 ⟨hg7, rfl⟩; have H7 := Lib.hid hg7; clear hg7)
          go_ret2
          have hR := HO.out.2.1
          (try dsimp only at hR)
          rw [HGC.out.2.2.1, loadAll_none HK.out.1 HGC.out.2.2.2.2.2.2] at hR
          subst hR
          have hbm7 : ∃ o, w6.heap[bm]? = some o ∧ tagOf o = none := by obtain ⟨_, _, hX, _⟩ := H6.out.1.map; exact ⟨_, hX.at_, rfl⟩
          exact ⟨rfl, H6.out.1.disk.grown H7.out H6.out.1.ne hbm7, H6.out.1.turn H6.out.2.2 (by simp [TSt]) H7.out⟩
        | some m' =>
          go_wp2_with (go_at_call 48; (refine H6.out.2.1.mono ?_); rintro e w7 ⟨hg7, rfl, hM7⟩; have H7 := Lib.hid (And.intro hg7 hM7); clear hg7 hM7)
          refine ⟨⟨k + 1, m', by omega, ?_, ?_, H6.out.1.grown H7.out.1 H7.out.2, H6.out.1.turn H6.out.2.2 (by simp [TSt]) H7.out.1⟩, ?_⟩
          · exact congrArg (Value.int .i64) (by omega)
          · rw [HGC.out.2.2.2.1, loadAll_snoc, HK.out.1]
            exact HGC.out.2.2.2.2.2.2
          · simp [intOf]; omega
      · obtain rfl : N = k := by omega
        have hkd : decide (F + (N : Int) < F + (N : Int)) = false := by simp
        rw [List.take_of_length_le (by rw [HNF.out.1]; exact Nat.le_refl _)] at hlo
        have HK := Lib.hid (And.intro hlo (And.intro hSk hTk)); clear hlo hSk hTk
        go_wp2_with (go_at_call 46; (refine HE9.out.mono ?_); rintro e w5 ⟨rfl, q5, hq5⟩; have HQ5 := Lib.hid hq5; clear hq5)
        go_ret2
        have hR := HO.out.2.1
        (try dsimp only at hR)
        rw [HK.out.1] at hR
        subst hR
        have hbd5 : Below wr.heap.size wr w5 := by rw [HQ5.out]; exact ⟨rfl, rfl, rfl, Nat.le_refl _, fun _ _ => rfl⟩
        exact ⟨⟨bm + 1, bl, bm, rfl, HK.out.2.1.below hbd5⟩, (HK.out.2.1.below hbd5).disk, HK.out.2.2.bel hbd5⟩
end Go.Proofs.YtnljhabpcoiihaaGreatDoor
