/- WalLasts: what its loop keeps. WalLasts by the contracts. -/
import Derived.Test.YtjpcmgoajdjkgaaGreatDoorRotW
import Derived.Test.YtjpcmgoajdjkgaaGreatDoorArm
set_option linter.all false
namespace Go.Proofs.YtjpcmgoajdjkgaaGreatDoor
open Go.RowKit

theorem own_tag {w : World} {base e size n : Nat} {v : Value} {xs : List Value} {b : Nat} (h : w.ownsRow base e size v n xs) (hv : v.ownBlock = some b) : ∃ o, w.heap[b]? = some o ∧ tagOf o = some e ∧ base ≤ b := by
  obtain ⟨_, ⟨rfl, _⟩ | ⟨g, cap, cur, rfl, hg, hh, _⟩⟩ := h
  · simp [Value.ownBlock] at hv
  · simp only [Value.ownBlock, Option.some.injEq] at hv
    subst hv
    exact ⟨_, hh, rfl, hg⟩
theorem own_not {w : World} {base e size n : Nat} {v : Value} {xs : List Value} {b : Nat} {o : Obj} (h : w.ownsRow base e size v n xs) (hb : w.heap[b]? = some o) (ht : tagOf o ≠ some e) : v.ownBlock ≠ some b := fun hv => by
  obtain ⟨o', h1, h2, _⟩ := own_tag h hv
  rw [hb] at h1; cases h1; exact ht h2
theorem Bn.keepK {n : Nat} {w w' : World} {v : Value} {l : List UInt8} (h : Bn n w v l) (hk : ∀ (b : Nat) (o : Obj), w.heap[b]? = some o → (b < n ∨ tagOf o = some 5) → w'.heap[b]? = some o) : Bn n w' v l := by
  obtain ⟨A, cap, rfl, hc, hm, hl | ⟨b, o, c, t, f, rfl, hb, hbt, hk'⟩⟩ := h
  · exact ⟨A, cap, rfl, hc, hm, .inl hl⟩
  · exact ⟨_, cap, rfl, hc, hm, .inr ⟨b, o, c, t, f, rfl, hk b _ hb (hbt.imp id fun e => by rw [e]; rfl), hbt, hk'⟩⟩
theorem Bn.below {n : Nat} {w w' : World} {v : Value} {l : List UInt8} (h : Bn n w v l) (hb : Below w.heap.size w w') : Bn n w' v l :=
  h.keepK fun b o h1 _ => (hb.block b (heap_lt h1)).trans h1
theorem Syn.all {gs : List Grp} (h : ∀ g ∈ gs, g.2 = (frs g.1).length) : Syn gs (flat gs).length := by
  refine ⟨Nat.le_refl _, fun init rs s e => ?_⟩
  subst e
  have := h (rs, s) (by simp)
  simp only at this
  rw [this]
  rw [flat_append, flat_one, List.length_append, Nat.add_sub_cancel_left, List.take_length]
  exact Nat.le_refl _

/-- all's records, in memory -/
structure AllR (N : Nat) (W : World) (av : Value) (avs : List Value) (al : List (List UInt8)) : Prop where
  row : W.ownsRow N 22 1 av al.length avs
  each : ∀ (k : Nat) (v : Value) (l : List UInt8), avs[k]? = some v → al[k]? = some l → Bn N W v l
theorem AllR.keep {N : Nat} {W W' : World} {av : Value} {avs : List Value} {al : List (List UInt8)} (h : AllR N W av avs al)
    (hk : ∀ (b : Nat) (o : Obj), W.heap[b]? = some o → ((b < N ∨ tagOf o = some 5) ∨ (av.ownBlock = some b ∧ tagOf o = some 22)) → W'.heap[b]? = some o) : AllR N W' av avs al :=
  ⟨own_keep h.row fun b o hb hv _ => hk b o hb (.inr ⟨hv, by obtain ⟨o', h1, h2, _⟩ := own_tag h.row hv; rw [hb] at h1; cases h1; exact h2⟩),
    fun k v l h1 h2 => (h.each k v l h1 h2).keepK fun b o hb ht => hk b o hb (.inl ht)⟩
theorem AllR.below {N : Nat} {W W' : World} {av : Value} {avs : List Value} {al : List (List UInt8)} (h : AllR N W av avs al) (hb : Below W.heap.size W W') : AllR N W' av avs al :=
  h.keep fun b o h1 _ => (hb.block b (heap_lt h1)).trans h1
theorem AllR.nil (N : Nat) (W : World) : AllR N W (.slice none 0 0) [] [] := ⟨World.ownsRow_nil _ _ _ _, fun k v l h _ => by simp at h⟩
theorem AllR.slice {N : Nat} {W : World} {av : Value} {avs : List Value} {al : List (List UInt8)} (h : AllR N W av avs al) : ∃ A cap, av = .slice A al.length cap := by
  obtain ⟨A, c, h, _⟩ := own_slice h.row
  exact ⟨A, c, h⟩
theorem AllR.len {N : Nat} {W : World} {av : Value} {avs : List Value} {al : List (List UInt8)} (h : AllR N W av avs al) : avs.length = al.length := by have := h.row.1; omega

/-- the loop's state: a log that is appended to, and all's records -/
structure LastY (N bl bd : Nat) (most : Int) (w W : World) (D : DiskM) (G : LogM) (gs : List Grp) (pv rv : Value) (vs : List Value) (av : Value) (avs : List Value) (al : List (List UInt8)) : Prop where
  inv : LInv most D G gs
  disk : DiskR N W bd D
  log : LogX N W bl bd pv rv vs G
  below : Below N w W
  all : AllR N W av avs al
  apart : ∀ b, av.ownBlock = some b → rv.ownBlock ≠ some b

section
variable {N bl bd : Nat} {most : Int} {w W W' : World} {D D' : DiskM} {G G' : LogM} {gs gs' : List Grp} {pv rv : Value} {vs : List Value} {av : Value} {avs : List Value} {al : List (List UInt8)}
theorem LastY.app (h : LastY N bl bd most w W D G gs pv rv vs av avs al) (hN : N ≤ W.heap.size) {R : DiskM × LogM × Int} {e : Ending} (hp : AppX N bl bd rv W R e W') (hi : LInv most R.1 R.2.1 gs') :
    ∃ pv' rv' vs', LastY N bl bd most w W' R.1 R.2.1 gs' pv' rv' vs' av avs al := by
  obtain ⟨_, hD, ⟨pv', rv', vs', hX, hblk⟩, hT, hrow⟩ := hp
  refine ⟨pv', rv', vs', hi, hD, hX, h.below.trans (hT.below hN), h.all.keep fun b o hb hc => ?_, fun b hb hr => ?_⟩
  · rcases hc with hc | ⟨hv, ht⟩
    · refine hT.block b o hb (hc.imp id fun e => ?_)
      rw [e]; simp [TAp]
    · exact hrow b o hb ht (h.apart b hv)
  · obtain ⟨o, h1, _, _⟩ := own_tag h.all.row hb
    rcases hblk with he | ⟨g, hg, hle⟩
    · exact h.apart b hb (he.symm.trans hr)
    · rw [hg] at hr; cases hr
      have := heap_lt h1; omega
theorem LastY.sync (h : LastY N bl bd most w W D G gs pv rv vs av avs al) (hN : N ≤ W.heap.size) (hD : DiskR N W' bd D') (hX : LogX N W' bl bd pv rv vs G') (hT : Turn N [some 78, some 85, some 93] W W') (hi : LInv most D' G' gs') :
    LastY N bl bd most w W' D' G' gs' pv rv vs av avs al := by
  refine ⟨hi, hD, hX, h.below.trans (hT.below hN), h.all.keep fun b o hb hc => ?_, h.apart⟩
  rcases hc with hc | ⟨_, ht⟩
  · refine hT.block b o hb (hc.imp id fun e => ?_)
    rw [e]; simp
  · exact hT.block b o hb (.inr (by rw [ht]; simp))
theorem LastY.stay (h : LastY N bl bd most w W D G gs pv rv vs av avs al) (hN : N ≤ W.heap.size) (hb : Below W.heap.size W W') : LastY N bl bd most w W' D G gs pv rv vs av avs al :=
  ⟨h.inv, h.disk.below hb, h.log.below hb, h.below.trans (hb.mono hN), h.all.below hb, h.apart⟩
theorem LastY.push (h : LastY N bl bd most w W D G gs pv rv vs av avs al) (hN : N ≤ W.heap.size) {W1 W2 : World} {v av' : Value} {l : List UInt8} (hb1 : Below W.heap.size W W1) (hown : W2.ownsRow N 22 1 av' (al.length + 1) (avs ++ [v]))
    (hg : W1.grownBy W2 av.ownBlock) (hblk : av'.ownBlock = av.ownBlock ∨ av'.ownBlock = some W1.heap.size) (hv : Bn N W v l) :
    LastY N bl bd most w W2 D G gs pv rv vs av' (avs ++ [v]) (al ++ [l]) := by
  have hk : ∀ (b : Nat) (o : Obj), W.heap[b]? = some o → av.ownBlock ≠ some b → W2.heap[b]? = some o := fun b o hb hne =>
    (hg.block b (by have := heap_lt hb; have := hb1.size; omega) (Ne.symm hne)).trans ((hb1.block b (heap_lt hb)).trans hb)
  have hkt : ∀ (b : Nat) (o : Obj), W.heap[b]? = some o → tagOf o ≠ some 22 → W2.heap[b]? = some o := fun b o hb ht => hk b o hb (own_not h.all.row hb ht)
  have hkn : ∀ (b : Nat) (o : Obj), W.heap[b]? = some o → (b < N ∨ tagOf o = some 5) → W2.heap[b]? = some o := fun b o hb hc => by
    refine hk b o hb fun hv => ?_
    obtain ⟨o', h1, h2, h3⟩ := own_tag h.all.row hv
    rw [hb] at h1; cases h1
    rcases hc with hc | hc
    · omega
    · rw [h2] at hc; simp at hc
  have hN1 : N ≤ W1.heap.size := Nat.le_trans hN hb1.size
  refine ⟨h.inv, h.disk.keeps fun b o hb ht => hkt b o hb (by rcases ht with ht | ht | ht | ht <;> rw [ht] <;> simp), ?_, ?_, ⟨by simpa using hown, fun k v' l' h1 h2 => ?_⟩, fun b hb hr => ?_⟩
  · have hX := h.log
    exact ⟨hX.le, hkt _ _ hX.at_ (by simp [tagOf]), own_keeps hX.parts fun b o hb ht => hkt b o hb (by rw [ht]; simp), own_keep hX.recs fun b o hb hv _ => hk b o hb fun e => h.apart b e hv,
      fun k v l hv hl => (hX.each k v l hv hl).keeps fun b o hb ht => hkt b o hb (by rw [ht]; simp), hX.few, hX.fst, hX.nm⟩
  · exact (h.below.trans (hb1.mono hN)).trans (own_bel (own_below h.all.row hb1) hg (Nat.le_refl _) hN1)
  · have hlen := h.all.len
    by_cases hkl : k < avs.length
    · rw [List.getElem?_append_left hkl] at h1
      rw [List.getElem?_append_left (by omega)] at h2
      exact (h.all.each k v' l' h1 h2).keepK hkn
    · rw [List.getElem?_append_right (by omega)] at h1 h2
      rw [← hlen] at h2
      obtain ⟨t, ht⟩ : ∃ t, k - avs.length = t := ⟨_, rfl⟩
      rw [ht] at h1 h2
      cases t with
      | zero => simp at h1 h2; subst h1 h2; exact hv.keepK hkn
      | succ t => simp at h1
  · rcases hblk with he | he
    · exact h.apart b (he.symm.trans hb) hr
    · rw [hb] at he; cases he
      obtain ⟨o, h1, _, _⟩ := own_tag h.log.recs hr
      have := heap_lt h1; have := hb1.size; omega
end

/-- the loop, told: k slots are done, sf records are safe -/
def LastI (N bl bd : Nat) (most : Int) (w : World) (a s : Value) (k : Nat) (W : World) : Prop :=
  ∃ (sf : Nat) (D : DiskM) (G : LogM) (gs : List Grp) (pv rv : Value) (vs avs : List Value) (al : List (List UInt8)), s = .int .i64 sf ∧ Syn gs sf ∧ al.length ≤ k ∧ flat gs = al ∧ LastY N bl bd most w W D G gs pv rv vs a avs al

/-- behind the boot: the log that was opened, all's records -/
structure LastZ (N mm bk bd : Nat) (w W : World) (G : LogM) (av : Value) (avs : List Value) (al : List (List UInt8)) : Prop where
  log : LogR mm W bk bd G
  all : AllR N W av avs al
  below : Below N w W
  size : N ≤ W.heap.size
theorem LastZ.stay {N mm bk bd : Nat} {w W W' : World} {G : LogM} {av : Value} {avs : List Value} {al : List (List UInt8)} (h : LastZ N mm bk bd w W G av avs al) (hb : Below W.heap.size W W') : LastZ N mm bk bd w W' G av avs al :=
  ⟨h.log.below hb, h.all.below hb, h.below.trans (hb.mono h.size), Nat.le_trans h.size hb.size⟩
theorem get_take {G : LogM} {al : List (List UInt8)} {e j : Nat} (h1 : G.first = 0) (h2 : G.recs = al.take e) (he : e ≤ al.length) (hj : j < e) : LogM.get G (j : Int) = al[j]? := by
  unfold LogM.get LogM.fin
  rw [h1, h2, List.length_take, Nat.min_eq_left he, if_neg (by omega)]
  rw [Int.sub_zero, Int.toNat_natCast, List.getElem?_take, if_pos hj]

theorem wpList_append_known {P : Program} {ops : Array Oper} {rest : List Oper} {o : Oper} {a : Act} {w : World} {Q : Exit → Act → World → Prop} (hgd : o.guard = none) (s x : Operand) (t : TypeId)
    (ho : o.op = .call { callee := .builtin .append, args := #[s, x], argTypes := #[t, t] }) (v u : Value) (hs : a.eval s = v) (hx : a.eval x = u) {v' : Value} {w' : World}
    (hr : (Builtin.append_ #[t, t] o.type #[v, u]).run P w = .ok v' w') (h : wpList P ops Q rest (a.put o.dst v') w') : wpList P ops Q (o :: rest) a w :=
  wpList_plain hgd fun _ hK => wp_append_run s x t ho v u hs hx hr (hK _ _ h)
theorem idx_bool (w : World) (b o n c k : Nat) (h : k < n) : (Instr.indexAt 57 (.slice (some ⟨b, o, none⟩) n c) (.int .i64 k)).run Tryz.prog w = .ok (.pointer (some ⟨b, o + k, none⟩)) w := by
  simp [go_sem, h]
theorem idx_bytes (w : World) (b o n c k : Nat) (h : k < n) : (Instr.indexAt 35 (.slice (some ⟨b, o, none⟩) n c) (.int .i64 k)).run Tryz.prog w = .ok (.pointer (some ⟨b, o + k, none⟩)) w := by
  simp [go_sem, h]
end Go.Proofs.YtjpcmgoajdjkgaaGreatDoor
set_option linter.all false
namespace Go.Proofs.YtjpcmgoajdjkgaaGreatDoor
open Go.RowKit

macro "bel" : tactic => `(tactic| first | exact Below.refl _ _ | exact bdrew (Below.refl _ _) | exact bdrewN _ _)
macro "sz" : tactic => `(tactic| first | exact Nat.le_refl _ | (simp; done) | (simp [World.drew]; done))

set_option maxRecDepth 100000 in
set_option maxHeartbeats 800000 in
theorem lasts_low (most : Int) (h1 : most < 1) (v s f k : Value) (w : World) (hg : Glob w.heap.size w) :
    Calls Tryz.prog 6 #[.int .i64 most, v, s, f, k] w fun e w' => e = .returned (.bool true) ∧ Below w.heap.size w w' := by
  have HG := Lib.hid hg; clear hg
  go_enter Tryz.func6, Tryz.ntmps6
  go_wp2_with (go_at_call 19; refine (alive_c w HG.out).mono ?_; rintro e w8 ⟨rfl, hb8⟩; have H8 := Lib.hid hb8; clear hb8)
  go_ret
  exact ⟨rfl, H8.out⟩

set_option maxRecDepth 100000 in
set_option maxHeartbeats 1600000 in
theorem lasts_c (most : Int) (hm1 : 1 ≤ most) (A : Option Addr) (n cap : Nat) (vs : List Value) (ls : List (List UInt8)) (hvl : vs.length = ls.length) (hnl : n = ls.length) (hln : n ≤ 1048576)
    (sA : Option Addr) (sm sc : Nat) (ss : List Bool) (hsm : sm = ss.length) (fA : Option Addr) (fm fc : Nat) (fs : List (Int × Int)) (hfm : fm = fs.length) (hfl : fm ≤ 1048576)
    (kA : Option Addr) (km kc : Nat) (kept : List Int) (hkm : km = kept.length) (hkl : km ≤ 1048576)
    (w : World) (N : Nat) (hN : w.heap.size = N) (hg : Glob N w) (hr : Rd 0 w A vs) (hb : ∀ (k : Nat) (v : Value) (l : List UInt8), vs[k]? = some v → ls[k]? = some l → Bn N w v l)
    (hs : Rd 0 w sA (ss.map Value.bool)) (hf : Rd 0 w fA (fltV fs)) (hkr : Rd 0 w kA (kept.map (Value.int .i64))) :
    Calls Tryz.prog 6 #[.int .i64 most, .slice A n cap, .slice sA sm sc, .slice fA fm fc, .slice kA km kc] w fun e w' => e = .returned (.bool true) ∧ Below N w w' := by
  have hm0 : ¬ most < 1 := by omega
  have HG := Lib.hid (And.intro hg (And.intro hN (And.intro hr (And.intro hb (And.intro hvl (And.intro hnl (And.intro hm1 (And.intro hsm (And.intro hs (And.intro hfm (And.intro hf (And.intro hkm hkr)))))))))))); clear hg hN hr hb hvl hnl hm1 hsm hs hfm hf hkm hkr
  go_enter Tryz.func6, Tryz.ntmps6
  go_wp2_with fail
  refine (new_c 1073741824 (by decide) (by decide) w).mono ?_
  rintro e w1 ⟨bd, rfl, hbd, hD1, hb1⟩
  rw [HG.out.2.1] at hD1 hb1
  have H1 := Lib.hid (show Al N w bd (DiskM.new 1073741824) w1 from ⟨hb1, Nat.le_trans (Nat.le_of_eq HG.out.2.1.symm) hb1.size, HG.out.1.below hb1, hD1⟩)
  clear hbd hD1 hb1
  go_wp2_with fail
  refine (alive_c w1 (H1.out.glob.mono H1.out.size)).mono ?_
  rintro e w2 ⟨rfl, hb2⟩
  have H2 := Lib.hid (H1.out.stay hb2)
  clear hb2
  go_wp2_with fail
  refine (open_some (name := LOG) (by decide) H2.out.disk H2.out.glob H2.out.size (open_new (DiskM.new 1073741824) rfl rfl most HG.out.2.2.2.2.2.2.1)).mono ?_
  rintro e w3 ⟨bl, rfl, ⟨pv0, rv0, vs0, hX3⟩, hD3, hb3⟩
  have H3 := Lib.hid (And.intro (H2.out.go hb3 hD3) hX3)
  clear hX3 hD3 hb3
  go_wp2_with fail
  refine (plan_c fA fm fc fs HG.out.2.2.2.2.2.2.2.2.2.1 hfl w3 (HG.out.2.2.2.2.2.2.2.2.2.2.1.below (by rw [HG.out.2.1]; exact H3.out.1.below))).mono ?_
  rintro e w4 ⟨v4, rfl, hown4, hb4⟩
  obtain ⟨A4, c4, rfl, -, -, -⟩ := own_slice hown4
  have H4 := Lib.hid (And.intro (H3.out.1.stay hb4) (And.intro (H3.out.2.below hb4) ((Rd.of_own hown4).mono (Nat.zero_le _))))
  clear hown4 hb4
  go_wp2_with fail
  refine (arm_c N bd _ A4 fm c4 fs HG.out.2.2.2.2.2.2.2.2.2.1 hfl w4 H4.out.1.disk H4.out.1.size H4.out.2.2).mono ?_
  rintro e w5 ⟨code, pl, rfl, hD5, hT5⟩
  have hB5 : Below N w w5 := H4.out.1.below.trans (hT5.below H4.out.1.size)
  have hX5 := H4.out.2.1.keeps (KeepsL.of_turn hT5 (by simp) (by simp) (by simp) (by simp))
  by_cases hc0 : code = 0
  case neg =>
    have H5 := Lib.hid hB5; clear hB5 hX5 hD5 hT5
    go_wp2_with fail
    go_ret
    exact ⟨rfl, H5.out⟩
  subst hc0
  have H5 := Lib.hid (show LastI N bl bd most w (.slice none 0 0) (.int .i64 0) 0 w5 from ⟨0, _, _, [], pv0, rv0, vs0, [], [], rfl, Syn.zero _, Nat.zero_le _, rfl, LInv.new most _ rfl, hD5, hX5, hB5, AllR.nil _ _, by simp [Value.ownBlock]⟩)
  clear hB5 hX5 hD5 hT5
  go_wp2_with fail
  go_loopw [15, 16, 17] (fun a s i W => ∃ k : Nat, k ≤ n ∧ i = .int .i64 k ∧ LastI N bl bd most w a s k W) (fun _ _ i _ => n - (intOf i).toNat)
  case atStart => exact ⟨0, by omega, rfl, H5.out⟩
  case round =>
    obtain ⟨k, hk, rfl, sf, D, G, gs, pv, rv, vs1, avs, al, rfl, hsyn, hle, hal, hY⟩ := hrel
    obtain ⟨A15, c15, rfl⟩ := hY.all.slice
    have hNw : N ≤ wr.heap.size := by rw [← HG.out.2.1]; exact hY.below.size
    by_cases hlt : k < n
    · have hkv : k < vs.length := by have := HG.out.2.2.2.2.1; have := HG.out.2.2.2.2.2.1; omega
      have hkl : k < ls.length := by have := HG.out.2.2.2.2.2.1; omega
      obtain ⟨v, hv⟩ : ∃ v, vs[k]? = some v := ⟨_, List.getElem?_eq_getElem hkv⟩
      obtain ⟨l, hl⟩ : ∃ l, ls[k]? = some l := ⟨_, List.getElem?_eq_getElem hkl⟩
      have hbn := (HG.out.2.2.2.1 k v l hv hl).low HG.out.2.1 hY.below
      obtain ⟨A1, c1, rfl⟩ := hbn.slice
      obtain ⟨b, o, hA, hcell⟩ := (HG.out.2.2.1.below (by rw [HG.out.2.1]; exact hY.below)).addr (by omega)
      have q0 := (hcell k hkv).trans hv
      have hblt : b < N := by
        rcases HG.out.2.2.1 with h | ⟨b', o', _, h1, h2⟩
        · rw [h] at hkv; simp at hkv
        · rw [hA] at h1; injection h1 with h1; injection h1 with h1 h3; subst h1
          rw [← HG.out.2.1]
          exact cell_lt ((h2 k hkv).trans hv)
      subst hA
      have hfew : (flat gs).length + 1 ≤ 1048577 := by rw [hal]; omega
      by_cases hbig : (1000 : Int) < (l.length : Int)
      · have HI := Lib.hid hY.below; clear hY hsyn hbn hcell hv hl hkv hkl
        go_wp2_with fail
        go_ret
        exact ⟨rfl, HI.out⟩
      · have hcall := wappX_c N bl bd D G l (.slice A1 l.length c1) wr hY.disk pv rv vs1 hY.log (HG.out.1.below hY.below) hNw hbn hY.inv.okp.1 hY.inv.okp.2
        have happ := hY.inv.append l (by omega) hfew
        have hnx := fun (e : Ending) (W' : World) (gs' : List Grp) (hp : AppX N bl bd rv wr (LogM.append D G l) e W') (hi : LInv most (LogM.append D G l).1 (LogM.append D G l).2.1 gs') => hY.app hNw hp hi
        generalize hR : LogM.append D G l = R at hcall happ hnx
        have HC := Lib.hid (And.intro hcall (And.intro happ (And.intro hnx (And.intro hbn (And.intro hsyn (And.intro hle (And.intro hNw (And.intro hY.below hal)))))))); clear hcall happ hnx hR hcell hv hl hkv hkl hbn hsyn hY hle hNw hal
        obtain ⟨code, hcode⟩ : ∃ c, R.2.2 = c := ⟨_, rfl⟩
        have HK := Lib.hid hcode
        by_cases hc0 : code = 0
        · subst hc0
          go_wp2_with fail
          refine HC.out.1.mono ?_
          rintro e w6 hp
          have he := hp.1
          subst he
          rw [HK.out]
          obtain ⟨gs6, i1, i2, i3, i4⟩ := HC.out.2.1
          obtain ⟨pv6, rv6, vs6, hY6⟩ := HC.out.2.2.1 _ _ gs6 hp i1
          have hN6 : N ≤ w6.heap.size := by rw [← HG.out.2.1]; exact hY6.below.size
          have hbn6 := HC.out.2.2.2.1.turn hp.2.2.2.1 (by simp [TAp])
          have q6 := (hp.2.2.2.1.below HC.out.2.2.2.2.2.2.1).cell (p := ⟨b, o + k, none⟩) hblt
          rw [q0] at q6
          obtain ⟨iI, hiI, hz0, hz1, hz2⟩ := info_bytes
          have hln6 : al.length ≤ 1048576 := by have := HC.out.2.2.2.2.2.1; omega
          obtain ⟨v', W1, hap, hown', hgrow', hblk'⟩ := run_append_rd (P := Tryz.prog) ((w6.alloc (.cells #[.slice A1 l.length c1] 22))) N 35 35 22 iI _ 1 24 Tryz.underlying35 hiI hz0 hz1 hz2 rfl (by decide) _ al.length avs
            (own_below hY6.all.row (bnew w6 _)) 0 (some ⟨w6.heap.size, 0, none⟩) 1 1 [.slice A1 l.length c1] rfl
            (Or.inr ⟨_, _, Nat.zero_le _, rfl, fun k hk => by
              have h3 : k < 1 := by simpa using hk
              match k, h3 with
              | 0, _ => simp [go_sem]⟩) (by simp [Value.oneCell']) (by unfold maxLen; omega) (by omega) (Nat.le_trans hN6 (by simp)) (fun h => by cases h)
          obtain ⟨g', cap', rfl⟩ := ownsRow_succ hown'
          have hYP := hY6.push hN6 (bnew w6 (.cells #[.slice A1 l.length c1] 22)) hown' hgrow' hblk' hbn6
          have hl6 : flat gs6 = al ++ [l] := by rw [i2 HK.out, HC.out.2.2.2.2.2.2.2.2]
          have hNP : N ≤ W1.heap.size := by rw [← HG.out.2.1]; exact hYP.below.size
          have HY := Lib.hid (And.intro hYP (And.intro (i4 sf HC.out.2.2.2.2.1) (And.intro (show (al ++ [l]).length ≤ k + 1 by have := HC.out.2.2.2.2.2.1; simp; omega) (And.intro hNP (And.intro hl6 (show (al ++ [l]).length = al.length + 1 by simp))))))
          have HAPP := Lib.hid hap
          clear hap hown' hgrow' hblk' hYP hNP hl6 hln6 hbn6 hN6 hY6 i1 i2 i3 i4 hp hiI hz0 hz1 hz2
          by_cases hsk : k < sm
          · have hskl : k < ss.length := by rw [← HG.out.2.2.2.2.2.2.2.1]; exact hsk
            obtain ⟨sb, so, hsA, hscell⟩ := (HG.out.2.2.2.2.2.2.2.2.1.below (by rw [HG.out.2.1]; exact HY.out.1.below)).addr (by rw [List.length_map]; omega)
            have qs := hscell k (by rw [List.length_map]; exact hskl)
            rw [List.getElem?_map, List.getElem?_eq_getElem hskl] at qs
            simp only [Option.map_some] at qs
            generalize hsb : ss[k] = sbit at qs
            subst hsA
            have hsk' : (k : Int) < (sm : Int) := by omega
            have hix := idx_bool W1 sb so sm sc k hsk
            have hskd : decide ((k : Int) < (sm : Int)) = true := by simpa using hsk
            clear hscell hsb hskl
            cases sbit with
            | false =>
              go_wp2_with (at_builtin; refine wpList_append_known rfl _ _ _ rfl _ _ rfl rfl HAPP.out ?_)
              exact ⟨⟨k + 1, by omega, rfl, sf, _, _, _, _, _, _, _, _, rfl, HY.out.2.1, HY.out.2.2.1, HY.out.2.2.2.2.1, HY.out.1.stay HY.out.2.2.2.1 (by bel)⟩, by simp [intOf]; omega⟩
            | true =>
              have hsy := fun (WW : World) (hbb : Below W1.heap.size W1 WW) => wsyncX_c N bl bd _ _ _ _ _ WW (HY.out.1.stay HY.out.2.2.2.1 hbb).disk (HY.out.1.stay HY.out.2.2.2.1 hbb).log (HG.out.1.below (HY.out.1.stay HY.out.2.2.2.1 hbb).below) (Nat.le_trans HY.out.2.2.2.1 hbb.size) (fun p hp => (HY.out.1.inv.okp.1 p hp).1)
              have hin := HY.out.1.inv.sync
              generalize hSR : LogM.sync _ _ = SR at hsy hin
              have HSY := Lib.hid (And.intro hsy hin); clear hsy hin hSR
              obtain ⟨cd, hcd⟩ : ∃ c, SR.2.2 = c := ⟨_, rfl⟩
              have HCD := Lib.hid hcd
              by_cases hcd0 : cd = 0
              · subst hcd0
                go_wp2_with (at_builtin; refine wpList_append_known rfl _ _ _ rfl _ _ rfl rfl HAPP.out ?_)
                refine (HSY.out.1 _ (by bel)).mono ?_
                rintro e w9 ⟨rfl, hD9, hX9, hT9⟩
                rw [HCD.out]
                obtain ⟨gs9, i1, i2, i3, i4⟩ := HSY.out.2
                have hL := Syn.all (i4 HCD.out)
                rw [i2, HY.out.2.2.2.2.1] at hL
                (try rw [HY.out.2.2.2.2.2] at hL)
                have HZ := Lib.hid (And.intro ((HY.out.1.stay HY.out.2.2.2.1 (by bel)).sync (Nat.le_trans HY.out.2.2.2.1 (by sz)) hD9 hX9 hT9 i1) (And.intro (i2.trans HY.out.2.2.2.2.1) hL))
                clear hD9 hX9 hT9 i1 i2 i3 i4 hL
                go_wp2_with fail
                exact ⟨⟨k + 1, by omega, rfl, _, _, _, gs9, _, _, _, _, _, rfl, HZ.out.2.2, HY.out.2.2.1, HZ.out.2.1, HZ.out.1⟩, by simp [intOf]; omega⟩
              · go_wp2_with (at_builtin; refine wpList_append_known rfl _ _ _ rfl _ _ rfl rfl HAPP.out ?_)
                refine (HSY.out.1 _ (by bel)).mono ?_
                rintro e w9 ⟨rfl, hD9, hX9, hT9⟩
                rw [HCD.out]
                obtain ⟨gs9, i1, i2, i3, i4⟩ := HSY.out.2
                have HZ := Lib.hid (And.intro ((HY.out.1.stay HY.out.2.2.2.1 (by bel)).sync (Nat.le_trans HY.out.2.2.2.1 (by sz)) hD9 hX9 hT9 i1) (And.intro (i2.trans HY.out.2.2.2.2.1) (i3 _ HY.out.2.1)))
                clear hD9 hX9 hT9 i1 i2 i3 i4
                go_wp2_with fail
                exact ⟨⟨k + 1, by omega, rfl, sf, _, _, gs9, _, _, _, _, _, rfl, HZ.out.2.2, HY.out.2.2.1, HZ.out.2.1, HZ.out.1⟩, by simp [intOf]; omega⟩
          · have hsk' : ¬ (k : Int) < (sm : Int) := by omega
            have hskd : decide ((k : Int) < (sm : Int)) = false := by simpa using hsk
            go_wp2_with (at_builtin; refine wpList_append_known rfl _ _ _ rfl _ _ rfl rfl HAPP.out ?_)
            exact ⟨⟨k + 1, by omega, rfl, sf, _, _, _, _, _, _, _, _, rfl, HY.out.2.1, HY.out.2.2.1, HY.out.2.2.2.2.1, HY.out.1.stay HY.out.2.2.2.1 (by bel)⟩, by simp [intOf]; omega⟩
        · go_wp2_with fail
          refine HC.out.1.mono ?_
          rintro e w6 hp
          have he := hp.1
          subst he
          rw [HK.out]
          obtain ⟨gs6, i1, i2, i3, i4⟩ := HC.out.2.1
          obtain ⟨pv6, rv6, vs6, hY6⟩ := HC.out.2.2.1 _ _ gs6 hp i1
          have hN6 : N ≤ w6.heap.size := by rw [← HG.out.2.1]; exact hY6.below.size
          have hl6 : flat gs6 = al := (i3 (by rw [HK.out]; exact hc0)).trans HC.out.2.2.2.2.2.2.2.2
          have HY := Lib.hid (And.intro hY6 (And.intro (i4 sf HC.out.2.2.2.2.1) (And.intro (show al.length ≤ k + 1 by have := HC.out.2.2.2.2.2.1; omega) (And.intro hN6 (And.intro hl6 (rfl : al.length = al.length))))))
          clear hN6 hY6 i1 i2 i3 i4 hp hl6
          by_cases hsk : k < sm
          · have hskl : k < ss.length := by rw [← HG.out.2.2.2.2.2.2.2.1]; exact hsk
            obtain ⟨sb, so, hsA, hscell⟩ := (HG.out.2.2.2.2.2.2.2.2.1.below (by rw [HG.out.2.1]; exact HY.out.1.below)).addr (by rw [List.length_map]; omega)
            have qs := hscell k (by rw [List.length_map]; exact hskl)
            rw [List.getElem?_map, List.getElem?_eq_getElem hskl] at qs
            simp only [Option.map_some] at qs
            generalize hsb : ss[k] = sbit at qs
            subst hsA
            have hsk' : (k : Int) < (sm : Int) := by omega
            have hix := idx_bool w6 sb so sm sc k hsk
            have hskd : decide ((k : Int) < (sm : Int)) = true := by simpa using hsk
            clear hscell hsb hskl
            cases sbit with
            | false =>
              go_wp2_with fail
              exact ⟨⟨k + 1, by omega, rfl, sf, _, _, _, _, _, _, _, _, rfl, HY.out.2.1, HY.out.2.2.1, HY.out.2.2.2.2.1, HY.out.1.stay HY.out.2.2.2.1 (by bel)⟩, by simp [intOf]; omega⟩
            | true =>
              have hsy := fun (WW : World) (hbb : Below w6.heap.size w6 WW) => wsyncX_c N bl bd _ _ _ _ _ WW (HY.out.1.stay HY.out.2.2.2.1 hbb).disk (HY.out.1.stay HY.out.2.2.2.1 hbb).log (HG.out.1.below (HY.out.1.stay HY.out.2.2.2.1 hbb).below) (Nat.le_trans HY.out.2.2.2.1 hbb.size) (fun p hp => (HY.out.1.inv.okp.1 p hp).1)
              have hin := HY.out.1.inv.sync
              generalize hSR : LogM.sync _ _ = SR at hsy hin
              have HSY := Lib.hid (And.intro hsy hin); clear hsy hin hSR
              obtain ⟨cd, hcd⟩ : ∃ c, SR.2.2 = c := ⟨_, rfl⟩
              have HCD := Lib.hid hcd
              by_cases hcd0 : cd = 0
              · subst hcd0
                go_wp2_with fail
                refine (HSY.out.1 _ (by bel)).mono ?_
                rintro e w9 ⟨rfl, hD9, hX9, hT9⟩
                rw [HCD.out]
                obtain ⟨gs9, i1, i2, i3, i4⟩ := HSY.out.2
                have hL := Syn.all (i4 HCD.out)
                rw [i2, HY.out.2.2.2.2.1] at hL
                (try rw [HY.out.2.2.2.2.2] at hL)
                have HZ := Lib.hid (And.intro ((HY.out.1.stay HY.out.2.2.2.1 (by bel)).sync (Nat.le_trans HY.out.2.2.2.1 (by sz)) hD9 hX9 hT9 i1) (And.intro (i2.trans HY.out.2.2.2.2.1) hL))
                clear hD9 hX9 hT9 i1 i2 i3 i4 hL
                go_wp2_with fail
                exact ⟨⟨k + 1, by omega, rfl, _, _, _, gs9, _, _, _, _, _, rfl, HZ.out.2.2, HY.out.2.2.1, HZ.out.2.1, HZ.out.1⟩, by simp [intOf]; omega⟩
              · go_wp2_with fail
                refine (HSY.out.1 _ (by bel)).mono ?_
                rintro e w9 ⟨rfl, hD9, hX9, hT9⟩
                rw [HCD.out]
                obtain ⟨gs9, i1, i2, i3, i4⟩ := HSY.out.2
                have HZ := Lib.hid (And.intro ((HY.out.1.stay HY.out.2.2.2.1 (by bel)).sync (Nat.le_trans HY.out.2.2.2.1 (by sz)) hD9 hX9 hT9 i1) (And.intro (i2.trans HY.out.2.2.2.2.1) (i3 _ HY.out.2.1)))
                clear hD9 hX9 hT9 i1 i2 i3 i4
                go_wp2_with fail
                exact ⟨⟨k + 1, by omega, rfl, sf, _, _, gs9, _, _, _, _, _, rfl, HZ.out.2.2, HY.out.2.2.1, HZ.out.2.1, HZ.out.1⟩, by simp [intOf]; omega⟩
          · have hsk' : ¬ (k : Int) < (sm : Int) := by omega
            have hskd : decide ((k : Int) < (sm : Int)) = false := by simpa using hsk
            go_wp2_with fail
            exact ⟨⟨k + 1, by omega, rfl, sf, _, _, _, _, _, _, _, _, rfl, HY.out.2.1, HY.out.2.2.1, HY.out.2.2.2.2.1, HY.out.1.stay HY.out.2.2.2.1 (by bel)⟩, by simp [intOf]; omega⟩
    · obtain rfl : k = n := by omega
      have hB0 := hY.below
      have hbt := boot_c N bd D kept kA km kc HG.out.2.2.2.2.2.2.2.2.2.2.2.1 (Nat.le_trans hkl (by decide)) wr hY.disk (fun W hT => HG.out.2.2.2.2.2.2.2.2.2.2.2.2.below (by rw [HG.out.2.1]; exact hB0.trans (hT.below hNw)))
      obtain ⟨D', G', e', i1, i2, i3, i4, i5⟩ := open_boot hY.inv HG.out.2.2.2.2.2.2.1 kept
      have i6 := i5 sf hsyn
      have hlong : ∀ x ∈ al, x.length ≤ 1000 := by rw [← hal]; exact hY.inv.small
      rw [hal] at i3 i4
      have hall := hY.all
      have H5 := Lib.hid (And.intro hbt (And.intro i1 (And.intro i2 (And.intro i3 (And.intro i4 (And.intro i6 (And.intro hlong (And.intro hall (And.intro hB0 hNw)))))))))
      have hal20 : al.length ≤ 1048576 := by omega
      clear hbt i1 i2 i3 i4 i5 i6 hlong hall hB0 hNw hY hsyn hle hal
      go_wp2_with fail
      refine H5.out.1.mono ?_
      rintro e w6 ⟨rfl, hD6, hT6⟩
      have hA6 := H5.out.2.2.2.2.2.2.2.1.keep (fun b o hb hc => by
        rcases hc with hc | ⟨_, ht⟩
        · exact hT6.block b o hb (hc.imp id fun e => by rw [e]; simp)
        · exact hT6.block b o hb (.inr (by rw [ht]; simp)))
      have hB6 := H5.out.2.2.2.2.2.2.2.2.1.trans (hT6.below H5.out.2.2.2.2.2.2.2.2.2)
      have hN6 := Nat.le_trans H5.out.2.2.2.2.2.2.2.2.2 hT6.size
      have hop := open_x N bd (D.boot kept) LOG most (by decide) w6 hD6 (HG.out.1.below hB6) hN6
      rw [H5.out.2.1] at hop
      have H6 := Lib.hid (And.intro hop (And.intro hA6 (And.intro hB6 hN6)))
      clear hop hA6 hB6 hN6 hD6 hT6
      go_wp2_with fail
      refine H6.out.1.mono ?_
      rintro e w7 ⟨⟨bk, rfl, hle7, hL7⟩, hD7, hT7⟩
      have hA7 := H6.out.2.1.keep (fun b o hb hc => by
        refine hT7.block b o hb ?_
        rcases hc with (hc | hc) | ⟨_, hc⟩
        · exact ⟨.inl hc, .inl (heap_lt hb)⟩
        · exact ⟨.inr (by rw [hc]; simp), .inl (heap_lt hb)⟩
        · exact ⟨.inr (by rw [hc]; simp), .inl (heap_lt hb)⟩)
      have hZ7 : LastZ N w6.heap.size bk bd w w7 G' (.slice A15 al.length c15) avs al := ⟨hL7, hA7, H6.out.2.2.1.trans (hT7.below H6.out.2.2.2 H6.out.2.2.2), Nat.le_trans H6.out.2.2.2 hT7.size⟩
      obtain ⟨mm, hmm⟩ : ∃ mm, w6.heap.size = mm := ⟨_, rfl⟩
      rw [hmm] at hZ7
      have hfin : G'.fin = (e' : Int) := by
        unfold LogM.fin
        rw [H5.out.2.2.1, H5.out.2.2.2.1, List.length_take, Nat.min_eq_left H5.out.2.2.2.2.1]
        simp
      have hlen : ∀ l ∈ G'.recs, l.length ≤ 140737488355328 := by
        intro x hx
        rw [H5.out.2.2.2.1] at hx
        have := H5.out.2.2.2.2.2.2.1 x (List.mem_of_mem_take hx)
        omega
      have hget : ∀ j, j < e' → LogM.get G' (j : Int) = al[j]? := fun j hj => get_take H5.out.2.2.1 H5.out.2.2.2.1 H5.out.2.2.2.2.1 hj
      have he20 : e' ≤ al.length := H5.out.2.2.2.2.1
      have hel : e' ≤ 1048576 := Nat.le_trans he20 hal20
      have hse : sf ≤ e' := H5.out.2.2.2.2.2.1
      have H7 := Lib.hid (And.intro hZ7 (And.intro hfin (And.intro hlen (And.intro hget H5.out.2.2.1))))
      clear hZ7 hfin hlen hget hmm hA7 hL7 hD7 hT7 hle7 H5 H6
      have hd1 : decide ((e' : Int) < (sf : Int)) = false := by simpa using hse
      have hd2 : decide ((al.length : Int) < (e' : Int)) = false := by simpa using he20
      have hd1' : ¬ (e' : Int) < (sf : Int) := by omega
      have hd2' : ¬ (al.length : Int) < (e' : Int) := by omega
      go_wp2_with fail
      refine (first_c mm bk bd G' w7 H7.out.1.log).mono ?_
      rintro e w8 ⟨rfl, rfl⟩
      rw [H7.out.2.2.2.2]
      go_wp2_with fail
      refine (end_c mm bk bd G' w8 H7.out.1.log).mono ?_
      rintro e w9 ⟨rfl, q, hq⟩
      have H9 := Lib.hid (show LastZ N mm bk bd w w9 G' (.slice A15 al.length c15) avs al from hq ▸ H7.out.1.stay (bdrewN _ _))
      clear hq
      rw [H7.out.2.1]
      go_wp2_with fail
      refine (end_c mm bk bd G' w9 H9.out.log).mono ?_
      rintro e w10 ⟨rfl, q, hq⟩
      have H10 := Lib.hid (show LastZ N mm bk bd w w10 G' (.slice A15 al.length c15) avs al from hq ▸ H9.out.stay (bdrewN _ _))
      clear hq
      rw [H7.out.2.1]
      go_wp2_with fail
      have hn1 : decide (e' < sf) = false := by simp; omega
      have hn2 : decide (al.length < e') = false := by simp; omega
      simp only [hn1, hn2, Bool.or_false, Bool.or_self]
      have HE := Lib.hid (And.intro he20 hse)
      clear hd1 hd2 hd1' hd2' he20 hse hn1 hn2
      go_loopw [19] (fun i W => ∃ j : Nat, j ≤ e' ∧ i = .int .i64 j ∧ LastZ N mm bk bd w W G' (.slice A15 al.length c15) avs al) (fun i _ => e' - (intOf i).toNat)
      case atStart => exact ⟨0, by omega, rfl, H10.out⟩
      case round =>
        obtain ⟨j, hj, rfl, hZ⟩ := hrel
        have HZ := Lib.hid hZ; clear hZ
        by_cases hje : j < e'
        · have hjd : decide ((j : Int) < (e' : Int)) = true := by simpa using hje
          have hja : j < al.length := Nat.lt_of_lt_of_le hje HE.out.1
          go_wp2_with fail
          refine (end_c mm bk bd G' _ HZ.out.log).mono ?_
          rintro e w11 ⟨rfl, q, hq⟩
          have H11 := Lib.hid (show LastZ N mm bk bd w w11 G' (.slice A15 al.length c15) avs al from hq ▸ HZ.out.stay (bdrewN _ _))
          clear hq
          rw [H7.out.2.1]
          go_wp2_with fail
          refine (get_c mm bk bd G' (j : Int) (by omega) (by omega) w11 H11.out.log H7.out.2.2.1).mono ?_
          rintro e w12 ⟨v12, rfl, hv12, hb12⟩
          rw [H7.out.2.2.2.1 j hje, List.getElem?_eq_getElem hja] at hv12 ⊢
          have hZ12 := H11.out.stay hb12
          obtain ⟨x, hx⟩ : ∃ x, al[j]? = some x := ⟨_, List.getElem?_eq_getElem hja⟩
          rw [List.getElem?_eq_getElem hja] at hx
          injection hx with hx
          rw [hx] at hv12 ⊢
          obtain ⟨A8, c8, rfl, hr8⟩ : ∃ A c, v12 = .slice A x.length c ∧ Rd 0 w12 A (bytesV x) := by
            obtain ⟨A, c, h1, _, h2⟩ := hv12.toR
            exact ⟨A, c, h1, h2⟩
          have hav : j < avs.length := by rw [hZ12.all.len]; exact hja
          have hbn := hZ12.all.each j _ x (List.getElem?_eq_getElem hav) (by rw [List.getElem?_eq_getElem hja, hx])
          obtain ⟨A2, c2, hA2⟩ := hbn.slice
          rw [hA2] at hbn
          obtain ⟨bb, oo, hbb, hcc⟩ := (Rd.of_own hZ12.all.row).addr (by omega)
          have q12 := hcc j hav
          rw [List.getElem?_eq_getElem hav, hA2] at q12
          have H12 := Lib.hid (And.intro hZ12 (And.intro hr8 hbn.rd))
          clear hv12 hb12 hZ12 hr8 hbn hcc hA2 hx
          subst hbb
          go_wp2_with fail
          refine (same_c A8 A2 _ _ c8 c2 x x rfl rfl w12 H12.out.2.1 H12.out.2.2).mono ?_
          rintro e w13 ⟨rfl, hw13⟩
          subst hw13
          rw [beq_self_eq_true]
          go_wp2_with fail
          exact ⟨⟨j + 1, by omega, rfl, H12.out.1⟩, by simp [intOf]; omega⟩
        · obtain rfl : j = e' := by omega
          have hjd : decide ((j : Int) < (j : Int)) = false := by simp
          go_wp2_with fail
          refine (end_c mm bk bd G' _ HZ.out.log).mono ?_
          rintro e w11 ⟨rfl, q, hq⟩
          have H11 := Lib.hid (show LastZ N mm bk bd w w11 G' (.slice A15 al.length c15) avs al from hq ▸ HZ.out.stay (bdrewN _ _))
          clear hq
          rw [H7.out.2.1]
          go_wp2_with fail
          go_ret
          exact ⟨rfl, H11.out.below⟩
end Go.Proofs.YtjpcmgoajdjkgaaGreatDoor
