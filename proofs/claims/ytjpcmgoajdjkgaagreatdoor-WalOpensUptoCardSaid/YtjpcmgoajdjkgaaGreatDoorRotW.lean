/- A disk's Spoil. WalRots by the contracts. -/
import Derived.Test.YtjpcmgoajdjkgaaGreatDoorThere
import Derived.Test.YtjpcmgoajdjkgaaGreatDoorNext
import Derived.Test.YtjpcmgoajdjkgaaGreatDoorInv
import Derived.Laws.BitsAll
import Derived.Test.YtjpcmgoajdjkgaaGreatDoorAlP
set_option linter.all false
namespace Go.Proofs.YtjpcmgoajdjkgaaGreatDoor
open Go.RowKit

theorem xor_u8 (a x : UInt8) : bits .xor .u8 (a.toNat : Int) (x.toNat : Int) = ((a ^^^ x).toNat : Int) := by
  have ha := a.toNat_lt
  have hx := x.toNat_lt
  rw [u8_xor_nat _ _ (by omega) (by omega), UInt8.toNat_xor]

set_option maxRecDepth 100000 in
set_option maxHeartbeats 400000 in
theorem spoil_c (n bd : Nat) (D : DiskM) (s : List UInt8) (hm : s.length ≤ 4611686018427387904) (k : Int) (x : UInt8) (w : World) (hD : DiskR n w bd D) (hn : n ≤ w.heap.size) :
    Calls Tryz.prog 32 #[.pointer (some ⟨bd, 0, none⟩), .string ⟨s.toArray⟩, .int .i64 k, .int .u8 (x.toNat : Int)] w fun e w' =>
      e = .returned (.int .i64 (D.spoil s k x).2) ∧ DiskR n w' bd (D.spoil s k x).1 ∧ Turn n [some 85] w w' := by
  obtain ⟨bm, clock, pv, xs, hX⟩ := hD
  obtain ⟨RD, hrd⟩ : ∃ R, D.spoil s k x = R := ⟨_, rfl⟩
  rw [hrd]
  unfold DiskM.spoil at hrd
  have c1 := Joins.cell_of_block hX.at_ 1
  have hl := look_file und_files und_string zero_file xs hX.files.at_ s
  simp at c1
  have HX := Lib.hid (And.intro hX hn); clear hX hn
  cases he : entAt xs s with
  | none =>
    rw [he] at hl
    simp at hl
    have e1 : fileAt D.files s = none := by rw [← HX.out.1.same]; exact entAt_none he
    rw [e1] at hrd
    have HR := Lib.hid hrd; clear hrd e1 he
    go_enter Tryz.func32, Tryz.ntmps32
    go_wp2
    go_ret
    rw [← HR.out]
    exact ⟨rfl, ⟨bm, clock, pv, xs, HX.out.1⟩, Turn.refl _ _ _⟩
  | some y =>
    rw [he] at hl
    simp at hl
    obtain ⟨e1, e2, e3⟩ := entAt_some he
    have e4 : fileAt D.files s = some y.f := by rw [← HX.out.1.same]; exact e1
    rw [e4] at hrd
    simp only at hrd
    obtain ⟨hxn, v, hb, hv⟩ := HX.out.1.files.each y e2
    have d0 := Joins.cell_of_block hb 0
    have d1 := Joins.cell_of_block hb 1
    have f0 := Joins.unfrozen_of_block hb 0
    simp at d0 d1
    have hv0 := hv
    obtain ⟨A, cap, rfl, hc, hcm, _⟩ := hv
    have hflen := file_len HX.out.1.fits (f := y.f) (by rw [← HX.out.1.same]; exact List.mem_map_of_mem e2)
    have HQ := Lib.hid (And.intro hv0 (And.intro hb (And.intro hxn (And.intro e2 (And.intro e4 hflen))))); clear e1 e3 hv0 hb e4 he e2 hxn hflen
    by_cases hk0 : k < 0
    · rw [if_pos (.inl hk0)] at hrd
      have HR := Lib.hid hrd; clear hrd
      go_enter Tryz.func32, Tryz.ntmps32
      go_wp2
      go_ret
      rw [← HR.out]
      exact ⟨rfl, ⟨bm, clock, pv, xs, HX.out.1⟩, Turn.refl _ _ _⟩
    by_cases hk1 : (y.f.b.length : Int) ≤ k
    · rw [if_pos (.inr hk1)] at hrd
      have HR := Lib.hid hrd; clear hrd
      go_enter Tryz.func32, Tryz.ntmps32
      go_wp2
      go_ret
      rw [← HR.out]
      exact ⟨rfl, ⟨bm, clock, pv, xs, HX.out.1⟩, Turn.refl _ _ _⟩
    rw [if_neg (by omega)] at hrd
    have HR := Lib.hid hrd; clear hrd
    obtain ⟨m, rfl⟩ : ∃ m : Nat, k = (m : Int) := ⟨k.toNat, by omega⟩
    have hml : m < y.f.b.length := by omega
    have hcl := clone_c A y.f.b.length cap y.f.b rfl w (by have := HQ.out.2.2.2.2.2; omega) HQ.out.1.toR.rd
    have HC := Lib.hid hcl; clear hcl
    go_enter Tryz.func32, Tryz.ntmps32
    go_wp2_with fail
    refine HC.out.mono ?_
    rintro e W2 ⟨v2, rfl, hown, hb2⟩
    have hn2 := (hb2.block _ (heap_lt HQ.out.2.1)).trans HQ.out.2.1
    have hown0 := hown
    obtain ⟨hll, ⟨rfl, hz⟩ | ⟨g, cap2, cur, rfl, hg, hh, hnc, hcm2, hcs, htk⟩⟩ := hown
    · omega
    have hgx : g ≠ y.blk := fun e => by have := heap_lt HQ.out.2.1; omega
    have g0 := Joins.unfrozen_of_block hn2 0
    have k0 := Joins.cell_of_block hn2 0
    simp at k0
    have gm : W2.cell? ⟨g, m, none⟩ = some (.int .u8 (y.f.b[m].toNat : Int)) := by
      rw [Joins.cell_of_block hh m]
      have := bytesV_get y.f.b m hml
      rw [← htk, List.getElem?_take_of_lt (by omega)] at this
      rw [← Array.getElem?_toList]; exact this
    have gf := Joins.unfrozen_of_block hh m
    have hh2 : ∀ V, (W2.setCell ⟨y.blk, 0, none⟩ V).heap[g]? = some (.cells cur 5 (0, 0)) := fun V => heap_setCell_ne hh hgx
    have gm2 : ∀ V, (W2.setCell ⟨y.blk, 0, none⟩ V).cell? ⟨g, m, none⟩ = some (.int .u8 (y.f.b[m].toNat : Int)) := fun V => by
      rw [Joins.cell_of_block (hh2 V) m, ← Joins.cell_of_block hh m]; exact gm
    have gf2 : ∀ V, (W2.setCell ⟨y.blk, 0, none⟩ V).frozen? ⟨g, m, none⟩ = false := fun V => Joins.unfrozen_of_block (hh2 V) m
    have dn : ∀ V, (W2.setCell ⟨y.blk, 0, none⟩ V).cell? ⟨y.blk, 0, none⟩ = some V := fun V => by
      rw [Joins.cell_of_block (Joins.block_setCell hn2 V)]; simp
    have hx8 := xor_u8 y.f.b[m] x
    have HO := Lib.hid (And.intro hown0 (And.intro hb2 (And.intro hn2 (And.intro hh (And.intro hcs (And.intro htk hg)))))); clear hown0 hb2 hn2 hh hcs htk hh2
    go_wp2_with fail
    go_ret
    obtain ⟨hown0, hb2, hn2, hh, hcs, htk, hg⟩ := HO.out
    obtain ⟨hv0, hb, hxn, e2, e4, hflen⟩ := HQ.out
    have hgd : y.f.b.getD m 0 = y.f.b[m] := by simp [List.getD, hml]
    rw [← HR.out]
    simp only [Int.toNat_natCast, hgd]
    obtain ⟨V, hV⟩ : ∃ V : Value, Value.slice (some ⟨g, 0, none⟩) y.f.b.length cap2 = V := ⟨_, rfl⟩
    rw [hV]
    have hz : ((y.f.b[m].toNat ^^^ x.toNat : Nat) : Int) = ((y.f.b[m] ^^^ x).toNat : Int) := by rw [UInt8.toNat_xor]
    rw [hz]
    generalize hzz : y.f.b[m] ^^^ x = z
    have hh3 : (W2.setCell ⟨y.blk, 0, none⟩ V).heap[g]? = some (.cells cur 5 (0, 0)) := heap_setCell_ne hh hgx
    have hfin : ((W2.setCell ⟨y.blk, 0, none⟩ V).setCell ⟨g, m, none⟩ (.int .u8 (z.toNat : Int))).heap[y.blk]? = some (.cells #[V, .int .i64 (y.f.safe : Int)] 85 (0, 0)) := by
      refine heap_setCell_ne ?_ (Ne.symm hgx)
      rw [Joins.block_setCell hn2]; rfl
    have hbs : Bs 5 ((W2.setCell ⟨y.blk, 0, none⟩ V).setCell ⟨g, m, none⟩ (.int .u8 (z.toNat : Int))) V (y.f.b.set m z) := by
      refine ⟨some ⟨g, 0, none⟩, cap2, by rw [← hV, List.length_set], by rw [List.length_set]; exact hnc, hcm2, .inr ⟨g, 0, _, _, rfl, Joins.block_setCell hh3 _, fun k hk => ?_⟩⟩
      rw [List.length_set] at hk
      rw [Nat.zero_add]
      have hb0 : (bytesV (y.f.b.set m z))[k]? = ((bytesV y.f.b).set m (.int .u8 (z.toNat : Int)))[k]? := by
        unfold bytesV; rw [List.map_set]
      rw [hb0, ← htk, ← Array.getElem?_toList]
      simp only [Array.toList_setIfInBounds]
      rw [List.getElem?_set, List.getElem?_set, List.length_take]
      by_cases hmk : m = k
      · subst hmk
        rw [if_pos rfl, if_pos rfl, if_pos (by simp; omega), if_pos (by simp; omega)]
      · rw [if_neg hmk, if_neg hmk, List.getElem?_take_of_lt (by omega)]
    have hkk : ∀ (b : Nat) (o : Obj), w.heap[b]? = some o → b ≠ y.blk → ((W2.setCell ⟨y.blk, 0, none⟩ V).setCell ⟨g, m, none⟩ (.int .u8 (z.toNat : Int))).heap[b]? = some o := fun b o hbo hne => by
      have hlt := heap_lt hbo
      exact heap_setCell_ne (heap_setCell_ne ((hb2.block b hlt).trans hbo) hne) (by omega)
    have hfit := set_fits HX.out.1.fits (f := y.f) (f' := { y.f with b := y.f.b.set m z }) (by have := (fileAt_mem e4).2; simp only; rw [this]; exact e4) (by
        have := (HX.out.1.fits.2.2.2.2.2 y.f (by rw [← HX.out.1.same]; exact List.mem_map_of_mem e2)).1
        simp only [List.length_set]; exact this) (by
        have := HX.out.1.fits.2.2.1
        simp only [List.length_set]; omega)
    have hX2 := HX.out.1.turnFile e2 { y.f with b := y.f.b.set m z } rfl hfin hbs hkk hfit
    refine ⟨rfl, ⟨bm, clock, pv, _, hX2⟩, ?_⟩
    have hs2 := hb2.size
    refine ⟨hb2.os, hb2.tape, hb2.output, by simp [World.setCell]; exact hs2, fun b o hbo hc => hkk b o hbo ?_⟩
    rintro rfl
    rw [hb] at hbo; cases hbo
    rcases hc with hc | hc
    · omega
    · exact hc (by simp [tagOf])
end Go.Proofs.YtjpcmgoajdjkgaaGreatDoor
set_option linter.all false
namespace Go.Proofs.YtjpcmgoajdjkgaaGreatDoor
open Go.RowKit

theorem Bn.low {n : Nat} {w w' : World} {v : Value} {l : List UInt8} (h : Bn n w v l) (hn : w.heap.size = n) (hB : Below n w w') : Bn n w' v l := by
  obtain ⟨A, cap, rfl, hc, hm, hl | ⟨b, o, c, t, f, rfl, hb, hbt, hk⟩⟩ := h
  · exact ⟨A, cap, rfl, hc, hm, .inl hl⟩
  · have hlt := heap_lt hb
    exact ⟨_, cap, rfl, hc, hm, .inr ⟨b, o, c, t, f, rfl, (hB.block b (by omega)).trans hb, .inl (by omega), hk⟩⟩
theorem Bn.slice {n : Nat} {w : World} {v : Value} {l : List UInt8} (h : Bn n w v l) : ∃ A cap, v = .slice A l.length cap := by
  obtain ⟨A, cap, rfl, _⟩ := h
  exact ⟨A, cap, rfl⟩

theorem open_new (D : DiskM) (hf : D.files = []) (hd : D.down = false) (most : Int) (hm : 1 ≤ most) : openM D LOG most = (D, some (LogM.new LOG most), 0) := by
  unfold openM
  rw [nm0, if_neg (by simp; omega), if_neg (by rw [hd]; simp), names_nil hf]
  simp [numbersB, openAll]

theorem mkParts_ok : ∀ (gs : List Grp) (k : Nat), (∀ b ∈ flat gs, b.length ≤ 1000) → k + (flat gs).length ≤ 1048577 → ∀ p ∈ mkParts k gs, (0 ≤ p.frm ∧ p.frm ≤ 9223372036854775807) ∧ p.many ≤ 1099511627776 ∧ p.size ≤ 1099511627776
  | [], _, _, _, p, hp => by simp [mkParts] at hp
  | g :: r, k, hs, hf, p, hp => by
    have hfl : flat (g :: r) = g.1 ++ flat r := by simp [flat]
    rw [hfl] at hs hf
    rw [List.length_append] at hf
    simp only [mkParts, List.mem_cons] at hp
    rcases hp with rfl | hp
    · have hsz : ∀ (l : List (List UInt8)), (∀ b ∈ l, b.length ≤ 1000) → (frs l).length ≤ 1012 * l.length := by
        intro l
        induction l with
        | nil => intro _; simp [frs]
        | cons x r ih =>
          intro h
          have h1 := ih fun b hb => h b (by simp [hb])
          have h2 := h x (by simp)
          rw [frs_cons, List.length_append, Wal.frameB_length, List.length_cons]
          omega
      have := hsz g.1 fun b hb => hs b (by simp [hb])
      simp only
      omega
    · exact mkParts_ok r (k + g.1.length) (fun b hb => hs b (by simp [hb])) (by omega) p hp
theorem mkParts_few : ∀ (gs : List Grp) (k : Nat), (∀ g ∈ gs, g.1 ≠ []) → (mkParts k gs).length ≤ (flat gs).length
  | [], _, _ => by simp [mkParts]
  | g :: r, k, h => by
    have := mkParts_few r (k + g.1.length) fun x hx => h x (by simp [hx])
    have h1 := List.length_pos_iff.2 (h g (by simp))
    have hfl : flat (g :: r) = g.1 ++ flat r := by simp [flat]
    rw [hfl, List.length_append, mkParts, List.length_cons]
    omega
theorem LInv.okp {most : Int} {D : DiskM} {G : LogM} {gs : List Grp} (h : LInv most D G gs) : (∀ p ∈ G.parts, (0 ≤ p.frm ∧ p.frm ≤ 9223372036854775807) ∧ p.many ≤ 1099511627776 ∧ p.size ≤ 1099511627776) ∧ G.recs.length ≤ 549755813888 ∧ G.parts.length ≤ 549755813888 := by
  have h1 := h.few
  have h2 := mkParts_few gs 0 h.ne
  have h3 := mkParts_ok gs 0 h.small (by omega)
  rw [h.log]
  exact ⟨h3, by simp only; omega, by simp only; omega⟩

/-- a log that is appended to, in memory -/
def LogI (N bl bd : Nat) (most : Int) (l : List (List UInt8)) (w W : World) : Prop :=
  ∃ D G gs, LInv most D G gs ∧ flat gs = l ∧ Runs D ∧ DiskR N W bd D ∧ LogR N W bl bd G ∧ Below N w W

set_option maxRecDepth 100000 in
set_option maxHeartbeats 800000 in
theorem rots_nil (most : Int) (v : Value) (file i : Int) (x : UInt8) (w : World) (hg : Glob w.heap.size w) (h : most < 1 ∨ x = 0) :
    Calls Tryz.prog 5 #[.int .i64 most, v, .int .i64 file, .int .i64 i, .int .u8 (x.toNat : Int)] w fun e w' => e = .returned (.bool true) ∧ Below w.heap.size w w' := by
  have HG := Lib.hid hg; clear hg
  by_cases h1 : most < 1
  · clear h
    go_enter Tryz.func5, Tryz.ntmps5
    go_wp2_with (go_at_call 19; refine (alive_c w HG.out).mono ?_; rintro e w8 ⟨rfl, hb8⟩; have H8 := Lib.hid hb8; clear hb8)
    go_ret
    exact ⟨rfl, H8.out⟩
  · obtain rfl : x = 0 := h.elim (fun h => absurd h h1) id
    clear h
    have h0 : ((0 : UInt8).toNat : Int) = 0 := rfl
    rw [h0]
    go_enter Tryz.func5, Tryz.ntmps5
    go_wp2_with (go_at_call 19; refine (alive_c w HG.out).mono ?_; rintro e w8 ⟨rfl, hb8⟩; have H8 := Lib.hid hb8; clear hb8)
    go_ret
    exact ⟨rfl, H8.out⟩

set_option maxRecDepth 100000 in
set_option maxHeartbeats 1600000 in
theorem rots_c (most : Int) (hm1 : 1 ≤ most) (A : Option Addr) (n cap : Nat) (vs : List Value) (ls : List (List UInt8)) (hvl : vs.length = ls.length) (hnl : n = ls.length) (hln : n ≤ 1048576)
    (file i : Int) (x : UInt8) (hx : x ≠ 0) (w : World) (N : Nat) (hN : w.heap.size = N) (hg : Glob N w) (hr : Rd 0 w A vs) (hb : ∀ (k : Nat) (v : Value) (l : List UInt8), vs[k]? = some v → ls[k]? = some l → Bn N w v l) :
    Calls Tryz.prog 5 #[.int .i64 most, .slice A n cap, .int .i64 file, .int .i64 i, .int .u8 (x.toNat : Int)] w fun e w' => e = .returned (.bool true) ∧ Below N w w' := by
  have hx1 : ¬ ((x.toNat : Int) = 0) := fun h => hx (UInt8.toNat_inj.1 (by simpa using h))
  have hm0 : ¬ most < 1 := by omega
  have HG := Lib.hid (And.intro hg (And.intro hN (And.intro hr (And.intro hb (And.intro hvl (And.intro hnl (And.intro hx hm1))))))); clear hg hN hr hb hvl hnl hx hm1
  go_enter Tryz.func5, Tryz.ntmps5
  go_wp2_with fail
  refine (new_c 1073741824 (by decide) (by decide) w).mono ?_
  rintro e w1 ⟨bd, rfl, hbd, hD1, hb1⟩
  rw [HG.out.2.1] at hD1 hb1
  have H1 := Lib.hid (show Al N w bd (DiskM.new 1073741824) w1 from ⟨hb1, Nat.le_trans (Nat.le_of_eq HG.out.2.1.symm) hb1.size, HG.out.1.below hb1, hD1⟩)
  clear hbd hD1 hb1
  go_wp2_with fail
  refine (open_some (name := LOG) (by decide) H1.out.disk H1.out.glob H1.out.size (open_new (DiskM.new 1073741824) rfl rfl most HG.out.2.2.2.2.2.2.2)).mono ?_
  rintro e w2 ⟨bl, rfl, hL2, hD2, hb2⟩
  have H2 := Lib.hid (And.intro (H1.out.go hb2 hD2) hL2)
  clear hL2 hD2 hb2
  go_wp2_with fail
  refine (alive_c w2 (H2.out.1.glob.mono H2.out.1.size)).mono ?_
  rintro e w3 ⟨rfl, hb3⟩
  have H3 := Lib.hid (show LogI N bl bd most (ls.take 0) w w3 from ⟨_, _, [], LInv.new most _ rfl, rfl, ⟨rfl, rfl⟩, (H2.out.1.stay hb3).disk, H2.out.2.below hb3, (H2.out.1.stay hb3).below⟩)
  clear hb3
  go_wp2_with fail
  go_loopw [15] (fun s W => ∃ k : Nat, k ≤ n ∧ s = .int .i64 k ∧ LogI N bl bd most (ls.take k) w W) (fun s _ => n - (intOf s).toNat)
  case atStart => exact ⟨0, by omega, rfl, H3.out⟩
  case round =>
    obtain ⟨k, hk, rfl, hI⟩ := hrel
    obtain ⟨D, G, gs, hinv, hfl, hruns, hD, hL, hB⟩ := hI
    by_cases hlt : k < n
    · have hkv : k < vs.length := by have := HG.out.2.2.2.2.1; have := HG.out.2.2.2.2.2.1; omega
      have hkl : k < ls.length := by have := HG.out.2.2.2.2.2.1; omega
      obtain ⟨v, hv⟩ : ∃ v, vs[k]? = some v := ⟨_, List.getElem?_eq_getElem hkv⟩
      obtain ⟨l, hl⟩ : ∃ l, ls[k]? = some l := ⟨_, List.getElem?_eq_getElem hkl⟩
      have hbn := (HG.out.2.2.2.1 k v l hv hl).low HG.out.2.1 hB
      obtain ⟨A1, c1, rfl⟩ := hbn.slice
      obtain ⟨b, o, hA, hcell⟩ := (HG.out.2.2.1.below (by rw [HG.out.2.1]; exact hB)).addr (by omega)
      have q0 := (hcell k hkv).trans hv
      subst hA
      have htk : ls.take (k + 1) = ls.take k ++ [l] := by
        rw [List.take_succ_eq_append_getElem hkl]
        congr 2
        rw [List.getElem?_eq_getElem hkl] at hl
        exact Option.some.inj hl
      have hfew : (flat gs).length + 1 ≤ 1048577 := by rw [hfl, List.length_take]; omega
      have HI := Lib.hid (And.intro hinv (And.intro hfl (And.intro hruns (And.intro hD (And.intro hL (And.intro hB (And.intro hbn (And.intro htk (And.intro hkl hfew))))))))); clear hinv hfl hruns hD hL hB hbn htk hkl hfew hcell hv hl hkv
      by_cases hbig : (1000 : Int) < (l.length : Int)
      · go_wp2_with fail
        go_ret
        exact ⟨rfl, HI.out.2.2.2.2.2.1⟩
      · have hcall := wapp_c N bl bd D G l (.slice A1 l.length c1) wr HI.out.2.2.2.1 HI.out.2.2.2.2.1 (HG.out.1.below HI.out.2.2.2.2.2.1) (by rw [← HG.out.2.1]; exact HI.out.2.2.2.2.2.1.size) HI.out.2.2.2.2.2.2.1 HI.out.1.okp.1 HI.out.1.okp.2
        have happ := HI.out.1.append l (by omega) HI.out.2.2.2.2.2.2.2.2.2
        have hrn := HI.out.2.2.1.lapp G l
        generalize hR : LogM.append D G l = R at hcall happ hrn
        have HC := Lib.hid (And.intro hcall (And.intro happ hrn)); clear hcall happ hrn hR
        obtain ⟨code, hcode⟩ : ∃ c, R.2.2 = c := ⟨_, rfl⟩
        by_cases hc0 : code = 0
        · subst hc0
          have HK := Lib.hid hcode
          go_wp2_with fail
          refine HC.out.1.mono ?_
          rintro e w4 ⟨rfl, hD4, hL4, hT4⟩
          rw [HK.out]
          have H4 := Lib.hid (And.intro hD4 (And.intro hL4 hT4)); clear hD4 hL4 hT4
          go_wp2_with fail
          refine ⟨⟨k + 1, by omega, rfl, ?_⟩, by simp [intOf]; omega⟩
          obtain ⟨gs', i1, i2, i3, i4⟩ := HC.out.2.1
          refine ⟨R.1, R.2.1, gs', i1, by rw [i2 HK.out, HI.out.2.1, HI.out.2.2.2.2.2.2.2.1], HC.out.2.2, H4.out.1, H4.out.2.1, ?_⟩
          exact HI.out.2.2.2.2.2.1.trans (H4.out.2.2.below (by rw [← HG.out.2.1]; exact HI.out.2.2.2.2.2.1.size))
        · have HK := Lib.hid hcode
          go_wp2_with fail
          refine HC.out.1.mono ?_
          rintro e w4 ⟨rfl, hD4, hL4, hT4⟩
          rw [HK.out]
          have H4 := Lib.hid (And.intro hD4 (And.intro hL4 hT4)); clear hD4 hL4 hT4
          go_wp2_with fail
          go_ret
          exact ⟨rfl, HI.out.2.2.2.2.2.1.trans (H4.out.2.2.below (by rw [← HG.out.2.1]; exact HI.out.2.2.2.2.2.1.size))⟩
    · obtain rfl : k = n := by omega
      have hsz : N ≤ wr.heap.size := by rw [← HG.out.2.1]; exact hB.size
      have hsy := wsync_c N bl bd D G wr hD hL (HG.out.1.below hB) hsz (fun p hp => (hinv.okp.1 p hp).1)
      have hcode := sync_fine hinv hruns
      have hinv2 := hinv.sync
      have hrn := hruns.lsync G
      generalize hR : LogM.sync D G = R at hsy hcode hinv2 hrn
      rw [hcode] at hsy
      have HI := Lib.hid (And.intro hsy (And.intro hinv2 (And.intro hrn (And.intro hB hsz)))); clear hinv hfl hruns hD hL hB hsz hsy hcode hinv2 hrn hR
      go_wp2_with fail
      refine HI.out.1.mono ?_
      rintro e w4 ⟨rfl, hD4, hL4, hT4⟩
      have hB4 : Below N w w4 := HI.out.2.2.2.1.trans (hT4.below HI.out.2.2.2.2)
      have H4 := Lib.hid (And.intro hD4 (And.intro hL4 hB4)); clear hD4 hL4 hT4 hB4
      go_wp2_with fail
      refine (list_c N bd R.1 w4 H4.out.1).mono ?_
      rintro e w5 ⟨v5, rfl, hown5, hb5⟩
      rw [if_neg (by rw [HI.out.2.2.1.up]; simp)] at hown5
      obtain ⟨NS, hNS⟩ : ∃ NS, R.1.names = NS := ⟨_, rfl⟩
      rw [hNS] at hown5
      obtain ⟨A5, c5, rfl, -, -, -⟩ := own_slice hown5
      have hnl5 : NS.length ≤ 16 := by
        rw [← hNS]
        have h1 : R.1.names.length = R.1.files.length := by unfold DiskM.names; rw [List.length_mergeSort, List.length_map]
        obtain ⟨_, _, _, _, hX⟩ := H4.out.1
        rw [h1]; exact hX.fits.2.2.2.1
      have hnn5 : ∀ s ∈ NS, s.length ≤ 32 := by
        intro s hs
        rw [← hNS] at hs
        have h1 := (List.mergeSort_perm _ _).mem_iff.1 hs
        obtain ⟨f, hf, rfl⟩ := List.mem_map.1 h1
        obtain ⟨_, _, _, _, hX⟩ := H4.out.1
        exact (hX.fits.2.2.2.2.2 f hf).2
      have H5 := Lib.hid (And.intro ((Rd.of_own hown5).mono (Nat.zero_le _)) (And.intro hb5 (And.intro (H4.out.2.2.trans (hb5.mono (by rw [← HG.out.2.1]; exact H4.out.2.2.size))) (And.intro hnn5 hNS)))); clear hown5 hb5 hnn5 hNS
      by_cases hf0 : file < 0
      · go_wp2_with fail
        go_ret
        exact ⟨rfl, H5.out.2.2.1⟩
      by_cases hf1 : (NS.length : Int) ≤ file
      · go_wp2_with fail
        go_ret
        exact ⟨rfl, H5.out.2.2.1⟩
      obtain ⟨f, rfl⟩ : ∃ f : Nat, file = (f : Int) := ⟨file.toNat, by omega⟩
      have hfl : f < NS.length := by omega
      obtain ⟨b5, o5, hA, hcell⟩ := H5.out.1.addr (by rw [List.length_map]; omega)
      have q5 : w5.cell? ⟨b5, o5 + f, none⟩ = some (.string ⟨(NS[f]).toArray⟩) := by
        have := hcell f (by rw [List.length_map]; exact hfl)
        rw [List.getElem?_map, List.getElem?_eq_getElem hfl] at this
        exact this
      subst hA
      have hs32 := H5.out.2.2.2.1 NS[f] (List.getElem_mem hfl)
      generalize hS : NS[f] = S at q5 hs32
      have hN5 : N ≤ w5.heap.size := by rw [← HG.out.2.1]; exact H5.out.2.2.1.size
      have hsp := spoil_c N bd R.1 S (by omega) i x w5 (H4.out.1.below H5.out.2.1) hN5
      have hrot : (R.1.spoil S i x).2 = 0 → (openM (R.1.spoil S i x).1 LOG most).2 = (none, 34) := fun he => by
        obtain ⟨gs', i1, _⟩ := HI.out.2.1
        exact open_rot i1 HG.out.2.2.2.2.2.2.2 HI.out.2.2.1 S i x HG.out.2.2.2.2.2.2.1 he
      generalize hSP : R.1.spoil S i x = SP at hsp hrot
      have HS := Lib.hid (And.intro hsp (And.intro hrot hN5)); clear hsp hrot hN5 hcell hSP hS hs32
      obtain ⟨code, hcode⟩ : ∃ c, SP.2 = c := ⟨_, rfl⟩
      by_cases hc0 : code = 0
      · subst hc0
        have HK := Lib.hid hcode; clear hcode
        go_wp2_with fail
        refine HS.out.1.mono ?_
        rintro e w6 ⟨rfl, hD6, hT6⟩
        rw [HK.out]
        have hB6 : Below N w w6 := H5.out.2.2.1.trans (hT6.below HS.out.2.2)
        have H6 := Lib.hid (And.intro hD6 hB6); clear hD6 hT6 hB6
        go_wp2_with fail
        have hN6 : N ≤ w6.heap.size := by rw [← HG.out.2.1]; exact H6.out.2.size
        have hop := open_c N bd SP.1 LOG most (by decide) w6 H6.out.1 (HG.out.1.below H6.out.2) hN6
        refine hop.mono ?_
        rintro e w7 ⟨hret, hD7, hT7⟩
        have hrr := HS.out.2.1 HK.out
        rw [show (openM SP.1 LOG most).2.1 = none by rw [hrr]] at hret
        simp only at hret
        subst hret
        rw [hrr]
        have H7 := Lib.hid (H6.out.2.trans (hT7.below hN6)); clear hT7 hD7 hop hrr hN6
        go_wp2_with fail
        go_ret
        exact ⟨rfl, H7.out⟩
      · have HK := Lib.hid hcode; clear hcode
        have hcn : ((code : Int) != 0) = true := by simpa using hc0
        go_wp2_with fail
        refine HS.out.1.mono ?_
        rintro e w6 ⟨rfl, hD6, hT6⟩
        rw [HK.out]
        have H6 := Lib.hid (H5.out.2.2.1.trans (hT6.below HS.out.2.2)); clear hD6 hT6
        go_wp2_with fail
        go_ret
        exact ⟨rfl, H6.out⟩
end Go.Proofs.YtjpcmgoajdjkgaaGreatDoor
