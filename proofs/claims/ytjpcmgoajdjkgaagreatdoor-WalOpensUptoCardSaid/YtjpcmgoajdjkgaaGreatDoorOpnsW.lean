/- The law WalOpens: walked. -/
import Derived.Test.YtjpcmgoajdjkgaaGreatDoorLSame
import Derived.Test.YtjpcmgoajdjkgaaGreatDoorOpS
import Derived.Test.YtjpcmgoajdjkgaaGreatDoorOpnP
import Derived.Test.YtjpcmgoajdjkgaaGreatDoorRDsk
import Derived.Test.YtjpcmgoajdjkgaaGreatDoorROpen
import Derived.Test.YtjpcmgoajdjkgaaGreatDoorOpenW
import Derived.Test.YtjpcmgoajdjkgaaGreatDoorAlP
set_option linter.all false
namespace Go.Proofs.YtjpcmgoajdjkgaaGreatDoor
open Go.RowKit Go.Maps Go.Sort Go.Shelf

set_option maxRecDepth 100000 in
set_option maxHeartbeats 4000000 in
theorem opens_c (A : Option Addr) (n cap : Nat) (ks : List Int) (hnk : n = ks.length) (B : Option Addr) (m capb : Nat) (vs : List Value) (ls : List (List UInt8)) (hvl : vs.length = ls.length) (hml : m = ls.length) (hsm : ∀ l ∈ ls, l.length ≤ 4611686018427387904)
    (w : World) (N : Nat) (hN : w.heap.size = N) (hg : Glob N w) (hra : Rd 0 w A (ks.map (Value.int .i64))) (hrb : Rd 0 w B vs) (hb : ∀ (k : Nat) (v : Value) (l : List UInt8), vs[k]? = some v → ls[k]? = some l → Bn N w v l) (hnm : n ≤ 1048576) (hmm : m ≤ 1048576) :
    Calls Tryz.prog 4 #[.slice A n cap, .slice B m capb] w fun e w' => e = .returned (.bool true) ∧ Below N w w' := by
  have HG := Lib.hid (And.intro hg (And.intro hN (And.intro hra (And.intro hrb (And.intro hb (And.intro hvl (And.intro hml (And.intro hnk hsm)))))))); clear hg hN hra hrb hb hvl hml hnk hsm
  go_enter Tryz.func4, Tryz.ntmps4
  go_wp2_with fail
  refine (new_c 1073741824 (by decide) (by decide) w).mono ?_
  rintro e w1 ⟨bd, rfl, hbd, hD1, hb1⟩
  rw [HG.out.2.1] at hD1 hb1
  have H1 := Lib.hid (And.intro hD1 hb1); clear hD1 hb1 hbd
  go_wp2_with fail
  refine (rnew_c 1073741824 (by decide) (by decide) w1).mono ?_
  rintro e w2 ⟨rd, rfl, hR2, hb2⟩
  have hR2' : RdX N w2 rd 1073741824 0 (.slice none 0 0) [] := ⟨Nat.le_trans (by have := H1.out.2.size; rw [HG.out.2.1] at this; exact this) hR2.le, hR2.at_, World.ownsRow_nil _ _ _ _, by simp⟩
  have hN1 : N ≤ w1.heap.size := by have := H1.out.2.size; rw [HG.out.2.1] at this; exact this
  have H2 := Lib.hid (show OpS N bd rd w (DiskM.new 1073741824) 0 (.slice none 0 0) [] w2 from
    ⟨H1.out.1.below hb2, hR2', ⟨List.Perm.refl _, List.Pairwise.nil⟩, ⟨rfl, rfl⟩, rfl, H1.out.2.trans (hb2.mono hN1), Nat.le_trans hN1 hb2.size⟩)
  clear hR2 hb2 hR2' hN1
  go_wp2_with fail
  go_loopw [8] (fun i W => ∃ (k : Nat) (D : DiskM) (Nn : Int) (lv : Value) (es : List (FileM × Value)), k ≤ n ∧ k ≤ m ∧ i = .int .i64 (k : Int) ∧ Hid (OpS N bd rd w D Nn lv es W)) (fun i _ => n - (intOf i).toNat)
  case atStart => exact ⟨0, _, _, _, _, by omega, by omega, rfl, H2⟩
  case round =>
    obtain ⟨k, D, Nn, lv, es, hk1, hk2, rfl, HI⟩ := hrel
    by_cases hlt : k < n ∧ k < m
    · obtain ⟨hl1, hl2⟩ := hlt
      have hd1 : decide ((k : Int) < (n : Int)) = true := by simpa using hl1
      have hd2 : decide ((k : Int) < (m : Int)) = true := by simpa using hl2
      have hkl : k < ks.length := by have := HG.out.2.2.2.2.2.2.2.1; omega
      have hkv : k < vs.length := by have := HG.out.2.2.2.2.2.1; have := HG.out.2.2.2.2.2.2.1; omega
      have hkls : k < ls.length := by have := HG.out.2.2.2.2.2.2.1; omega
      obtain ⟨v, hv⟩ : ∃ v, vs[k]? = some v := ⟨_, List.getElem?_eq_getElem hkv⟩
      obtain ⟨l, hl⟩ : ∃ l, ls[k]? = some l := ⟨_, List.getElem?_eq_getElem hkls⟩
      have hbn := (HG.out.2.2.2.2.1 k v l hv hl).low HG.out.2.1 HI.out.below
      have hlm := HG.out.2.2.2.2.2.2.2.2 l (List.mem_of_getElem? hl)
      obtain ⟨b1, o1, hA, hcell⟩ := (HG.out.2.2.1.below (by rw [HG.out.2.1]; exact HI.out.below)).addr (by rw [List.length_map]; omega)
      have q1 := hcell k (by rw [List.length_map]; exact hkl)
      rw [List.getElem?_map, List.getElem?_eq_getElem hkl, Option.map_some] at q1
      obtain ⟨b2, o2, hB, hcell2⟩ := HG.out.2.2.2.1.addr (by omega)
      have q2w := (hcell2 k hkv).trans hv
      obtain ⟨kn, hkn⟩ : ∃ x, ks[k] = x := ⟨_, rfl⟩
      rw [hkn] at q1
      subst hA hB
      obtain ⟨Al, cl, rfl⟩ := hbn.slice
      have q2 := (HI.out.below.cell (p := ⟨b2, o2 + k, none⟩) (by have := cell_lt q2w; rw [HG.out.2.1] at this; exact this)).trans q2w
      obtain ⟨sf, hsf⟩ : ∃ x, Wal.fileB LOG kn = x := ⟨_, rfl⟩
      have hsl : sf.length ≤ 4096 := by
        rw [← hsf]
        unfold Wal.fileB
        split
        · simp
        · have := digits_length kn.toNat 8 (by omega)
          simp [LOG]; omega
      have hF := rfile_any LOG (by decide) kn wr
      rw [hsf] at hF
      obtain ⟨ll, hll⟩ : ∃ x, l.length = x := ⟨_, rfl⟩
      rw [hll] at hlm hbn q2 q2w
      have HK := Lib.hid (And.intro hF (And.intro hbn hll)); clear hF hbn hll hcell hcell2 hv hl hsf hkn hkl hkv hkls
      go_wp2_with fail
      refine HK.out.1.mono ?_
      rintro e w3 ⟨rfl, hB3⟩
      have hO3 : OpS N bd rd w D Nn lv es w3 := ⟨HI.out.disk.below hB3, HI.out.rdisk.below hB3, HI.out.agree, HI.out.run, HI.out.room, HI.out.below.trans (hB3.mono HI.out.size), Nat.le_trans HI.out.size hB3.size⟩
      have hbn3 : Bn N w3 (.slice Al ll cl) l := HK.out.2.1.turn (T := []) (n := N) (Turn.of_below hB3) (by simp)
      have q23 := (hB3.cell (cell_lt q2)).trans q2
      have hcl : ll ≤ cl := by
        obtain ⟨A', c', h1, h2, _⟩ := hbn3
        injection h1 with _ _ h1
        have := HK.out.2.2
        omega
      have hb2N : b2 < N := by have := cell_lt q2w; rw [HG.out.2.1] at this; exact this
      have hC1 := append_c N bd D sf (by omega) l Al cl ll HK.out.2.2.symm hlm w3.drew hO3.disk.drew (fun W hW => by
        have hb' : Bn N w3.drew (.slice Al ll cl) l := hbn3
        exact (hb'.turn hW (by simp)).rd) hcl
      obtain ⟨Dr, hDr⟩ : ∃ x, D.append sf l = x := ⟨_, rfl⟩
      obtain ⟨hag1, hag2⟩ := hO3.agree.append hO3.good.1.nd hO3.run.plan hO3.run.up sf l
      have hrun2 := hO3.run.app sf l
      have hroom2 : (D.append sf l).1.room = 1073741824 := by rw [append_room]; exact hO3.room
      rw [hDr] at hC1 hag1 hag2 hrun2 hroom2
      obtain ⟨Dn, cd⟩ := Dr
      simp only at hC1 hag1 hag2 hrun2 hroom2
      have H3 := Lib.hid (And.intro hO3 (And.intro hbn3 (And.intro hC1 (And.intro hag1 (And.intro hag2 (And.intro hrun2 hroom2)))))); clear hO3 hbn3 hB3 hC1 hag1 hag2 hrun2 hroom2 hDr
      have hcc : (cd == cd) = true := by simp
      have hcc' : (cd != cd) = false := by simp
      go_wp2_with fail
      go_region_held3 (fun W => W.cell? ⟨b2, o2 + k, none⟩ = some (.slice Al ll cl)) (first | assumption | go_keep)
        (first
          | (go_at_call 22; refine H3.out.2.2.1.mono ?_; rintro e w4 ⟨rfl, hD4, hT4⟩
             have hB4 : Below N w3 w4 := by
               have h := hT4.below (show N ≤ w3.drew.heap.size from H3.out.1.size)
               exact ⟨h.os, h.tape, h.output, h.size, h.block⟩
             have q24 := (hB4.cell (p := ⟨b2, o2 + k, none⟩) hb2N).trans q23
             have hX4 : RdX N w4 rd 1073741824 Nn lv es := H3.out.1.rdisk.keeps fun b o hb ht => hT4.block b o hb (.inr (by rcases ht with ht | ht | ht <;> rw [ht] <;> simp))
             have hbn4 : Bn N w4 (.slice Al ll cl) l := by
               have hb' : Bn N w3.drew (.slice Al ll cl) l := H3.out.2.1
               exact hb'.turn hT4 (by simp)
             have H4 := Lib.hid (And.intro hD4 (And.intro hB4 (And.intro hX4 hbn4))); clear hD4 hB4 hX4 hbn4 hT4)
          | (go_at_call 23; refine (rapp_c N rd 1073741824 Nn (by decide) lv es H3.out.1.good.2.1 H3.out.1.good.2.2.1 H3.out.1.agree.2 sf (by omega) l (by rw [HK.out.2.2]; exact hlm) (.slice Al ll cl) w4 H4.out.2.2.1 H4.out.2.2.2 (Nat.le_trans H3.out.1.size H4.out.2.1.size)).mono ?_
             rintro e w5 ⟨rfl, hX5, hT5⟩
             have hcd : (rappM 1073741824 (es.map (·.1)) sf l).2 = cd := by have := H3.out.2.2.2.1; rw [H3.out.1.room] at this; exact this
             rw [hcd]
             have q25 := ((hT5.below (Nat.le_trans H3.out.1.size H4.out.2.1.size)).cell (p := ⟨b2, o2 + k, none⟩) hb2N).trans q24
             have H5 := Lib.hid (And.intro hX5 hT5); clear hX5 hT5 hcd))
      go_wp2_with fail
      obtain ⟨⟨N5, lv5, es5, hX5, he5⟩, hT5⟩ := H5.out
      have hag5 : Agree Dn (es5.map (·.1)) := by
        rw [he5]
        have := H3.out.2.2.2.2.1
        rw [H3.out.1.room] at this
        exact this
      refine ⟨⟨k + 1, Dn, N5, lv5, es5, by omega, by omega, rfl, Lib.hid ⟨?_, hX5, hag5, H3.out.2.2.2.2.2.1, H3.out.2.2.2.2.2.2, ?_, ?_⟩⟩, by simp [intOf]; omega⟩
      · exact H4.out.1.keeps (Keeps8.of_turn hT5 (by simp) (by simp) (by simp) (by simp))
      · exact (H3.out.1.below.trans H4.out.2.1).trans (hT5.below (Nat.le_trans H3.out.1.size H4.out.2.1.size))
      · exact Nat.le_trans (Nat.le_trans H3.out.1.size H4.out.2.1.size) hT5.size
    · by_cases h1 : k < n
      · have hd1 : decide ((k : Int) < (n : Int)) = true := by simpa using h1
        have hd2 : decide ((k : Int) < (m : Int)) = false := by simp; omega
        have hcs := conv1
        have hbx : Bs 5 (wr.alloc (.cells #[.int .u8 120] 5 (1, 2))) (.slice (some ⟨wr.heap.size, 0, none⟩) 1 1) [120] := ⟨_, 1, rfl, Nat.le_refl _, by simp [maxLen], .inr ⟨_, 0, _, _, rfl, heap_alloc_new wr _, fun j hj => by
          obtain rfl : j = 0 := by simpa using hj
          rfl⟩⟩
        have hBa := bnew wr (.cells #[.int .u8 120] 5 (1, 2))
        have hOa : OpS N bd rd w D Nn lv es (wr.alloc (.cells #[.int .u8 120] 5 (1, 2))) := ⟨HI.out.disk.below hBa, HI.out.rdisk.below hBa, HI.out.agree, HI.out.run, HI.out.room, HI.out.below.trans (hBa.mono HI.out.size), Nat.le_trans HI.out.size hBa.size⟩
        have hC1 := append_c N bd D OTHER (by decide) [120] (some ⟨wr.heap.size, 0, none⟩) 1 1 rfl (by decide) _ hOa.disk (fun W hW => (hbx.turn hW (by simp)).toR.rd_of) (Nat.le_refl _)
        obtain ⟨Dr, hDr⟩ : ∃ x, D.append OTHER [120] = x := ⟨_, rfl⟩
        obtain ⟨hag1, hag2⟩ := hOa.agree.append hOa.good.1.nd hOa.run.plan hOa.run.up OTHER [120]
        have hrun2 := hOa.run.app OTHER [120]
        have hroom2 : (D.append OTHER [120]).1.room = 1073741824 := by rw [append_room]; exact hOa.room
        rw [hDr] at hC1 hag1 hag2 hrun2 hroom2
        obtain ⟨Dn, cd⟩ := Dr
        simp only at hC1 hag1 hag2 hrun2 hroom2
        rw [hOa.room] at hag2
        have HT := Lib.hid (And.intro hOa (And.intro hC1 (And.intro hag2 (And.intro hrun2 hroom2)))); clear hbx hBa hOa hC1 hag1 hag2 hrun2 hroom2 hDr
        go_wp2_with fail
        refine HT.out.2.1.mono ?_
        rintro e w4 ⟨rfl, hD4, hT4⟩
        have hB4 := hT4.below HT.out.1.size
        have hX4 : RdX N w4 rd 1073741824 Nn lv es := HT.out.1.rdisk.keeps fun b o hb ht => hT4.block b o hb (.inr (by rcases ht with ht | ht | ht <;> rw [ht] <;> simp))
        have hs4 := Nat.le_trans HT.out.1.size hB4.size
        have hBb := bnew w4 (.cells #[.int .u8 120] 5 (1, 2))
        have hbx4 : Bs 5 (w4.alloc (.cells #[.int .u8 120] 5 (1, 2))) (.slice (some ⟨w4.heap.size, 0, none⟩) 1 1) [120] := ⟨_, 1, rfl, Nat.le_refl _, by simp [maxLen], .inr ⟨_, 0, _, _, rfl, heap_alloc_new w4 _, fun j hj => by
          obtain rfl : j = 0 := by simpa using hj
          rfl⟩⟩
        have hC2 := rapp_c N rd 1073741824 Nn (by decide) lv es HT.out.1.good.2.1 HT.out.1.good.2.2.1 HT.out.1.agree.2 OTHER (by decide) [120] (by decide) (.slice (some ⟨w4.heap.size, 0, none⟩) 1 1) _ (hX4.below hBb) (hbx4.bn N) (Nat.le_trans hs4 hBb.size)
        have H4 := Lib.hid (And.intro (hD4.below hBb) (And.intro ((HT.out.1.below.trans hB4).trans (hBb.mono hs4)) (And.intro (Nat.le_trans hs4 hBb.size) hC2))); clear hD4 hT4 hB4 hX4 hs4 hBb hbx4 hC2
        go_wp2_with fail
        refine H4.out.2.2.2.mono ?_
        rintro e w5 ⟨rfl, ⟨N5, lv5, es5, hX5, he5⟩, hT5⟩
        have hO5 : OpS N bd rd w Dn N5 lv5 es5 w5 := ⟨H4.out.1.keeps (Keeps8.of_turn hT5 (by simp) (by simp) (by simp) (by simp)), hX5, by rw [he5]; exact HT.out.2.2.1, HT.out.2.2.2.1, HT.out.2.2.2.2, H4.out.2.1.trans (hT5.below H4.out.2.2.1), Nat.le_trans H4.out.2.2.1 hT5.size⟩
        have hO := open_x N bd Dn LOG 10 (by decide) w5 hO5.disk (HG.out.1.below hO5.below) hO5.size
        have H5 := Lib.hid (And.intro hO5 hO); clear hX5 he5 hT5 hO5 hO
        go_wp2_with fail
        refine H5.out.2.mono ?_
        rintro e w6 hP6
        unfold OpenPost2 at hP6
        obtain ⟨hP6, hD6, hT6⟩ := hP6
        have hB6 : Below N w5 w6 := hT6.below H5.out.1.size H5.out.1.size
        have hX6 : RdX N w6 rd 1073741824 N5 lv5 es5 := H5.out.1.rdisk.keeps fun b o hb ht => hT6.block b o hb (by
          rcases ht with ht | ht | ht <;> rw [ht] <;> exact ⟨.inr (by simp), .inr (by simp)⟩)
        have hs6 := Nat.le_trans H5.out.1.size hB6.size
        have hRO := ropen_c N rd 1073741824 N5 lv5 es5 Dn H5.out.1.good.1 H5.out.1.agree H5.out.1.good.2.2.2 LOG (by decide) 10 w6 hX6
        have hrunO := H5.out.1.run.opened LOG 10
        have hsmO : ∀ G, (openM Dn LOG 10).2.1 = some G → SmallR G.recs := fun G h => H5.out.1.good.1.small.opened h
        obtain ⟨RO, hROe⟩ : ∃ x, openM Dn LOG 10 = x := ⟨_, rfl⟩
        rw [hROe] at hP6 hD6 hRO hrunO hsmO
        obtain ⟨DO, GO, cO⟩ := RO
        have H6 := Lib.hid (And.intro hD6 (And.intro hRO (And.intro hrunO (And.intro hsmO (And.intro hs6 (H5.out.1.below.trans hB6)))))); clear hD6 hT6 hB6 hX6 hs6 hRO hrunO hsmO hROe
        cases GO with
        | none =>
          simp only at hP6
          subst hP6
          go_wp2_with fail
          refine H6.out.2.1.mono ?_
          rintro e w7 hP7
          unfold ROpenPost at hP7
          simp only at hP7
          obtain ⟨rfl, ⟨N7, lv7, es7, hX7, hl7, hA7⟩, hT7⟩ := hP7
          have hD7 := H6.out.1.keeps (Keeps8.of_turn hT7 (by simp [TRf]) (by simp [TRf]) (by simp [TRf]) (by simp [TRf]))
          have hB7 : Below N w w7 := H6.out.2.2.2.2.2.trans (hT7.below H6.out.2.2.2.2.1)
          have hs7 : N ≤ w7.heap.size := Nat.le_trans H6.out.2.2.2.2.1 hT7.size
          have hLI := list_c N bd DO w7 hD7
          rw [H6.out.2.2.1.up] at hLI
          simp only [Bool.false_eq_true, if_false] at hLI
          have H7 := Lib.hid (And.intro hLI (And.intro hX7 (And.intro hA7 (And.intro hB7 hs7)))); clear hLI hX7 hA7 hB7 hs7 hT7 hD7
          have hcc : (cO == cO) = true := by simp
          have hcc' : (cO != cO) = false := by simp
          go_wp2_with fail
          refine H7.out.1.mono ?_
          rintro e w8 ⟨v8, rfl, hown8, hB8⟩
          obtain ⟨A8, c8, rfl, -, -, -⟩ := own_slice hown8
          have hX8 := H7.out.2.1.below hB8
          have hRL := rlist_c N rd 1073741824 N7 lv7 es7 (by omega) w8 hX8
          have hdl : DO.names.length = es7.length := by rw [← H7.out.2.2.1.names, List.length_map, List.length_map]
          have H8 := Lib.hid (And.intro hown8 (And.intro hB8 (And.intro hRL hdl))); clear hown8 hB8 hX8 hRL hdl
          go_wp2_with fail
          refine H8.out.2.2.1.mono ?_
          rintro e w9 ⟨v9, rfl, hown9, hB9⟩
          obtain ⟨A9, c9, rfl, -, -, -⟩ := own_slice hown9
          have en1 : DO.names.map encStr = strsV DO.names := rfl
          have en2 : rfNames es7 = strsV DO.names := by rw [← H7.out.2.2.1.names]; simp [rfNames, strsV]
          have hr8 : Rd 0 w9 A8 (strsV DO.names) := ((Rd.of_own H8.out.1).mono (Nat.zero_le _)).below hB9
          have hr9 : Rd 0 w9 A9 (strsV DO.names) := by rw [← en2]; exact (Rd.of_own hown9).mono (Nat.zero_le _)
          have hNM := lnames_c A8 A9 DO.names.length c8 c9 DO.names rfl (by rw [H8.out.2.2.2]; omega) w9 hr8 hr9
          rw [H8.out.2.2.2] at hNM
          rw [H8.out.2.2.2]
          have H9 := Lib.hid (And.intro hNM ((H8.out.2.1.trans (hB9.mono H8.out.2.1.size)))); clear hNM hown9 hB9 hr8 hr9 en1 en2
          go_wp2_with fail
          refine H9.out.1.mono ?_
          rintro e w10 ⟨rfl, q, hw10⟩
          have hB10 : Below w7.heap.size w7 w10 := by rw [hw10]; exact bdrewN' H9.out.2 q
          clear hw10
          have hgl : Glob w10.heap.size w10 := (HG.out.1.below (H7.out.2.2.2.1.trans (hB10.mono H7.out.2.2.2.2))).mono (Nat.le_trans H7.out.2.2.2.2 hB10.size)
          have H10 := Lib.hid (And.intro hB10 hgl); clear hB10 hgl
          go_wp2_with fail
          refine (alive_c w10 H10.out.2).mono ?_
          rintro e w11 ⟨rfl, hB11⟩
          have H11 := Lib.hid (H10.out.1.trans (hB11.mono H10.out.1.size)); clear hB11
          go_wp2_with fail
          go_ret
          exact ⟨rfl, H7.out.2.2.2.1.trans (H11.out.mono H7.out.2.2.2.2)⟩

        | some GL =>
          simp only at hP6
          obtain ⟨bl, rfl, hbl, hL6⟩ := hP6
          have HL6 := Lib.hid hL6; clear hL6
          go_wp2_with fail
          refine H6.out.2.1.mono ?_
          rintro e w7 hP7
          unfold ROpenPost at hP7
          simp only at hP7
          obtain ⟨⟨gg, rfl, hRG7⟩, ⟨N7, lv7, es7, hX7, hl7, hA7⟩, hT7⟩ := hP7
          have hD7 := H6.out.1.keeps (Keeps8.of_turn hT7 (by simp [TRf]) (by simp [TRf]) (by simp [TRf]) (by simp [TRf]))
          have hB7 : Below N w w7 := H6.out.2.2.2.2.2.trans (hT7.below H6.out.2.2.2.2.1)
          have hs7 : N ≤ w7.heap.size := Nat.le_trans H6.out.2.2.2.2.1 hT7.size
          have hLI := list_c N bd DO w7 hD7
          rw [H6.out.2.2.1.up] at hLI
          simp only [Bool.false_eq_true, if_false] at hLI
          have HLL := Lib.hid (And.intro (HL6.out.keeps (KeepsL.of_turn hT7 (by simp [TRf]) (by simp [TRf]) (by simp [TRf]) (by simp [TRf]))) (And.intro hRG7 (H6.out.2.2.2.1 GL rfl))); clear hRG7
          have H7 := Lib.hid (And.intro hLI (And.intro hX7 (And.intro hA7 (And.intro hB7 hs7)))); clear hLI hX7 hA7 hB7 hs7 hT7 hD7
          have hcc : (cO == cO) = true := by simp
          have hcc' : (cO != cO) = false := by simp
          go_wp2_with fail
          refine H7.out.1.mono ?_
          rintro e w8 ⟨v8, rfl, hown8, hB8⟩
          obtain ⟨A8, c8, rfl, -, -, -⟩ := own_slice hown8
          have hX8 := H7.out.2.1.below hB8
          have hRL := rlist_c N rd 1073741824 N7 lv7 es7 (by omega) w8 hX8
          have hdl : DO.names.length = es7.length := by rw [← H7.out.2.2.1.names, List.length_map, List.length_map]
          have H8 := Lib.hid (And.intro hown8 (And.intro hB8 (And.intro hRL hdl))); clear hown8 hB8 hX8 hRL hdl
          go_wp2_with fail
          refine H8.out.2.2.1.mono ?_
          rintro e w9 ⟨v9, rfl, hown9, hB9⟩
          obtain ⟨A9, c9, rfl, -, -, -⟩ := own_slice hown9
          have en1 : DO.names.map encStr = strsV DO.names := rfl
          have en2 : rfNames es7 = strsV DO.names := by rw [← H7.out.2.2.1.names]; simp [rfNames, strsV]
          have hr8 : Rd 0 w9 A8 (strsV DO.names) := ((Rd.of_own H8.out.1).mono (Nat.zero_le _)).below hB9
          have hr9 : Rd 0 w9 A9 (strsV DO.names) := by rw [← en2]; exact (Rd.of_own hown9).mono (Nat.zero_le _)
          have hNM := lnames_c A8 A9 DO.names.length c8 c9 DO.names rfl (by rw [H8.out.2.2.2]; omega) w9 hr8 hr9
          rw [H8.out.2.2.2] at hNM
          rw [H8.out.2.2.2]
          have H9 := Lib.hid (And.intro hNM ((H8.out.2.1.trans (hB9.mono H8.out.2.1.size)))); clear hNM hown9 hB9 hr8 hr9 en1 en2
          go_wp2_with fail
          refine H9.out.1.mono ?_
          rintro e w10 ⟨rfl, q, hw10⟩
          have hB10 : Below w7.heap.size w7 w10 := by rw [hw10]; exact bdrewN' H9.out.2 q
          clear hw10
          have hgl : Glob w10.heap.size w10 := (HG.out.1.below (H7.out.2.2.2.1.trans (hB10.mono H7.out.2.2.2.2))).mono (Nat.le_trans H7.out.2.2.2.2 hB10.size)
          have H10 := Lib.hid (And.intro hB10 hgl); clear hB10 hgl
          go_wp2_with fail
          refine (alive_c w10 H10.out.2).mono ?_
          rintro e w11 ⟨rfl, hB11⟩
          have H11 := Lib.hid (H10.out.1.trans (hB11.mono H10.out.1.size)); clear hB11
          go_wp2_with fail
          refine (lsame_c _ bl bd _ gg GL (fun l hl => by have := HLL.out.2.2 l hl; omega) w11 (HLL.out.1.below H11.out) (HLL.out.2.1.below H11.out)).mono ?_
          rintro e w12 ⟨rfl, hB12⟩
          have H12 := Lib.hid (H11.out.trans (hB12.mono H11.out.size)); clear hB12
          go_wp2_with fail
          go_ret
          exact ⟨rfl, H7.out.2.2.2.1.trans (H12.out.mono H7.out.2.2.2.2)⟩
      · have hd1 : decide ((k : Int) < (n : Int)) = false := by simpa using h1
        have hcs := conv1
        have hbx : Bs 5 (wr.alloc (.cells #[.int .u8 120] 5 (1, 2))) (.slice (some ⟨wr.heap.size, 0, none⟩) 1 1) [120] := ⟨_, 1, rfl, Nat.le_refl _, by simp [maxLen], .inr ⟨_, 0, _, _, rfl, heap_alloc_new wr _, fun j hj => by
          obtain rfl : j = 0 := by simpa using hj
          rfl⟩⟩
        have hBa := bnew wr (.cells #[.int .u8 120] 5 (1, 2))
        have hOa : OpS N bd rd w D Nn lv es (wr.alloc (.cells #[.int .u8 120] 5 (1, 2))) := ⟨HI.out.disk.below hBa, HI.out.rdisk.below hBa, HI.out.agree, HI.out.run, HI.out.room, HI.out.below.trans (hBa.mono HI.out.size), Nat.le_trans HI.out.size hBa.size⟩
        have hC1 := append_c N bd D OTHER (by decide) [120] (some ⟨wr.heap.size, 0, none⟩) 1 1 rfl (by decide) _ hOa.disk (fun W hW => (hbx.turn hW (by simp)).toR.rd_of) (Nat.le_refl _)
        obtain ⟨Dr, hDr⟩ : ∃ x, D.append OTHER [120] = x := ⟨_, rfl⟩
        obtain ⟨hag1, hag2⟩ := hOa.agree.append hOa.good.1.nd hOa.run.plan hOa.run.up OTHER [120]
        have hrun2 := hOa.run.app OTHER [120]
        have hroom2 : (D.append OTHER [120]).1.room = 1073741824 := by rw [append_room]; exact hOa.room
        rw [hDr] at hC1 hag1 hag2 hrun2 hroom2
        obtain ⟨Dn, cd⟩ := Dr
        simp only at hC1 hag1 hag2 hrun2 hroom2
        rw [hOa.room] at hag2
        have HT := Lib.hid (And.intro hOa (And.intro hC1 (And.intro hag2 (And.intro hrun2 hroom2)))); clear hbx hBa hOa hC1 hag1 hag2 hrun2 hroom2 hDr
        go_wp2_with fail
        refine HT.out.2.1.mono ?_
        rintro e w4 ⟨rfl, hD4, hT4⟩
        have hB4 := hT4.below HT.out.1.size
        have hX4 : RdX N w4 rd 1073741824 Nn lv es := HT.out.1.rdisk.keeps fun b o hb ht => hT4.block b o hb (.inr (by rcases ht with ht | ht | ht <;> rw [ht] <;> simp))
        have hs4 := Nat.le_trans HT.out.1.size hB4.size
        have hBb := bnew w4 (.cells #[.int .u8 120] 5 (1, 2))
        have hbx4 : Bs 5 (w4.alloc (.cells #[.int .u8 120] 5 (1, 2))) (.slice (some ⟨w4.heap.size, 0, none⟩) 1 1) [120] := ⟨_, 1, rfl, Nat.le_refl _, by simp [maxLen], .inr ⟨_, 0, _, _, rfl, heap_alloc_new w4 _, fun j hj => by
          obtain rfl : j = 0 := by simpa using hj
          rfl⟩⟩
        have hC2 := rapp_c N rd 1073741824 Nn (by decide) lv es HT.out.1.good.2.1 HT.out.1.good.2.2.1 HT.out.1.agree.2 OTHER (by decide) [120] (by decide) (.slice (some ⟨w4.heap.size, 0, none⟩) 1 1) _ (hX4.below hBb) (hbx4.bn N) (Nat.le_trans hs4 hBb.size)
        have H4 := Lib.hid (And.intro (hD4.below hBb) (And.intro ((HT.out.1.below.trans hB4).trans (hBb.mono hs4)) (And.intro (Nat.le_trans hs4 hBb.size) hC2))); clear hD4 hT4 hB4 hX4 hs4 hBb hbx4 hC2
        go_wp2_with fail
        refine H4.out.2.2.2.mono ?_
        rintro e w5 ⟨rfl, ⟨N5, lv5, es5, hX5, he5⟩, hT5⟩
        have hO5 : OpS N bd rd w Dn N5 lv5 es5 w5 := ⟨H4.out.1.keeps (Keeps8.of_turn hT5 (by simp) (by simp) (by simp) (by simp)), hX5, by rw [he5]; exact HT.out.2.2.1, HT.out.2.2.2.1, HT.out.2.2.2.2, H4.out.2.1.trans (hT5.below H4.out.2.2.1), Nat.le_trans H4.out.2.2.1 hT5.size⟩
        have hO := open_x N bd Dn LOG 10 (by decide) w5 hO5.disk (HG.out.1.below hO5.below) hO5.size
        have H5 := Lib.hid (And.intro hO5 hO); clear hX5 he5 hT5 hO5 hO
        go_wp2_with fail
        refine H5.out.2.mono ?_
        rintro e w6 hP6
        unfold OpenPost2 at hP6
        obtain ⟨hP6, hD6, hT6⟩ := hP6
        have hB6 : Below N w5 w6 := hT6.below H5.out.1.size H5.out.1.size
        have hX6 : RdX N w6 rd 1073741824 N5 lv5 es5 := H5.out.1.rdisk.keeps fun b o hb ht => hT6.block b o hb (by
          rcases ht with ht | ht | ht <;> rw [ht] <;> exact ⟨.inr (by simp), .inr (by simp)⟩)
        have hs6 := Nat.le_trans H5.out.1.size hB6.size
        have hRO := ropen_c N rd 1073741824 N5 lv5 es5 Dn H5.out.1.good.1 H5.out.1.agree H5.out.1.good.2.2.2 LOG (by decide) 10 w6 hX6
        have hrunO := H5.out.1.run.opened LOG 10
        have hsmO : ∀ G, (openM Dn LOG 10).2.1 = some G → SmallR G.recs := fun G h => H5.out.1.good.1.small.opened h
        obtain ⟨RO, hROe⟩ : ∃ x, openM Dn LOG 10 = x := ⟨_, rfl⟩
        rw [hROe] at hP6 hD6 hRO hrunO hsmO
        obtain ⟨DO, GO, cO⟩ := RO
        have H6 := Lib.hid (And.intro hD6 (And.intro hRO (And.intro hrunO (And.intro hsmO (And.intro hs6 (H5.out.1.below.trans hB6)))))); clear hD6 hT6 hB6 hX6 hs6 hRO hrunO hsmO hROe
        cases GO with
        | none =>
          simp only at hP6
          subst hP6
          go_wp2_with fail
          refine H6.out.2.1.mono ?_
          rintro e w7 hP7
          unfold ROpenPost at hP7
          simp only at hP7
          obtain ⟨rfl, ⟨N7, lv7, es7, hX7, hl7, hA7⟩, hT7⟩ := hP7
          have hD7 := H6.out.1.keeps (Keeps8.of_turn hT7 (by simp [TRf]) (by simp [TRf]) (by simp [TRf]) (by simp [TRf]))
          have hB7 : Below N w w7 := H6.out.2.2.2.2.2.trans (hT7.below H6.out.2.2.2.2.1)
          have hs7 : N ≤ w7.heap.size := Nat.le_trans H6.out.2.2.2.2.1 hT7.size
          have hLI := list_c N bd DO w7 hD7
          rw [H6.out.2.2.1.up] at hLI
          simp only [Bool.false_eq_true, if_false] at hLI
          have H7 := Lib.hid (And.intro hLI (And.intro hX7 (And.intro hA7 (And.intro hB7 hs7)))); clear hLI hX7 hA7 hB7 hs7 hT7 hD7
          have hcc : (cO == cO) = true := by simp
          have hcc' : (cO != cO) = false := by simp
          go_wp2_with fail
          refine H7.out.1.mono ?_
          rintro e w8 ⟨v8, rfl, hown8, hB8⟩
          obtain ⟨A8, c8, rfl, -, -, -⟩ := own_slice hown8
          have hX8 := H7.out.2.1.below hB8
          have hRL := rlist_c N rd 1073741824 N7 lv7 es7 (by omega) w8 hX8
          have hdl : DO.names.length = es7.length := by rw [← H7.out.2.2.1.names, List.length_map, List.length_map]
          have H8 := Lib.hid (And.intro hown8 (And.intro hB8 (And.intro hRL hdl))); clear hown8 hB8 hX8 hRL hdl
          go_wp2_with fail
          refine H8.out.2.2.1.mono ?_
          rintro e w9 ⟨v9, rfl, hown9, hB9⟩
          obtain ⟨A9, c9, rfl, -, -, -⟩ := own_slice hown9
          have en1 : DO.names.map encStr = strsV DO.names := rfl
          have en2 : rfNames es7 = strsV DO.names := by rw [← H7.out.2.2.1.names]; simp [rfNames, strsV]
          have hr8 : Rd 0 w9 A8 (strsV DO.names) := ((Rd.of_own H8.out.1).mono (Nat.zero_le _)).below hB9
          have hr9 : Rd 0 w9 A9 (strsV DO.names) := by rw [← en2]; exact (Rd.of_own hown9).mono (Nat.zero_le _)
          have hNM := lnames_c A8 A9 DO.names.length c8 c9 DO.names rfl (by rw [H8.out.2.2.2]; omega) w9 hr8 hr9
          rw [H8.out.2.2.2] at hNM
          rw [H8.out.2.2.2]
          have H9 := Lib.hid (And.intro hNM ((H8.out.2.1.trans (hB9.mono H8.out.2.1.size)))); clear hNM hown9 hB9 hr8 hr9 en1 en2
          go_wp2_with fail
          refine H9.out.1.mono ?_
          rintro e w10 ⟨rfl, q, hw10⟩
          have hB10 : Below w7.heap.size w7 w10 := by rw [hw10]; exact bdrewN' H9.out.2 q
          clear hw10
          have hgl : Glob w10.heap.size w10 := (HG.out.1.below (H7.out.2.2.2.1.trans (hB10.mono H7.out.2.2.2.2))).mono (Nat.le_trans H7.out.2.2.2.2 hB10.size)
          have H10 := Lib.hid (And.intro hB10 hgl); clear hB10 hgl
          go_wp2_with fail
          refine (alive_c w10 H10.out.2).mono ?_
          rintro e w11 ⟨rfl, hB11⟩
          have H11 := Lib.hid (H10.out.1.trans (hB11.mono H10.out.1.size)); clear hB11
          go_wp2_with fail
          go_ret
          exact ⟨rfl, H7.out.2.2.2.1.trans (H11.out.mono H7.out.2.2.2.2)⟩

        | some GL =>
          simp only at hP6
          obtain ⟨bl, rfl, hbl, hL6⟩ := hP6
          have HL6 := Lib.hid hL6; clear hL6
          go_wp2_with fail
          refine H6.out.2.1.mono ?_
          rintro e w7 hP7
          unfold ROpenPost at hP7
          simp only at hP7
          obtain ⟨⟨gg, rfl, hRG7⟩, ⟨N7, lv7, es7, hX7, hl7, hA7⟩, hT7⟩ := hP7
          have hD7 := H6.out.1.keeps (Keeps8.of_turn hT7 (by simp [TRf]) (by simp [TRf]) (by simp [TRf]) (by simp [TRf]))
          have hB7 : Below N w w7 := H6.out.2.2.2.2.2.trans (hT7.below H6.out.2.2.2.2.1)
          have hs7 : N ≤ w7.heap.size := Nat.le_trans H6.out.2.2.2.2.1 hT7.size
          have hLI := list_c N bd DO w7 hD7
          rw [H6.out.2.2.1.up] at hLI
          simp only [Bool.false_eq_true, if_false] at hLI
          have HLL := Lib.hid (And.intro (HL6.out.keeps (KeepsL.of_turn hT7 (by simp [TRf]) (by simp [TRf]) (by simp [TRf]) (by simp [TRf]))) (And.intro hRG7 (H6.out.2.2.2.1 GL rfl))); clear hRG7
          have H7 := Lib.hid (And.intro hLI (And.intro hX7 (And.intro hA7 (And.intro hB7 hs7)))); clear hLI hX7 hA7 hB7 hs7 hT7 hD7
          have hcc : (cO == cO) = true := by simp
          have hcc' : (cO != cO) = false := by simp
          go_wp2_with fail
          refine H7.out.1.mono ?_
          rintro e w8 ⟨v8, rfl, hown8, hB8⟩
          obtain ⟨A8, c8, rfl, -, -, -⟩ := own_slice hown8
          have hX8 := H7.out.2.1.below hB8
          have hRL := rlist_c N rd 1073741824 N7 lv7 es7 (by omega) w8 hX8
          have hdl : DO.names.length = es7.length := by rw [← H7.out.2.2.1.names, List.length_map, List.length_map]
          have H8 := Lib.hid (And.intro hown8 (And.intro hB8 (And.intro hRL hdl))); clear hown8 hB8 hX8 hRL hdl
          go_wp2_with fail
          refine H8.out.2.2.1.mono ?_
          rintro e w9 ⟨v9, rfl, hown9, hB9⟩
          obtain ⟨A9, c9, rfl, -, -, -⟩ := own_slice hown9
          have en1 : DO.names.map encStr = strsV DO.names := rfl
          have en2 : rfNames es7 = strsV DO.names := by rw [← H7.out.2.2.1.names]; simp [rfNames, strsV]
          have hr8 : Rd 0 w9 A8 (strsV DO.names) := ((Rd.of_own H8.out.1).mono (Nat.zero_le _)).below hB9
          have hr9 : Rd 0 w9 A9 (strsV DO.names) := by rw [← en2]; exact (Rd.of_own hown9).mono (Nat.zero_le _)
          have hNM := lnames_c A8 A9 DO.names.length c8 c9 DO.names rfl (by rw [H8.out.2.2.2]; omega) w9 hr8 hr9
          rw [H8.out.2.2.2] at hNM
          rw [H8.out.2.2.2]
          have H9 := Lib.hid (And.intro hNM ((H8.out.2.1.trans (hB9.mono H8.out.2.1.size)))); clear hNM hown9 hB9 hr8 hr9 en1 en2
          go_wp2_with fail
          refine H9.out.1.mono ?_
          rintro e w10 ⟨rfl, q, hw10⟩
          have hB10 : Below w7.heap.size w7 w10 := by rw [hw10]; exact bdrewN' H9.out.2 q
          clear hw10
          have hgl : Glob w10.heap.size w10 := (HG.out.1.below (H7.out.2.2.2.1.trans (hB10.mono H7.out.2.2.2.2))).mono (Nat.le_trans H7.out.2.2.2.2 hB10.size)
          have H10 := Lib.hid (And.intro hB10 hgl); clear hB10 hgl
          go_wp2_with fail
          refine (alive_c w10 H10.out.2).mono ?_
          rintro e w11 ⟨rfl, hB11⟩
          have H11 := Lib.hid (H10.out.1.trans (hB11.mono H10.out.1.size)); clear hB11
          go_wp2_with fail
          refine (lsame_c _ bl bd _ gg GL (fun l hl => by have := HLL.out.2.2 l hl; omega) w11 (HLL.out.1.below H11.out) (HLL.out.2.1.below H11.out)).mono ?_
          rintro e w12 ⟨rfl, hB12⟩
          have H12 := Lib.hid (H11.out.trans (hB12.mono H11.out.size)); clear hB12
          go_wp2_with fail
          go_ret
          exact ⟨rfl, H7.out.2.2.2.1.trans (H12.out.mono H7.out.2.2.2.2)⟩
end Go.Proofs.YtjpcmgoajdjkgaaGreatDoor
