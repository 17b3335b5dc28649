/- The reference's Open: walked. -/
import Derived.Test.YtjpcmgoajdjkgaaGreatDoorROpW
set_option linter.all false
namespace Go.Proofs.YtjpcmgoajdjkgaaGreatDoor
open Go.RowKit
open Wal (nextB fileB)

set_option maxRecDepth 100000 in
set_option maxHeartbeats 16000000 in
theorem ropen_c (n rd : Nat) (room N : Int) (lv : Value) (es : List (FileM × Value)) (D : DiskM) (hD : GoodD D) (hA : Agree D (es.map (·.1))) (hfn : ∀ x ∈ es, x.1.name.length ≤ 1024)
    (name : List UInt8) (hnm : name.length ≤ 1024) (most : Int) (w : World) (hX : RdX n w rd room N lv es) :
    Calls Tryz.prog 25 #[.pointer (some ⟨rd, 0, none⟩), .string ⟨name.toArray⟩, .int .i64 most] w (ROpenPost n rd room w (openM D name most)) := by
  have hel : es.length ≤ 16 := by have := hA.len; rw [List.length_map] at this; have := hD.few; omega
  have c5 := Joins.cell_of_block hX.at_ 5
  simp at c5
  have hN := rname_c name (by omega) w
  obtain ⟨R, hR⟩ : ∃ R, openM D name most = R := ⟨_, rfl⟩
  rw [hR]
  unfold openM at hR
  rw [hD.run.up] at hR
  obtain ⟨NB, hNB⟩ : ∃ b, Wal.nameB name = b := ⟨_, rfl⟩
  rw [hNB] at hN hR
  have H0 := Lib.hid (And.intro hX (And.intro hA (And.intro hD (And.intro hN hR)))); clear hX hA hD hN hR hNB
  cases NB with
  | false =>
    go_enter Tryz.func25, Tryz.ntmps25
    go_wp2_with fail
    refine H0.out.2.2.2.1.mono ?_
    rintro e w1 ⟨rfl, q, rfl⟩
    go_wp2_with fail
    go_ret2
    have hR := H0.out.2.2.2.2
    simp only [true_or, if_true] at hR
    rw [← hR]
    exact ⟨rfl, ⟨_, _, es, H0.out.1.below (bdrewN w q), hel, H0.out.2.1⟩, Turn.of_below (bdrewN w q)⟩
  | true =>
    by_cases hm : most < 1
    · go_enter Tryz.func25, Tryz.ntmps25
      go_wp2_with fail
      refine H0.out.2.2.2.1.mono ?_
      rintro e w1 ⟨rfl, q, rfl⟩
      go_wp2_with fail
      go_ret2
      have hR := H0.out.2.2.2.2
      rw [if_pos (.inr hm)] at hR
      rw [← hR]
      exact ⟨rfl, ⟨_, _, es, H0.out.1.below (bdrewN w q), hel, H0.out.2.1⟩, Turn.of_below (bdrewN w q)⟩
    · go_enter Tryz.func25, Tryz.ntmps25
      go_wp2_with fail
      refine H0.out.2.2.2.1.mono ?_
      rintro e w1 ⟨rfl, q, hw1⟩
      have hB1 : Below w.heap.size w w1 := by rw [hw1]; exact bdrewN w q
      have c5a := (hB1.cell (cell_lt c5)).trans c5
      clear hw1
      have hL := rlist_c n rd room N lv es (by omega) w1 (H0.out.1.below hB1)
      have H1 := Lib.hid (And.intro hB1 hL); clear hB1 hL
      go_wp2_with fail
      refine H1.out.2.mono ?_
      rintro e w2 ⟨v, rfl, hown2, hB2⟩
      obtain ⟨An, cn, rfl, -, -, -⟩ := own_slice hown2
      have H2 := Lib.hid (And.intro hown2 (H1.out.1.trans (hB2.mono H1.out.1.size))); clear hown2 hB2
      go_wp2_with fail
      go_loopw [8, 10] (fun lvv i W => ∃ (k : Nat) (zs : List Int), k ≤ es.length ∧ i = .int .i64 (k : Int) ∧ Hid (W.ownsRow w2.heap.size 3 1 lvv zs.length (intsV zs) ∧ zs.Pairwise (fun a b => a ≤ b) ∧ zs.Perm (outTo name D.names k)) ∧ Below w2.heap.size w2 W) (fun _ i _ => es.length - (intOf i).toNat)
      case atStart => exact ⟨0, [], by omega, rfl, Lib.hid ⟨World.ownsRow_nil _ _ _ _, List.Pairwise.nil, List.Perm.refl _⟩, Below.refl _ _⟩
      case round =>
        obtain ⟨k, zs, hk, rfl, HZ, hB⟩ := hrel
        by_cases hlt : k < es.length
        · have hkd : decide ((k : Int) < (es.length : Int)) = true := by simpa using hlt
          obtain ⟨b, o, hb, hcell⟩ := (Rd.of_own H2.out.1).addr (by simp [rfNames]; omega)
          have q0 := hcell k (by simp [rfNames]; omega)
          have e0 : (rfNames es)[k]? = some (.string ⟨(es[k].1.name).toArray⟩) := by simp [rfNames, hlt]
          rw [e0] at q0
          obtain ⟨fnm, hfnm⟩ : ∃ x, es[k].1.name = x := ⟨_, rfl⟩
          have hfl := hfn es[k] (List.getElem_mem hlt)
          rw [hfnm] at q0 hfl
          subst hb
          have q1 := (hB.cell (cell_lt q0)).trans q0
          have hW := rwhich_c name fnm hnm hfl wr
          have hsuc : outTo name D.names (k + 1) = outTo name D.names k ++ (numOf name fnm).toList := by
            refine outTo_succ name D.names k fnm ?_
            rw [← H0.out.2.1.names, List.map_map, List.getElem?_map, List.getElem?_eq_getElem hlt]
            simp [hfnm]
          have HW := Lib.hid (And.intro hW (And.intro hsuc hB)); clear hW hsuc hfnm hcell e0 q0 hB
          go_wp2_with fail
          refine HW.out.1.mono ?_
          rintro e w3 ⟨⟨v, bb, rfl, hnum⟩, hB3⟩
          obtain ⟨hZ1, hZ2, hZ3⟩ := HZ.out
          have hlen : zs.length ≤ 16 := by
            have h1 := hZ3.length_eq
            have h2 := outTo_length name D.names k
            have h3 : D.names.length = es.length := by rw [← H0.out.2.1.names, List.length_map, List.length_map]
            omega
          have hZ4 := own_below hZ1 hB3
          obtain ⟨Az, cz, rfl, hcz, -, -⟩ := own_slice hZ1
          have hB4 : Below w2.heap.size w2 w3 := HW.out.2.2.trans (hB3.mono HW.out.2.2.size)
          have H3 := Lib.hid (And.intro hZ4 (And.intro hZ2 (And.intro hZ3 (And.intro hnum hB4)))); clear hZ1 hZ2 hZ3 hZ4 hnum hB3 hB4
          cases bb with
          | false =>
            go_wp2_with fail
            refine ⟨⟨k + 1, zs, by omega, rfl, Lib.hid ⟨H3.out.1, H3.out.2.1, ?_⟩, H3.out.2.2.2.2⟩, by simp [intOf]; omega⟩
            rw [HW.out.2.1, H3.out.2.2.2.1]
            simpa using H3.out.2.2.1
          | true =>
            go_wp2_with fail
            go_loopw [13] (fun jv W => ∃ j : Nat, j ≤ zs.length ∧ jv = .int .i64 (j : Int) ∧ Hid (∀ i (h : i < zs.length), j ≤ i → v < zs[i]) ∧ W = w3) (fun jv _ => (intOf jv).toNat)
            case atStart => exact ⟨zs.length, Nat.le_refl _, rfl, Lib.hid (fun i h h2 => by omega), rfl⟩
            case round =>
              obtain ⟨j, hj, rfl, HJ, rfl⟩ := hrel
              by_cases hj0 : 0 < j
              · have d0 : decide ((0 : Int) < (j : Int)) = true := by simpa using hj0
                obtain ⟨b2, o2, hb2, hcell2⟩ := (Rd.of_own H3.out.1).addr (by simp [intsV]; omega)
                have z0 := hcell2 (j - 1) (by simp [intsV]; omega)
                have hjl : j - 1 < zs.length := by omega
                have e0 : (intsV zs)[j - 1]? = some (.int .i64 zs[j - 1]) := by simp [intsV, hjl]
                rw [e0] at z0
                obtain ⟨zv, hzv⟩ : ∃ x, zs[j - 1] = x := ⟨_, rfl⟩
                rw [hzv] at z0
                subst hb2
                have ej : IntKind.i64.wrap ((j : Int) - 1) = ((j - 1 : Nat) : Int) := by rw [IntWalk.i64_in _ (by omega)]; omega
                by_cases hgt : v < zv
                · have d1 : decide (v < zv) = true := by simpa using hgt
                  have HK := Lib.hid (And.intro hzv hgt); clear hzv e0 hcell2
                  go_wp2_with fail
                  exact ⟨⟨j - 1, by omega, rfl, Lib.hid fun i h hle => by
                    by_cases he : i = j - 1
                    · subst he; rw [HK.out.1]; exact HK.out.2
                    · exact HJ.out i h (by omega), trivial⟩, by simp [intOf]; omega⟩
                · have d1 : decide (v < zv) = false := by simpa using hgt
                  have HK := Lib.hid (And.intro hzv hgt); clear hzv e0 hcell2
                  obtain ⟨iI, hiI, hz0, hz1, hz2⟩ := info_int
                  go_wp2_with fail
                  have HINS := Lib.hid (ins_int (n := v) hj H3.out.2.1 HJ.out (Or.inr ⟨hjl, by rw [HK.out.1]; exact HK.out.2⟩))
                  have hsl := fun w => run_slice_to (P := Tryz.prog) w 34 3 iI 1 Tryz.underlying34 hiI hz1 (some ⟨b2, o2, none⟩) zs.length cz .i64 (j : Int) j rfl (by omega)
                  have hsf := fun w => run_slice_from (P := Tryz.prog) w 34 3 iI 1 Tryz.underlying34 hiI hz1 (some ⟨b2, o2, none⟩) zs.length cz .i64 (j : Int) j rfl (by omega)
                  have hrz : Rd 0 wr (some ⟨b2, o2, none⟩) (intsV zs) := (Rd.of_own H3.out.1).mono (Nat.zero_le _)
                  have hrj : Rd 0 wr (some ⟨b2, o2, none⟩) (intsV (zs.take j)) := by unfold intsV; rw [List.map_take]; exact hrz.take j
                  have hrd : Rd 0 wr (fromAddr 1 (some ⟨b2, o2, none⟩) cz j) (intsV (zs.drop j)) := by
                    have := hrz.from 1 cz j (by simp [intsV]; omega)
                    rw [Nat.mul_one] at this
                    unfold intsV at this ⊢
                    rw [List.map_drop]
                    exact this
                  have hw2 : w2.heap.size ≤ wr.heap.size := H3.out.2.2.2.2.size
                  have HRG := Lib.hid (And.intro hrj hrd); clear hrz hrj hrd
                  clear hiI hz0 hz1 hz2
                  refine wp_region_held_drew (S := (fun _ => True)) (by kernel_rfl) ?_ (fun hHeld => ?_)
                  · (try dsimp only); (try trivial)
                  refine wpAnyH_take (i := 1) (v := ?_) rfl (by kernel_rfl) (by kernel_rfl) (by kernel_rfl) (fun _ _ _ h => h) (Or.inl ⟨by rfl, ?_⟩) hHeld ?_
                  rotate_left
                  · intro w hSw; (try dsimp only at hSw); go_simp; (try with_reducible rfl)
                  (try simp only [Act.put, List.getElem_toArray, List.getElem_cons_succ, List.getElem_cons_zero, List.setIfInBounds_toArray, List.set_cons_zero, List.set_cons_succ])
                  refine wpAnyH_take (i := 2) (v := ?_) rfl (by kernel_rfl) (by kernel_rfl) (by kernel_rfl) (fun _ _ _ h => h) (Or.inl ⟨by rfl, ?_⟩) hHeld ?_
                  rotate_left
                  · intro w hSw; (try dsimp only at hSw); go_simp; (try with_reducible rfl)
                  (try simp only [Act.put, List.getElem_toArray, List.getElem_cons_succ, List.getElem_cons_zero, List.setIfInBounds_toArray, List.set_cons_zero, List.set_cons_succ])
                  refine wpAnyH_take (i := 5) (v := ?_) rfl (by kernel_rfl) (by kernel_rfl) (by kernel_rfl) (fun _ _ _ h => h) (Or.inl ⟨by rfl, ?_⟩) hHeld ?_
                  rotate_left
                  · intro w hSw; (try dsimp only at hSw); go_simp; (try with_reducible rfl)
                  (try simp only [Act.put, List.getElem_toArray, List.getElem_cons_succ, List.getElem_cons_zero, List.setIfInBounds_toArray, List.set_cons_zero, List.set_cons_succ])
                  refine wpAnyH_take (i := 8) (v := ?_) rfl (by kernel_rfl) (by kernel_rfl) (by kernel_rfl) (fun _ _ _ h => h) (Or.inl ⟨by rfl, ?_⟩) hHeld ?_
                  rotate_left
                  · intro w hSw; (try dsimp only at hSw); go_simp; (try with_reducible rfl)
                  (try simp only [Act.put, List.getElem_toArray, List.getElem_cons_succ, List.getElem_cons_zero, List.setIfInBounds_toArray, List.set_cons_zero, List.set_cons_succ])
                  refine wpAnyH_take (i := 9) (v := ?_) rfl (by kernel_rfl) (by kernel_rfl) (by kernel_rfl) (fun _ _ _ h => h) (Or.inl ⟨by rfl, ?_⟩) hHeld ?_
                  rotate_left
                  · intro w hSw; (try dsimp only at hSw); go_simp; (try with_reducible rfl)
                  (try simp only [Act.put, List.getElem_toArray, List.getElem_cons_succ, List.getElem_cons_zero, List.setIfInBounds_toArray, List.set_cons_zero, List.set_cons_succ])
                  refine wpAnyH_take (i := 3) (v := ?_) rfl (by kernel_rfl) (by kernel_rfl) (by kernel_rfl) (fun _ _ _ h => h) (Or.inl ⟨by rfl, ?_⟩) hHeld ?_
                  rotate_left
                  · intro w hSw; (try dsimp only at hSw); go_simp; (try with_reducible rfl)
                  (try simp only [Act.put, List.getElem_toArray, List.getElem_cons_succ, List.getElem_cons_zero, List.setIfInBounds_toArray, List.set_cons_zero, List.set_cons_succ])
                  refine wpAnyH_take (i := 10) (v := ?_) rfl (by kernel_rfl) (by kernel_rfl) (by kernel_rfl) (fun _ _ _ h => h) (Or.inl ⟨by rfl, ?_⟩) hHeld ?_
                  rotate_left
                  · intro w hSw; (try dsimp only at hSw); go_simp; (try with_reducible rfl)
                  (try simp only [Act.put, List.getElem_toArray, List.getElem_cons_succ, List.getElem_cons_zero, List.setIfInBounds_toArray, List.set_cons_zero, List.set_cons_succ])
                  refine wpAnyH_ready (rs := [0, 6]) (by kernel_rfl) (by simp) ?_
                  refine (AllReadyH.cons rfl (fun K hK => ?_) (AllReadyH.cons rfl (fun K hK => ?_) AllReadyH.nil))
                  go_simp
                  refine hK.out _ _ ?_ (fun hHeld2 => ?_)
                  · (try dsimp only); (try trivial)
                  clear hK K hHeld
                  rename _ => hHeld
                  (try simp only [Act.put, List.getElem_toArray, List.getElem_cons_succ, List.getElem_cons_zero, List.setIfInBounds_toArray, List.set_cons_zero, List.set_cons_succ])
                  refine wpAnyH_ready (rs := [4, 6]) (by kernel_rfl) (by simp) ?_
                  refine (AllReadyH.cons rfl (fun K hK => ?_) (AllReadyH.cons rfl (fun K hK => ?_) AllReadyH.nil))
                  refine wp_app_ints _ _ rfl rfl wr.heap.size (.slice (some ⟨_, 0, none⟩) 0 0) [] 0 rfl rfl (own_zero (by first | exact alloc_at _ _ | exact alloc_at0 _ _ _ | exact alloc_at1 _ _ _) (by simp)) (by (try simp); (try omega)) (some ⟨b2, o2, none⟩) j cz (zs.take j) (by rw [List.length_take]; omega) rfl (by first | exact (HRG.out.1.alloc _).drew | exact ((HRG.out.1.alloc _).alloc _).drew) (by simp) (by rw [List.length_take]; omega) ?_
                  intro v4 W4 hown4 hg4 hb4
                  have hBB4 : Below wr.heap.size wr W4 := Below.trans (by first | exact belw_drew (bnew _ _) | exact belw_drew (bnew2 _ _ _)) hb4
                  have hsz4 : wr.heap.size ≤ W4.heap.size := hBB4.size
                  rw [List.nil_append] at hown4
                  (try have hn4 : W4.heap[wr.heap.size + 1]? = some (.cells #[.int .i64 v] 3 (0, 0)) := (hg4.block _ (by (try simp [World.drew]); (try omega)) (by simp [Value.ownBlock])).trans (by first | exact alloc_at _ _ | exact alloc_at0 _ _ _ | exact alloc_at1 _ _ _))
                  (try have hn4 : W4.heap[wr.heap.size]? = some (.cells #[.int .i64 v] 3 (0, 0)) := (hg4.block _ (by (try simp [World.drew]); (try omega)) (by simp [Value.ownBlock])).trans (by first | exact alloc_at _ _ | exact alloc_at0 _ _ _ | exact alloc_at1 _ _ _))
                  clear hg4 hb4
                  refine hK.out _ _ ?_ (fun hHeld2 => ?_)
                  · (try dsimp only); (try trivial)
                  clear hK K hHeld
                  rename _ => hHeld
                  (try simp only [Act.put, List.getElem_toArray, List.getElem_cons_succ, List.getElem_cons_zero, List.setIfInBounds_toArray, List.set_cons_zero, List.set_cons_succ])
                  refine wpAnyH_ready (rs := [6]) (by kernel_rfl) (by simp) ?_
                  refine (AllReadyH.cons rfl (fun K hK => ?_) AllReadyH.nil)
                  go_simp
                  refine hK.out _ _ ?_ (fun hHeld2 => ?_)
                  · (try dsimp only); (try trivial)
                  clear hK K hHeld
                  rename _ => hHeld
                  (try simp only [Act.put, List.getElem_toArray, List.getElem_cons_succ, List.getElem_cons_zero, List.setIfInBounds_toArray, List.set_cons_zero, List.set_cons_succ])
                  refine wpAnyH_ready (rs := [7]) (by kernel_rfl) (by simp) ?_
                  refine (AllReadyH.cons rfl (fun K hK => ?_) AllReadyH.nil)
                  refine wp_app_ints _ _ rfl rfl wr.heap.size _ (zs.take j) (zs.take j).length rfl rfl (by first | exact hown4 | exact own_below hown4 (bnew _ _)) (by first | exact hsz4 | (simp; omega)) _ 1 1 [v] rfl rfl (by first | exact rd_at hn4 | exact rd_new1 _ _ _) (by rw [List.length_take]; omega) (by simp) ?_
                  intro v7 W7 hown7 hg7 hb7
                  have hBB7 : Below wr.heap.size wr W7 := Below.trans (by first | exact hBB4 | exact hBB4.alloc hsz4 _) hb7
                  clear hg7 hb7
                  refine hK.out _ _ ?_ (fun hHeld2 => ?_)
                  · (try dsimp only); (try trivial)
                  clear hK K hHeld
                  rename _ => hHeld
                  (try simp only [Act.put, List.getElem_toArray, List.getElem_cons_succ, List.getElem_cons_zero, List.setIfInBounds_toArray, List.set_cons_zero, List.set_cons_succ])
                  refine wpAnyH_ready (rs := [11]) (by kernel_rfl) (by simp) ?_
                  refine (AllReadyH.cons rfl (fun K hK => ?_) AllReadyH.nil)
                  refine wp_app_ints _ _ rfl rfl wr.heap.size _ (zs.take j ++ [v]) (zs.take j ++ [v]).length rfl rfl hown7 hBB7.size _ (zs.length - j) _ (zs.drop j) (by rw [List.length_drop]; (try omega)) rfl (HRG.out.2.below hBB7) (by simp; (try omega)) (by rw [List.length_drop]; omega) ?_
                  intro v8 W8 hown8 hg8 hb8
                  have HFIN := Lib.hid (And.intro hown8 (hBB7.trans hb8))
                  clear hg8 hb8 hown8
                  refine hK.out _ _ ?_ (fun hHeld2 => ?_)
                  · (try dsimp only); (try trivial)
                  clear hK K hHeld
                  rename _ => hHeld
                  (try simp only [Act.put, List.getElem_toArray, List.getElem_cons_succ, List.getElem_cons_zero, List.setIfInBounds_toArray, List.set_cons_zero, List.set_cons_succ])
                  refine wpAnyH_ready (rs := [12]) (by kernel_rfl) (by simp) ?_
                  refine (AllReadyH.cons rfl (fun K hK => ?_) AllReadyH.nil)
                  go_simp
                  refine hK.out _ _ ?_ (fun hHeld2 => ?_)
                  · (try dsimp only); (try trivial)
                  clear hK K hHeld
                  rename _ => hHeld
                  (try simp only [Act.put, List.getElem_toArray, List.getElem_cons_succ, List.getElem_cons_zero, List.setIfInBounds_toArray, List.set_cons_zero, List.set_cons_succ])
                  refine wpAnyH_done (by kernel_rfl) ?_ _
                  clear hHeld
                  rotate_left 1
                  go_simp
                  refine hK.out _ _ ?_ (fun hHeld2 => ?_)
                  · (try dsimp only); (try trivial)
                  clear hK K hHeld
                  rename _ => hHeld
                  (try simp only [Act.put, List.getElem_toArray, List.getElem_cons_succ, List.getElem_cons_zero, List.setIfInBounds_toArray, List.set_cons_zero, List.set_cons_succ])
                  refine wpAnyH_ready (rs := [4]) (by kernel_rfl) (by simp) ?_
                  refine (AllReadyH.cons rfl (fun K hK => ?_) AllReadyH.nil)
                  refine wp_app_ints _ _ rfl rfl wr.heap.size (.slice (some ⟨_, 0, none⟩) 0 0) [] 0 rfl rfl (own_zero (by first | exact alloc_at _ _ | exact alloc_at0 _ _ _ | exact alloc_at1 _ _ _) (by simp)) (by (try simp); (try omega)) (some ⟨b2, o2, none⟩) j cz (zs.take j) (by rw [List.length_take]; omega) rfl (by first | exact (HRG.out.1.alloc _).drew | exact ((HRG.out.1.alloc _).alloc _).drew) (by simp) (by rw [List.length_take]; omega) ?_
                  intro v4 W4 hown4 hg4 hb4
                  have hBB4 : Below wr.heap.size wr W4 := Below.trans (by first | exact belw_drew (bnew _ _) | exact belw_drew (bnew2 _ _ _)) hb4
                  have hsz4 : wr.heap.size ≤ W4.heap.size := hBB4.size
                  rw [List.nil_append] at hown4
                  (try have hn4 : W4.heap[wr.heap.size + 1]? = some (.cells #[.int .i64 v] 3 (0, 0)) := (hg4.block _ (by (try simp [World.drew]); (try omega)) (by simp [Value.ownBlock])).trans (by first | exact alloc_at _ _ | exact alloc_at0 _ _ _ | exact alloc_at1 _ _ _))
                  (try have hn4 : W4.heap[wr.heap.size]? = some (.cells #[.int .i64 v] 3 (0, 0)) := (hg4.block _ (by (try simp [World.drew]); (try omega)) (by simp [Value.ownBlock])).trans (by first | exact alloc_at _ _ | exact alloc_at0 _ _ _ | exact alloc_at1 _ _ _))
                  clear hg4 hb4
                  refine hK.out _ _ ?_ (fun hHeld2 => ?_)
                  · (try dsimp only); (try trivial)
                  clear hK K hHeld
                  rename _ => hHeld
                  (try simp only [Act.put, List.getElem_toArray, List.getElem_cons_succ, List.getElem_cons_zero, List.setIfInBounds_toArray, List.set_cons_zero, List.set_cons_succ])
                  refine wpAnyH_ready (rs := [7]) (by kernel_rfl) (by simp) ?_
                  refine (AllReadyH.cons rfl (fun K hK => ?_) AllReadyH.nil)
                  refine wp_app_ints _ _ rfl rfl wr.heap.size _ (zs.take j) (zs.take j).length rfl rfl (by first | exact hown4 | exact own_below hown4 (bnew _ _)) (by first | exact hsz4 | (simp; omega)) _ 1 1 [v] rfl rfl (by first | exact rd_at hn4 | exact rd_new1 _ _ _) (by rw [List.length_take]; omega) (by simp) ?_
                  intro v7 W7 hown7 hg7 hb7
                  have hBB7 : Below wr.heap.size wr W7 := Below.trans (by first | exact hBB4 | exact hBB4.alloc hsz4 _) hb7
                  clear hg7 hb7
                  refine hK.out _ _ ?_ (fun hHeld2 => ?_)
                  · (try dsimp only); (try trivial)
                  clear hK K hHeld
                  rename _ => hHeld
                  (try simp only [Act.put, List.getElem_toArray, List.getElem_cons_succ, List.getElem_cons_zero, List.setIfInBounds_toArray, List.set_cons_zero, List.set_cons_succ])
                  refine wpAnyH_ready (rs := [11]) (by kernel_rfl) (by simp) ?_
                  refine (AllReadyH.cons rfl (fun K hK => ?_) AllReadyH.nil)
                  refine wp_app_ints _ _ rfl rfl wr.heap.size _ (zs.take j ++ [v]) (zs.take j ++ [v]).length rfl rfl hown7 hBB7.size _ (zs.length - j) _ (zs.drop j) (by rw [List.length_drop]; (try omega)) rfl (HRG.out.2.below hBB7) (by simp; (try omega)) (by rw [List.length_drop]; omega) ?_
                  intro v8 W8 hown8 hg8 hb8
                  have HFIN := Lib.hid (And.intro hown8 (hBB7.trans hb8))
                  clear hg8 hb8 hown8
                  refine hK.out _ _ ?_ (fun hHeld2 => ?_)
                  · (try dsimp only); (try trivial)
                  clear hK K hHeld
                  rename _ => hHeld
                  (try simp only [Act.put, List.getElem_toArray, List.getElem_cons_succ, List.getElem_cons_zero, List.setIfInBounds_toArray, List.set_cons_zero, List.set_cons_succ])
                  refine wpAnyH_ready (rs := [12]) (by kernel_rfl) (by simp) ?_
                  refine (AllReadyH.cons rfl (fun K hK => ?_) AllReadyH.nil)
                  go_simp
                  refine hK.out _ _ ?_ (fun hHeld2 => ?_)
                  · (try dsimp only); (try trivial)
                  clear hK K hHeld
                  rename _ => hHeld
                  (try simp only [Act.put, List.getElem_toArray, List.getElem_cons_succ, List.getElem_cons_zero, List.setIfInBounds_toArray, List.set_cons_zero, List.set_cons_succ])
                  refine wpAnyH_done (by kernel_rfl) ?_ _
                  clear hHeld
                  rotate_left 1
                  go_simp
                  refine hK.out _ _ ?_ (fun hHeld2 => ?_)
                  · (try dsimp only); (try trivial)
                  clear hK K hHeld
                  rename _ => hHeld
                  (try simp only [Act.put, List.getElem_toArray, List.getElem_cons_succ, List.getElem_cons_zero, List.setIfInBounds_toArray, List.set_cons_zero, List.set_cons_succ])
                  refine wpAnyH_ready (rs := [0]) (by kernel_rfl) (by simp) ?_
                  refine (AllReadyH.cons rfl (fun K hK => ?_) AllReadyH.nil)
                  go_simp
                  refine hK.out _ _ ?_ (fun hHeld2 => ?_)
                  · (try dsimp only); (try trivial)
                  clear hK K hHeld
                  rename _ => hHeld
                  (try simp only [Act.put, List.getElem_toArray, List.getElem_cons_succ, List.getElem_cons_zero, List.setIfInBounds_toArray, List.set_cons_zero, List.set_cons_succ])
                  refine wpAnyH_ready (rs := [4]) (by kernel_rfl) (by simp) ?_
                  refine (AllReadyH.cons rfl (fun K hK => ?_) AllReadyH.nil)
                  refine wp_app_ints _ _ rfl rfl wr.heap.size (.slice (some ⟨_, 0, none⟩) 0 0) [] 0 rfl rfl (own_zero (by first | exact alloc_at _ _ | exact alloc_at0 _ _ _ | exact alloc_at1 _ _ _) (by simp)) (by (try simp); (try omega)) (some ⟨b2, o2, none⟩) j cz (zs.take j) (by rw [List.length_take]; omega) rfl (by first | exact (HRG.out.1.alloc _).drew | exact ((HRG.out.1.alloc _).alloc _).drew) (by simp) (by rw [List.length_take]; omega) ?_
                  intro v4 W4 hown4 hg4 hb4
                  have hBB4 : Below wr.heap.size wr W4 := Below.trans (by first | exact belw_drew (bnew _ _) | exact belw_drew (bnew2 _ _ _)) hb4
                  have hsz4 : wr.heap.size ≤ W4.heap.size := hBB4.size
                  rw [List.nil_append] at hown4
                  (try have hn4 : W4.heap[wr.heap.size + 1]? = some (.cells #[.int .i64 v] 3 (0, 0)) := (hg4.block _ (by (try simp [World.drew]); (try omega)) (by simp [Value.ownBlock])).trans (by first | exact alloc_at _ _ | exact alloc_at0 _ _ _ | exact alloc_at1 _ _ _))
                  (try have hn4 : W4.heap[wr.heap.size]? = some (.cells #[.int .i64 v] 3 (0, 0)) := (hg4.block _ (by (try simp [World.drew]); (try omega)) (by simp [Value.ownBlock])).trans (by first | exact alloc_at _ _ | exact alloc_at0 _ _ _ | exact alloc_at1 _ _ _))
                  clear hg4 hb4
                  refine hK.out _ _ ?_ (fun hHeld2 => ?_)
                  · (try dsimp only); (try trivial)
                  clear hK K hHeld
                  rename _ => hHeld
                  (try simp only [Act.put, List.getElem_toArray, List.getElem_cons_succ, List.getElem_cons_zero, List.setIfInBounds_toArray, List.set_cons_zero, List.set_cons_succ])
                  refine wpAnyH_ready (rs := [7]) (by kernel_rfl) (by simp) ?_
                  refine (AllReadyH.cons rfl (fun K hK => ?_) AllReadyH.nil)
                  refine wp_app_ints _ _ rfl rfl wr.heap.size _ (zs.take j) (zs.take j).length rfl rfl (by first | exact hown4 | exact own_below hown4 (bnew _ _)) (by first | exact hsz4 | (simp; omega)) _ 1 1 [v] rfl rfl (by first | exact rd_at hn4 | exact rd_new1 _ _ _) (by rw [List.length_take]; omega) (by simp) ?_
                  intro v7 W7 hown7 hg7 hb7
                  have hBB7 : Below wr.heap.size wr W7 := Below.trans (by first | exact hBB4 | exact hBB4.alloc hsz4 _) hb7
                  clear hg7 hb7
                  refine hK.out _ _ ?_ (fun hHeld2 => ?_)
                  · (try dsimp only); (try trivial)
                  clear hK K hHeld
                  rename _ => hHeld
                  (try simp only [Act.put, List.getElem_toArray, List.getElem_cons_succ, List.getElem_cons_zero, List.setIfInBounds_toArray, List.set_cons_zero, List.set_cons_succ])
                  refine wpAnyH_ready (rs := [11]) (by kernel_rfl) (by simp) ?_
                  refine (AllReadyH.cons rfl (fun K hK => ?_) AllReadyH.nil)
                  refine wp_app_ints _ _ rfl rfl wr.heap.size _ (zs.take j ++ [v]) (zs.take j ++ [v]).length rfl rfl hown7 hBB7.size _ (zs.length - j) _ (zs.drop j) (by rw [List.length_drop]; (try omega)) rfl (HRG.out.2.below hBB7) (by simp; (try omega)) (by rw [List.length_drop]; omega) ?_
                  intro v8 W8 hown8 hg8 hb8
                  have HFIN := Lib.hid (And.intro hown8 (hBB7.trans hb8))
                  clear hg8 hb8 hown8
                  refine hK.out _ _ ?_ (fun hHeld2 => ?_)
                  · (try dsimp only); (try trivial)
                  clear hK K hHeld
                  rename _ => hHeld
                  (try simp only [Act.put, List.getElem_toArray, List.getElem_cons_succ, List.getElem_cons_zero, List.setIfInBounds_toArray, List.set_cons_zero, List.set_cons_succ])
                  refine wpAnyH_ready (rs := [12]) (by kernel_rfl) (by simp) ?_
                  refine (AllReadyH.cons rfl (fun K hK => ?_) AllReadyH.nil)
                  go_simp
                  refine hK.out _ _ ?_ (fun hHeld2 => ?_)
                  · (try dsimp only); (try trivial)
                  clear hK K hHeld
                  rename _ => hHeld
                  (try simp only [Act.put, List.getElem_toArray, List.getElem_cons_succ, List.getElem_cons_zero, List.setIfInBounds_toArray, List.set_cons_zero, List.set_cons_succ])
                  refine wpAnyH_done (by kernel_rfl) ?_ _
                  clear hHeld
                  rotate_left 1
                  all_goals
                    go_wp2_with fail
                    refine ⟨⟨k + 1, zs.take j ++ [v] ++ zs.drop j, by omega, rfl, Lib.hid ⟨own_base HFIN.out.1 hw2, HINS.out.1, ?_⟩, H3.out.2.2.2.2.trans (HFIN.out.2.mono hw2)⟩, by simp [intOf]; omega⟩
                    refine HINS.out.2.trans ?_
                    rw [HW.out.2.1, H3.out.2.2.2.1]
                    exact H3.out.2.2.1.append_right _
              · obtain rfl : j = 0 := by omega
                have d0 : decide ((0 : Int) < ((0 : Nat) : Int)) = false := by simp
                obtain ⟨iI, hiI, hz0, hz1, hz2⟩ := info_int
                go_wp2_with fail
                have HINS := Lib.hid (ins_int (n := v) hj H3.out.2.1 HJ.out (Or.inl rfl))
                have hsl := fun w => run_slice_to (P := Tryz.prog) w 34 3 iI 1 Tryz.underlying34 hiI hz1 Az zs.length cz .i64 (0 : Int) 0 rfl (by omega)
                have hsf := fun w => run_slice_from (P := Tryz.prog) w 34 3 iI 1 Tryz.underlying34 hiI hz1 Az zs.length cz .i64 (0 : Int) 0 rfl (by omega)
                have hrz : Rd 0 wr Az (intsV zs) := (Rd.of_own H3.out.1).mono (Nat.zero_le _)
                have hrj : Rd 0 wr Az (intsV (zs.take 0)) := by unfold intsV; rw [List.map_take]; exact hrz.take 0
                have hrd : Rd 0 wr (fromAddr 1 Az cz 0) (intsV (zs.drop 0)) := by
                  have := hrz.from 1 cz 0 (by simp [intsV]; omega)
                  rw [Nat.mul_one] at this
                  unfold intsV at this ⊢
                  rw [List.map_drop]
                  exact this
                have hw2 : w2.heap.size ≤ wr.heap.size := H3.out.2.2.2.2.size
                have HRG := Lib.hid (And.intro hrj hrd); clear hrz hrj hrd
                clear hiI hz0 hz1 hz2
                refine wp_region_held_drew (S := (fun _ => True)) (by kernel_rfl) ?_ (fun hHeld => ?_)
                · (try dsimp only); (try trivial)
                refine wpAnyH_take (i := 1) (v := ?_) rfl (by kernel_rfl) (by kernel_rfl) (by kernel_rfl) (fun _ _ _ h => h) (Or.inl ⟨by rfl, ?_⟩) hHeld ?_
                rotate_left
                · intro w hSw; (try dsimp only at hSw); go_simp; (try with_reducible rfl)
                (try simp only [Act.put, List.getElem_toArray, List.getElem_cons_succ, List.getElem_cons_zero, List.setIfInBounds_toArray, List.set_cons_zero, List.set_cons_succ])
                refine wpAnyH_take (i := 2) (v := ?_) rfl (by kernel_rfl) (by kernel_rfl) (by kernel_rfl) (fun _ _ _ h => h) (Or.inl ⟨by rfl, ?_⟩) hHeld ?_
                rotate_left
                · intro w hSw; (try dsimp only at hSw); go_simp; (try with_reducible rfl)
                (try simp only [Act.put, List.getElem_toArray, List.getElem_cons_succ, List.getElem_cons_zero, List.setIfInBounds_toArray, List.set_cons_zero, List.set_cons_succ])
                refine wpAnyH_take (i := 5) (v := ?_) rfl (by kernel_rfl) (by kernel_rfl) (by kernel_rfl) (fun _ _ _ h => h) (Or.inl ⟨by rfl, ?_⟩) hHeld ?_
                rotate_left
                · intro w hSw; (try dsimp only at hSw); go_simp; (try with_reducible rfl)
                (try simp only [Act.put, List.getElem_toArray, List.getElem_cons_succ, List.getElem_cons_zero, List.setIfInBounds_toArray, List.set_cons_zero, List.set_cons_succ])
                refine wpAnyH_take (i := 8) (v := ?_) rfl (by kernel_rfl) (by kernel_rfl) (by kernel_rfl) (fun _ _ _ h => h) (Or.inl ⟨by rfl, ?_⟩) hHeld ?_
                rotate_left
                · intro w hSw; (try dsimp only at hSw); go_simp; (try with_reducible rfl)
                (try simp only [Act.put, List.getElem_toArray, List.getElem_cons_succ, List.getElem_cons_zero, List.setIfInBounds_toArray, List.set_cons_zero, List.set_cons_succ])
                refine wpAnyH_take (i := 9) (v := ?_) rfl (by kernel_rfl) (by kernel_rfl) (by kernel_rfl) (fun _ _ _ h => h) (Or.inl ⟨by rfl, ?_⟩) hHeld ?_
                rotate_left
                · intro w hSw; (try dsimp only at hSw); go_simp; (try with_reducible rfl)
                (try simp only [Act.put, List.getElem_toArray, List.getElem_cons_succ, List.getElem_cons_zero, List.setIfInBounds_toArray, List.set_cons_zero, List.set_cons_succ])
                refine wpAnyH_take (i := 3) (v := ?_) rfl (by kernel_rfl) (by kernel_rfl) (by kernel_rfl) (fun _ _ _ h => h) (Or.inl ⟨by rfl, ?_⟩) hHeld ?_
                rotate_left
                · intro w hSw; (try dsimp only at hSw); go_simp; (try with_reducible rfl)
                (try simp only [Act.put, List.getElem_toArray, List.getElem_cons_succ, List.getElem_cons_zero, List.setIfInBounds_toArray, List.set_cons_zero, List.set_cons_succ])
                refine wpAnyH_take (i := 10) (v := ?_) rfl (by kernel_rfl) (by kernel_rfl) (by kernel_rfl) (fun _ _ _ h => h) (Or.inl ⟨by rfl, ?_⟩) hHeld ?_
                rotate_left
                · intro w hSw; (try dsimp only at hSw); go_simp; (try with_reducible rfl)
                (try simp only [Act.put, List.getElem_toArray, List.getElem_cons_succ, List.getElem_cons_zero, List.setIfInBounds_toArray, List.set_cons_zero, List.set_cons_succ])
                refine wpAnyH_ready (rs := [0, 6]) (by kernel_rfl) (by simp) ?_
                refine (AllReadyH.cons rfl (fun K hK => ?_) (AllReadyH.cons rfl (fun K hK => ?_) AllReadyH.nil))
                go_simp
                refine hK.out _ _ ?_ (fun hHeld2 => ?_)
                · (try dsimp only); (try trivial)
                clear hK K hHeld
                rename _ => hHeld
                (try simp only [Act.put, List.getElem_toArray, List.getElem_cons_succ, List.getElem_cons_zero, List.setIfInBounds_toArray, List.set_cons_zero, List.set_cons_succ])
                refine wpAnyH_ready (rs := [4, 6]) (by kernel_rfl) (by simp) ?_
                refine (AllReadyH.cons rfl (fun K hK => ?_) (AllReadyH.cons rfl (fun K hK => ?_) AllReadyH.nil))
                refine wp_app_ints _ _ rfl rfl wr.heap.size (.slice (some ⟨_, 0, none⟩) 0 0) [] 0 rfl rfl (own_zero (by first | exact alloc_at _ _ | exact alloc_at0 _ _ _ | exact alloc_at1 _ _ _) (by simp)) (by (try simp); (try omega)) Az 0 cz (zs.take 0) (by rw [List.length_take]; omega) rfl (by first | exact (HRG.out.1.alloc _).drew | exact ((HRG.out.1.alloc _).alloc _).drew) (by simp) (by rw [List.length_take]; omega) ?_
                intro v4 W4 hown4 hg4 hb4
                have hBB4 : Below wr.heap.size wr W4 := Below.trans (by first | exact belw_drew (bnew _ _) | exact belw_drew (bnew2 _ _ _)) hb4
                have hsz4 : wr.heap.size ≤ W4.heap.size := hBB4.size
                rw [List.nil_append] at hown4
                (try have hn4 : W4.heap[wr.heap.size + 1]? = some (.cells #[.int .i64 v] 3 (0, 0)) := (hg4.block _ (by (try simp [World.drew]); (try omega)) (by simp [Value.ownBlock])).trans (by first | exact alloc_at _ _ | exact alloc_at0 _ _ _ | exact alloc_at1 _ _ _))
                (try have hn4 : W4.heap[wr.heap.size]? = some (.cells #[.int .i64 v] 3 (0, 0)) := (hg4.block _ (by (try simp [World.drew]); (try omega)) (by simp [Value.ownBlock])).trans (by first | exact alloc_at _ _ | exact alloc_at0 _ _ _ | exact alloc_at1 _ _ _))
                clear hg4 hb4
                refine hK.out _ _ ?_ (fun hHeld2 => ?_)
                · (try dsimp only); (try trivial)
                clear hK K hHeld
                rename _ => hHeld
                (try simp only [Act.put, List.getElem_toArray, List.getElem_cons_succ, List.getElem_cons_zero, List.setIfInBounds_toArray, List.set_cons_zero, List.set_cons_succ])
                refine wpAnyH_ready (rs := [6]) (by kernel_rfl) (by simp) ?_
                refine (AllReadyH.cons rfl (fun K hK => ?_) AllReadyH.nil)
                go_simp
                refine hK.out _ _ ?_ (fun hHeld2 => ?_)
                · (try dsimp only); (try trivial)
                clear hK K hHeld
                rename _ => hHeld
                (try simp only [Act.put, List.getElem_toArray, List.getElem_cons_succ, List.getElem_cons_zero, List.setIfInBounds_toArray, List.set_cons_zero, List.set_cons_succ])
                refine wpAnyH_ready (rs := [7]) (by kernel_rfl) (by simp) ?_
                refine (AllReadyH.cons rfl (fun K hK => ?_) AllReadyH.nil)
                refine wp_app_ints _ _ rfl rfl wr.heap.size _ (zs.take 0) (zs.take 0).length rfl rfl (by first | exact hown4 | exact own_below hown4 (bnew _ _)) (by first | exact hsz4 | (simp; omega)) _ 1 1 [v] rfl rfl (by first | exact rd_at hn4 | exact rd_new1 _ _ _) (by rw [List.length_take]; omega) (by simp) ?_
                intro v7 W7 hown7 hg7 hb7
                have hBB7 : Below wr.heap.size wr W7 := Below.trans (by first | exact hBB4 | exact hBB4.alloc hsz4 _) hb7
                clear hg7 hb7
                refine hK.out _ _ ?_ (fun hHeld2 => ?_)
                · (try dsimp only); (try trivial)
                clear hK K hHeld
                rename _ => hHeld
                (try simp only [Act.put, List.getElem_toArray, List.getElem_cons_succ, List.getElem_cons_zero, List.setIfInBounds_toArray, List.set_cons_zero, List.set_cons_succ])
                refine wpAnyH_ready (rs := [11]) (by kernel_rfl) (by simp) ?_
                refine (AllReadyH.cons rfl (fun K hK => ?_) AllReadyH.nil)
                refine wp_app_ints _ _ rfl rfl wr.heap.size _ (zs.take 0 ++ [v]) (zs.take 0 ++ [v]).length rfl rfl hown7 hBB7.size _ (zs.length) _ (zs.drop 0) (by rw [List.length_drop]; (try omega)) rfl (HRG.out.2.below hBB7) (by simp; (try omega)) (by rw [List.length_drop]; omega) ?_
                intro v8 W8 hown8 hg8 hb8
                have HFIN := Lib.hid (And.intro hown8 (hBB7.trans hb8))
                clear hg8 hb8 hown8
                refine hK.out _ _ ?_ (fun hHeld2 => ?_)
                · (try dsimp only); (try trivial)
                clear hK K hHeld
                rename _ => hHeld
                (try simp only [Act.put, List.getElem_toArray, List.getElem_cons_succ, List.getElem_cons_zero, List.setIfInBounds_toArray, List.set_cons_zero, List.set_cons_succ])
                refine wpAnyH_ready (rs := [12]) (by kernel_rfl) (by simp) ?_
                refine (AllReadyH.cons rfl (fun K hK => ?_) AllReadyH.nil)
                go_simp
                refine hK.out _ _ ?_ (fun hHeld2 => ?_)
                · (try dsimp only); (try trivial)
                clear hK K hHeld
                rename _ => hHeld
                (try simp only [Act.put, List.getElem_toArray, List.getElem_cons_succ, List.getElem_cons_zero, List.setIfInBounds_toArray, List.set_cons_zero, List.set_cons_succ])
                refine wpAnyH_done (by kernel_rfl) ?_ _
                clear hHeld
                rotate_left 1
                go_simp
                refine hK.out _ _ ?_ (fun hHeld2 => ?_)
                · (try dsimp only); (try trivial)
                clear hK K hHeld
                rename _ => hHeld
                (try simp only [Act.put, List.getElem_toArray, List.getElem_cons_succ, List.getElem_cons_zero, List.setIfInBounds_toArray, List.set_cons_zero, List.set_cons_succ])
                refine wpAnyH_ready (rs := [4]) (by kernel_rfl) (by simp) ?_
                refine (AllReadyH.cons rfl (fun K hK => ?_) AllReadyH.nil)
                refine wp_app_ints _ _ rfl rfl wr.heap.size (.slice (some ⟨_, 0, none⟩) 0 0) [] 0 rfl rfl (own_zero (by first | exact alloc_at _ _ | exact alloc_at0 _ _ _ | exact alloc_at1 _ _ _) (by simp)) (by (try simp); (try omega)) Az 0 cz (zs.take 0) (by rw [List.length_take]; omega) rfl (by first | exact (HRG.out.1.alloc _).drew | exact ((HRG.out.1.alloc _).alloc _).drew) (by simp) (by rw [List.length_take]; omega) ?_
                intro v4 W4 hown4 hg4 hb4
                have hBB4 : Below wr.heap.size wr W4 := Below.trans (by first | exact belw_drew (bnew _ _) | exact belw_drew (bnew2 _ _ _)) hb4
                have hsz4 : wr.heap.size ≤ W4.heap.size := hBB4.size
                rw [List.nil_append] at hown4
                (try have hn4 : W4.heap[wr.heap.size + 1]? = some (.cells #[.int .i64 v] 3 (0, 0)) := (hg4.block _ (by (try simp [World.drew]); (try omega)) (by simp [Value.ownBlock])).trans (by first | exact alloc_at _ _ | exact alloc_at0 _ _ _ | exact alloc_at1 _ _ _))
                (try have hn4 : W4.heap[wr.heap.size]? = some (.cells #[.int .i64 v] 3 (0, 0)) := (hg4.block _ (by (try simp [World.drew]); (try omega)) (by simp [Value.ownBlock])).trans (by first | exact alloc_at _ _ | exact alloc_at0 _ _ _ | exact alloc_at1 _ _ _))
                clear hg4 hb4
                refine hK.out _ _ ?_ (fun hHeld2 => ?_)
                · (try dsimp only); (try trivial)
                clear hK K hHeld
                rename _ => hHeld
                (try simp only [Act.put, List.getElem_toArray, List.getElem_cons_succ, List.getElem_cons_zero, List.setIfInBounds_toArray, List.set_cons_zero, List.set_cons_succ])
                refine wpAnyH_ready (rs := [7]) (by kernel_rfl) (by simp) ?_
                refine (AllReadyH.cons rfl (fun K hK => ?_) AllReadyH.nil)
                refine wp_app_ints _ _ rfl rfl wr.heap.size _ (zs.take 0) (zs.take 0).length rfl rfl (by first | exact hown4 | exact own_below hown4 (bnew _ _)) (by first | exact hsz4 | (simp; omega)) _ 1 1 [v] rfl rfl (by first | exact rd_at hn4 | exact rd_new1 _ _ _) (by rw [List.length_take]; omega) (by simp) ?_
                intro v7 W7 hown7 hg7 hb7
                have hBB7 : Below wr.heap.size wr W7 := Below.trans (by first | exact hBB4 | exact hBB4.alloc hsz4 _) hb7
                clear hg7 hb7
                refine hK.out _ _ ?_ (fun hHeld2 => ?_)
                · (try dsimp only); (try trivial)
                clear hK K hHeld
                rename _ => hHeld
                (try simp only [Act.put, List.getElem_toArray, List.getElem_cons_succ, List.getElem_cons_zero, List.setIfInBounds_toArray, List.set_cons_zero, List.set_cons_succ])
                refine wpAnyH_ready (rs := [11]) (by kernel_rfl) (by simp) ?_
                refine (AllReadyH.cons rfl (fun K hK => ?_) AllReadyH.nil)
                refine wp_app_ints _ _ rfl rfl wr.heap.size _ (zs.take 0 ++ [v]) (zs.take 0 ++ [v]).length rfl rfl hown7 hBB7.size _ (zs.length) _ (zs.drop 0) (by rw [List.length_drop]; (try omega)) rfl (HRG.out.2.below hBB7) (by simp; (try omega)) (by rw [List.length_drop]; omega) ?_
                intro v8 W8 hown8 hg8 hb8
                have HFIN := Lib.hid (And.intro hown8 (hBB7.trans hb8))
                clear hg8 hb8 hown8
                refine hK.out _ _ ?_ (fun hHeld2 => ?_)
                · (try dsimp only); (try trivial)
                clear hK K hHeld
                rename _ => hHeld
                (try simp only [Act.put, List.getElem_toArray, List.getElem_cons_succ, List.getElem_cons_zero, List.setIfInBounds_toArray, List.set_cons_zero, List.set_cons_succ])
                refine wpAnyH_ready (rs := [12]) (by kernel_rfl) (by simp) ?_
                refine (AllReadyH.cons rfl (fun K hK => ?_) AllReadyH.nil)
                go_simp
                refine hK.out _ _ ?_ (fun hHeld2 => ?_)
                · (try dsimp only); (try trivial)
                clear hK K hHeld
                rename _ => hHeld
                (try simp only [Act.put, List.getElem_toArray, List.getElem_cons_succ, List.getElem_cons_zero, List.setIfInBounds_toArray, List.set_cons_zero, List.set_cons_succ])
                refine wpAnyH_done (by kernel_rfl) ?_ _
                clear hHeld
                rotate_left 1
                go_simp
                refine hK.out _ _ ?_ (fun hHeld2 => ?_)
                · (try dsimp only); (try trivial)
                clear hK K hHeld
                rename _ => hHeld
                (try simp only [Act.put, List.getElem_toArray, List.getElem_cons_succ, List.getElem_cons_zero, List.setIfInBounds_toArray, List.set_cons_zero, List.set_cons_succ])
                refine wpAnyH_ready (rs := [0]) (by kernel_rfl) (by simp) ?_
                refine (AllReadyH.cons rfl (fun K hK => ?_) AllReadyH.nil)
                go_simp
                refine hK.out _ _ ?_ (fun hHeld2 => ?_)
                · (try dsimp only); (try trivial)
                clear hK K hHeld
                rename _ => hHeld
                (try simp only [Act.put, List.getElem_toArray, List.getElem_cons_succ, List.getElem_cons_zero, List.setIfInBounds_toArray, List.set_cons_zero, List.set_cons_succ])
                refine wpAnyH_ready (rs := [4]) (by kernel_rfl) (by simp) ?_
                refine (AllReadyH.cons rfl (fun K hK => ?_) AllReadyH.nil)
                refine wp_app_ints _ _ rfl rfl wr.heap.size (.slice (some ⟨_, 0, none⟩) 0 0) [] 0 rfl rfl (own_zero (by first | exact alloc_at _ _ | exact alloc_at0 _ _ _ | exact alloc_at1 _ _ _) (by simp)) (by (try simp); (try omega)) Az 0 cz (zs.take 0) (by rw [List.length_take]; omega) rfl (by first | exact (HRG.out.1.alloc _).drew | exact ((HRG.out.1.alloc _).alloc _).drew) (by simp) (by rw [List.length_take]; omega) ?_
                intro v4 W4 hown4 hg4 hb4
                have hBB4 : Below wr.heap.size wr W4 := Below.trans (by first | exact belw_drew (bnew _ _) | exact belw_drew (bnew2 _ _ _)) hb4
                have hsz4 : wr.heap.size ≤ W4.heap.size := hBB4.size
                rw [List.nil_append] at hown4
                (try have hn4 : W4.heap[wr.heap.size + 1]? = some (.cells #[.int .i64 v] 3 (0, 0)) := (hg4.block _ (by (try simp [World.drew]); (try omega)) (by simp [Value.ownBlock])).trans (by first | exact alloc_at _ _ | exact alloc_at0 _ _ _ | exact alloc_at1 _ _ _))
                (try have hn4 : W4.heap[wr.heap.size]? = some (.cells #[.int .i64 v] 3 (0, 0)) := (hg4.block _ (by (try simp [World.drew]); (try omega)) (by simp [Value.ownBlock])).trans (by first | exact alloc_at _ _ | exact alloc_at0 _ _ _ | exact alloc_at1 _ _ _))
                clear hg4 hb4
                refine hK.out _ _ ?_ (fun hHeld2 => ?_)
                · (try dsimp only); (try trivial)
                clear hK K hHeld
                rename _ => hHeld
                (try simp only [Act.put, List.getElem_toArray, List.getElem_cons_succ, List.getElem_cons_zero, List.setIfInBounds_toArray, List.set_cons_zero, List.set_cons_succ])
                refine wpAnyH_ready (rs := [7]) (by kernel_rfl) (by simp) ?_
                refine (AllReadyH.cons rfl (fun K hK => ?_) AllReadyH.nil)
                refine wp_app_ints _ _ rfl rfl wr.heap.size _ (zs.take 0) (zs.take 0).length rfl rfl (by first | exact hown4 | exact own_below hown4 (bnew _ _)) (by first | exact hsz4 | (simp; omega)) _ 1 1 [v] rfl rfl (by first | exact rd_at hn4 | exact rd_new1 _ _ _) (by rw [List.length_take]; omega) (by simp) ?_
                intro v7 W7 hown7 hg7 hb7
                have hBB7 : Below wr.heap.size wr W7 := Below.trans (by first | exact hBB4 | exact hBB4.alloc hsz4 _) hb7
                clear hg7 hb7
                refine hK.out _ _ ?_ (fun hHeld2 => ?_)
                · (try dsimp only); (try trivial)
                clear hK K hHeld
                rename _ => hHeld
                (try simp only [Act.put, List.getElem_toArray, List.getElem_cons_succ, List.getElem_cons_zero, List.setIfInBounds_toArray, List.set_cons_zero, List.set_cons_succ])
                refine wpAnyH_ready (rs := [11]) (by kernel_rfl) (by simp) ?_
                refine (AllReadyH.cons rfl (fun K hK => ?_) AllReadyH.nil)
                refine wp_app_ints _ _ rfl rfl wr.heap.size _ (zs.take 0 ++ [v]) (zs.take 0 ++ [v]).length rfl rfl hown7 hBB7.size _ (zs.length) _ (zs.drop 0) (by rw [List.length_drop]; (try omega)) rfl (HRG.out.2.below hBB7) (by simp; (try omega)) (by rw [List.length_drop]; omega) ?_
                intro v8 W8 hown8 hg8 hb8
                have HFIN := Lib.hid (And.intro hown8 (hBB7.trans hb8))
                clear hg8 hb8 hown8
                refine hK.out _ _ ?_ (fun hHeld2 => ?_)
                · (try dsimp only); (try trivial)
                clear hK K hHeld
                rename _ => hHeld
                (try simp only [Act.put, List.getElem_toArray, List.getElem_cons_succ, List.getElem_cons_zero, List.setIfInBounds_toArray, List.set_cons_zero, List.set_cons_succ])
                refine wpAnyH_ready (rs := [12]) (by kernel_rfl) (by simp) ?_
                refine (AllReadyH.cons rfl (fun K hK => ?_) AllReadyH.nil)
                go_simp
                refine hK.out _ _ ?_ (fun hHeld2 => ?_)
                · (try dsimp only); (try trivial)
                clear hK K hHeld
                rename _ => hHeld
                (try simp only [Act.put, List.getElem_toArray, List.getElem_cons_succ, List.getElem_cons_zero, List.setIfInBounds_toArray, List.set_cons_zero, List.set_cons_succ])
                refine wpAnyH_done (by kernel_rfl) ?_ _
                clear hHeld
                rotate_left 1
                all_goals
                  go_wp2_with fail
                  refine ⟨⟨k + 1, zs.take 0 ++ [v] ++ zs.drop 0, by omega, rfl, Lib.hid ⟨own_base HFIN.out.1 hw2, HINS.out.1, ?_⟩, H3.out.2.2.2.2.trans (HFIN.out.2.mono hw2)⟩, by simp [intOf]; omega⟩
                  refine HINS.out.2.trans ?_
                  rw [HW.out.2.1, H3.out.2.2.2.1]
                  exact H3.out.2.2.1.append_right _
        · obtain rfl : k = es.length := by omega
          have hkd : decide ((es.length : Int) < (es.length : Int)) = false := by simp
          obtain ⟨hZ1, hZ2, hZ3⟩ := HZ.out
          have hzs : zs = numbersB name D.names := by
            unfold numbersB
            refine sorted_eq hZ2 ?_
            have h3 : D.names.length = es.length := by rw [← H0.out.2.1.names, List.length_map, List.length_map]
            have := hZ3
            rw [outTo, List.take_of_length_le (by omega)] at this
            exact this
          have hzr : ∀ x ∈ zs, 0 ≤ x ∧ x < 1000000000 := by rw [hzs]; exact numbersB_range
          have hzl : zs.length ≤ 16 := by
            have h1 := numbersB_length name D.names
            have h3 : D.names.length = es.length := by rw [← H0.out.2.1.names, List.length_map, List.length_map]
            rw [hzs]; omega
          obtain ⟨Az, cz, rfl, hcz, -, -⟩ := own_slice hZ1
          have hR := H0.out.2.2.2.2
          rw [if_neg (by simp; omega), if_neg (by simp), ← hzs] at hR
          have hBw : Below w.heap.size w wr := H2.out.2.trans (hB.mono H2.out.2.size)
          obtain ⟨g, hg⟩ : ∃ g, wr.heap.size = g := ⟨_, rfl⟩
          have hg0 : (wr.alloc (.cells #[.pointer (some ⟨rd, 0, none⟩), .string ⟨name.toArray⟩, .int .i64 most, .slice none 0 0, .slice none 0 0, .int .i64 0, .bool false] 100)).heap[g]? = some (.cells #[.pointer (some ⟨rd, 0, none⟩), .string ⟨name.toArray⟩, .int .i64 most, .slice none 0 0, .slice none 0 0, .int .i64 0, .bool false] 100 (0, 0)) := by rw [← hg]; exact heap_alloc_new _ _
          have hBa : Below wr.heap.size wr (wr.alloc (.cells #[.pointer (some ⟨rd, 0, none⟩), .string ⟨name.toArray⟩, .int .i64 most, .slice none 0 0, .slice none 0 0, .int .i64 0, .bool false] 100)) := bnew _ _
          have hI0 : RopI n w.heap.size rd g room name most R zs (.slice Az zs.length cz) w 0 N lv es D (LogM.new name most) (.slice none 0 0) (.slice none 0 0) 0 [] [] (wr.alloc (.cells #[.pointer (some ⟨rd, 0, none⟩), .string ⟨name.toArray⟩, .int .i64 most, .slice none 0 0, .slice none 0 0, .int .i64 0, .bool false] 100)) := by
            refine ⟨(H0.out.1.below hBw).below hBa, hel, H0.out.2.2.1, H0.out.2.1, ⟨by rw [← hg]; exact hBw.size, hg0, World.ownsRow_nil _ _ _ _, World.ownsRow_nil _ _ _ _, fun k v l hv => by simp at hv⟩, rfl, fun _ => rfl, ⟨by simp [LogM.new], Nat.le_refl _⟩, by simp [LogM.new], hR, own_base (own_below hZ1 hBa) H2.out.2.size, Turn.of_below (hBw.trans (hBa.mono hBw.size)), Nat.le_trans hBw.size hBa.size, rfl⟩
          have HZ0 := Lib.hid (And.intro hI0 (And.intro hzr hBw.size)); clear hI0 hzr hBw hBa hg0 hzs hZ1 hZ2 hZ3 hB hR HZ
          go_wp2_with fail
          (try simp only [hg])
          clear hg
          go_loopw [15] (fun i W => ∃ (k : Nat) (N' : Int) (lv' : Value) (es' : List (FileM × Value)) (D' : DiskM) (G' : LogM) (slv bv : Value) (ns : Nat) (xs vs : List Value), k ≤ zs.length ∧ i = .int .i64 (k : Int) ∧ Hid (RopI n w.heap.size rd g room name most R zs (.slice Az zs.length cz) w k N' lv' es' D' G' slv bv ns xs vs W)) (fun i _ => zs.length - (intOf i).toNat)
          case atStart => exact ⟨0, _, _, _, _, _, _, _, _, _, _, by omega, rfl, Lib.hid HZ0.out.1⟩
          case round =>
            obtain ⟨k, N', lv', es', D', G', slv, bv, ns, xs, vs, hk, rfl, HI⟩ := hrel
            by_cases hlt : k < zs.length
            · have hkd2 : decide ((k : Int) < (zs.length : Int)) = true := by simpa using hlt
              obtain ⟨b, cur, hAz, hbk, hct⟩ : ∃ b cur, Az = some ⟨b, 0, none⟩ ∧ wr.heap[b]? = some (.cells cur 3 (0, 0)) ∧ cur.toList.take (zs.length * 1) = intsV zs := by
                obtain ⟨_, ⟨_, h0⟩ | ⟨g', cap', cur, hv, _, hh, _, _, _, ht⟩⟩ := HI.out.ints
                · omega
                · injection hv with h1
                  exact ⟨g', cur, h1, hh, ht⟩
              obtain ⟨kz, hkz⟩ : ∃ x, zs[k] = x := ⟨_, rfl⟩
              have hck : cur[k]? = some (.int .i64 kz) := by
                rw [← Array.getElem?_toList, ← List.getElem?_take_of_lt (l := cur.toList) (show k < zs.length * 1 by omega), hct]
                simp [intsV, hlt, hkz]
              have hc0 : k = 0 → cur[0]? = some (.int .i64 kz) := fun h => by rw [← hck, h]
              have z0 := Joins.cell_of_block hbk k
              rw [hck] at z0
              subst hAz
              have hkr := HZ0.out.2.1 zs[k] (List.getElem_mem hlt)
              rw [hkz] at hkr
              obtain ⟨sf, hsf⟩ : ∃ x, fileB name kz = x := ⟨_, rfl⟩
              have hsl : sf.length ≤ 4096 := by
                rw [← hsf]
                unfold fileB
                split
                · simp
                · have := digits_length kz.toNat 8 (by omega)
                  simp; omega
              have hF := rfile_c name (by omega) kz (by omega) (by omega) wr
              rw [hsf] at hF
              have hfl : ∀ x ∈ es', x.1.b.length ≤ 1073741824 := fun x hx => by
                have h1 := le_sumLen (List.mem_map_of_mem (f := (·.1)) hx)
                have h2 := HI.out.agree.sum
                have h3 := HI.out.good.sum
                omega
              have hfew := HI.out.few
              have hdrop : Hid (zs.drop k = kz :: zs.drop (k + 1)) := Lib.hid (by rw [← hkz]; exact List.drop_eq_getElem_cons hlt)
              have HF := Lib.hid (And.intro hF (And.intro hfl (And.intro hkz hsf))); clear hF hfl hkz hsf
              go_wp2_with fail
              refine HF.out.1.mono ?_
              rintro e w4 ⟨rfl, hB4⟩
              have hRd := rread_c n rd room N' lv' es' (by omega) HF.out.2.1 sf (by omega) w4 (HI.out.disk.below hB4)
              have H4 := Lib.hid (And.intro hB4 hRd); clear hB4 hRd
              go_wp2_with fail
              refine H4.out.2.mono ?_
              rintro e w5 ⟨⟨N5, hX5⟩, hT5, ⟨h0, rfl⟩ | ⟨h0, h1, rfl⟩ | ⟨h0, i, x, v, hF, hx, rfl, hv⟩⟩
              · have H5 := Lib.hid (And.intro hX5 (And.intro hT5 h0)); clear hX5 hT5 h0
                go_wp2_with fail
                go_ret2
                obtain ⟨r1, r2⟩ := read_bad HI.out.good.run H5.out.2.2
                have hload := load_err (D := D') (G := G'.at0 k kz) (k := kz) (last := (zs.drop (k + 1)).isEmpty) (c := 1) (by rw [at0_name, HI.out.nm, HF.out.2.2.2]; exact r1) (by decide)
                rw [at0_name, HI.out.nm, HF.out.2.2.2] at hload
                refine post_err (step_bad HI.out.rest hdrop.out hload (by decide)) H5.out.1 hfew (by unfold Agree; rw [r2]; exact HI.out.agree) ?_
                exact (HI.out.turn.bel H4.out.1).trans (H5.out.2.1.mono (Nat.le_refl _) (by simp [TRf]))
              · have H5 := Lib.hid (And.intro hX5 (And.intro hT5 (And.intro h0 h1))); clear hX5 hT5 h0 h1
                go_wp2_with fail
                go_ret2
                have hga : fileAt D'.files sf = none := by rw [← HI.out.agree.at HI.out.good.nd]; exact fileAt_absentE H5.out.2.2.2
                have r1 := read_gone HI.out.good.run H5.out.2.2.1 hga
                have hload := load_err (D := D') (G := G'.at0 k kz) (k := kz) (last := (zs.drop (k + 1)).isEmpty) (c := 33) (by rw [at0_name, HI.out.nm, HF.out.2.2.2, r1]) (by decide)
                rw [at0_name, HI.out.nm, HF.out.2.2.2, r1] at hload
                refine post_err (step_bad HI.out.rest hdrop.out hload (by decide)) H5.out.1 hfew HI.out.agree ?_
                exact (HI.out.turn.bel H4.out.1).trans (H5.out.2.1.mono (Nat.le_refl _) (by simp [TRf]))
              · obtain ⟨hxi, hxe⟩ := List.getElem?_eq_some_iff.1 hx
                have hfa : fileAt D'.files sf = some x.1 := by
                  rw [← HI.out.agree.at HI.out.good.nd]
                  obtain ⟨_, h⟩ := fileAt_first hF
                  rw [h, ← hxe]
                have r1 := HI.out.good.run.read h0 hfa
                obtain ⟨xf, xv⟩ := x
                simp only at hfa r1 hv
                obtain ⟨Av, cv, hvv⟩ : ∃ A c, v = .slice A xf.b.length c := by obtain ⟨A, c, h, _⟩ := hv; exact ⟨A, c, h⟩
                have hvc : xf.b.length ≤ cv := by obtain ⟨A, c, h, hc, _⟩ := hv; rw [hvv] at h; injection h with _ _ h; omega
                have hT5' : Turn n TRf wr w5 := (Turn.of_below H4.out.1).trans (hT5.mono (Nat.le_refl _) (by simp [TRf]))
                have hL5 := HI.out.log.turn hT5'
                have hbk5 := hT5'.block b _ hbk (.inr (by simp [tagOf, TRf]))
                have hfl5 := HF.out.2.1 _ (List.getElem_mem hxi)
                rw [hxe] at hfl5
                simp only at hfl5
                obtain ⟨bl, hbl⟩ : ∃ x, xf.b.length = x := ⟨_, rfl⟩
                rw [hbl] at hvv hvc hfl5
                have hm5 : w.heap.size ≤ w5.heap.size := Nat.le_trans HI.out.size hT5'.size
                have H5 := Lib.hid (And.intro hX5 (And.intro hT5' (And.intro hL5 (And.intro hbk5 (And.intro h0 (And.intro hF (And.intro hx (And.intro hfa (And.intro r1 (And.intro hv (And.intro hbl hm5)))))))))))
                have c55 := Joins.cell_of_block hL5.at_ 5
                have c55u := Joins.unfrozen_of_block hL5.at_ 5
                have d0 := Joins.cell_of_block hbk5 0
                clear hX5 hT5 hT5' hL5 hbk5 h0 hF hx hfa r1 hv hxe hxi hbl
                subst hvv
                simp at c55
                by_cases hk0 : k = 0
                · have hkd0 : ((k : Int) == 0) = true := by simp [hk0]
                  rw [hc0 hk0] at d0
                  obtain ⟨G1, hG1⟩ : ∃ G1, G'.at0 k kz = G1 := ⟨_, rfl⟩
                  have hnm1 : G1.name = name := by rw [← hG1, at0_name, HI.out.nm]
                  have hrc1 : G1.recs = G'.recs := by rw [← hG1, at0_recs]
                  have hGe : G1 = { G' with first := kz } := by rw [← hG1, LogM.at0, if_pos hk0]
                  have hfst1 : 0 ≤ G1.first ∧ G1.first ≤ 1000000000 := by rw [hGe]; exact ⟨hkr.1, by have := hkr.2; simp only; omega⟩
                  have hL6' := (H5.out.2.2.1.setFrom kz).1
                  have hT6' := (H5.out.2.2.1.setFrom kz).2
                  rw [← hGe] at hL6'
                  have HK0 := Lib.hid hk0
                  have HP6 := Lib.hid (And.intro hL6' (And.intro hT6' hrc1))
                  clear hk0 hGe hL6' hT6' hrc1
                  go_wp2_with fail
                  have hL6 := HP6.out.1
                  have hT6 := HP6.out.2.1
                  have hrc1 := HP6.out.2.2
                  obtain ⟨w6, hw6⟩ : ∃ w6, w5.setCell ⟨g, 5, none⟩ (.int .i64 kz) = w6 := ⟨_, rfl⟩
                  rw [hw6] at hL6 hT6 ⊢
                  clear HP6 hw6

                  have HW6 := Lib.hid (And.intro hL6 (And.intro hT6 (And.intro hnm1 (And.intro hrc1 (And.intro hfst1 hG1)))))
                  obtain ⟨Ab, cb, hbv, _, _, _⟩ := own_slice hL6.row
                  subst hbv
                  have hbk6 := hT6.block b _ H5.out.2.2.2.1 (.inr (by simp [tagOf, TRl]))
                  have e4 := Joins.cell_of_block hL6.at_ 4
                  have e5 := Joins.cell_of_block hL6.at_ 5
                  have eb := Joins.cell_of_block hbk6 k
                  rw [hck] at eb
                  simp at e4 e5
                  have hrl : G1.recs.length ≤ 549755813888 := by rw [hrc1]; exact Nat.le_trans HI.out.many.1 (manyR_le (by omega))
                  have hfb := hfst1
                  obtain ⟨F, hFF⟩ : ∃ F, G1.first = F := ⟨_, rfl⟩
                  obtain ⟨rl, hrll⟩ : ∃ r, G1.recs.length = r := ⟨_, rfl⟩
                  rw [hFF] at e5 hfb
                  obtain ⟨hfb1, hfb2⟩ := hfb
                  have hwf : IntKind.i64.wrap (F + (rl : Int)) = F + rl := IntWalk.i64_in _ (by omega)
                  rw [hrll] at e4 hrl
                  have HFR := Lib.hid (And.intro hFF (And.intro hrll hbk6))
                  clear hL6 hT6 hnm1 hrc1 hfst1 hG1 hFF hrll hbk6
                  go_region_held3 (fun W => W.cell? ⟨b, k, none⟩ = some (.int .i64 kz) ∧ W.cell? ⟨g, 5, none⟩ = some (.int .i64 F) ∧ W.cell? ⟨g, 4, none⟩ = some (.slice Ab rl cb)) (first | (refine ⟨?_, ?_, ?_⟩ <;> assumption) | go_keep) (fail)
                  have HT6 := HW6.out.2.1
                  have hm6 : w.heap.size ≤ w6.heap.size := Nat.le_trans H5.out.2.2.2.2.2.2.2.2.2.2.2 HT6.size
                  have hlastb : (zs.drop (k + 1)).isEmpty = decide (k + 1 = zs.length) := by
                    by_cases h : k + 1 = zs.length
                    · rw [h, List.drop_length]; simp
                    · have : (zs.drop (k + 1)).length ≠ 0 := by rw [List.length_drop]; omega
                      rw [decide_eq_false h]
                      cases hd : zs.drop (k + 1) with
                      | nil => rw [hd] at this; simp at this
                      | cons a r => rfl
                  have hG1n : (G'.at0 k kz).name = name := by rw [at0_name, HI.out.nm]
                  have hrd1 : D'.read (fileB (G'.at0 k kz).name kz) = (D'.tick, xf.b, 0) := by rw [hG1n, HF.out.2.2.2]; exact H5.out.2.2.2.2.2.2.2.2.1
                  have HLD := Lib.hid (And.intro hlastb (And.intro hG1n hrd1)); clear hlastb hG1n hrd1 HT6
                  by_cases hne : kz = F + rl
                  · have hneb : (kz == F + (rl : Int)) = true := by simpa using hne
                    have hneb' : (kz != F + (rl : Int)) = false := by simpa using hne
                    have HNE := Lib.hid hne
                    clear hne
                    go_wp2_with fail
                    obtain ⟨w7, hw7⟩ : ∃ w7, (w6.alloc (.cells #[.int .i64 kz, .int .i64 0, .int .i64 0] 103)).drew = w7 := ⟨_, rfl⟩
                    have hB67 : Below w6.heap.size w6 w7 := by rw [← hw7]; exact belw_drew (bnew _ _)
                    have hz7 : w7.heap[w6.heap.size]? = some (.cells #[.int .i64 kz, .int .i64 0, .int .i64 0] 103 (0, 0)) := by rw [← hw7]; exact alloc_at _ _
                    obtain ⟨z, hz⟩ : ∃ z, w6.heap.size = z := ⟨_, rfl⟩
                    rw [hw7]
                    rw [hz] at hz7 hm6 ⊢
                    have hbs7 : Bs 5 w7 (.slice Av bl cv) xf.b := (H5.out.2.2.2.2.2.2.2.2.2.1.turn HW6.out.2.1 (by simp [TRl])).below hB67
                    have hin0 : RinI w.heap.size rd g z name most slv ns xs (decide (k + 1 = zs.length)) kz xf.b (.slice Av bl cv) G1 w7 [] 0 (.slice Ab rl cb) vs w7 :=
                      ⟨hz7, by
                        have h := HW6.out.1.below hB67
                        rw [HFR.out.2.1] at h
                        rw [List.append_nil]
                        exact h, scanI_start _ _, hbs7, Turn.refl _ _ _, hm6, fun e => by
                        obtain ⟨_, _, _, _, _, h | ⟨gb, h, _, hlt'⟩⟩ := own_slice HW6.out.1.segs
                        · rw [h] at e; cases e
                        · rw [h] at e; cases e; omega⟩
                    have hT56 : Turn w.heap.size TRl w5 w7 := HW6.out.2.1.bel hB67
                    have hT07 : Turn n TRf w w7 := (HI.out.turn.trans H5.out.2.1).low (by rw [HI.out.base]; exact hT56.below H5.out.2.2.2.2.2.2.2.2.2.2.2)
                    have hd7 := H5.out.1.turnL hT56
                    have hi7 : w7.ownsRow w.heap.size 3 1 (.slice (some ⟨b, 0, none⟩) zs.length cz) zs.length (intsV zs) := own_turn (own_turn HI.out.ints H5.out.2.1 (by simp [TRf])) hT56 (by simp [TRl])
                    have hm7 : w.heap.size ≤ w7.heap.size := Nat.le_trans H5.out.2.2.2.2.2.2.2.2.2.2.2 hT56.size
                    have H8 := Lib.hid (And.intro hT07 (And.intro hd7 (And.intro hi7 hm7))); clear hT56 hT07 hd7 hi7
                    have H7 := Lib.hid (And.intro hin0 (And.intro hB67 hz)); clear hin0 hB67 hz hw7 hz7 hbs7
                    simp only [hneb']
                    clear hneb hneb'
                    go_loopw [19] (fun _ W => ∃ (acc : List (List UInt8)) (sz : Nat) (bv' : Value) (vs' : List Value), Hid (RinI w.heap.size rd g z name most slv ns xs (decide (k + 1 = zs.length)) kz xf.b (.slice Av bl cv) G1 w7 acc sz bv' vs' W)) (fun _ W => bl - segSz W z)
                    case atStart => exact ⟨[], 0, _, _, Lib.hid H7.out.1⟩
                    case round =>
                      obtain ⟨acc, sz, bv', vs', HJ⟩ := hrel
                      have m2 := Joins.cell_of_block HJ.out.seg 2
                      have m1 := Joins.cell_of_block HJ.out.seg 1
                      simp at m2 m1
                      have hszl := HJ.out.scan.1
                      rw [H5.out.2.2.2.2.2.2.2.2.2.2.1] at hszl
                      by_cases hslt : sz < bl
                      · have hsd : decide ((sz : Int) < (bl : Int)) = true := by simpa using hslt
                        have hbs := HJ.out.bs
                        have hrdb : Rd 0 wr Av (bytesV xf.b) := hbs.toR.rd_of
                        have hxl : xf.b.length = bl := H5.out.2.2.2.2.2.2.2.2.2.2.1
                        have hrdd := hrdb.drop_bytes cv sz (by omega)
                        have hNx := rnext_c (fromAddr 1 Av cv sz) (bl - sz) (cv - sz) (xf.b.drop sz) (by rw [List.length_drop, hxl]) (by omega) (by omega) wr hrdd
                        obtain ⟨i0, hi0, hz0, hz1, hz2⟩ := info8
                        have hsf8 := fun W => run_slice_from (P := Tryz.prog) W 22 5 i0 1 Tryz.underlying22 hi0 hz1 Av bl cv .i64 (sz : Int) sz rfl (by omega)
                        have HNx := Lib.hid (And.intro hNx hxl); clear hNx hbs hrdb hrdd hi0 hz0 hz1 hz2 hxl
                        go_wp2_with fail
                        refine HNx.out.1.mono ?_
                        rintro e w8 ⟨v2, rfl, hb2, hB8⟩
                        obtain ⟨ee, hee⟩ : ∃ x, (nextB (xf.b.drop sz)).2.2 = x := ⟨_, rfl⟩
                        obtain ⟨nn, hnn⟩ : ∃ x, (nextB (xf.b.drop sz)).2.1 = x := ⟨_, rfl⟩
                        rw [hee, hnn]
                        have hseg8 := (hB8.block z (heap_lt HJ.out.seg)).trans HJ.out.seg
                        have hlog8 := HJ.out.log.below hB8
                        have hT8 : Turn w.heap.size TRl w7 w8 := HJ.out.turn.bel hB8
                        have hw1 : ((k : Int) == IntKind.i64.wrap ((zs.length : Int) - 1)) = decide (k + 1 = zs.length) := by
                          rw [IntWalk.i64_in _ (by omega)]
                          by_cases h : k + 1 = zs.length
                          · rw [decide_eq_true h]; simp; omega
                          · rw [decide_eq_false h]; simp; omega
                        have hw2 : ((k : Int) == (zs.length : Int) - 1) = decide (k + 1 = zs.length) := by
                          by_cases h : k + 1 = zs.length
                          · rw [decide_eq_true h]; simp; omega
                          · rw [decide_eq_false h]; simp; omega
                        by_cases he0 : ee = 0
                        · subst he0
                          obtain ⟨k1, k2, k3⟩ := next_ok hee
                          rw [hnn, List.length_drop, HNx.out.2] at k2
                          rw [hnn] at k1 k3
                          have hstep := scanI_step HJ.out.scan (by rw [HNx.out.2]; exact hslt) hee
                          rw [hnn] at hstep
                          obtain ⟨l2, hl2⟩ : ∃ x, (nextB (xf.b.drop sz)).1.getD [] = x := ⟨_, rfl⟩
                          rw [hl2] at hstep hb2
                          obtain ⟨A2, c2, rfl⟩ : ∃ A c, v2 = .slice A l2.length c := by obtain ⟨A, c, h, _⟩ := hb2; exact ⟨A, c, h⟩
                          obtain ⟨Ab', cb', hbv', _, _, _⟩ := own_slice hlog8.row
                          subst hbv'
                          obtain ⟨rn, hrn⟩ : ∃ x, ({ G1 with recs := G1.recs ++ acc } : LogM).recs.length = x := ⟨_, rfl⟩
                          have hrnl : rn ≤ 1099511627776 := by
                            have h1 := HJ.out.scan.2.1
                            have h2 := HFR.out.2.1
                            rw [← hrn]
                            simp only [List.length_append]
                            omega
                          have haccl : acc.length ≤ 1073741824 := by have h1 := HJ.out.scan.2.1; omega
                          have hrow8 := hlog8.row
                          rw [hrn] at hrow8
                          obtain ⟨iS, hiS, hzS0, hzS1, hzS2⟩ := info_bytes
                          obtain ⟨v9, w9, happ, hown9, hgrow9, hblk9⟩ := run_append_rd (P := Tryz.prog) (w8.alloc (.cells #[.slice A2 l2.length c2] 22)) w.heap.size 35 35 22 iS _ 1 24 Tryz.underlying35 hiS hzS0 hzS1 hzS2 rfl (by decide) _ rn vs'
                            (own_below hrow8 (bnew w8 _)) 0 (some ⟨w8.heap.size, 0, none⟩) 1 1 [.slice A2 l2.length c2] rfl (rd_new1 _ _ _) (by simp [Value.oneCell']) (by unfold maxLen; omega) (by omega) (by have := heap_lt hseg8; simp; omega) (fun h => by cases h)
                          have hT9 : Turn w.heap.size [some 22] w8 w9 := (Turn.of_below (bnew w8 _)).trans (own_turned (own_below hrow8 (bnew w8 _)) hgrow9)
                          obtain ⟨A9, c9, rfl, -, -, -⟩ := own_slice hown9
                          obtain ⟨hL10, hT10⟩ := hlog8.addRec hT9 (by rw [hrn]; exact hown9) (hb2.turn hT9 (by simp))
                          have hat9 := hT9.block g _ hlog8.at_ (.inr (by simp [tagOf]))
                          have hz9 := hT9.block z _ hseg8 (.inr (by simp [tagOf]))
                          have hgz : z ≠ g := by rintro rfl; rw [hlog8.at_] at hseg8; cases hseg8
                          have n4 := Joins.cell_of_block hat9 4
                          have n4u := Joins.unfrozen_of_block hat9 4
                          have hz10 : (w9.setCell ⟨g, 4, none⟩ (.slice A9 (rn + 1) c9)).heap[z]? = some (.cells #[.int .i64 kz, .int .i64 (acc.length : Int), .int .i64 (sz : Int)] 103 (0, 0)) := heap_setCell_ne hz9 hgz
                          have n10 := Joins.cell_of_block hz10 1
                          have n10u := Joins.unfrozen_of_block hz10 1
                          have hz11 : ((w9.setCell ⟨g, 4, none⟩ (.slice A9 (rn + 1) c9)).setCell ⟨z, 1, none⟩ (.int .i64 ((acc.length : Int) + 1))).heap[z]? = some (.cells #[.int .i64 kz, .int .i64 ((acc.length : Int) + 1), .int .i64 (sz : Int)] 103 (0, 0)) := by
                            rw [Joins.block_setCell hz10]; rfl
                          have n11 := Joins.cell_of_block hz11 2
                          have n11u := Joins.unfrozen_of_block hz11 2
                          have hL11 := hL10.setZ hz10 HJ.out.sep 1 (.int .i64 ((acc.length : Int) + 1))
                          have hL12 := hL11.setZ hz11 HJ.out.sep 2 (.int .i64 ((sz : Int) + nn))
                          have hT12 := ((hT8.trans hT10).setCell hz10 HJ.out.le (by simp) 1 (.int .i64 ((acc.length : Int) + 1))).setCell hz11 HJ.out.le (by simp) 2 (.int .i64 ((sz : Int) + nn))
                          have hbs12 := (((hb2.turn (t8 := 5) hT9 (by simp))))
                          have hbb12 : Bs 5 (((w9.setCell ⟨g, 4, none⟩ (.slice A9 (rn + 1) c9)).setCell ⟨z, 1, none⟩ (.int .i64 ((acc.length : Int) + 1))).setCell ⟨z, 2, none⟩ (.int .i64 ((sz : Int) + nn))) (.slice Av bl cv) xf.b :=
                            ((HJ.out.bs.below hB8).turn ((hT10.setCell hz10 HJ.out.le (by simp) 1 (.int .i64 ((acc.length : Int) + 1))).setCell hz11 HJ.out.le (by simp) 2 (.int .i64 ((sz : Int) + nn))) (by simp [TRl]))
                          have hz12 : (((w9.setCell ⟨g, 4, none⟩ (.slice A9 (rn + 1) c9)).setCell ⟨z, 1, none⟩ (.int .i64 ((acc.length : Int) + 1))).setCell ⟨z, 2, none⟩ (.int .i64 ((sz : Int) + nn))).heap[z]? = some (.cells #[.int .i64 kz, .int .i64 ((acc.length : Int) + 1), .int .i64 ((sz : Int) + nn)] 103 (0, 0)) := by
                            rw [Joins.block_setCell hz11]; rfl
                          have g4 := Joins.cell_of_block hlog8.at_ 4
                          simp at g4 n4 n10 n11
                          rw [show (G1.recs.length + acc.length) = rn by rw [← hrn]; simp] at g4 n4
                          have g4a := ((bnew w8 (.cells #[.slice A2 l2.length c2] 22)).cell (p := ⟨g, 4, none⟩) (cell_lt g4)).trans g4
                          have e10 : ((0 : Int) == 10) = false := by decide
                          have HAPP := Lib.hid happ
                          have hnew : RinI w.heap.size rd g z name most slv ns xs (decide (k + 1 = zs.length)) kz xf.b (.slice Av bl cv) G1 w7 (acc ++ [l2]) (sz + nn) (.slice A9 (rn + 1) c9) (vs' ++ [.slice A2 l2.length c2]) (((w9.setCell ⟨g, 4, none⟩ (.slice A9 (rn + 1) c9)).setCell ⟨z, 1, none⟩ (.int .i64 ((acc.length : Int) + 1))).setCell ⟨z, 2, none⟩ (.int .i64 ((sz : Int) + nn))) := by
                            refine ⟨by rw [hz12]; simp, ?_, hstep, hbb12, hT12, HJ.out.le, HJ.out.sep⟩
                            have h := hL12
                            simp only [List.append_assoc] at h
                            exact h
                          have HNEW := Lib.hid (And.intro hnew (And.intro k1 k2))
                          have hk1 : nn ≤ 1073741824 := by omega
                          clear hnew happ hiS hzS0 hzS1 hzS2 hown9 hgrow9 hblk9 hT9 hL10 hT10 hat9 hz9 hz10 hz11 hL11 hL12 hT12 hbs12 hbb12 hz12 hrow8 hseg8 hlog8 hT8 hb2 hB8 k1 k2 k3 hstep hee hnn hl2 hrn
                          go_wp2_with (at_builtin; refine wpList_appk rfl _ _ _ rfl _ _ rfl rfl HAPP.out ?_)
                          refine ⟨⟨_, _, _, _, Lib.hid HNEW.out.1⟩, ?_⟩
                          rw [segSz_eq HNEW.out.1, segSz_eq HJ.out]
                          have := HNEW.out.2.1
                          have := HNEW.out.2.2
                          omega
                        · have hscan := scanI_left HJ.out.scan (by rw [HNx.out.2]; exact hslt) (by rw [hee]; exact he0)
                          rw [hee] at hscan
                          have ht8 : Turn n TRf w w8 := H8.out.1.low (by rw [HI.out.base]; exact hT8.below H8.out.2.2.2)
                          have hd8 := H8.out.2.1.turnL hT8
                          have hfin : kz = (G'.at0 k kz).fin := by
                            rw [HW6.out.2.2.2.2.2, LogM.fin, HFR.out.1, HFR.out.2.1]
                            exact HNE.out
                          have e0b : ((ee : Int) == 0) = false := by simp; omega
                          have e0c : ((ee : Int) != 0) = true := by simp; omega
                          by_cases hbrk : ee = 10 ∧ k + 1 = zs.length
                          · obtain ⟨hb1, hb2'⟩ := hbrk
                            rw [if_pos ⟨hb1, by simpa using hb2'⟩] at hscan
                            rw [decide_eq_true hb2'] at hw1 hw2
                            have e10 : ((ee : Int) == 10) = true := by simp; omega
                            have HB := Lib.hid (And.intro hscan (And.intro ht8 (And.intro hd8 (And.intro hfin (And.intro hT8 (And.intro hseg8 (And.intro hlog8 hb2')))))))
                            clear hscan ht8 hd8 hfin hT8 hb2 hb2' hee hnn
                            have m28 := Joins.cell_of_block hseg8 2
                            simp at m28
                            clear hseg8 hlog8
                            have hbk8 := (((HFR.out.2.2 |> fun h => (H7.out.2.1.block b (by have := heap_lt h; rw [H7.out.2.2] at this ⊢; exact this)).trans h) |> fun h => HB.out.2.2.2.2.1.block b _ h (.inr (by simp [tagOf, TRl]))))
                            have y0 := Joins.cell_of_block hbk8 k
                            rw [hck] at y0
                            have hF9 := rfile_c name (by omega) kz (by omega) (by omega) w8.drew
                            rw [HF.out.2.2.2] at hF9
                            have HF9 := Lib.hid hF9; clear hF9
                            have HK8 := Lib.hid hbk8; clear hbk8
                            go_wp2_with fail
                            go_region_held3 (fun W => W.cell? ⟨b, k, none⟩ = some (.int .i64 kz) ∧ W.cell? ⟨z, 2, none⟩ = some (.int .i64 (sz : Int)))
                              (first | (refine ⟨?_, ?_⟩ <;> assumption) | go_keep)
                              (first
                                | (go_at_call 18; refine HF9.out.mono ?_; rintro e w10 ⟨rfl, hb10⟩
                                   have y1 := (hb10.cell (p := ⟨b, k, none⟩) (cell_lt y0)).trans y0
                                   have y2 := (hb10.cell (p := ⟨z, 2, none⟩) (cell_lt m28)).trans m28
                                   have HB10 := Lib.hid (drew_bel hb10); clear hb10)
                                | (go_at_call 59; refine (rtrunc_c n rd room N5 lv' es' (by omega) sf (by omega) H5.out.2.2.2.2.1 sz ⟨_, List.mem_of_getElem? H5.out.2.2.2.2.2.2.1, by
                                      obtain ⟨q1, q2, _⟩ := H5.out.2.2.2.2.2.1
                                      have := H5.out.2.2.2.2.2.2.1
                                      rw [List.getElem?_eq_getElem q1] at this
                                      injection this with this
                                      rw [← this]; exact q2⟩ (fun i' x' h1 h2 => by
                                      have := h1.uniq H5.out.2.2.2.2.2.1
                                      subst this
                                      rw [H5.out.2.2.2.2.2.2.1] at h2
                                      cases h2
                                      have := H5.out.2.2.2.2.2.2.2.2.2.2.1
                                      simp only
                                      omega) w10 (HB.out.2.2.1.below HB10.out)).mono ?_; rintro e w11 ⟨rfl, hT11, hR11⟩
                                   have y3 := Joins.cell_of_block (hT11.block _ _ ((HB10.out.block b (heap_lt HK8.out)).trans HK8.out) (.inr (by simp [tagOf]))) k
                                   have y4 := Joins.cell_of_block (hT11.block _ _ ((HB10.out.block z (heap_lt HB.out.2.2.2.2.2.1)).trans HB.out.2.2.2.2.2.1) (.inr (by simp [tagOf]))) 2
                                   rw [hck] at y3
                                   simp at y4
                                   have H11 := Lib.hid (And.intro hT11 hR11); clear hT11 hR11))
                            obtain ⟨hT11, i', x', v', hF', hx', NF, hdF⟩ := H11.out
                            obtain rfl := hF'.uniq H5.out.2.2.2.2.2.1
                            rw [H5.out.2.2.2.2.2.2.1] at hx'
                            cases hx'
                            have hT811 : Turn n TRf w8 w11 := (Turn.of_below HB10.out).trans hT11
                            have hlogF := HB.out.2.2.2.2.2.2.1.turn hT811
                            have hsegF := hT811.block z _ HB.out.2.2.2.2.2.1 (.inr (by simp [tagOf, TRf]))
                            obtain ⟨DF, hDF⟩ : ∃ x, D'.tick.tick.cut xf sz = x := ⟨_, rfl⟩
                            obtain ⟨esF, hesF⟩ : ∃ x, es'.set i' ({ xf with b := xf.b.take sz, safe := sz }, v') = x := ⟨_, rfl⟩
                            have hi' : i' < es'.length := (List.getElem?_eq_some_iff.1 H5.out.2.2.2.2.2.2.1).1
                            have hei' : es'[i'] = (xf, xv) := (List.getElem?_eq_some_iff.1 H5.out.2.2.2.2.2.2.1).2
                            have fewF : esF.length ≤ 16 := by rw [← hesF, List.length_set]; exact hfew
                            have hmemF : xf ∈ D'.tick.tick.files := (fileAt_mem H5.out.2.2.2.2.2.2.2.1).1
                            have goodF : GoodD DF := by rw [← hDF]; exact HI.out.good.tick.tick.cut hmemF sz
                            have agF : Agree DF (esF.map (·.1)) := by
                              rw [← hDF, ← hesF, List.map_set]
                              exact (HI.out.agree.tick.tick).cut (by rw [List.length_map]; exact hi') (by rw [List.getElem_map, hei']) sz
                            have htF : Turn n TRf w w11 := HB.out.2.1.trans hT811
                            have hiF := own_turn (own_turn H8.out.2.2.1 HB.out.2.2.2.2.1 (by simp [TRl])) hT811 (by simp [TRf])
                            have hldF : LogM.load D' (G'.at0 k kz) kz (zs.drop (k + 1)).isEmpty = (DF, { G1 with recs := G1.recs ++ acc, parts := G1.parts ++ [⟨kz, acc.length, sz⟩] }, 0) := by
                              rw [← hDF, ← HW6.out.2.2.2.2.2]
                              exact load_cutoff HLD.out.2.2 HB.out.2.2.2.1 (by rw [HLD.out.1]; exact HB.out.1) (by rw [H5.out.2.2.2.2.2.2.2.2.2.2.1]; exact hslt) (by
                                rw [HLD.out.2.1, HF.out.2.2.2]
                                exact trunc_eq HI.out.good.run.tick H5.out.2.2.2.2.1 H5.out.2.2.2.2.2.2.2.1 (by rw [H5.out.2.2.2.2.2.2.2.2.2.2.1]; omega))
                            rw [hesF] at hdF
                            clear hT11 hF' hT811 hDF hesF hi' hei' hmemF H11
                            go_wp2_with fail
                            obtain ⟨As, cs, hsv, _, _, _⟩ := own_slice hlogF.segs
                            subst hsv
                            have hsegsF := hlogF.segs
                            obtain ⟨iP, hiP, hzP0, hzP1, hzP2⟩ := info_seg
                            have hmF : w.heap.size ≤ w11.heap.size := by have := heap_lt hsegF; omega
                            obtain ⟨vF, wF, happF, hownF, hgrowF, hblkF⟩ := run_append_rd (P := Tryz.prog) ((w11.alloc (.cells #[.int .i64 kz, .int .i64 (acc.length : Int), .int .i64 (sz : Int)] 103)).drew) w.heap.size 98 98 103 iP _ 3 24 Tryz.underlying98 hiP hzP0 hzP1 hzP2 rfl (by decide) _ ns xs
                              (own_below hsegsF (belw_drew (bnew w11 _))) 0 (some ⟨w11.heap.size, 0, none⟩) 1 1 [.int .i64 kz, .int .i64 (acc.length : Int), .int .i64 (sz : Int)] rfl (rd_new3 w11 _ _ _ _).drew (by simp [Value.oneCell']) (by unfold maxLen; have := HI.out.many.2; omega) (by have := HI.out.many.2; omega) (by simp [World.drew]; omega) (fun h => by cases h)
                            have hTF : Turn w.heap.size [some 103] w11 wF := (Turn.of_below (belw_drew (bnew w11 _))).trans (own_turned (own_below hsegsF (belw_drew (bnew w11 _))) hgrowF)
                            obtain ⟨AF, cF, rfl, -, -, -⟩ := own_slice hownF
                            obtain ⟨hLF, hTLF⟩ := hlogF.addSeg hTF hownF (G1.parts ++ [⟨kz, acc.length, sz⟩])
                            have hatF := hTF.block g _ hlogF.at_ (.inr (by simp [tagOf]))
                            have y3 := Joins.cell_of_block hatF 3
                            have y3u := Joins.unfrozen_of_block hatF 3
                            have x3 := Joins.cell_of_block hlogF.at_ 3
                            have x0 := Joins.cell_of_block hsegF 0
                            have x1 := Joins.cell_of_block hsegF 1
                            have x2 := Joins.cell_of_block hsegF 2
                            simp at y3 x3 x0 x1 x2
                            have hbnF := bnew w11 (.cells #[.int .i64 kz, .int .i64 (acc.length : Int), .int .i64 (sz : Int)] 103)
                            have x3a := (hbnF.cell (cell_lt x3)).trans x3
                            have x0a := (hbnF.cell (cell_lt x0)).trans x0
                            have x1a := (hbnF.cell (cell_lt x1)).trans x1
                            have x2a := (hbnF.cell (cell_lt x2)).trans x2
                            have hNEXT : RopI n w.heap.size rd g room name most R zs (.slice (some ⟨b, 0, none⟩) zs.length cz) w (k + 1) NF lv' esF DF { G1 with recs := G1.recs ++ acc, parts := G1.parts ++ [⟨kz, acc.length, sz⟩] } (.slice AF (ns + 1) cF) bv' (ns + 1) (xs ++ [.int .i64 kz, .int .i64 (acc.length : Int), .int .i64 (sz : Int)]) vs' (wF.setCell ⟨g, 3, none⟩ (.slice AF (ns + 1) cF)) := by
                              refine ⟨hdF.turnL hTLF, fewF, goodF, agF, hLF, HW6.out.2.2.1, fun h => by omega, ⟨?_, by have := HI.out.many.2; omega⟩, HW6.out.2.2.2.2.1, ?_, own_turn hiF hTLF (by simp [TRl]), htF.low (by rw [HI.out.base]; exact hTLF.below hmF), Nat.le_trans hmF hTLF.size, HI.out.base⟩
                              · simp only [List.length_append]
                                rw [← manyR_succ, HW6.out.2.2.2.1]
                                have := HI.out.many.1
                                have := HJ.out.scan.2.1
                                omega
                              · rw [← HI.out.rest, hdrop.out]
                                exact (openAll_go hldF).symm
                            have HAPP := Lib.hid happF
                            have HNX := Lib.hid hNEXT
                            clear hNEXT happF hownF hgrowF hblkF hTF hLF hTLF hatF hbnF hiP hzP0 hzP1 hzP2 hsegsF hlogF hsegF hdF fewF goodF agF htF hiF hldF hmF
                            refine wp_region_any (by kernel_rfl) ?_
                            (try (change wpAny _ _ _ _ _ _ _ (World.drew _)))
                            refine wpAny_take (i := 0) (v := ?_) rfl (by kernel_rfl) (by kernel_rfl) (by kernel_rfl) (fun _ _ _ h => h) (Or.inl ⟨by rfl, ?_⟩) ?_
                            rotate_left
                            · intro w; go_simp; (try with_reducible rfl)
                            refine wpAny_take (i := 1) (v := ?_) rfl (by kernel_rfl) (by kernel_rfl) (by kernel_rfl) (fun _ _ _ h => h) (Or.inl ⟨by rfl, ?_⟩) ?_
                            rotate_left
                            · intro w; go_simp; (try with_reducible rfl)
                            refine wpAny_take (i := 2) (v := ?_) rfl (by kernel_rfl) (by kernel_rfl) (by kernel_rfl) (fun _ _ _ h => h) (Or.inl ⟨by rfl, ?_⟩) ?_
                            rotate_left
                            · intro w; go_simp; (try with_reducible rfl)
                            refine wpAny_take (i := 3) (v := ?_) rfl (by kernel_rfl) (by kernel_rfl) (by kernel_rfl) (fun _ _ _ h => h) (Or.inl ⟨by rfl, ?_⟩) ?_
                            rotate_left
                            · intro w; go_simp; (try with_reducible rfl)
                            refine wpAny_ready (rs := [4, 5]) (by kernel_rfl) (by simp) ?_
                            refine (AllReady.cons rfl (fun K hK => ?_) (AllReady.cons rfl (fun K hK => ?_) AllReady.nil))
                            · go_simp
                              refine hK _ _ ?_
                              clear hK K
                              refine wpAny_ready (rs := [5]) (by kernel_rfl) (by simp) ?_
                              refine (AllReady.cons rfl (fun K hK => ?_) AllReady.nil)
                              · go_simp
                                refine hK _ _ ?_
                                clear hK K
                                refine wpAny_ready (rs := [6]) (by kernel_rfl) (by simp) ?_
                                refine (AllReady.cons rfl (fun K hK => ?_) AllReady.nil)
                                · go_simp
                                  refine hK _ _ ?_
                                  clear hK K
                                  refine wpAny_ready (rs := [7]) (by kernel_rfl) (by simp) ?_
                                  refine (AllReady.cons rfl (fun K hK => ?_) AllReady.nil)
                                  · refine step_plainly rfl (wp_append_run _ _ _ rfl _ _ rfl rfl HAPP.out ?_)
                                    go_simp
                                    refine hK _ _ ?_
                                    clear hK K
                                    refine wpAny_take (i := 8) (v := ?_) rfl (by kernel_rfl) (by kernel_rfl) (by kernel_rfl) (fun _ _ _ h => h) (Or.inl ⟨by rfl, ?_⟩) ?_
                                    rotate_left
                                    · intro w; go_simp; (try with_reducible rfl)
                                    refine wpAny_take (i := 9) (v := ?_) rfl (by kernel_rfl) (by kernel_rfl) (by kernel_rfl) (fun _ _ _ h => h) (Or.inl ⟨by rfl, ?_⟩) ?_
                                    rotate_left
                                    · intro w; go_simp; (try with_reducible rfl)
                                    refine wpAny_ready (rs := [10]) (by kernel_rfl) (by simp) ?_
                                    refine (AllReady.cons rfl (fun K hK => ?_) AllReady.nil)
                                    · go_simp
                                      refine hK _ _ ?_
                                      clear hK K
                                      refine wpAny_done (by kernel_rfl) ?_ _
                                      go_wp2_with fail
                                      exact ⟨⟨k + 1, _, _, _, _, _, _, _, _, _, _, by omega, rfl, Lib.hid HNX.out⟩, by simp [intOf]; omega⟩
                            · go_simp
                              refine hK _ _ ?_
                              clear hK K
                              refine wpAny_ready (rs := [4, 6]) (by kernel_rfl) (by simp) ?_
                              refine (AllReady.cons rfl (fun K hK => ?_) (AllReady.cons rfl (fun K hK => ?_) AllReady.nil))
                              · go_simp
                                refine hK _ _ ?_
                                clear hK K
                                refine wpAny_ready (rs := [6]) (by kernel_rfl) (by simp) ?_
                                refine (AllReady.cons rfl (fun K hK => ?_) AllReady.nil)
                                · go_simp
                                  refine hK _ _ ?_
                                  clear hK K
                                  refine wpAny_ready (rs := [7]) (by kernel_rfl) (by simp) ?_
                                  refine (AllReady.cons rfl (fun K hK => ?_) AllReady.nil)
                                  · refine step_plainly rfl (wp_append_run _ _ _ rfl _ _ rfl rfl HAPP.out ?_)
                                    go_simp
                                    refine hK _ _ ?_
                                    clear hK K
                                    refine wpAny_take (i := 8) (v := ?_) rfl (by kernel_rfl) (by kernel_rfl) (by kernel_rfl) (fun _ _ _ h => h) (Or.inl ⟨by rfl, ?_⟩) ?_
                                    rotate_left
                                    · intro w; go_simp; (try with_reducible rfl)
                                    refine wpAny_take (i := 9) (v := ?_) rfl (by kernel_rfl) (by kernel_rfl) (by kernel_rfl) (fun _ _ _ h => h) (Or.inl ⟨by rfl, ?_⟩) ?_
                                    rotate_left
                                    · intro w; go_simp; (try with_reducible rfl)
                                    refine wpAny_ready (rs := [10]) (by kernel_rfl) (by simp) ?_
                                    refine (AllReady.cons rfl (fun K hK => ?_) AllReady.nil)
                                    · go_simp
                                      refine hK _ _ ?_
                                      clear hK K
                                      refine wpAny_done (by kernel_rfl) ?_ _
                                      go_wp2_with fail
                                      exact ⟨⟨k + 1, _, _, _, _, _, _, _, _, _, _, by omega, rfl, Lib.hid HNX.out⟩, by simp [intOf]; omega⟩
                              · go_simp
                                refine hK _ _ ?_
                                clear hK K
                                refine wpAny_ready (rs := [4]) (by kernel_rfl) (by simp) ?_
                                refine (AllReady.cons rfl (fun K hK => ?_) AllReady.nil)
                                · go_simp
                                  refine hK _ _ ?_
                                  clear hK K
                                  refine wpAny_ready (rs := [7]) (by kernel_rfl) (by simp) ?_
                                  refine (AllReady.cons rfl (fun K hK => ?_) AllReady.nil)
                                  · refine step_plainly rfl (wp_append_run _ _ _ rfl _ _ rfl rfl HAPP.out ?_)
                                    go_simp
                                    refine hK _ _ ?_
                                    clear hK K
                                    refine wpAny_take (i := 8) (v := ?_) rfl (by kernel_rfl) (by kernel_rfl) (by kernel_rfl) (fun _ _ _ h => h) (Or.inl ⟨by rfl, ?_⟩) ?_
                                    rotate_left
                                    · intro w; go_simp; (try with_reducible rfl)
                                    refine wpAny_take (i := 9) (v := ?_) rfl (by kernel_rfl) (by kernel_rfl) (by kernel_rfl) (fun _ _ _ h => h) (Or.inl ⟨by rfl, ?_⟩) ?_
                                    rotate_left
                                    · intro w; go_simp; (try with_reducible rfl)
                                    refine wpAny_ready (rs := [10]) (by kernel_rfl) (by simp) ?_
                                    refine (AllReady.cons rfl (fun K hK => ?_) AllReady.nil)
                                    · go_simp
                                      refine hK _ _ ?_
                                      clear hK K
                                      refine wpAny_done (by kernel_rfl) ?_ _
                                      go_wp2_with fail
                                      exact ⟨⟨k + 1, _, _, _, _, _, _, _, _, _, _, by omega, rfl, Lib.hid HNX.out⟩, by simp [intOf]; omega⟩
                          · have hscan' : scanS (decide (k + 1 = zs.length)) (seqF (xf.b.length + 1) xf.b) = none := by
                              rw [hscan, if_neg]
                              rintro ⟨h1, h2⟩
                              exact hbrk ⟨h1, by simpa using h2⟩
                            have HB := Lib.hid (And.intro hscan' (And.intro ht8 (And.intro hd8 (And.intro hfin hbrk))))
                            clear hscan hscan' ht8 hd8 hfin hT8 hb2 hee hnn hseg8 hlog8
                            by_cases h10 : ee = 10
                            · have e10 : ((ee : Int) == 10) = true := by simp; omega
                              have hk1 : ¬ k + 1 = zs.length := fun h => hbrk ⟨h10, h⟩
                              rw [decide_eq_false hk1] at hw1 hw2
                              clear hbrk h10 hk1
                              go_wp2_with fail
                              go_ret2
                              have hload := load_rot' HLD.out.2.2 HB.out.2.2.2.1 (last := (zs.drop (k + 1)).isEmpty) (by rw [HLD.out.1]; exact HB.out.1)
                              exact post_err (step_bad HI.out.rest hdrop.out hload (by decide)) HB.out.2.2.1 hfew HI.out.agree HB.out.2.1
                            · have e10 : ((ee : Int) == 10) = false := by simp; omega
                              clear hbrk h10
                              go_wp2_with fail
                              go_ret2
                              have hload := load_rot' HLD.out.2.2 HB.out.2.2.2.1 (last := (zs.drop (k + 1)).isEmpty) (by rw [HLD.out.1]; exact HB.out.1)
                              exact post_err (step_bad HI.out.rest hdrop.out hload (by decide)) HB.out.2.2.1 hfew HI.out.agree HB.out.2.1
                      · have hszb : sz = bl := by omega
                        have hsd : decide ((sz : Int) < (bl : Int)) = false := by simp; omega
                        have hscan := scanI_end HJ.out.scan (by rw [H5.out.2.2.2.2.2.2.2.2.2.2.1]; omega)
                        have hlogF := HJ.out.log
                        have hsegF := HJ.out.seg
                        have hdF := H8.out.2.1.turnL HJ.out.turn
                        have fewF := hfew
                        have goodF := HI.out.good.tick
                        have agF := HI.out.agree.tick
                        have htF : Turn n TRf w wr := H8.out.1.low (by rw [HI.out.base]; exact HJ.out.turn.below H8.out.2.2.2)
                        have hiF := own_turn H8.out.2.2.1 HJ.out.turn (by simp [TRl])
                        have hfin : kz = (G'.at0 k kz).fin := by
                          rw [HW6.out.2.2.2.2.2, LogM.fin, HFR.out.1, HFR.out.2.1]
                          exact HNE.out
                        have hldF : LogM.load D' (G'.at0 k kz) kz (zs.drop (k + 1)).isEmpty = (D'.tick, { G1 with recs := G1.recs ++ acc, parts := G1.parts ++ [⟨kz, acc.length, sz⟩] }, 0) := by
                          rw [← HW6.out.2.2.2.2.2]
                          exact load_whole HLD.out.2.2 hfin (by rw [HLD.out.1]; exact hscan) (by rw [H5.out.2.2.2.2.2.2.2.2.2.2.1]; omega)
                        clear hscan hfin hszb
                        go_wp2_with fail
                        obtain ⟨As, cs, hsv, _, _, _⟩ := own_slice hlogF.segs
                        subst hsv
                        have hsegsF := hlogF.segs
                        obtain ⟨iP, hiP, hzP0, hzP1, hzP2⟩ := info_seg
                        have hmF : w.heap.size ≤ wr.heap.size := by have := heap_lt hsegF; omega
                        obtain ⟨vF, wF, happF, hownF, hgrowF, hblkF⟩ := run_append_rd (P := Tryz.prog) ((wr.alloc (.cells #[.int .i64 kz, .int .i64 (acc.length : Int), .int .i64 (sz : Int)] 103)).drew) w.heap.size 98 98 103 iP _ 3 24 Tryz.underlying98 hiP hzP0 hzP1 hzP2 rfl (by decide) _ ns xs
                          (own_below hsegsF (belw_drew (bnew wr _))) 0 (some ⟨wr.heap.size, 0, none⟩) 1 1 [.int .i64 kz, .int .i64 (acc.length : Int), .int .i64 (sz : Int)] rfl (rd_new3 wr _ _ _ _).drew (by simp [Value.oneCell']) (by unfold maxLen; have := HI.out.many.2; omega) (by have := HI.out.many.2; omega) (by simp [World.drew]; omega) (fun h => by cases h)
                        have hTF : Turn w.heap.size [some 103] wr wF := (Turn.of_below (belw_drew (bnew wr _))).trans (own_turned (own_below hsegsF (belw_drew (bnew wr _))) hgrowF)
                        obtain ⟨AF, cF, rfl, -, -, -⟩ := own_slice hownF
                        obtain ⟨hLF, hTLF⟩ := hlogF.addSeg hTF hownF (G1.parts ++ [⟨kz, acc.length, sz⟩])
                        have hatF := hTF.block g _ hlogF.at_ (.inr (by simp [tagOf]))
                        have y3 := Joins.cell_of_block hatF 3
                        have y3u := Joins.unfrozen_of_block hatF 3
                        have x3 := Joins.cell_of_block hlogF.at_ 3
                        have x0 := Joins.cell_of_block hsegF 0
                        have x1 := Joins.cell_of_block hsegF 1
                        have x2 := Joins.cell_of_block hsegF 2
                        simp at y3 x3 x0 x1 x2
                        have hbnF := bnew wr (.cells #[.int .i64 kz, .int .i64 (acc.length : Int), .int .i64 (sz : Int)] 103)
                        have x3a := (hbnF.cell (cell_lt x3)).trans x3
                        have x0a := (hbnF.cell (cell_lt x0)).trans x0
                        have x1a := (hbnF.cell (cell_lt x1)).trans x1
                        have x2a := (hbnF.cell (cell_lt x2)).trans x2
                        have hNEXT : RopI n w.heap.size rd g room name most R zs (.slice (some ⟨b, 0, none⟩) zs.length cz) w (k + 1) N5 lv' es' D'.tick { G1 with recs := G1.recs ++ acc, parts := G1.parts ++ [⟨kz, acc.length, sz⟩] } (.slice AF (ns + 1) cF) bv' (ns + 1) (xs ++ [.int .i64 kz, .int .i64 (acc.length : Int), .int .i64 (sz : Int)]) vs' (wF.setCell ⟨g, 3, none⟩ (.slice AF (ns + 1) cF)) := by
                          refine ⟨hdF.turnL hTLF, fewF, goodF, agF, hLF, HW6.out.2.2.1, fun h => by omega, ⟨?_, by have := HI.out.many.2; omega⟩, HW6.out.2.2.2.2.1, ?_, own_turn hiF hTLF (by simp [TRl]), htF.low (by rw [HI.out.base]; exact hTLF.below hmF), Nat.le_trans hmF hTLF.size, HI.out.base⟩
                          · simp only [List.length_append]
                            rw [← manyR_succ, HW6.out.2.2.2.1]
                            have := HI.out.many.1
                            have := HJ.out.scan.2.1
                            omega
                          · rw [← HI.out.rest, hdrop.out]
                            exact (openAll_go hldF).symm
                        have HAPP := Lib.hid happF
                        have HNX := Lib.hid hNEXT
                        clear hNEXT happF hownF hgrowF hblkF hTF hLF hTLF hatF hbnF hiP hzP0 hzP1 hzP2 hsegsF hlogF hsegF hdF fewF goodF agF htF hiF hldF hmF
                        refine wp_region_any (by kernel_rfl) ?_
                        (try (change wpAny _ _ _ _ _ _ _ (World.drew _)))
                        refine wpAny_take (i := 0) (v := ?_) rfl (by kernel_rfl) (by kernel_rfl) (by kernel_rfl) (fun _ _ _ h => h) (Or.inl ⟨by rfl, ?_⟩) ?_
                        rotate_left
                        · intro w; go_simp; (try with_reducible rfl)
                        refine wpAny_take (i := 1) (v := ?_) rfl (by kernel_rfl) (by kernel_rfl) (by kernel_rfl) (fun _ _ _ h => h) (Or.inl ⟨by rfl, ?_⟩) ?_
                        rotate_left
                        · intro w; go_simp; (try with_reducible rfl)
                        refine wpAny_take (i := 2) (v := ?_) rfl (by kernel_rfl) (by kernel_rfl) (by kernel_rfl) (fun _ _ _ h => h) (Or.inl ⟨by rfl, ?_⟩) ?_
                        rotate_left
                        · intro w; go_simp; (try with_reducible rfl)
                        refine wpAny_take (i := 3) (v := ?_) rfl (by kernel_rfl) (by kernel_rfl) (by kernel_rfl) (fun _ _ _ h => h) (Or.inl ⟨by rfl, ?_⟩) ?_
                        rotate_left
                        · intro w; go_simp; (try with_reducible rfl)
                        refine wpAny_ready (rs := [4, 5]) (by kernel_rfl) (by simp) ?_
                        refine (AllReady.cons rfl (fun K hK => ?_) (AllReady.cons rfl (fun K hK => ?_) AllReady.nil))
                        · go_simp
                          refine hK _ _ ?_
                          clear hK K
                          refine wpAny_ready (rs := [5]) (by kernel_rfl) (by simp) ?_
                          refine (AllReady.cons rfl (fun K hK => ?_) AllReady.nil)
                          · go_simp
                            refine hK _ _ ?_
                            clear hK K
                            refine wpAny_ready (rs := [6]) (by kernel_rfl) (by simp) ?_
                            refine (AllReady.cons rfl (fun K hK => ?_) AllReady.nil)
                            · go_simp
                              refine hK _ _ ?_
                              clear hK K
                              refine wpAny_ready (rs := [7]) (by kernel_rfl) (by simp) ?_
                              refine (AllReady.cons rfl (fun K hK => ?_) AllReady.nil)
                              · refine step_plainly rfl (wp_append_run _ _ _ rfl _ _ rfl rfl HAPP.out ?_)
                                go_simp
                                refine hK _ _ ?_
                                clear hK K
                                refine wpAny_take (i := 8) (v := ?_) rfl (by kernel_rfl) (by kernel_rfl) (by kernel_rfl) (fun _ _ _ h => h) (Or.inl ⟨by rfl, ?_⟩) ?_
                                rotate_left
                                · intro w; go_simp; (try with_reducible rfl)
                                refine wpAny_take (i := 9) (v := ?_) rfl (by kernel_rfl) (by kernel_rfl) (by kernel_rfl) (fun _ _ _ h => h) (Or.inl ⟨by rfl, ?_⟩) ?_
                                rotate_left
                                · intro w; go_simp; (try with_reducible rfl)
                                refine wpAny_ready (rs := [10]) (by kernel_rfl) (by simp) ?_
                                refine (AllReady.cons rfl (fun K hK => ?_) AllReady.nil)
                                · go_simp
                                  refine hK _ _ ?_
                                  clear hK K
                                  refine wpAny_done (by kernel_rfl) ?_ _
                                  go_wp2_with fail
                                  exact ⟨⟨k + 1, _, _, _, _, _, _, _, _, _, _, by omega, rfl, Lib.hid HNX.out⟩, by simp [intOf]; omega⟩
                        · go_simp
                          refine hK _ _ ?_
                          clear hK K
                          refine wpAny_ready (rs := [4, 6]) (by kernel_rfl) (by simp) ?_
                          refine (AllReady.cons rfl (fun K hK => ?_) (AllReady.cons rfl (fun K hK => ?_) AllReady.nil))
                          · go_simp
                            refine hK _ _ ?_
                            clear hK K
                            refine wpAny_ready (rs := [6]) (by kernel_rfl) (by simp) ?_
                            refine (AllReady.cons rfl (fun K hK => ?_) AllReady.nil)
                            · go_simp
                              refine hK _ _ ?_
                              clear hK K
                              refine wpAny_ready (rs := [7]) (by kernel_rfl) (by simp) ?_
                              refine (AllReady.cons rfl (fun K hK => ?_) AllReady.nil)
                              · refine step_plainly rfl (wp_append_run _ _ _ rfl _ _ rfl rfl HAPP.out ?_)
                                go_simp
                                refine hK _ _ ?_
                                clear hK K
                                refine wpAny_take (i := 8) (v := ?_) rfl (by kernel_rfl) (by kernel_rfl) (by kernel_rfl) (fun _ _ _ h => h) (Or.inl ⟨by rfl, ?_⟩) ?_
                                rotate_left
                                · intro w; go_simp; (try with_reducible rfl)
                                refine wpAny_take (i := 9) (v := ?_) rfl (by kernel_rfl) (by kernel_rfl) (by kernel_rfl) (fun _ _ _ h => h) (Or.inl ⟨by rfl, ?_⟩) ?_
                                rotate_left
                                · intro w; go_simp; (try with_reducible rfl)
                                refine wpAny_ready (rs := [10]) (by kernel_rfl) (by simp) ?_
                                refine (AllReady.cons rfl (fun K hK => ?_) AllReady.nil)
                                · go_simp
                                  refine hK _ _ ?_
                                  clear hK K
                                  refine wpAny_done (by kernel_rfl) ?_ _
                                  go_wp2_with fail
                                  exact ⟨⟨k + 1, _, _, _, _, _, _, _, _, _, _, by omega, rfl, Lib.hid HNX.out⟩, by simp [intOf]; omega⟩
                          · go_simp
                            refine hK _ _ ?_
                            clear hK K
                            refine wpAny_ready (rs := [4]) (by kernel_rfl) (by simp) ?_
                            refine (AllReady.cons rfl (fun K hK => ?_) AllReady.nil)
                            · go_simp
                              refine hK _ _ ?_
                              clear hK K
                              refine wpAny_ready (rs := [7]) (by kernel_rfl) (by simp) ?_
                              refine (AllReady.cons rfl (fun K hK => ?_) AllReady.nil)
                              · refine step_plainly rfl (wp_append_run _ _ _ rfl _ _ rfl rfl HAPP.out ?_)
                                go_simp
                                refine hK _ _ ?_
                                clear hK K
                                refine wpAny_take (i := 8) (v := ?_) rfl (by kernel_rfl) (by kernel_rfl) (by kernel_rfl) (fun _ _ _ h => h) (Or.inl ⟨by rfl, ?_⟩) ?_
                                rotate_left
                                · intro w; go_simp; (try with_reducible rfl)
                                refine wpAny_take (i := 9) (v := ?_) rfl (by kernel_rfl) (by kernel_rfl) (by kernel_rfl) (fun _ _ _ h => h) (Or.inl ⟨by rfl, ?_⟩) ?_
                                rotate_left
                                · intro w; go_simp; (try with_reducible rfl)
                                refine wpAny_ready (rs := [10]) (by kernel_rfl) (by simp) ?_
                                refine (AllReady.cons rfl (fun K hK => ?_) AllReady.nil)
                                · go_simp
                                  refine hK _ _ ?_
                                  clear hK K
                                  refine wpAny_done (by kernel_rfl) ?_ _
                                  go_wp2_with fail
                                  exact ⟨⟨k + 1, _, _, _, _, _, _, _, _, _, _, by omega, rfl, Lib.hid HNX.out⟩, by simp [intOf]; omega⟩
                  · have hneb : (kz == F + (rl : Int)) = false := by simpa using hne
                    have hneb' : (kz != F + (rl : Int)) = true := by simpa using hne
                    have HNE := Lib.hid hne
                    clear hne
                    go_wp2_with fail
                    go_ret2
                    have hload := load_far (last := (zs.drop (k + 1)).isEmpty) HLD.out.2.2 (k := kz) (by
                      rw [HW6.out.2.2.2.2.2, LogM.fin, HFR.out.1, HFR.out.2.1]
                      exact HNE.out)
                    refine post_err (step_bad HI.out.rest hdrop.out hload (by decide)) (((H5.out.1.turnL HW6.out.2.1)).keeps fun _ _ h _ => h) hfew HI.out.agree ?_
                    exact ((HI.out.turn.trans H5.out.2.1).low ((HW6.out.2.1.below (by have := H5.out.2.2.2.2.2.2.2.2.2.2.2; exact this)))).drew
                · have hkd0 : ((k : Int) == 0) = false := by simp [hk0]
                  obtain ⟨G1, hG1⟩ : ∃ G1, G'.at0 k kz = G1 := ⟨_, rfl⟩
                  have hGe : G1 = G' := by rw [← hG1, LogM.at0, if_neg hk0]
                  have hnm1 : G1.name = name := by rw [hGe, HI.out.nm]
                  have hrc1 : G1.recs = G'.recs := by rw [hGe]
                  have hfst1 : 0 ≤ G1.first ∧ G1.first ≤ 1000000000 := by rw [hGe]; exact HI.out.fst
                  have HP6 := Lib.hid hrc1
                  clear hk0 hrc1
                  go_wp2_with fail
                  obtain ⟨w6, hw6⟩ : ∃ w6, w5 = w6 := ⟨_, rfl⟩
                  have hL6 : RLogX w.heap.size w6 g rd slv bv ns xs vs name most G1 := by rw [hGe, ← hw6]; exact H5.out.2.2.1
                  have hT6 : Turn w.heap.size TRl w5 w6 := by rw [← hw6]; exact Turn.refl _ _ _
                  have hrc1 := HP6.out
                  rw [hw6]
                  clear HP6 hGe

                  have HW6 := Lib.hid (And.intro hL6 (And.intro hT6 (And.intro hnm1 (And.intro hrc1 (And.intro hfst1 hG1)))))
                  obtain ⟨Ab, cb, hbv, _, _, _⟩ := own_slice hL6.row
                  subst hbv
                  have hbk6 := hT6.block b _ H5.out.2.2.2.1 (.inr (by simp [tagOf, TRl]))
                  have e4 := Joins.cell_of_block hL6.at_ 4
                  have e5 := Joins.cell_of_block hL6.at_ 5
                  have eb := Joins.cell_of_block hbk6 k
                  rw [hck] at eb
                  simp at e4 e5
                  have hrl : G1.recs.length ≤ 549755813888 := by rw [hrc1]; exact Nat.le_trans HI.out.many.1 (manyR_le (by omega))
                  have hfb := hfst1
                  obtain ⟨F, hFF⟩ : ∃ F, G1.first = F := ⟨_, rfl⟩
                  obtain ⟨rl, hrll⟩ : ∃ r, G1.recs.length = r := ⟨_, rfl⟩
                  rw [hFF] at e5 hfb
                  obtain ⟨hfb1, hfb2⟩ := hfb
                  have hwf : IntKind.i64.wrap (F + (rl : Int)) = F + rl := IntWalk.i64_in _ (by omega)
                  rw [hrll] at e4 hrl
                  have HFR := Lib.hid (And.intro hFF (And.intro hrll hbk6))
                  clear hL6 hT6 hnm1 hrc1 hfst1 hG1 hFF hrll hbk6
                  go_region_held3 (fun W => W.cell? ⟨b, k, none⟩ = some (.int .i64 kz) ∧ W.cell? ⟨g, 5, none⟩ = some (.int .i64 F) ∧ W.cell? ⟨g, 4, none⟩ = some (.slice Ab rl cb)) (first | (refine ⟨?_, ?_, ?_⟩ <;> assumption) | go_keep) (fail)
                  have HT6 := HW6.out.2.1
                  have hm6 : w.heap.size ≤ w6.heap.size := Nat.le_trans H5.out.2.2.2.2.2.2.2.2.2.2.2 HT6.size
                  have hlastb : (zs.drop (k + 1)).isEmpty = decide (k + 1 = zs.length) := by
                    by_cases h : k + 1 = zs.length
                    · rw [h, List.drop_length]; simp
                    · have : (zs.drop (k + 1)).length ≠ 0 := by rw [List.length_drop]; omega
                      rw [decide_eq_false h]
                      cases hd : zs.drop (k + 1) with
                      | nil => rw [hd] at this; simp at this
                      | cons a r => rfl
                  have hG1n : (G'.at0 k kz).name = name := by rw [at0_name, HI.out.nm]
                  have hrd1 : D'.read (fileB (G'.at0 k kz).name kz) = (D'.tick, xf.b, 0) := by rw [hG1n, HF.out.2.2.2]; exact H5.out.2.2.2.2.2.2.2.2.1
                  have HLD := Lib.hid (And.intro hlastb (And.intro hG1n hrd1)); clear hlastb hG1n hrd1 HT6
                  by_cases hne : kz = F + rl
                  · have hneb : (kz == F + (rl : Int)) = true := by simpa using hne
                    have hneb' : (kz != F + (rl : Int)) = false := by simpa using hne
                    have HNE := Lib.hid hne
                    clear hne
                    go_wp2_with fail
                    obtain ⟨w7, hw7⟩ : ∃ w7, (w6.alloc (.cells #[.int .i64 kz, .int .i64 0, .int .i64 0] 103)).drew = w7 := ⟨_, rfl⟩
                    have hB67 : Below w6.heap.size w6 w7 := by rw [← hw7]; exact belw_drew (bnew _ _)
                    have hz7 : w7.heap[w6.heap.size]? = some (.cells #[.int .i64 kz, .int .i64 0, .int .i64 0] 103 (0, 0)) := by rw [← hw7]; exact alloc_at _ _
                    obtain ⟨z, hz⟩ : ∃ z, w6.heap.size = z := ⟨_, rfl⟩
                    rw [hw7]
                    rw [hz] at hz7 hm6 ⊢
                    have hbs7 : Bs 5 w7 (.slice Av bl cv) xf.b := (H5.out.2.2.2.2.2.2.2.2.2.1.turn HW6.out.2.1 (by simp [TRl])).below hB67
                    have hin0 : RinI w.heap.size rd g z name most slv ns xs (decide (k + 1 = zs.length)) kz xf.b (.slice Av bl cv) G1 w7 [] 0 (.slice Ab rl cb) vs w7 :=
                      ⟨hz7, by
                        have h := HW6.out.1.below hB67
                        rw [HFR.out.2.1] at h
                        rw [List.append_nil]
                        exact h, scanI_start _ _, hbs7, Turn.refl _ _ _, hm6, fun e => by
                        obtain ⟨_, _, _, _, _, h | ⟨gb, h, _, hlt'⟩⟩ := own_slice HW6.out.1.segs
                        · rw [h] at e; cases e
                        · rw [h] at e; cases e; omega⟩
                    have hT56 : Turn w.heap.size TRl w5 w7 := HW6.out.2.1.bel hB67
                    have hT07 : Turn n TRf w w7 := (HI.out.turn.trans H5.out.2.1).low (by rw [HI.out.base]; exact hT56.below H5.out.2.2.2.2.2.2.2.2.2.2.2)
                    have hd7 := H5.out.1.turnL hT56
                    have hi7 : w7.ownsRow w.heap.size 3 1 (.slice (some ⟨b, 0, none⟩) zs.length cz) zs.length (intsV zs) := own_turn (own_turn HI.out.ints H5.out.2.1 (by simp [TRf])) hT56 (by simp [TRl])
                    have hm7 : w.heap.size ≤ w7.heap.size := Nat.le_trans H5.out.2.2.2.2.2.2.2.2.2.2.2 hT56.size
                    have H8 := Lib.hid (And.intro hT07 (And.intro hd7 (And.intro hi7 hm7))); clear hT56 hT07 hd7 hi7
                    have H7 := Lib.hid (And.intro hin0 (And.intro hB67 hz)); clear hin0 hB67 hz hw7 hz7 hbs7
                    simp only [hneb']
                    clear hneb hneb'
                    go_loopw [19] (fun _ W => ∃ (acc : List (List UInt8)) (sz : Nat) (bv' : Value) (vs' : List Value), Hid (RinI w.heap.size rd g z name most slv ns xs (decide (k + 1 = zs.length)) kz xf.b (.slice Av bl cv) G1 w7 acc sz bv' vs' W)) (fun _ W => bl - segSz W z)
                    case atStart => exact ⟨[], 0, _, _, Lib.hid H7.out.1⟩
                    case round =>
                      obtain ⟨acc, sz, bv', vs', HJ⟩ := hrel
                      have m2 := Joins.cell_of_block HJ.out.seg 2
                      have m1 := Joins.cell_of_block HJ.out.seg 1
                      simp at m2 m1
                      have hszl := HJ.out.scan.1
                      rw [H5.out.2.2.2.2.2.2.2.2.2.2.1] at hszl
                      by_cases hslt : sz < bl
                      · have hsd : decide ((sz : Int) < (bl : Int)) = true := by simpa using hslt
                        have hbs := HJ.out.bs
                        have hrdb : Rd 0 wr Av (bytesV xf.b) := hbs.toR.rd_of
                        have hxl : xf.b.length = bl := H5.out.2.2.2.2.2.2.2.2.2.2.1
                        have hrdd := hrdb.drop_bytes cv sz (by omega)
                        have hNx := rnext_c (fromAddr 1 Av cv sz) (bl - sz) (cv - sz) (xf.b.drop sz) (by rw [List.length_drop, hxl]) (by omega) (by omega) wr hrdd
                        obtain ⟨i0, hi0, hz0, hz1, hz2⟩ := info8
                        have hsf8 := fun W => run_slice_from (P := Tryz.prog) W 22 5 i0 1 Tryz.underlying22 hi0 hz1 Av bl cv .i64 (sz : Int) sz rfl (by omega)
                        have HNx := Lib.hid (And.intro hNx hxl); clear hNx hbs hrdb hrdd hi0 hz0 hz1 hz2 hxl
                        go_wp2_with fail
                        refine HNx.out.1.mono ?_
                        rintro e w8 ⟨v2, rfl, hb2, hB8⟩
                        obtain ⟨ee, hee⟩ : ∃ x, (nextB (xf.b.drop sz)).2.2 = x := ⟨_, rfl⟩
                        obtain ⟨nn, hnn⟩ : ∃ x, (nextB (xf.b.drop sz)).2.1 = x := ⟨_, rfl⟩
                        rw [hee, hnn]
                        have hseg8 := (hB8.block z (heap_lt HJ.out.seg)).trans HJ.out.seg
                        have hlog8 := HJ.out.log.below hB8
                        have hT8 : Turn w.heap.size TRl w7 w8 := HJ.out.turn.bel hB8
                        have hw1 : ((k : Int) == IntKind.i64.wrap ((zs.length : Int) - 1)) = decide (k + 1 = zs.length) := by
                          rw [IntWalk.i64_in _ (by omega)]
                          by_cases h : k + 1 = zs.length
                          · rw [decide_eq_true h]; simp; omega
                          · rw [decide_eq_false h]; simp; omega
                        have hw2 : ((k : Int) == (zs.length : Int) - 1) = decide (k + 1 = zs.length) := by
                          by_cases h : k + 1 = zs.length
                          · rw [decide_eq_true h]; simp; omega
                          · rw [decide_eq_false h]; simp; omega
                        by_cases he0 : ee = 0
                        · subst he0
                          obtain ⟨k1, k2, k3⟩ := next_ok hee
                          rw [hnn, List.length_drop, HNx.out.2] at k2
                          rw [hnn] at k1 k3
                          have hstep := scanI_step HJ.out.scan (by rw [HNx.out.2]; exact hslt) hee
                          rw [hnn] at hstep
                          obtain ⟨l2, hl2⟩ : ∃ x, (nextB (xf.b.drop sz)).1.getD [] = x := ⟨_, rfl⟩
                          rw [hl2] at hstep hb2
                          obtain ⟨A2, c2, rfl⟩ : ∃ A c, v2 = .slice A l2.length c := by obtain ⟨A, c, h, _⟩ := hb2; exact ⟨A, c, h⟩
                          obtain ⟨Ab', cb', hbv', _, _, _⟩ := own_slice hlog8.row
                          subst hbv'
                          obtain ⟨rn, hrn⟩ : ∃ x, ({ G1 with recs := G1.recs ++ acc } : LogM).recs.length = x := ⟨_, rfl⟩
                          have hrnl : rn ≤ 1099511627776 := by
                            have h1 := HJ.out.scan.2.1
                            have h2 := HFR.out.2.1
                            rw [← hrn]
                            simp only [List.length_append]
                            omega
                          have haccl : acc.length ≤ 1073741824 := by have h1 := HJ.out.scan.2.1; omega
                          have hrow8 := hlog8.row
                          rw [hrn] at hrow8
                          obtain ⟨iS, hiS, hzS0, hzS1, hzS2⟩ := info_bytes
                          obtain ⟨v9, w9, happ, hown9, hgrow9, hblk9⟩ := run_append_rd (P := Tryz.prog) (w8.alloc (.cells #[.slice A2 l2.length c2] 22)) w.heap.size 35 35 22 iS _ 1 24 Tryz.underlying35 hiS hzS0 hzS1 hzS2 rfl (by decide) _ rn vs'
                            (own_below hrow8 (bnew w8 _)) 0 (some ⟨w8.heap.size, 0, none⟩) 1 1 [.slice A2 l2.length c2] rfl (rd_new1 _ _ _) (by simp [Value.oneCell']) (by unfold maxLen; omega) (by omega) (by have := heap_lt hseg8; simp; omega) (fun h => by cases h)
                          have hT9 : Turn w.heap.size [some 22] w8 w9 := (Turn.of_below (bnew w8 _)).trans (own_turned (own_below hrow8 (bnew w8 _)) hgrow9)
                          obtain ⟨A9, c9, rfl, -, -, -⟩ := own_slice hown9
                          obtain ⟨hL10, hT10⟩ := hlog8.addRec hT9 (by rw [hrn]; exact hown9) (hb2.turn hT9 (by simp))
                          have hat9 := hT9.block g _ hlog8.at_ (.inr (by simp [tagOf]))
                          have hz9 := hT9.block z _ hseg8 (.inr (by simp [tagOf]))
                          have hgz : z ≠ g := by rintro rfl; rw [hlog8.at_] at hseg8; cases hseg8
                          have n4 := Joins.cell_of_block hat9 4
                          have n4u := Joins.unfrozen_of_block hat9 4
                          have hz10 : (w9.setCell ⟨g, 4, none⟩ (.slice A9 (rn + 1) c9)).heap[z]? = some (.cells #[.int .i64 kz, .int .i64 (acc.length : Int), .int .i64 (sz : Int)] 103 (0, 0)) := heap_setCell_ne hz9 hgz
                          have n10 := Joins.cell_of_block hz10 1
                          have n10u := Joins.unfrozen_of_block hz10 1
                          have hz11 : ((w9.setCell ⟨g, 4, none⟩ (.slice A9 (rn + 1) c9)).setCell ⟨z, 1, none⟩ (.int .i64 ((acc.length : Int) + 1))).heap[z]? = some (.cells #[.int .i64 kz, .int .i64 ((acc.length : Int) + 1), .int .i64 (sz : Int)] 103 (0, 0)) := by
                            rw [Joins.block_setCell hz10]; rfl
                          have n11 := Joins.cell_of_block hz11 2
                          have n11u := Joins.unfrozen_of_block hz11 2
                          have hL11 := hL10.setZ hz10 HJ.out.sep 1 (.int .i64 ((acc.length : Int) + 1))
                          have hL12 := hL11.setZ hz11 HJ.out.sep 2 (.int .i64 ((sz : Int) + nn))
                          have hT12 := ((hT8.trans hT10).setCell hz10 HJ.out.le (by simp) 1 (.int .i64 ((acc.length : Int) + 1))).setCell hz11 HJ.out.le (by simp) 2 (.int .i64 ((sz : Int) + nn))
                          have hbs12 := (((hb2.turn (t8 := 5) hT9 (by simp))))
                          have hbb12 : Bs 5 (((w9.setCell ⟨g, 4, none⟩ (.slice A9 (rn + 1) c9)).setCell ⟨z, 1, none⟩ (.int .i64 ((acc.length : Int) + 1))).setCell ⟨z, 2, none⟩ (.int .i64 ((sz : Int) + nn))) (.slice Av bl cv) xf.b :=
                            ((HJ.out.bs.below hB8).turn ((hT10.setCell hz10 HJ.out.le (by simp) 1 (.int .i64 ((acc.length : Int) + 1))).setCell hz11 HJ.out.le (by simp) 2 (.int .i64 ((sz : Int) + nn))) (by simp [TRl]))
                          have hz12 : (((w9.setCell ⟨g, 4, none⟩ (.slice A9 (rn + 1) c9)).setCell ⟨z, 1, none⟩ (.int .i64 ((acc.length : Int) + 1))).setCell ⟨z, 2, none⟩ (.int .i64 ((sz : Int) + nn))).heap[z]? = some (.cells #[.int .i64 kz, .int .i64 ((acc.length : Int) + 1), .int .i64 ((sz : Int) + nn)] 103 (0, 0)) := by
                            rw [Joins.block_setCell hz11]; rfl
                          have g4 := Joins.cell_of_block hlog8.at_ 4
                          simp at g4 n4 n10 n11
                          rw [show (G1.recs.length + acc.length) = rn by rw [← hrn]; simp] at g4 n4
                          have g4a := ((bnew w8 (.cells #[.slice A2 l2.length c2] 22)).cell (p := ⟨g, 4, none⟩) (cell_lt g4)).trans g4
                          have e10 : ((0 : Int) == 10) = false := by decide
                          have HAPP := Lib.hid happ
                          have hnew : RinI w.heap.size rd g z name most slv ns xs (decide (k + 1 = zs.length)) kz xf.b (.slice Av bl cv) G1 w7 (acc ++ [l2]) (sz + nn) (.slice A9 (rn + 1) c9) (vs' ++ [.slice A2 l2.length c2]) (((w9.setCell ⟨g, 4, none⟩ (.slice A9 (rn + 1) c9)).setCell ⟨z, 1, none⟩ (.int .i64 ((acc.length : Int) + 1))).setCell ⟨z, 2, none⟩ (.int .i64 ((sz : Int) + nn))) := by
                            refine ⟨by rw [hz12]; simp, ?_, hstep, hbb12, hT12, HJ.out.le, HJ.out.sep⟩
                            have h := hL12
                            simp only [List.append_assoc] at h
                            exact h
                          have HNEW := Lib.hid (And.intro hnew (And.intro k1 k2))
                          have hk1 : nn ≤ 1073741824 := by omega
                          clear hnew happ hiS hzS0 hzS1 hzS2 hown9 hgrow9 hblk9 hT9 hL10 hT10 hat9 hz9 hz10 hz11 hL11 hL12 hT12 hbs12 hbb12 hz12 hrow8 hseg8 hlog8 hT8 hb2 hB8 k1 k2 k3 hstep hee hnn hl2 hrn
                          go_wp2_with (at_builtin; refine wpList_appk rfl _ _ _ rfl _ _ rfl rfl HAPP.out ?_)
                          refine ⟨⟨_, _, _, _, Lib.hid HNEW.out.1⟩, ?_⟩
                          rw [segSz_eq HNEW.out.1, segSz_eq HJ.out]
                          have := HNEW.out.2.1
                          have := HNEW.out.2.2
                          omega
                        · have hscan := scanI_left HJ.out.scan (by rw [HNx.out.2]; exact hslt) (by rw [hee]; exact he0)
                          rw [hee] at hscan
                          have ht8 : Turn n TRf w w8 := H8.out.1.low (by rw [HI.out.base]; exact hT8.below H8.out.2.2.2)
                          have hd8 := H8.out.2.1.turnL hT8
                          have hfin : kz = (G'.at0 k kz).fin := by
                            rw [HW6.out.2.2.2.2.2, LogM.fin, HFR.out.1, HFR.out.2.1]
                            exact HNE.out
                          have e0b : ((ee : Int) == 0) = false := by simp; omega
                          have e0c : ((ee : Int) != 0) = true := by simp; omega
                          by_cases hbrk : ee = 10 ∧ k + 1 = zs.length
                          · obtain ⟨hb1, hb2'⟩ := hbrk
                            rw [if_pos ⟨hb1, by simpa using hb2'⟩] at hscan
                            rw [decide_eq_true hb2'] at hw1 hw2
                            have e10 : ((ee : Int) == 10) = true := by simp; omega
                            have HB := Lib.hid (And.intro hscan (And.intro ht8 (And.intro hd8 (And.intro hfin (And.intro hT8 (And.intro hseg8 (And.intro hlog8 hb2')))))))
                            clear hscan ht8 hd8 hfin hT8 hb2 hb2' hee hnn
                            have m28 := Joins.cell_of_block hseg8 2
                            simp at m28
                            clear hseg8 hlog8
                            have hbk8 := (((HFR.out.2.2 |> fun h => (H7.out.2.1.block b (by have := heap_lt h; rw [H7.out.2.2] at this ⊢; exact this)).trans h) |> fun h => HB.out.2.2.2.2.1.block b _ h (.inr (by simp [tagOf, TRl]))))
                            have y0 := Joins.cell_of_block hbk8 k
                            rw [hck] at y0
                            have hF9 := rfile_c name (by omega) kz (by omega) (by omega) w8.drew
                            rw [HF.out.2.2.2] at hF9
                            have HF9 := Lib.hid hF9; clear hF9
                            have HK8 := Lib.hid hbk8; clear hbk8
                            go_wp2_with fail
                            go_region_held3 (fun W => W.cell? ⟨b, k, none⟩ = some (.int .i64 kz) ∧ W.cell? ⟨z, 2, none⟩ = some (.int .i64 (sz : Int)))
                              (first | (refine ⟨?_, ?_⟩ <;> assumption) | go_keep)
                              (first
                                | (go_at_call 18; refine HF9.out.mono ?_; rintro e w10 ⟨rfl, hb10⟩
                                   have y1 := (hb10.cell (p := ⟨b, k, none⟩) (cell_lt y0)).trans y0
                                   have y2 := (hb10.cell (p := ⟨z, 2, none⟩) (cell_lt m28)).trans m28
                                   have HB10 := Lib.hid (drew_bel hb10); clear hb10)
                                | (go_at_call 59; refine (rtrunc_c n rd room N5 lv' es' (by omega) sf (by omega) H5.out.2.2.2.2.1 sz ⟨_, List.mem_of_getElem? H5.out.2.2.2.2.2.2.1, by
                                      obtain ⟨q1, q2, _⟩ := H5.out.2.2.2.2.2.1
                                      have := H5.out.2.2.2.2.2.2.1
                                      rw [List.getElem?_eq_getElem q1] at this
                                      injection this with this
                                      rw [← this]; exact q2⟩ (fun i' x' h1 h2 => by
                                      have := h1.uniq H5.out.2.2.2.2.2.1
                                      subst this
                                      rw [H5.out.2.2.2.2.2.2.1] at h2
                                      cases h2
                                      have := H5.out.2.2.2.2.2.2.2.2.2.2.1
                                      simp only
                                      omega) w10 (HB.out.2.2.1.below HB10.out)).mono ?_; rintro e w11 ⟨rfl, hT11, hR11⟩
                                   have y3 := Joins.cell_of_block (hT11.block _ _ ((HB10.out.block b (heap_lt HK8.out)).trans HK8.out) (.inr (by simp [tagOf]))) k
                                   have y4 := Joins.cell_of_block (hT11.block _ _ ((HB10.out.block z (heap_lt HB.out.2.2.2.2.2.1)).trans HB.out.2.2.2.2.2.1) (.inr (by simp [tagOf]))) 2
                                   rw [hck] at y3
                                   simp at y4
                                   have H11 := Lib.hid (And.intro hT11 hR11); clear hT11 hR11))
                            obtain ⟨hT11, i', x', v', hF', hx', NF, hdF⟩ := H11.out
                            obtain rfl := hF'.uniq H5.out.2.2.2.2.2.1
                            rw [H5.out.2.2.2.2.2.2.1] at hx'
                            cases hx'
                            have hT811 : Turn n TRf w8 w11 := (Turn.of_below HB10.out).trans hT11
                            have hlogF := HB.out.2.2.2.2.2.2.1.turn hT811
                            have hsegF := hT811.block z _ HB.out.2.2.2.2.2.1 (.inr (by simp [tagOf, TRf]))
                            obtain ⟨DF, hDF⟩ : ∃ x, D'.tick.tick.cut xf sz = x := ⟨_, rfl⟩
                            obtain ⟨esF, hesF⟩ : ∃ x, es'.set i' ({ xf with b := xf.b.take sz, safe := sz }, v') = x := ⟨_, rfl⟩
                            have hi' : i' < es'.length := (List.getElem?_eq_some_iff.1 H5.out.2.2.2.2.2.2.1).1
                            have hei' : es'[i'] = (xf, xv) := (List.getElem?_eq_some_iff.1 H5.out.2.2.2.2.2.2.1).2
                            have fewF : esF.length ≤ 16 := by rw [← hesF, List.length_set]; exact hfew
                            have hmemF : xf ∈ D'.tick.tick.files := (fileAt_mem H5.out.2.2.2.2.2.2.2.1).1
                            have goodF : GoodD DF := by rw [← hDF]; exact HI.out.good.tick.tick.cut hmemF sz
                            have agF : Agree DF (esF.map (·.1)) := by
                              rw [← hDF, ← hesF, List.map_set]
                              exact (HI.out.agree.tick.tick).cut (by rw [List.length_map]; exact hi') (by rw [List.getElem_map, hei']) sz
                            have htF : Turn n TRf w w11 := HB.out.2.1.trans hT811
                            have hiF := own_turn (own_turn H8.out.2.2.1 HB.out.2.2.2.2.1 (by simp [TRl])) hT811 (by simp [TRf])
                            have hldF : LogM.load D' (G'.at0 k kz) kz (zs.drop (k + 1)).isEmpty = (DF, { G1 with recs := G1.recs ++ acc, parts := G1.parts ++ [⟨kz, acc.length, sz⟩] }, 0) := by
                              rw [← hDF, ← HW6.out.2.2.2.2.2]
                              exact load_cutoff HLD.out.2.2 HB.out.2.2.2.1 (by rw [HLD.out.1]; exact HB.out.1) (by rw [H5.out.2.2.2.2.2.2.2.2.2.2.1]; exact hslt) (by
                                rw [HLD.out.2.1, HF.out.2.2.2]
                                exact trunc_eq HI.out.good.run.tick H5.out.2.2.2.2.1 H5.out.2.2.2.2.2.2.2.1 (by rw [H5.out.2.2.2.2.2.2.2.2.2.2.1]; omega))
                            rw [hesF] at hdF
                            clear hT11 hF' hT811 hDF hesF hi' hei' hmemF H11
                            go_wp2_with fail
                            obtain ⟨As, cs, hsv, _, _, _⟩ := own_slice hlogF.segs
                            subst hsv
                            have hsegsF := hlogF.segs
                            obtain ⟨iP, hiP, hzP0, hzP1, hzP2⟩ := info_seg
                            have hmF : w.heap.size ≤ w11.heap.size := by have := heap_lt hsegF; omega
                            obtain ⟨vF, wF, happF, hownF, hgrowF, hblkF⟩ := run_append_rd (P := Tryz.prog) ((w11.alloc (.cells #[.int .i64 kz, .int .i64 (acc.length : Int), .int .i64 (sz : Int)] 103)).drew) w.heap.size 98 98 103 iP _ 3 24 Tryz.underlying98 hiP hzP0 hzP1 hzP2 rfl (by decide) _ ns xs
                              (own_below hsegsF (belw_drew (bnew w11 _))) 0 (some ⟨w11.heap.size, 0, none⟩) 1 1 [.int .i64 kz, .int .i64 (acc.length : Int), .int .i64 (sz : Int)] rfl (rd_new3 w11 _ _ _ _).drew (by simp [Value.oneCell']) (by unfold maxLen; have := HI.out.many.2; omega) (by have := HI.out.many.2; omega) (by simp [World.drew]; omega) (fun h => by cases h)
                            have hTF : Turn w.heap.size [some 103] w11 wF := (Turn.of_below (belw_drew (bnew w11 _))).trans (own_turned (own_below hsegsF (belw_drew (bnew w11 _))) hgrowF)
                            obtain ⟨AF, cF, rfl, -, -, -⟩ := own_slice hownF
                            obtain ⟨hLF, hTLF⟩ := hlogF.addSeg hTF hownF (G1.parts ++ [⟨kz, acc.length, sz⟩])
                            have hatF := hTF.block g _ hlogF.at_ (.inr (by simp [tagOf]))
                            have y3 := Joins.cell_of_block hatF 3
                            have y3u := Joins.unfrozen_of_block hatF 3
                            have x3 := Joins.cell_of_block hlogF.at_ 3
                            have x0 := Joins.cell_of_block hsegF 0
                            have x1 := Joins.cell_of_block hsegF 1
                            have x2 := Joins.cell_of_block hsegF 2
                            simp at y3 x3 x0 x1 x2
                            have hbnF := bnew w11 (.cells #[.int .i64 kz, .int .i64 (acc.length : Int), .int .i64 (sz : Int)] 103)
                            have x3a := (hbnF.cell (cell_lt x3)).trans x3
                            have x0a := (hbnF.cell (cell_lt x0)).trans x0
                            have x1a := (hbnF.cell (cell_lt x1)).trans x1
                            have x2a := (hbnF.cell (cell_lt x2)).trans x2
                            have hNEXT : RopI n w.heap.size rd g room name most R zs (.slice (some ⟨b, 0, none⟩) zs.length cz) w (k + 1) NF lv' esF DF { G1 with recs := G1.recs ++ acc, parts := G1.parts ++ [⟨kz, acc.length, sz⟩] } (.slice AF (ns + 1) cF) bv' (ns + 1) (xs ++ [.int .i64 kz, .int .i64 (acc.length : Int), .int .i64 (sz : Int)]) vs' (wF.setCell ⟨g, 3, none⟩ (.slice AF (ns + 1) cF)) := by
                              refine ⟨hdF.turnL hTLF, fewF, goodF, agF, hLF, HW6.out.2.2.1, fun h => by omega, ⟨?_, by have := HI.out.many.2; omega⟩, HW6.out.2.2.2.2.1, ?_, own_turn hiF hTLF (by simp [TRl]), htF.low (by rw [HI.out.base]; exact hTLF.below hmF), Nat.le_trans hmF hTLF.size, HI.out.base⟩
                              · simp only [List.length_append]
                                rw [← manyR_succ, HW6.out.2.2.2.1]
                                have := HI.out.many.1
                                have := HJ.out.scan.2.1
                                omega
                              · rw [← HI.out.rest, hdrop.out]
                                exact (openAll_go hldF).symm
                            have HAPP := Lib.hid happF
                            have HNX := Lib.hid hNEXT
                            clear hNEXT happF hownF hgrowF hblkF hTF hLF hTLF hatF hbnF hiP hzP0 hzP1 hzP2 hsegsF hlogF hsegF hdF fewF goodF agF htF hiF hldF hmF
                            refine wp_region_any (by kernel_rfl) ?_
                            (try (change wpAny _ _ _ _ _ _ _ (World.drew _)))
                            refine wpAny_take (i := 0) (v := ?_) rfl (by kernel_rfl) (by kernel_rfl) (by kernel_rfl) (fun _ _ _ h => h) (Or.inl ⟨by rfl, ?_⟩) ?_
                            rotate_left
                            · intro w; go_simp; (try with_reducible rfl)
                            refine wpAny_take (i := 1) (v := ?_) rfl (by kernel_rfl) (by kernel_rfl) (by kernel_rfl) (fun _ _ _ h => h) (Or.inl ⟨by rfl, ?_⟩) ?_
                            rotate_left
                            · intro w; go_simp; (try with_reducible rfl)
                            refine wpAny_take (i := 2) (v := ?_) rfl (by kernel_rfl) (by kernel_rfl) (by kernel_rfl) (fun _ _ _ h => h) (Or.inl ⟨by rfl, ?_⟩) ?_
                            rotate_left
                            · intro w; go_simp; (try with_reducible rfl)
                            refine wpAny_take (i := 3) (v := ?_) rfl (by kernel_rfl) (by kernel_rfl) (by kernel_rfl) (fun _ _ _ h => h) (Or.inl ⟨by rfl, ?_⟩) ?_
                            rotate_left
                            · intro w; go_simp; (try with_reducible rfl)
                            refine wpAny_ready (rs := [4, 5]) (by kernel_rfl) (by simp) ?_
                            refine (AllReady.cons rfl (fun K hK => ?_) (AllReady.cons rfl (fun K hK => ?_) AllReady.nil))
                            · go_simp
                              refine hK _ _ ?_
                              clear hK K
                              refine wpAny_ready (rs := [5]) (by kernel_rfl) (by simp) ?_
                              refine (AllReady.cons rfl (fun K hK => ?_) AllReady.nil)
                              · go_simp
                                refine hK _ _ ?_
                                clear hK K
                                refine wpAny_ready (rs := [6]) (by kernel_rfl) (by simp) ?_
                                refine (AllReady.cons rfl (fun K hK => ?_) AllReady.nil)
                                · go_simp
                                  refine hK _ _ ?_
                                  clear hK K
                                  refine wpAny_ready (rs := [7]) (by kernel_rfl) (by simp) ?_
                                  refine (AllReady.cons rfl (fun K hK => ?_) AllReady.nil)
                                  · refine step_plainly rfl (wp_append_run _ _ _ rfl _ _ rfl rfl HAPP.out ?_)
                                    go_simp
                                    refine hK _ _ ?_
                                    clear hK K
                                    refine wpAny_take (i := 8) (v := ?_) rfl (by kernel_rfl) (by kernel_rfl) (by kernel_rfl) (fun _ _ _ h => h) (Or.inl ⟨by rfl, ?_⟩) ?_
                                    rotate_left
                                    · intro w; go_simp; (try with_reducible rfl)
                                    refine wpAny_take (i := 9) (v := ?_) rfl (by kernel_rfl) (by kernel_rfl) (by kernel_rfl) (fun _ _ _ h => h) (Or.inl ⟨by rfl, ?_⟩) ?_
                                    rotate_left
                                    · intro w; go_simp; (try with_reducible rfl)
                                    refine wpAny_ready (rs := [10]) (by kernel_rfl) (by simp) ?_
                                    refine (AllReady.cons rfl (fun K hK => ?_) AllReady.nil)
                                    · go_simp
                                      refine hK _ _ ?_
                                      clear hK K
                                      refine wpAny_done (by kernel_rfl) ?_ _
                                      go_wp2_with fail
                                      exact ⟨⟨k + 1, _, _, _, _, _, _, _, _, _, _, by omega, rfl, Lib.hid HNX.out⟩, by simp [intOf]; omega⟩
                            · go_simp
                              refine hK _ _ ?_
                              clear hK K
                              refine wpAny_ready (rs := [4, 6]) (by kernel_rfl) (by simp) ?_
                              refine (AllReady.cons rfl (fun K hK => ?_) (AllReady.cons rfl (fun K hK => ?_) AllReady.nil))
                              · go_simp
                                refine hK _ _ ?_
                                clear hK K
                                refine wpAny_ready (rs := [6]) (by kernel_rfl) (by simp) ?_
                                refine (AllReady.cons rfl (fun K hK => ?_) AllReady.nil)
                                · go_simp
                                  refine hK _ _ ?_
                                  clear hK K
                                  refine wpAny_ready (rs := [7]) (by kernel_rfl) (by simp) ?_
                                  refine (AllReady.cons rfl (fun K hK => ?_) AllReady.nil)
                                  · refine step_plainly rfl (wp_append_run _ _ _ rfl _ _ rfl rfl HAPP.out ?_)
                                    go_simp
                                    refine hK _ _ ?_
                                    clear hK K
                                    refine wpAny_take (i := 8) (v := ?_) rfl (by kernel_rfl) (by kernel_rfl) (by kernel_rfl) (fun _ _ _ h => h) (Or.inl ⟨by rfl, ?_⟩) ?_
                                    rotate_left
                                    · intro w; go_simp; (try with_reducible rfl)
                                    refine wpAny_take (i := 9) (v := ?_) rfl (by kernel_rfl) (by kernel_rfl) (by kernel_rfl) (fun _ _ _ h => h) (Or.inl ⟨by rfl, ?_⟩) ?_
                                    rotate_left
                                    · intro w; go_simp; (try with_reducible rfl)
                                    refine wpAny_ready (rs := [10]) (by kernel_rfl) (by simp) ?_
                                    refine (AllReady.cons rfl (fun K hK => ?_) AllReady.nil)
                                    · go_simp
                                      refine hK _ _ ?_
                                      clear hK K
                                      refine wpAny_done (by kernel_rfl) ?_ _
                                      go_wp2_with fail
                                      exact ⟨⟨k + 1, _, _, _, _, _, _, _, _, _, _, by omega, rfl, Lib.hid HNX.out⟩, by simp [intOf]; omega⟩
                              · go_simp
                                refine hK _ _ ?_
                                clear hK K
                                refine wpAny_ready (rs := [4]) (by kernel_rfl) (by simp) ?_
                                refine (AllReady.cons rfl (fun K hK => ?_) AllReady.nil)
                                · go_simp
                                  refine hK _ _ ?_
                                  clear hK K
                                  refine wpAny_ready (rs := [7]) (by kernel_rfl) (by simp) ?_
                                  refine (AllReady.cons rfl (fun K hK => ?_) AllReady.nil)
                                  · refine step_plainly rfl (wp_append_run _ _ _ rfl _ _ rfl rfl HAPP.out ?_)
                                    go_simp
                                    refine hK _ _ ?_
                                    clear hK K
                                    refine wpAny_take (i := 8) (v := ?_) rfl (by kernel_rfl) (by kernel_rfl) (by kernel_rfl) (fun _ _ _ h => h) (Or.inl ⟨by rfl, ?_⟩) ?_
                                    rotate_left
                                    · intro w; go_simp; (try with_reducible rfl)
                                    refine wpAny_take (i := 9) (v := ?_) rfl (by kernel_rfl) (by kernel_rfl) (by kernel_rfl) (fun _ _ _ h => h) (Or.inl ⟨by rfl, ?_⟩) ?_
                                    rotate_left
                                    · intro w; go_simp; (try with_reducible rfl)
                                    refine wpAny_ready (rs := [10]) (by kernel_rfl) (by simp) ?_
                                    refine (AllReady.cons rfl (fun K hK => ?_) AllReady.nil)
                                    · go_simp
                                      refine hK _ _ ?_
                                      clear hK K
                                      refine wpAny_done (by kernel_rfl) ?_ _
                                      go_wp2_with fail
                                      exact ⟨⟨k + 1, _, _, _, _, _, _, _, _, _, _, by omega, rfl, Lib.hid HNX.out⟩, by simp [intOf]; omega⟩
                          · have hscan' : scanS (decide (k + 1 = zs.length)) (seqF (xf.b.length + 1) xf.b) = none := by
                              rw [hscan, if_neg]
                              rintro ⟨h1, h2⟩
                              exact hbrk ⟨h1, by simpa using h2⟩
                            have HB := Lib.hid (And.intro hscan' (And.intro ht8 (And.intro hd8 (And.intro hfin hbrk))))
                            clear hscan hscan' ht8 hd8 hfin hT8 hb2 hee hnn hseg8 hlog8
                            by_cases h10 : ee = 10
                            · have e10 : ((ee : Int) == 10) = true := by simp; omega
                              have hk1 : ¬ k + 1 = zs.length := fun h => hbrk ⟨h10, h⟩
                              rw [decide_eq_false hk1] at hw1 hw2
                              clear hbrk h10 hk1
                              go_wp2_with fail
                              go_ret2
                              have hload := load_rot' HLD.out.2.2 HB.out.2.2.2.1 (last := (zs.drop (k + 1)).isEmpty) (by rw [HLD.out.1]; exact HB.out.1)
                              exact post_err (step_bad HI.out.rest hdrop.out hload (by decide)) HB.out.2.2.1 hfew HI.out.agree HB.out.2.1
                            · have e10 : ((ee : Int) == 10) = false := by simp; omega
                              clear hbrk h10
                              go_wp2_with fail
                              go_ret2
                              have hload := load_rot' HLD.out.2.2 HB.out.2.2.2.1 (last := (zs.drop (k + 1)).isEmpty) (by rw [HLD.out.1]; exact HB.out.1)
                              exact post_err (step_bad HI.out.rest hdrop.out hload (by decide)) HB.out.2.2.1 hfew HI.out.agree HB.out.2.1
                      · have hszb : sz = bl := by omega
                        have hsd : decide ((sz : Int) < (bl : Int)) = false := by simp; omega
                        have hscan := scanI_end HJ.out.scan (by rw [H5.out.2.2.2.2.2.2.2.2.2.2.1]; omega)
                        have hlogF := HJ.out.log
                        have hsegF := HJ.out.seg
                        have hdF := H8.out.2.1.turnL HJ.out.turn
                        have fewF := hfew
                        have goodF := HI.out.good.tick
                        have agF := HI.out.agree.tick
                        have htF : Turn n TRf w wr := H8.out.1.low (by rw [HI.out.base]; exact HJ.out.turn.below H8.out.2.2.2)
                        have hiF := own_turn H8.out.2.2.1 HJ.out.turn (by simp [TRl])
                        have hfin : kz = (G'.at0 k kz).fin := by
                          rw [HW6.out.2.2.2.2.2, LogM.fin, HFR.out.1, HFR.out.2.1]
                          exact HNE.out
                        have hldF : LogM.load D' (G'.at0 k kz) kz (zs.drop (k + 1)).isEmpty = (D'.tick, { G1 with recs := G1.recs ++ acc, parts := G1.parts ++ [⟨kz, acc.length, sz⟩] }, 0) := by
                          rw [← HW6.out.2.2.2.2.2]
                          exact load_whole HLD.out.2.2 hfin (by rw [HLD.out.1]; exact hscan) (by rw [H5.out.2.2.2.2.2.2.2.2.2.2.1]; omega)
                        clear hscan hfin hszb
                        go_wp2_with fail
                        obtain ⟨As, cs, hsv, _, _, _⟩ := own_slice hlogF.segs
                        subst hsv
                        have hsegsF := hlogF.segs
                        obtain ⟨iP, hiP, hzP0, hzP1, hzP2⟩ := info_seg
                        have hmF : w.heap.size ≤ wr.heap.size := by have := heap_lt hsegF; omega
                        obtain ⟨vF, wF, happF, hownF, hgrowF, hblkF⟩ := run_append_rd (P := Tryz.prog) ((wr.alloc (.cells #[.int .i64 kz, .int .i64 (acc.length : Int), .int .i64 (sz : Int)] 103)).drew) w.heap.size 98 98 103 iP _ 3 24 Tryz.underlying98 hiP hzP0 hzP1 hzP2 rfl (by decide) _ ns xs
                          (own_below hsegsF (belw_drew (bnew wr _))) 0 (some ⟨wr.heap.size, 0, none⟩) 1 1 [.int .i64 kz, .int .i64 (acc.length : Int), .int .i64 (sz : Int)] rfl (rd_new3 wr _ _ _ _).drew (by simp [Value.oneCell']) (by unfold maxLen; have := HI.out.many.2; omega) (by have := HI.out.many.2; omega) (by simp [World.drew]; omega) (fun h => by cases h)
                        have hTF : Turn w.heap.size [some 103] wr wF := (Turn.of_below (belw_drew (bnew wr _))).trans (own_turned (own_below hsegsF (belw_drew (bnew wr _))) hgrowF)
                        obtain ⟨AF, cF, rfl, -, -, -⟩ := own_slice hownF
                        obtain ⟨hLF, hTLF⟩ := hlogF.addSeg hTF hownF (G1.parts ++ [⟨kz, acc.length, sz⟩])
                        have hatF := hTF.block g _ hlogF.at_ (.inr (by simp [tagOf]))
                        have y3 := Joins.cell_of_block hatF 3
                        have y3u := Joins.unfrozen_of_block hatF 3
                        have x3 := Joins.cell_of_block hlogF.at_ 3
                        have x0 := Joins.cell_of_block hsegF 0
                        have x1 := Joins.cell_of_block hsegF 1
                        have x2 := Joins.cell_of_block hsegF 2
                        simp at y3 x3 x0 x1 x2
                        have hbnF := bnew wr (.cells #[.int .i64 kz, .int .i64 (acc.length : Int), .int .i64 (sz : Int)] 103)
                        have x3a := (hbnF.cell (cell_lt x3)).trans x3
                        have x0a := (hbnF.cell (cell_lt x0)).trans x0
                        have x1a := (hbnF.cell (cell_lt x1)).trans x1
                        have x2a := (hbnF.cell (cell_lt x2)).trans x2
                        have hNEXT : RopI n w.heap.size rd g room name most R zs (.slice (some ⟨b, 0, none⟩) zs.length cz) w (k + 1) N5 lv' es' D'.tick { G1 with recs := G1.recs ++ acc, parts := G1.parts ++ [⟨kz, acc.length, sz⟩] } (.slice AF (ns + 1) cF) bv' (ns + 1) (xs ++ [.int .i64 kz, .int .i64 (acc.length : Int), .int .i64 (sz : Int)]) vs' (wF.setCell ⟨g, 3, none⟩ (.slice AF (ns + 1) cF)) := by
                          refine ⟨hdF.turnL hTLF, fewF, goodF, agF, hLF, HW6.out.2.2.1, fun h => by omega, ⟨?_, by have := HI.out.many.2; omega⟩, HW6.out.2.2.2.2.1, ?_, own_turn hiF hTLF (by simp [TRl]), htF.low (by rw [HI.out.base]; exact hTLF.below hmF), Nat.le_trans hmF hTLF.size, HI.out.base⟩
                          · simp only [List.length_append]
                            rw [← manyR_succ, HW6.out.2.2.2.1]
                            have := HI.out.many.1
                            have := HJ.out.scan.2.1
                            omega
                          · rw [← HI.out.rest, hdrop.out]
                            exact (openAll_go hldF).symm
                        have HAPP := Lib.hid happF
                        have HNX := Lib.hid hNEXT
                        clear hNEXT happF hownF hgrowF hblkF hTF hLF hTLF hatF hbnF hiP hzP0 hzP1 hzP2 hsegsF hlogF hsegF hdF fewF goodF agF htF hiF hldF hmF
                        refine wp_region_any (by kernel_rfl) ?_
                        (try (change wpAny _ _ _ _ _ _ _ (World.drew _)))
                        refine wpAny_take (i := 0) (v := ?_) rfl (by kernel_rfl) (by kernel_rfl) (by kernel_rfl) (fun _ _ _ h => h) (Or.inl ⟨by rfl, ?_⟩) ?_
                        rotate_left
                        · intro w; go_simp; (try with_reducible rfl)
                        refine wpAny_take (i := 1) (v := ?_) rfl (by kernel_rfl) (by kernel_rfl) (by kernel_rfl) (fun _ _ _ h => h) (Or.inl ⟨by rfl, ?_⟩) ?_
                        rotate_left
                        · intro w; go_simp; (try with_reducible rfl)
                        refine wpAny_take (i := 2) (v := ?_) rfl (by kernel_rfl) (by kernel_rfl) (by kernel_rfl) (fun _ _ _ h => h) (Or.inl ⟨by rfl, ?_⟩) ?_
                        rotate_left
                        · intro w; go_simp; (try with_reducible rfl)
                        refine wpAny_take (i := 3) (v := ?_) rfl (by kernel_rfl) (by kernel_rfl) (by kernel_rfl) (fun _ _ _ h => h) (Or.inl ⟨by rfl, ?_⟩) ?_
                        rotate_left
                        · intro w; go_simp; (try with_reducible rfl)
                        refine wpAny_ready (rs := [4, 5]) (by kernel_rfl) (by simp) ?_
                        refine (AllReady.cons rfl (fun K hK => ?_) (AllReady.cons rfl (fun K hK => ?_) AllReady.nil))
                        · go_simp
                          refine hK _ _ ?_
                          clear hK K
                          refine wpAny_ready (rs := [5]) (by kernel_rfl) (by simp) ?_
                          refine (AllReady.cons rfl (fun K hK => ?_) AllReady.nil)
                          · go_simp
                            refine hK _ _ ?_
                            clear hK K
                            refine wpAny_ready (rs := [6]) (by kernel_rfl) (by simp) ?_
                            refine (AllReady.cons rfl (fun K hK => ?_) AllReady.nil)
                            · go_simp
                              refine hK _ _ ?_
                              clear hK K
                              refine wpAny_ready (rs := [7]) (by kernel_rfl) (by simp) ?_
                              refine (AllReady.cons rfl (fun K hK => ?_) AllReady.nil)
                              · refine step_plainly rfl (wp_append_run _ _ _ rfl _ _ rfl rfl HAPP.out ?_)
                                go_simp
                                refine hK _ _ ?_
                                clear hK K
                                refine wpAny_take (i := 8) (v := ?_) rfl (by kernel_rfl) (by kernel_rfl) (by kernel_rfl) (fun _ _ _ h => h) (Or.inl ⟨by rfl, ?_⟩) ?_
                                rotate_left
                                · intro w; go_simp; (try with_reducible rfl)
                                refine wpAny_take (i := 9) (v := ?_) rfl (by kernel_rfl) (by kernel_rfl) (by kernel_rfl) (fun _ _ _ h => h) (Or.inl ⟨by rfl, ?_⟩) ?_
                                rotate_left
                                · intro w; go_simp; (try with_reducible rfl)
                                refine wpAny_ready (rs := [10]) (by kernel_rfl) (by simp) ?_
                                refine (AllReady.cons rfl (fun K hK => ?_) AllReady.nil)
                                · go_simp
                                  refine hK _ _ ?_
                                  clear hK K
                                  refine wpAny_done (by kernel_rfl) ?_ _
                                  go_wp2_with fail
                                  exact ⟨⟨k + 1, _, _, _, _, _, _, _, _, _, _, by omega, rfl, Lib.hid HNX.out⟩, by simp [intOf]; omega⟩
                        · go_simp
                          refine hK _ _ ?_
                          clear hK K
                          refine wpAny_ready (rs := [4, 6]) (by kernel_rfl) (by simp) ?_
                          refine (AllReady.cons rfl (fun K hK => ?_) (AllReady.cons rfl (fun K hK => ?_) AllReady.nil))
                          · go_simp
                            refine hK _ _ ?_
                            clear hK K
                            refine wpAny_ready (rs := [6]) (by kernel_rfl) (by simp) ?_
                            refine (AllReady.cons rfl (fun K hK => ?_) AllReady.nil)
                            · go_simp
                              refine hK _ _ ?_
                              clear hK K
                              refine wpAny_ready (rs := [7]) (by kernel_rfl) (by simp) ?_
                              refine (AllReady.cons rfl (fun K hK => ?_) AllReady.nil)
                              · refine step_plainly rfl (wp_append_run _ _ _ rfl _ _ rfl rfl HAPP.out ?_)
                                go_simp
                                refine hK _ _ ?_
                                clear hK K
                                refine wpAny_take (i := 8) (v := ?_) rfl (by kernel_rfl) (by kernel_rfl) (by kernel_rfl) (fun _ _ _ h => h) (Or.inl ⟨by rfl, ?_⟩) ?_
                                rotate_left
                                · intro w; go_simp; (try with_reducible rfl)
                                refine wpAny_take (i := 9) (v := ?_) rfl (by kernel_rfl) (by kernel_rfl) (by kernel_rfl) (fun _ _ _ h => h) (Or.inl ⟨by rfl, ?_⟩) ?_
                                rotate_left
                                · intro w; go_simp; (try with_reducible rfl)
                                refine wpAny_ready (rs := [10]) (by kernel_rfl) (by simp) ?_
                                refine (AllReady.cons rfl (fun K hK => ?_) AllReady.nil)
                                · go_simp
                                  refine hK _ _ ?_
                                  clear hK K
                                  refine wpAny_done (by kernel_rfl) ?_ _
                                  go_wp2_with fail
                                  exact ⟨⟨k + 1, _, _, _, _, _, _, _, _, _, _, by omega, rfl, Lib.hid HNX.out⟩, by simp [intOf]; omega⟩
                          · go_simp
                            refine hK _ _ ?_
                            clear hK K
                            refine wpAny_ready (rs := [4]) (by kernel_rfl) (by simp) ?_
                            refine (AllReady.cons rfl (fun K hK => ?_) AllReady.nil)
                            · go_simp
                              refine hK _ _ ?_
                              clear hK K
                              refine wpAny_ready (rs := [7]) (by kernel_rfl) (by simp) ?_
                              refine (AllReady.cons rfl (fun K hK => ?_) AllReady.nil)
                              · refine step_plainly rfl (wp_append_run _ _ _ rfl _ _ rfl rfl HAPP.out ?_)
                                go_simp
                                refine hK _ _ ?_
                                clear hK K
                                refine wpAny_take (i := 8) (v := ?_) rfl (by kernel_rfl) (by kernel_rfl) (by kernel_rfl) (fun _ _ _ h => h) (Or.inl ⟨by rfl, ?_⟩) ?_
                                rotate_left
                                · intro w; go_simp; (try with_reducible rfl)
                                refine wpAny_take (i := 9) (v := ?_) rfl (by kernel_rfl) (by kernel_rfl) (by kernel_rfl) (fun _ _ _ h => h) (Or.inl ⟨by rfl, ?_⟩) ?_
                                rotate_left
                                · intro w; go_simp; (try with_reducible rfl)
                                refine wpAny_ready (rs := [10]) (by kernel_rfl) (by simp) ?_
                                refine (AllReady.cons rfl (fun K hK => ?_) AllReady.nil)
                                · go_simp
                                  refine hK _ _ ?_
                                  clear hK K
                                  refine wpAny_done (by kernel_rfl) ?_ _
                                  go_wp2_with fail
                                  exact ⟨⟨k + 1, _, _, _, _, _, _, _, _, _, _, by omega, rfl, Lib.hid HNX.out⟩, by simp [intOf]; omega⟩
                  · have hneb : (kz == F + (rl : Int)) = false := by simpa using hne
                    have hneb' : (kz != F + (rl : Int)) = true := by simpa using hne
                    have HNE := Lib.hid hne
                    clear hne
                    go_wp2_with fail
                    go_ret2
                    have hload := load_far (last := (zs.drop (k + 1)).isEmpty) HLD.out.2.2 (k := kz) (by
                      rw [HW6.out.2.2.2.2.2, LogM.fin, HFR.out.1, HFR.out.2.1]
                      exact HNE.out)
                    refine post_err (step_bad HI.out.rest hdrop.out hload (by decide)) (((H5.out.1.turnL HW6.out.2.1)).keeps fun _ _ h _ => h) hfew HI.out.agree ?_
                    exact ((HI.out.turn.trans H5.out.2.1).low ((HW6.out.2.1.below (by have := H5.out.2.2.2.2.2.2.2.2.2.2.2; exact this)))).drew
            · obtain rfl : k = zs.length := by omega
              have hkd2 : decide ((zs.length : Int) < (zs.length : Int)) = false := by simp
              go_wp2_with fail
              go_ret2
              have hrest := HI.out.rest
              rw [List.drop_length] at hrest
              have hR : R = (D', some G', 0) := hrest.symm
              rw [hR]
              exact ⟨⟨g, rfl, rd, slv, bv, ns, xs, vs, name, most, HI.out.log⟩, ⟨_, _, _, HI.out.disk, HI.out.few, HI.out.agree⟩, HI.out.turn⟩
end Go.Proofs.YtjpcmgoajdjkgaaGreatDoor
