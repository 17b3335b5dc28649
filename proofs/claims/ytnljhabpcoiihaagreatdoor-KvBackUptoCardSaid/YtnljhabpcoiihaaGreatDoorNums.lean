/- The numbers of a log's files. -/
import Derived.Test.YtnljhabpcoiihaaGreatDoorFile
import Derived.Test.YtnljhabpcoiihaaGreatDoorBoot
import Derived.Sort.OwnSortedInts
import Derived.Lib.AtoiErrMem
set_option linter.all false
namespace Go.Proofs.YtnljhabpcoiihaaGreatDoor
open Go.RowKit

theorem atoi_c (n : Nat) (s : List UInt8) (hs : s.length ≤ 1073741824) (w : World) (hg : Glob n w) :
    Calls Tryz.prog 105 #[.string ⟨s.toArray⟩] w fun e w' => Below w.heap.size w w' ∧
      ((∃ v, Go.Lib.atoiAll s = .ok v ∧ e = .returned (.tuple #[.int .i64 v, .nilIface])) ∨
       ((∀ v, Go.Lib.atoiAll s ≠ .ok v) ∧ ∃ x N, e = .returned (.tuple #[.int .i64 x, .iface 210 (.pointer (some ⟨N, 0, none⟩))]))) := by
  obtain ⟨_, ⟨tp1, p1, h1⟩, ⟨tp2, p2, h2⟩⟩ := hg.at_
  have hsz : (⟨s.toArray⟩ : ByteArray).size = s.length := by simp [ByteArray.size]
  cases ha : Go.Lib.atoiAll s with
  | ok v =>
    refine (Tryz.strconv_Atoi_ok ⟨s.toArray⟩ (by rw [hsz]; omega) v ha w).mono ?_
    rintro e w' ⟨rfl, rfl | ⟨t, rfl⟩⟩
    · exact ⟨Below.refl _ _, .inl ⟨v, rfl, rfl⟩⟩
    · exact ⟨Go.Lib.bytesWorld_below _ _ _, .inl ⟨v, rfl, rfl⟩⟩
  | range =>
    refine (Tryz.strconv_Atoi_range_var ⟨s.toArray⟩ (by rw [hsz]; omega) ha tp2 p2 w h2).mono ?_
    rintro e w' ⟨N, rfl, _, _, hb⟩
    exact ⟨hb, .inr ⟨by simp, _, N, rfl⟩⟩
  | _ =>
    refine (Tryz.strconv_Atoi_syntax_var ⟨s.toArray⟩ (by rw [hsz]; omega) ha tp1 p1 w h1).mono ?_
    rintro e w' ⟨N, rfl, _, _, hb⟩
    exact ⟨hb, .inr ⟨by simp, _, N, rfl⟩⟩

/-- the number of a log's file -/
def numOf (name f : List UInt8) : Option Int :=
  if (name ++ [46]).isPrefixOf f then
    if 9 < (f.drop (name.length + 1)).length then none
    else match Go.Lib.atoiAll (f.drop (name.length + 1)) with
      | .ok v => if Wal.fileB name v = f then some v else none
      | _ => none
  else none
def leI (x y : Int) : Bool := decide (x ≤ y)
/-- .. of all -/
def numbersB (name : List UInt8) (l : List (List UInt8)) : List Int := (l.filterMap (numOf name)).mergeSort fun x y => decide (x ≤ y)

theorem atoi_bounds {s : List UInt8} {v : Int} (h : Go.Lib.atoiAll s = .ok v) : -9223372036854775808 ≤ v ∧ v ≤ 9223372036854775807 := Go.Lib.atoiAll_bounds h

def outTo (name : List UInt8) (l : List (List UInt8)) (k : Nat) : List Int := (l.take k).filterMap (numOf name)
theorem outTo_succ (name : List UInt8) (l : List (List UInt8)) (k : Nat) (f : List UInt8) (h : l[k]? = some f) : outTo name l (k + 1) = outTo name l k ++ (numOf name f).toList := by
  obtain ⟨hk, rfl⟩ := List.getElem?_eq_some_iff.1 h
  unfold outTo
  rw [List.take_succ_eq_append_getElem hk, List.filterMap_append]
  congr 1
theorem outTo_length (name : List UInt8) (l : List (List UInt8)) (k : Nat) : (outTo name l k).length ≤ l.length := by
  unfold outTo
  refine Nat.le_trans (List.length_filterMap_le _ _) ?_
  rw [List.length_take]; omega

theorem info_int : ∃ i0, Tryz.prog.info? 3 = some i0 ∧ i0.zero = some (.int .i64 0) ∧ i0.size = 1 ∧ i0.bytes = 8 :=
  info_parts (show (Tryz.prog.info? 3).map (fun i => (i.zero, i.size, i.bytes)) = some (some (.int .i64 0), 1, 8) by kernel_rfl)

theorem rd_new1 (w : World) (T : TypeId) (a : Value) : Rd 0 (w.alloc (.cells #[a] T)) (some ⟨w.heap.size, 0, none⟩) [a] := by
  refine .inr ⟨w.heap.size, 0, Nat.zero_le _, rfl, fun k hk => ?_⟩
  rw [Joins.cell_of_block (heap_alloc_new w _)]
  simp

/-- a string's slice: cut or not -/
theorem cut_c (f p : List UInt8) (w : World) (P : ByteArray) (hP : P = ⟨p.toArray⟩) :
    Calls Tryz.prog 104 #[.string ⟨f.toArray⟩, .string P] w fun e w' => e = .returned (.tuple #[.string ⟨(if p.isPrefixOf f then f.drop p.length else f).toArray⟩, .bool (p.isPrefixOf f)]) ∧ w' = w := by
  subst hP
  exact Tryz.strings_CutPrefix ⟨f.toArray⟩ ⟨p.toArray⟩ w

set_option maxRecDepth 100000 in
set_option maxHeartbeats 400000 in
theorem numbers_c (n bd : Nat) (D : DiskM) (name : List UInt8) (hn : name.length ≤ 1048576) (w : World) (hD : DiskR n w bd D) (hg : Glob n w) (hnw : n ≤ w.heap.size) :
    Calls Tryz.prog 72 #[.pointer (some ⟨bd, 0, none⟩), .string ⟨name.toArray⟩] w fun e w' =>
      ∃ v, e = .returned v ∧ w'.ownsRow w.heap.size 3 1 v (numbersB name (if D.down then [] else D.names)).length ((numbersB name (if D.down then [] else D.names)).map (Value.int .i64)) ∧ Below w.heap.size w w' := by
  have hL := list_c n bd D w hD
  have hlen : (if D.down then [] else D.names).length ≤ 16 := by
    obtain ⟨_, _, _, _, hX⟩ := hD
    have h1 := hX.fits.2.2.2.1
    split
    · simp
    · unfold DiskM.names; rw [List.length_mergeSort, List.length_map]; exact h1
  have hnl : ∀ f ∈ (if D.down then [] else D.names), f.length ≤ 32 := by
    obtain ⟨_, _, _, _, hX⟩ := hD
    intro f hf
    split at hf
    · simp at hf
    · have := (List.mergeSort_perm _ _).mem_iff.1 hf
      obtain ⟨g, hg, rfl⟩ := List.mem_map.1 this
      exact (hX.fits.2.2.2.2.2 g hg).2
  obtain ⟨L, hLL⟩ : ∃ L, (if D.down then [] else D.names) = L := ⟨_, rfl⟩
  rw [hLL] at hL hlen hnl ⊢
  have HL := Lib.hid hL
  have HG := Lib.hid (And.intro hg (And.intro hnl hnw)); clear hL hg hnl hLL hD hnw
  obtain ⟨i0, hi0, hz0, hz1, hz2⟩ := info_int
  go_enter Tryz.func72, Tryz.ntmps72
  go_wp2_with (go_at_call 103; refine HL.out.mono ?_; rintro e W ⟨v, rfl, hown, hb1⟩; obtain ⟨A1, c1, rfl, _, _, _⟩ := own_slice hown; have HO := Lib.hid (And.intro hown hb1); clear hown hb1)
  go_loopw [5, 15] (fun v i wr => ∃ (k : Nat), k ≤ L.length ∧ i = .int .i64 k ∧ wr.ownsRow W.heap.size 3 1 v (outTo name L k).length ((outTo name L k).map (Value.int .i64)) ∧ Below W.heap.size W wr) (fun _ i _ => L.length - (intOf i).toNat)
  case atStart => exact ⟨0, by omega, rfl, World.ownsRow_nil _ _ _ _, Below.refl _ _⟩
  case round =>
    obtain ⟨k, hk, rfl, hown, hB⟩ := hrel
    have HW := Lib.hid (And.intro hown hB)
    by_cases hlt : k < L.length
    · have hrd := (Rd.of_own HO.out.1).below hB
      obtain ⟨b, o, hA, hcell⟩ := hrd.addr (by rw [List.length_map]; omega)
      have q0 := hcell k (by rw [List.length_map]; exact hlt)
      rw [List.getElem?_map, List.getElem?_eq_getElem hlt] at q0
      simp only [Option.map_some, encStr] at q0
      clear hcell hrd hown hB
      subst hA
      obtain ⟨f, hf⟩ : ∃ f, L[k] = f := ⟨_, rfl⟩
      rw [hf] at q0
      have hfk : L[k]? = some f := by rw [List.getElem?_eq_getElem hlt, hf]
      have hfl : f.length ≤ 32 := HG.out.2.1 f (hf ▸ List.getElem_mem hlt)
      have hsucc := outTo_succ name L k f hfk
      have hcut := fun w => cut_c f (name ++ [46]) w (⟨name.toArray⟩ ++ { data := #[46] }) (bappend name [46])
      have HC := Lib.hid hcut; clear hcut hf hfk
      unfold numOf at hsucc
      cases hp : (name ++ [46]).isPrefixOf f with
      | false =>
        have HC2 := HC.out
        rw [hp] at HC2 hsucc
        have HC3 := Lib.hid HC2; clear HC2 HC
        go_wp2_with (go_at_call 104; refine (HC3.out _).mono ?_; rintro e w1 ⟨rfl, rfl⟩)
        refine ⟨⟨k + 1, by omega, rfl, ?_, HW.out.2⟩, by simp [intOf]; omega⟩
        rw [hsucc]
        simpa using HW.out.1
      | true =>
        have HC2 := HC.out
        rw [hp, if_pos rfl, (by simp : (name ++ [(46 : UInt8)]).length = name.length + 1)] at HC2
        rw [hp, if_pos rfl] at hsucc
        have hsl : (f.drop (name.length + 1)).length ≤ 32 := by rw [List.length_drop]; omega
        generalize f.drop (name.length + 1) = s at HC2 hsucc hsl
        have HC3 := Lib.hid HC2; clear HC2 HC
        by_cases h9 : 9 < s.length
        · rw [if_pos h9] at hsucc
          go_wp2_with (go_at_call 104; refine (HC3.out _).mono ?_; rintro e w1 ⟨rfl, rfl⟩)
          refine ⟨⟨k + 1, by omega, rfl, ?_, HW.out.2⟩, by simp [intOf]; omega⟩
          rw [hsucc]
          simpa using HW.out.1
        · rw [if_neg h9] at hsucc
          have hgw : Glob n wr := HG.out.1.below (((HO.out.2.mono HG.out.2.2)).trans (HW.out.2.mono (Nat.le_trans HG.out.2.2 HO.out.2.size)))
          have hat := atoi_c n s (by omega) wr hgw
          cases hv : Go.Lib.atoiAll s with
          | ok v =>
            obtain ⟨hv0, hv1⟩ := atoi_bounds hv
            rw [hv] at hat hsucc
            have hat2 : Calls Tryz.prog 105 #[.string ⟨s.toArray⟩] wr fun e w' => Below wr.heap.size wr w' ∧ e = .returned (.tuple #[.int .i64 v, .nilIface]) :=
              hat.mono fun e w' ⟨h1, h2⟩ => ⟨h1, by
                rcases h2 with ⟨v', h3, h4⟩ | ⟨h3, _⟩
                · injection h3 with h3; subst h3; exact h4
                · exact absurd rfl (h3 v)⟩
            simp only at hsucc
            have HA := Lib.hid hat2; clear hat hat2
            have hfc := fun w hg => file_c n name (by omega) v hv0 hv1 w hg
            by_cases hF : Wal.fileB name v = f
            · rw [if_pos hF] at hsucc
              rw [hF] at hfc
              have HF := Lib.hid hfc; clear hfc hF
              have HG2 := Lib.hid hgw; clear hgw hv
              go_wp2_with (first
                | (go_at_call 104; refine (HC3.out _).mono ?_; rintro e w1 ⟨rfl, rfl⟩)
                | (go_at_call 105; refine HA.out.mono ?_; rintro e w1 ⟨hb2, rfl⟩; have HB2 := Lib.hid hb2; clear hb2)
                | (go_at_call 89; refine (HF.out _ (HG2.out.below (HB2.out.mono (Nat.le_trans HG.out.2.2 (Nat.le_trans HO.out.2.size HW.out.2.size))))).mono ?_; rintro e w2 ⟨rfl, hb3⟩; have HB3 := Lib.hid hb3; clear hb3)
                | (at_builtin; refine wpList_append_rd _ rfl _ _ 64 rfl W.heap.size 3 i0 _ 1 8 Tryz.underlying64 hi0 hz0 hz1 hz2 rfl (by decide) _ _ _ rfl (own_below HW.out.1 (bstep (bstep HB2.out HB3.out) (bnew _ _))) 0 (some ⟨w2.heap.size, 0, none⟩) 1 1 [.int .i64 v] rfl rfl (rd_new1 _ _ _) (by simp [Value.oneCell']) ?q1 ?q2 ?q3 ?q4 ?_))
              case q1 => have := outTo_length name L k; unfold maxLen; omega
              case q2 => have := outTo_length name L k; omega
              case q3 => have := HW.out.2.size; have := HB2.out.size; have := HB3.out.size; simp; omega
              case q4 => intro h; cases h
              intro v' w4 hown4 hgrow hblk
              have hB4 : Below W.heap.size W w4 := ((bstep (bstep (bstep HW.out.2 HB2.out) HB3.out) (bnew w2 (.cells #[.int .i64 v] 3)))).grown hgrow (by have := HW.out.2.size; have := HB2.out.size; have := HB3.out.size; simp; omega) (fun q hq => by
                obtain ⟨_, _, _, _, _, h⟩ := own_slice HW.out.1
                rcases h with h | ⟨g, h, hg, _⟩
                · rw [h] at hq; cases hq
                · rw [h] at hq; cases hq; exact hg)
              have hown5 : w4.ownsRow W.heap.size 3 1 v' (outTo name L (k + 1)).length ((outTo name L (k + 1)).map (Value.int .i64)) := by
                rw [hsucc]
                simpa using hown4
              have HQ := Lib.hid (And.intro hown5 hB4); clear hown4 hown5 hB4 hgrow hblk
              go_wp2
              exact ⟨⟨k + 1, by omega, rfl, HQ.out.1, HQ.out.2⟩, by simp [intOf]; omega⟩
            · rw [if_neg hF] at hsucc
              have hFb : ((⟨(Wal.fileB name v).toArray⟩ : ByteArray) == ⟨f.toArray⟩) = false := by rw [bytes_ext]; simpa using hF
              obtain ⟨F, hFF⟩ : ∃ F, Wal.fileB name v = F := ⟨_, rfl⟩
              rw [hFF] at hfc hFb hF
              have hF2 : (F == f) = false := by simpa using hF
              have hF3 : (F.toArray == f.toArray) = false := by simpa using hF
              have HF := Lib.hid hfc; clear hfc hFF
              have HG2 := Lib.hid hgw; clear hgw hv
              go_wp2_with (first
                | (go_at_call 104; refine (HC3.out _).mono ?_; rintro e w1 ⟨rfl, rfl⟩)
                | (go_at_call 105; refine HA.out.mono ?_; rintro e w1 ⟨hb2, rfl⟩; have HB2 := Lib.hid hb2; clear hb2)
                | (go_at_call 89; refine (HF.out _ (HG2.out.below (HB2.out.mono (Nat.le_trans HG.out.2.2 (Nat.le_trans HO.out.2.size HW.out.2.size))))).mono ?_; rintro e w2 ⟨rfl, hb3⟩; have HB3 := Lib.hid hb3; clear hb3))
              have hB4 := bstep (bstep HW.out.2 HB2.out) HB3.out
              refine ⟨⟨k + 1, by omega, rfl, ?_, hB4⟩, by simp [intOf]; omega⟩
              rw [hsucc]
              simpa using own_below HW.out.1 (bstep HB2.out HB3.out)
          | range =>
            rw [hv] at hat hsucc
            have hat2 : Calls Tryz.prog 105 #[.string ⟨s.toArray⟩] wr fun e w' => Below wr.heap.size wr w' ∧ ∃ x N, e = .returned (.tuple #[.int .i64 x, .iface 210 (.pointer (some ⟨N, 0, none⟩))]) :=
              hat.mono fun e w' ⟨h1, h2⟩ => ⟨h1, by
                rcases h2 with ⟨v', h3, h4⟩ | ⟨_, h4⟩
                · cases h3
                · exact h4⟩
            simp only at hsucc
            have HA := Lib.hid hat2; clear hat hat2 hgw hv
            go_wp2_with (first
              | (go_at_call 104; refine (HC3.out _).mono ?_; rintro e w1 ⟨rfl, rfl⟩)
              | (go_at_call 105; refine HA.out.mono ?_; rintro e w1 ⟨hb2, x, N, rfl⟩; have HB2 := Lib.hid hb2; clear hb2))
            have hB4 := bstep HW.out.2 HB2.out
            refine ⟨⟨k + 1, by omega, rfl, ?_, hB4⟩, by simp [intOf]; omega⟩
            rw [hsucc]
            simpa using own_below HW.out.1 HB2.out
          | _ =>
            rw [hv] at hat hsucc
            have hat2 : Calls Tryz.prog 105 #[.string ⟨s.toArray⟩] wr fun e w' => Below wr.heap.size wr w' ∧ ∃ x N, e = .returned (.tuple #[.int .i64 x, .iface 210 (.pointer (some ⟨N, 0, none⟩))]) :=
              hat.mono fun e w' ⟨h1, h2⟩ => ⟨h1, by
                rcases h2 with ⟨v', h3, h4⟩ | ⟨_, h4⟩
                · cases h3
                · exact h4⟩
            simp only at hsucc
            have HA := Lib.hid hat2; clear hat hat2 hgw hv
            go_wp2_with (first
              | (go_at_call 104; refine (HC3.out _).mono ?_; rintro e w1 ⟨rfl, rfl⟩)
              | (go_at_call 105; refine HA.out.mono ?_; rintro e w1 ⟨hb2, x, N, rfl⟩; have HB2 := Lib.hid hb2; clear hb2))
            have hB4 := bstep HW.out.2 HB2.out
            refine ⟨⟨k + 1, by omega, rfl, ?_, hB4⟩, by simp [intOf]; omega⟩
            rw [hsucc]
            simpa using own_below HW.out.1 HB2.out
    · obtain rfl : k = L.length := by omega
      have e0 : outTo name L L.length = L.filterMap (numOf name) := by unfold outTo; rw [List.take_length]
      have HW2 := HW.out
      rw [e0] at HW2
      have hln : (L.filterMap (numOf name)).length ≤ 16 := Nat.le_trans (List.length_filterMap_le _ _) hlen
      obtain ⟨zs, hzs⟩ : ∃ zs, L.filterMap (numOf name) = zs := ⟨_, rfl⟩
      rw [hzs] at HW2 hln
      have HZ := Lib.hid hzs; clear hzs hown hB HW
      obtain ⟨hown, hB⟩ := HW2
      rcases hown.2 with ⟨rfl, hz⟩ | ⟨gb, cap, cur, rfl, hbase, hgb, r1, r2, r3, r4⟩
      · have hz2 : zs = [] := List.eq_nil_of_length_eq_zero hz
        have HQ := Lib.hid (And.intro hz2 hB); clear hown hB hz hz2
        go_wp2_with (go_at_call 106; refine (Tryz.slices_Sort_int_none none 0 _).mono ?_; rintro e w' ⟨rfl, rfl⟩)
        go_ret
        have e1 : numbersB name L = [] := by unfold numbersB; rw [HZ.out, HQ.out.1]; simp
        rw [e1]
        exact ⟨_, rfl, World.ownsRow_nil _ _ _ _, bstep HO.out.2 HQ.out.2⟩
      · have hH := holds_of_blockI hgb (by simpa using r4)
        have hgl : gb < wr.heap.size := (Array.getElem?_eq_some_iff.1 hgb).1
        have cS := Tryz.slices_Sort_int gb 0 cap zs wr hH hgl (by omega)
        have HQ := Lib.hid (And.intro hown (And.intro hB (And.intro hbase (And.intro hgb (And.intro r1 (And.intro r2 (And.intro r3 cS))))))); clear hown hB hbase hgb r1 r2 r3 r4 hH hgl cS
        go_wp2_with (go_at_call 106; refine HQ.out.2.2.2.2.2.2.2.mono ?_; rintro e w' ⟨rfl, nn, os, rfl⟩)
        go_ret
        obtain ⟨hown, hB, hbase, hgb, r1, r2, r3, _⟩ := HQ.out
        have hsz := HO.out.2.size
        have e1 : (numbersB name L).length = zs.length := by unfold numbersB; rw [HZ.out, List.length_mergeSort]
        have hrow := ownsRow_sortedI (n := nn) (os := os) (ts := numbersB name L) e1 hbase hgb r1 r2 r3
        rw [show numbersB name L = zs.mergeSort (fun x y => decide (x ≤ y)) by unfold numbersB; rw [HZ.out]] at hrow ⊢
        refine ⟨_, rfl, ?_, (bstep HO.out.2 (hB.grown (grownBy_sortedI _) hB.size (fun j hj => by cases hj; exact hbase)))⟩
        rw [List.length_mergeSort]
        exact own_base hrow hsz
end Go.Proofs.YtnljhabpcoiihaaGreatDoor
