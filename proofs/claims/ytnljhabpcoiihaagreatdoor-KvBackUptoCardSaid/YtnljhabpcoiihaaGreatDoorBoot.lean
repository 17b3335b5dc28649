/- A disk's List and Boot. -/
import Derived.Test.YtnljhabpcoiihaaGreatDoorNames
set_option linter.all false
namespace Go.Proofs.YtnljhabpcoiihaaGreatDoor
open Go.RowKit

set_option maxRecDepth 100000 in
set_option maxHeartbeats 400000 in
theorem list_c (n bd : Nat) (D : DiskM) (w : World) (hD : DiskR n w bd D) :
    Calls Tryz.prog 103 #[.pointer (some ⟨bd, 0, none⟩)] w fun e w' =>
      ∃ v, e = .returned v ∧ w'.ownsRow w.heap.size 9 1 v (if D.down then [] else D.names).length ((if D.down then [] else D.names).map encStr) ∧ Below w.heap.size w w' := by
  have hN := names_c n bd D w hD
  obtain ⟨bm, clock, pv, xs, hX⟩ := hD
  have c4 := Joins.cell_of_block hX.at_ 4
  simp at c4
  have HN := Lib.hid hN; clear hN hX
  cases hd : D.down with
  | true =>
    rw [hd] at c4
    go_enter Tryz.func103, Tryz.ntmps103
    go_wp2
    go_ret
    exact ⟨_, rfl, World.ownsRow_nil _ _ _ _, Below.refl _ _⟩
  | false =>
    rw [hd] at c4
    go_enter Tryz.func103, Tryz.ntmps103
    go_wp2_with (go_at_call 60; refine HN.out.mono ?_; rintro e w1 ⟨v, rfl, hown, hb1⟩; have HO := Lib.hid (And.intro hown hb1); clear hown hb1)
    go_ret
    exact ⟨v, rfl, HO.out.1, HO.out.2⟩

/-- what is left of a file behind a boot -/
def bootFile (keep : Option Int) (f : FileM) : FileM :=
  let n := match keep with | none => f.safe | some k => (min (max (f.safe : Int) k) f.b.length).toNat
  { f with b := f.b.take n, safe := n }
def bootStep (kept : List Int) (ss : List (List UInt8)) (i : Nat) (fs : List FileM) : List FileM :=
  match ss[i]? with
  | none => fs
  | some s => match fileAt fs s with
    | none => fs
    | some f => setFile fs (bootFile kept[i]? f)
def bootTo (kept : List Int) (ss : List (List UInt8)) (fs : List FileM) : Nat → List FileM
  | 0 => fs
  | i + 1 => bootStep kept ss i (bootTo kept ss fs i)
def DiskM.boot (D : DiskM) (kept : List Int) : DiskM := { D with files := bootTo kept D.names D.files D.names.length, plan := [], down := false, pm := none }

theorem bootStep_names (kept : List Int) (ss : List (List UInt8)) (i : Nat) (fs : List FileM) : (bootStep kept ss i fs).map (·.name) = fs.map (·.name) := by
  unfold bootStep
  repeat' split
  all_goals first | rfl | exact set_names _ _
theorem bootTo_names (kept : List Int) (ss : List (List UInt8)) (fs : List FileM) : ∀ i, (bootTo kept ss fs i).map (·.name) = fs.map (·.name)
  | 0 => rfl
  | i + 1 => by rw [bootTo, bootStep_names, bootTo_names kept ss fs i]
theorem fileAt_ex {l : List FileM} {s : List UInt8} (h : s ∈ l.map (·.name)) : ∃ f, fileAt l s = some f := by
  induction l with
  | nil => simp at h
  | cons g r ih =>
    by_cases hg : g.name = s
    · exact ⟨g, by rw [fileAt, if_pos hg]⟩
    · rw [List.map_cons, List.mem_cons] at h
      rcases h with h | h
      · exact absurd h.symm hg
      · rw [fileAt, if_neg hg]; exact ih h
theorem entAt_ex {xs : List FEnt} {s : List UInt8} {f : FileM} (h : fileAt (xs.map (·.f)) s = some f) : ∃ x, entAt xs s = some x := by
  cases he : entAt xs s with
  | none => rw [entAt_none he] at h; cases h
  | some x => exact ⟨x, rfl⟩

theorem run_slice_3 {P : Program} (w : World) (t e : TypeId) (i : TypeInfo) (size : Nat) (ht : P.underlying t = some (.slice e)) (hi : P.info? e = some i) (hs : i.size = size)
    (A : Option Addr) (len cap n : Nat) (h : n ≤ cap) :
    (Instr.slice t (.slice A len cap) none (some (.int .i64 (n : Int))) (some (.int .i64 (n : Int)))).run P w = .ok (.slice A n n) w := by
  subst hs
  have hA : (if n = 0 then A else A.map (·.add (0 * i.size))) = A := by
    split
    · rfl
    · cases A <;> simp [Addr.add]
  simp [Instr.slice, run_underlying ht, Instr.sliceBounds, Instr.sliceBound, asIntOf, sizeOf, typeInfo, hi, h]
  try (simpa using hA)

theorem own_turn {w w' : World} {base n m : Nat} {e : TypeId} {size : Nat} {v : Value} {xs : List Value} {T : List (Option TypeId)} (h : w.ownsRow base e size v n xs) (ht : Turn m T w w') (hT : some e ∉ T) : w'.ownsRow base e size v n xs := by
  obtain ⟨hl, h | ⟨g, cap, cur, hv, hg, hh, r⟩⟩ := h
  · exact ⟨hl, .inl h⟩
  · exact ⟨hl, .inr ⟨g, cap, cur, hv, hg, ht.block g _ hh (.inr hT), r⟩⟩

theorem DiskX.reset {n : Nat} {w : World} {bd bm clock : Nat} {pv : Value} {xs : List FEnt} {D : DiskM} (h : DiskX n w bd bm clock pv xs D) :
    DiskX n ((w.setCell ⟨bd, 2, none⟩ (.map none)).setCell ⟨bd, 4, none⟩ (.bool false)) bd bm clock (.map none) xs { D with plan := [], down := false, pm := none } := by
  have hother : ∀ (b : Nat) (o : Obj), w.heap[b]? = some o → tagOf o ≠ some 86 → ((w.setCell ⟨bd, 2, none⟩ (.map none)).setCell ⟨bd, 4, none⟩ (.bool false)).heap[b]? = some o := fun b o hb ht => by
    have hne : b ≠ bd := by
      rintro rfl
      rw [h.at_] at hb
      injection hb with hb
      subst hb
      exact ht rfl
    exact heap_setCell_ne (heap_setCell_ne hb hne) hne
  refine ⟨h.le, ?_, .inl ⟨rfl, rfl⟩, ?_, h.same, h.fits, (fun bp e => by cases e), h.apart.2.1, rfl⟩
  · rw [Joins.block_setCell (Joins.block_setCell h.at_ _)]; rfl
  · exact h.files.keeps (fun o ho => hother _ o ho (by have := h.files.at_; rw [ho] at this; injection this with this; subst this; simp [tagOf]))
      (fun x hx o ho => hother _ o ho (by obtain ⟨_, v, h2, _⟩ := h.files.each x hx; rw [ho] at h2; injection h2 with h2; subst h2; simp [tagOf]))
      (fun b o hb ht => hother b o hb (by rw [ht]; simp))

theorem Bs.cut {t8 : TypeId} {w : World} {A : Option Addr} {m cap : Nat} {l : List UInt8} (h : Bs t8 w (.slice A m cap) l) (n : Nat) (hn : n ≤ l.length) : Bs t8 w (.slice A n n) (l.take n) := by
  obtain ⟨A', cap', hA, hc, hm, hl⟩ := h
  injection hA with h1 h2 h3
  subst h1 h3
  have hln : (l.take n).length = n := by rw [List.length_take]; omega
  refine ⟨A, n, by rw [hln], by omega, by omega, ?_⟩
  rcases hl with rfl | ⟨b, o, c, f, rfl, hb, hk⟩
  · left; simp
  · right
    refine ⟨b, o, c, f, rfl, hb, fun k hk' => ?_⟩
    rw [hln] at hk'
    rw [hk k (by omega)]
    unfold bytesV
    rw [List.map_take, List.getElem?_take, if_pos hk']

theorem bootTo_succ {kept : List Int} {ss : List (List UInt8)} {fs : List FileM} {k : Nat} {s : List UInt8} {f : FileM} (h1 : ss[k]? = some s) (h2 : fileAt (bootTo kept ss fs k) s = some f) :
    bootTo kept ss fs (k + 1) = setFile (bootTo kept ss fs k) (bootFile kept[k]? f) := by
  rw [bootTo, bootStep, h1]
  simp only [h2]

set_option maxRecDepth 100000 in
set_option maxHeartbeats 400000 in
theorem boot_c (n bd : Nat) (D : DiskM) (kept : List Int) (A : Option Addr) (m cap : Nat) (hm : m = kept.length) (hml : m ≤ 4611686018427387904) (w : World) (hD : DiskR n w bd D)
    (hrw : ∀ W, Turn n [some 86, none, some 91] w W → Rd 0 W A (kept.map (Value.int .i64))) :
    Calls Tryz.prog 28 #[.pointer (some ⟨bd, 0, none⟩), .slice A m cap] w fun e w' =>
      e = .returned (.tuple #[]) ∧ DiskR n w' bd (D.boot kept) ∧ Turn n [some 86, none, some 91] w w' := by
  have hN := names_c n bd D w hD
  have HD := Lib.hid hD; clear hD
  have HN := Lib.hid hN; clear hN
  have HM := Lib.hid (And.intro hm hrw); clear hm hrw
  go_enter Tryz.func28, Tryz.ntmps28
  go_wp2_with (go_at_call 60; refine HN.out.mono ?_; rintro e W ⟨v, rfl, hown, hb1⟩; obtain ⟨A1, c1, rfl, _, _, _⟩ := own_slice hown; have HO := Lib.hid (And.intro hown hb1); clear hown hb1)
  obtain ⟨L, hL⟩ : ∃ L, D.names.length = L := ⟨_, rfl⟩
  rw [hL]
  have HL := Lib.hid hL; clear hL
  have hL16 : L ≤ 16 := by
    obtain ⟨_, _, _, _, hX⟩ := HD.out
    have h1 := hX.fits.2.2.2.1
    have h2 : D.names.length = D.files.length := by unfold DiskM.names; rw [List.length_mergeSort, List.length_map]
    rw [← HL.out]; omega
  go_loopw [12] (fun i wr => ∃ (k : Nat), k ≤ L ∧ i = .int .i64 k ∧ DiskR n wr bd { D with files := bootTo kept D.names D.files k } ∧ Turn n [some 86, none, some 91] W wr) (fun i _ => L - (intOf i).toNat)
  case atStart => exact ⟨0, by omega, rfl, HD.out.below HO.out.2, Turn.refl _ _ _⟩
  case round =>
    obtain ⟨k, hk, rfl, hR, hT⟩ := hrel
    have HR := Lib.hid (And.intro hR hT); clear hR hT
    by_cases hlt : k < L
    · have hown := own_turn HO.out.1 HR.out.2 (by simp)
      have hrd := Rd.of_own hown
      have hkl : k < D.names.length := by rw [HL.out]; exact hlt
      obtain ⟨b, o, hA, hcell⟩ := hrd.addr (by rw [List.length_map]; omega)
      have q0 := hcell k (by rw [List.length_map]; exact hkl)
      rw [List.getElem?_map, List.getElem?_eq_getElem hkl] at q0
      simp only [Option.map_some, encStr] at q0
      clear hcell hrd hown
      subst hA
      obtain ⟨bm, clock, pv, xs, hX⟩ := HR.out.1
      obtain ⟨s, hs⟩ : ∃ s, D.names[k] = s := ⟨_, rfl⟩
      rw [hs] at q0
      have hmem : s ∈ (bootTo kept D.names D.files k).map (·.name) := by
        rw [bootTo_names]
        have h1 : s ∈ D.names := hs ▸ List.getElem_mem hkl
        exact (List.mergeSort_perm _ _).mem_iff.1 h1
      obtain ⟨f, hf⟩ := fileAt_ex hmem
      have hf2 : fileAt (xs.map (·.f)) s = some f := by rw [hX.same]; exact hf
      obtain ⟨x, hx⟩ := entAt_ex hf2
      obtain ⟨e1, e2, e3⟩ := entAt_some hx
      obtain rfl : x.f = f := by rw [hf2] at e1; injection e1 with e1; exact e1.symm
      have c1 := Joins.cell_of_block hX.at_ 1
      have hl := look_file (P := Tryz.prog) und_files und_string zero_file xs hX.files.at_ s
      rw [hx] at hl
      simp at c1 hl
      obtain ⟨hxn, v, hb, hv⟩ := hX.files.each x e2
      have d0 := Joins.cell_of_block hb 0
      have d1 := Joins.cell_of_block hb 1
      have g1 := Joins.unfrozen_of_block hb 1
      simp at d0 d1
      have hv0 := hv
      obtain ⟨A2, c2, rfl, hc2, hm2, _⟩ := hv
      have hlen := file_len hX.fits (f := x.f) (by rw [← hX.same]; exact List.mem_map_of_mem e2)
      have hsafe := hX.fits.2.2.2.2.2 x.f (by rw [← hX.same]; exact List.mem_map_of_mem e2)
      have HX := Lib.hid (And.intro hX (And.intro hxn (And.intro hb (And.intro hv0 (And.intro hlen (And.intro hsafe (And.intro e2 (And.intro e3 (And.intro hf hs)))))))))
      clear hX hxn hb hv0 hlen hsafe e1 e2 e3 hf hf2 hx hs hmem
      by_cases hkm : k < m
      · obtain ⟨b2, o2, hA2, hcell⟩ := (HM.out.2 wr (((Turn.of_below HO.out.2)).trans HR.out.2)).addr (by rw [List.length_map, ← HM.out.1]; omega)
        have q1 := hcell k (by rw [List.length_map, ← HM.out.1]; exact hkm)
        rw [List.getElem?_map, List.getElem?_eq_getElem (by rw [← HM.out.1]; exact hkm)] at q1
        simp only [Option.map_some] at q1
        clear hcell
        subst hA2
        obtain ⟨N, hNN, hNle⟩ : ∃ N : Nat, min (max (x.f.safe : Int) (kept[k]'(by rw [← HM.out.1]; exact hkm))) (x.f.b.length : Int) = (N : Int) ∧ N ≤ x.f.b.length := by
          refine ⟨(min (max (x.f.safe : Int) (kept[k]'(by rw [← HM.out.1]; exact hkm))) (x.f.b.length : Int)).toNat, ?_, ?_⟩
          · rw [Int.toNat_of_nonneg]; omega
          · omega
        have hN : bootFile kept[k]? x.f = { x.f with b := x.f.b.take N, safe := N } := by
          rw [List.getElem?_eq_getElem (by rw [← HM.out.1]; exact hkm)]
          unfold bootFile
          simp only [hNN, Int.toNat_natCast]
        go_wp2_with fail
        go_region
        go_wp2_with fail
        have HK2 : ∀ (b : Nat) (o : Obj), wr.heap[b]? = some o → b ≠ x.blk → (wr.setCell ⟨x.blk, 1, none⟩ (.int .i64 (N : Int))).drew.heap[b]? = some o := fun b o hb hne => heap_setCell_ne hb hne
        have HT2 : Turn n [some 86, none, some 91] wr (wr.setCell ⟨x.blk, 1, none⟩ (.int .i64 (N : Int))).drew := ((Turn.refl _ _ _).setCell HX.out.2.2.1 HX.out.2.1 (by simp) _ _).drew
        have HB2 : (wr.setCell ⟨x.blk, 1, none⟩ (.int .i64 (N : Int))).drew.heap[x.blk]? = some (.cells #[.slice A2 x.f.b.length c2, .int .i64 (N : Int)] 91 (0, 0)) := by
          show (wr.setCell ⟨x.blk, 1, none⟩ (.int .i64 (N : Int))).heap[x.blk]? = _
          rw [Joins.block_setCell HX.out.2.2.1]; rfl
        obtain ⟨W2, hW2⟩ : ∃ W2, (wr.setCell ⟨x.blk, 1, none⟩ (.int .i64 (N : Int))).drew = W2 := ⟨_, rfl⟩
        rw [hW2]
        clear hNN
        have hk2 : ∀ (b : Nat) (o : Obj), wr.heap[b]? = some o → b ≠ x.blk → W2.heap[b]? = some o := by
          rw [← hW2]; exact HK2
        have hT2 : Turn n [some 86, none, some 91] wr W2 := by
          rw [← hW2]; exact HT2
        have hb2 : W2.heap[x.blk]? = some (.cells #[.slice A2 x.f.b.length c2, .int .i64 (N : Int)] 91 (0, 0)) := by
          rw [← hW2]; exact HB2
        clear HK2 HT2 HB2 hW2 d0 d1 g1 c1 hl q0
        have d0 := Joins.cell_of_block hb2 0
        have d1 := Joins.cell_of_block hb2 1
        have g0 := Joins.unfrozen_of_block hb2 0
        simp at d0 d1
        obtain ⟨i0, hi0, hz0, hz1, hz2⟩ := info8
        have hsl := fun w => run_slice_3 (P := Tryz.prog) w 29 5 i0 1 Tryz.underlying29 hi0 hz1 A2 x.f.b.length c2 N (by omega)
        have HQ := Lib.hid (And.intro hk2 (And.intro hT2 (And.intro hb2 (And.intro hNle hN)))); clear hk2 hT2 hb2 hNle hN hi0 hz0 hz1 hz2
        go_region
        go_wp2_with fail
        obtain ⟨hk2, hT2, hb2, hNle, hN⟩ := HQ.out
        obtain ⟨hX, hxn, hb, hv0, hlen, hsafe, e2, e3, hf, hs⟩ := HX.out
        have hk3 : ∀ (b : Nat) (o : Obj), wr.heap[b]? = some o → b ≠ x.blk → (W2.setCell ⟨x.blk, 0, none⟩ (.slice A2 N N)).drew.heap[b]? = some o := fun b o hb hne => heap_setCell_ne (hk2 b o hb hne) hne
        have hb3 : (W2.setCell ⟨x.blk, 0, none⟩ (.slice A2 N N)).drew.heap[x.blk]? = some (.cells #[.slice A2 N N, .int .i64 (N : Int)] 91 (0, 0)) := by
          show (W2.setCell ⟨x.blk, 0, none⟩ (.slice A2 N N)).heap[x.blk]? = _
          rw [Joins.block_setCell hb2]; rfl
        have hcut := hv0.cut N hNle
        have hv3 : Bs 5 (W2.setCell ⟨x.blk, 0, none⟩ (.slice A2 N N)).drew (.slice A2 N N) (x.f.b.take N) :=
          hcut.keeps fun b o hb' ht => hk3 b o hb' (fun e => by subst e; rw [hb] at hb'; cases hb'; revert ht; simp [tagOf])
        have hbf : bootFile kept[k]? x.f = { x.f with b := x.f.b.take N, safe := N } := hN
        have hlt3 : (x.f.b.take N).length = N := by rw [List.length_take]; omega
        have hX3 := hX.turnFile e2 (bootFile kept[k]? x.f) rfl (by rw [hbf]; exact hb3) (by rw [hbf]; exact hv3) hk3
          (set_fits hX.fits (f := x.f) (by rw [hbf]; simp only; rw [e3]; exact hf) (by rw [hbf]; simp only; omega) (by
            have h1 : ((sumLen (bootTo kept D.names D.files k) : Nat) : Int) ≤ D.room := hX.fits.2.2.1
            rw [hbf]
            show ((sumLen (bootTo kept D.names D.files k) : Nat) : Int) + (((x.f.b.take N).length : Nat) : Int) - ((x.f.b.length : Nat) : Int) ≤ D.room
            rw [hlt3]; omega))
        have hnk : D.names[k]? = some s := by rw [List.getElem?_eq_getElem hkl, hs]
        rw [show setFile ({ D with files := bootTo kept D.names D.files k } : DiskM).files (bootFile kept[k]? x.f) = bootTo kept D.names D.files (k + 1) from (bootTo_succ hnk hf).symm] at hX3
        exact ⟨⟨k + 1, by omega, rfl, ⟨bm, clock, pv, _, hX3⟩, ((HR.out.2.trans hT2).setCell hb2 hxn (by simp) _ _).drew⟩, by simp [intOf]; omega⟩
      · obtain ⟨N, hNN⟩ : ∃ N : Nat, x.f.safe = N := ⟨_, rfl⟩
        have hNle : N ≤ x.f.b.length := by have := HX.out.2.2.2.2.2.1; omega
        have hN : bootFile kept[k]? x.f = { x.f with b := x.f.b.take N, safe := N } := by
          rw [List.getElem?_eq_none (by rw [← HM.out.1]; omega)]
          unfold bootFile
          simp only [hNN]
        go_wp2_with fail
        have HK2 : ∀ (b : Nat) (o : Obj), wr.heap[b]? = some o → b ≠ x.blk → wr.heap[b]? = some o := fun b o hb hne => hb
        have HT2 : Turn n [some 86, none, some 91] wr wr := Turn.refl _ _ _
        have HB2 : wr.heap[x.blk]? = some (.cells #[.slice A2 x.f.b.length c2, .int .i64 (N : Int)] 91 (0, 0)) := by
          rw [← hNN]; exact HX.out.2.2.1
        obtain ⟨W2, hW2⟩ : ∃ W2, wr = W2 := ⟨_, rfl⟩
        have hgoal := hW2
        rw [hW2]
        clear hgoal hNN
        have hk2 : ∀ (b : Nat) (o : Obj), wr.heap[b]? = some o → b ≠ x.blk → W2.heap[b]? = some o := by
          rw [← hW2]; exact HK2
        have hT2 : Turn n [some 86, none, some 91] wr W2 := by
          rw [← hW2]; exact HT2
        have hb2 : W2.heap[x.blk]? = some (.cells #[.slice A2 x.f.b.length c2, .int .i64 (N : Int)] 91 (0, 0)) := by
          rw [← hW2]; exact HB2
        clear HK2 HT2 HB2 hW2 d0 d1 g1 c1 hl q0
        have d0 := Joins.cell_of_block hb2 0
        have d1 := Joins.cell_of_block hb2 1
        have g0 := Joins.unfrozen_of_block hb2 0
        simp at d0 d1
        obtain ⟨i0, hi0, hz0, hz1, hz2⟩ := info8
        have hsl := fun w => run_slice_3 (P := Tryz.prog) w 29 5 i0 1 Tryz.underlying29 hi0 hz1 A2 x.f.b.length c2 N (by omega)
        have HQ := Lib.hid (And.intro hk2 (And.intro hT2 (And.intro hb2 (And.intro hNle hN)))); clear hk2 hT2 hb2 hNle hN hi0 hz0 hz1 hz2
        go_region
        go_wp2_with fail
        obtain ⟨hk2, hT2, hb2, hNle, hN⟩ := HQ.out
        obtain ⟨hX, hxn, hb, hv0, hlen, hsafe, e2, e3, hf, hs⟩ := HX.out
        have hk3 : ∀ (b : Nat) (o : Obj), wr.heap[b]? = some o → b ≠ x.blk → (W2.setCell ⟨x.blk, 0, none⟩ (.slice A2 N N)).drew.heap[b]? = some o := fun b o hb hne => heap_setCell_ne (hk2 b o hb hne) hne
        have hb3 : (W2.setCell ⟨x.blk, 0, none⟩ (.slice A2 N N)).drew.heap[x.blk]? = some (.cells #[.slice A2 N N, .int .i64 (N : Int)] 91 (0, 0)) := by
          show (W2.setCell ⟨x.blk, 0, none⟩ (.slice A2 N N)).heap[x.blk]? = _
          rw [Joins.block_setCell hb2]; rfl
        have hcut := hv0.cut N hNle
        have hv3 : Bs 5 (W2.setCell ⟨x.blk, 0, none⟩ (.slice A2 N N)).drew (.slice A2 N N) (x.f.b.take N) :=
          hcut.keeps fun b o hb' ht => hk3 b o hb' (fun e => by subst e; rw [hb] at hb'; cases hb'; revert ht; simp [tagOf])
        have hbf : bootFile kept[k]? x.f = { x.f with b := x.f.b.take N, safe := N } := hN
        have hlt3 : (x.f.b.take N).length = N := by rw [List.length_take]; omega
        have hX3 := hX.turnFile e2 (bootFile kept[k]? x.f) rfl (by rw [hbf]; exact hb3) (by rw [hbf]; exact hv3) hk3
          (set_fits hX.fits (f := x.f) (by rw [hbf]; simp only; rw [e3]; exact hf) (by rw [hbf]; simp only; omega) (by
            have h1 : ((sumLen (bootTo kept D.names D.files k) : Nat) : Int) ≤ D.room := hX.fits.2.2.1
            rw [hbf]
            show ((sumLen (bootTo kept D.names D.files k) : Nat) : Int) + (((x.f.b.take N).length : Nat) : Int) - ((x.f.b.length : Nat) : Int) ≤ D.room
            rw [hlt3]; omega))
        have hnk : D.names[k]? = some s := by rw [List.getElem?_eq_getElem hkl, hs]
        rw [show setFile ({ D with files := bootTo kept D.names D.files k } : DiskM).files (bootFile kept[k]? x.f) = bootTo kept D.names D.files (k + 1) from (bootTo_succ hnk hf).symm] at hX3
        exact ⟨⟨k + 1, by omega, rfl, ⟨bm, clock, pv, _, hX3⟩, ((HR.out.2.trans hT2).setCell hb2 hxn (by simp) _ _).drew⟩, by simp [intOf]; omega⟩
    · obtain rfl : k = L := by omega
      obtain ⟨bm, clock, pv, xs, hX⟩ := HR.out.1
      have c2 := Joins.cell_of_block hX.at_ 2
      have g2 := Joins.unfrozen_of_block hX.at_ 2
      have c4 := Joins.cell_of_block hX.at_ 4
      have g4 := Joins.unfrozen_of_block hX.at_ 4
      simp at c2 c4
      have HX := Lib.hid hX; clear hX
      go_wp2_with fail
      go_end0
      refine ⟨rfl, ⟨bm, clock, .map none, xs, ?_⟩, ?_⟩
      · have h := HX.out.reset
        rw [← HL.out] at h
        exact h
      · have h1 := HX.out.at_
        have hT := ((Turn.of_below HO.out.2 (n := n) (T := [some 86, none, some 91])).trans HR.out.2).setCell h1 HX.out.le (by simp) 2 (.map none)
        exact hT.setCell (Joins.block_setCell h1 _) HX.out.le (by simp) _ _
end Go.Proofs.YtnljhabpcoiihaaGreatDoor
