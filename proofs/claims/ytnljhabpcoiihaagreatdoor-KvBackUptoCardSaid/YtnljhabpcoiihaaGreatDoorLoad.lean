/- A log's load: one file. -/
import Derived.Test.YtnljhabpcoiihaaGreatDoorLoadI
import Derived.Test.YtnljhabpcoiihaaGreatDoorRound
import Derived.Scope
import Derived.WalkMore
set_option linter.all false
namespace Go.Proofs.YtnljhabpcoiihaaGreatDoor
open Go.RowKit
open Wal (nextB)
attribute [local go_sem] Oper.semAt_some

def LogM.load (D : DiskM) (G : LogM) (k : Int) (last : Bool) : DiskM × LogM × Int :=
  if (D.read (Wal.fileB G.name k)).2.2 ≠ 0 then ((D.read (Wal.fileB G.name k)).1, G, (D.read (Wal.fileB G.name k)).2.2)
  else if k ≠ G.fin then ((D.read (Wal.fileB G.name k)).1, G, 34)
  else match scanS last (seqF ((D.read (Wal.fileB G.name k)).2.1.length + 1) (D.read (Wal.fileB G.name k)).2.1) with
    | none => ((D.read (Wal.fileB G.name k)).1, G, 34)
    | some (xs, m) =>
      if m < (D.read (Wal.fileB G.name k)).2.1.length then
        (((D.read (Wal.fileB G.name k)).1.trunc (Wal.fileB G.name k) m).1, { G with recs := G.recs ++ xs, parts := G.parts ++ [⟨k, xs.length, m⟩] }, ((D.read (Wal.fileB G.name k)).1.trunc (Wal.fileB G.name k) m).2)
      else ((D.read (Wal.fileB G.name k)).1, { G with recs := G.recs ++ xs, parts := G.parts ++ [⟨k, xs.length, m⟩] }, 0)

/-- the types that load writes -/
abbrev TLd : List (Option TypeId) := [some 86, some 91, some 143, some 159, some 29]
abbrev TDk : List (Option TypeId) := [some 86, some 91]
abbrev TLg : List (Option TypeId) := [some 143, some 159, some 29]

set_option maxRecDepth 100000 in
set_option maxHeartbeats 8000000 in
theorem load_c (n nr bl bd : Nat) (D : DiskM) (G : LogM) (k : Int) (last : Bool) (hk0 : 0 ≤ k) (hk1 : k ≤ 1000000000) (w : World) (hD : DiskR n w bd D) (hL : LogR nr w bl bd G) (hg : Glob n w) (hnr : n ≤ nr) (hns : nr ≤ w.heap.size)
    (hfew : G.recs.length ≤ 549755813888 ∧ G.parts.length ≤ 549755813888) :
    Calls Tryz.prog 73 #[.pointer (some ⟨bl, 0, none⟩), .int .i64 k, .bool last] w fun e w' =>
      e = .returned (.int .i64 (LogM.load D G k last).2.2) ∧ DiskR n w' bd (LogM.load D G k last).1 ∧ ((LogM.load D G k last).2.2 = 0 → LogR nr w' bl bd (LogM.load D G k last).2.1) ∧ Turn2 n nr TDk TLg w w' := by
  have hn := Nat.le_trans hnr hns
  obtain ⟨pv, rv, vs, hX⟩ := hL
  obtain ⟨FN, hFN⟩ : ∃ FN, Wal.fileB G.name k = FN := ⟨_, rfl⟩
  have hfl := fileB_length G.name k (by have := hX.nm; omega)
  obtain ⟨LM, hLM⟩ : ∃ R, LogM.load D G k last = R := ⟨_, rfl⟩
  rw [hLM]
  unfold LogM.load at hLM
  rw [hFN] at hfl hLM
  obtain ⟨w1, hw1⟩ : ∃ w1, ((w.alloc (.cells #[.pointer (some ⟨bl, 0, none⟩)] 101)).alloc (.cells #[.bool last] 4)).alloc (.cells #[.int .i64 0] 24) = w1 := ⟨_, rfl⟩
  have hb1 : Below w.heap.size w w1 := by rw [← hw1]; exact (bnew2 _ _ _).alloc (by simp; omega) _
  have hsz1 : w1.heap.size = w.heap.size + 3 := by rw [← hw1]; simp
  have hB0 : w1.heap[w.heap.size]? = some (.cells #[.pointer (some ⟨bl, 0, none⟩)] 101 (0, 0)) := by
    rw [← hw1]; exact (Below.heap_alloc _ _ _ (by simp; omega)).trans ((Below.heap_alloc _ _ _ (by simp)).trans (heap_alloc_new w _))
  have hB1 : w1.heap[w.heap.size + 1]? = some (.cells #[.bool last] 4 (0, 0)) := by
    rw [← hw1]; refine (Below.heap_alloc _ _ _ (by simp)).trans ?_
    have := heap_alloc_new (w.alloc (.cells #[.pointer (some ⟨bl, 0, none⟩)] 101)) (.cells #[.bool last] 4)
    rwa [World.size_alloc] at this
  have hB2 : w1.heap[w.heap.size + 2]? = some (.cells #[.int .i64 0] 24 (0, 0)) := by
    rw [← hw1]
    have := heap_alloc_new ((w.alloc (.cells #[.pointer (some ⟨bl, 0, none⟩)] 101)).alloc (.cells #[.bool last] 4)) (.cells #[.int .i64 0] 24)
    simpa using this
  have hfc := file_c n G.name (by have := hX.nm; omega) k (by omega) (by omega) w1.drew (fun V hV => hg V (fun q hq => (hV q hq).trans (hb1.block q (by omega))))
  rw [hFN] at hfc
  have e0 : w1.drew.cell? ⟨w.heap.size, 0, none⟩ = some (.pointer (some ⟨bl, 0, none⟩)) := by have := Joins.cell_of_block hB0 0; simpa using this
  have e1 : w1.drew.cell? ⟨bl, 0, none⟩ = some (.pointer (some ⟨bd, 0, none⟩)) := by have := Joins.cell_of_block ((hb1.block _ (heap_lt hX.at_)).trans hX.at_) 0; simpa using this
  have e2 : w1.drew.cell? ⟨bl, 1, none⟩ = some (.string ⟨G.name.toArray⟩) := by have := Joins.cell_of_block ((hb1.block _ (heap_lt hX.at_)).trans hX.at_) 1; simpa using this
  have hl0 : w.heap.size < w1.drew.heap.size := cell_lt e0
  have hlb : bl < w1.drew.heap.size := cell_lt e1
  have H1 := Lib.hid (And.intro (hX.below hb1) (And.intro (hD.below hb1) (And.intro hb1 (And.intro hsz1 (And.intro hB0 (And.intro hB1 (And.intro hB2 (And.intro hfc hfl))))))))
  have HLM := Lib.hid (And.intro hLM hFN)
  have HW1 := Lib.hid hw1
  clear hX hD hb1 hsz1 hB0 hB1 hB2 hfc hfl hLM hFN
  refine calls_of_marks_p 100 Tryz.func73 rfl ?_
  simp only [Tryz.ntmps73, List.size_toArray, List.length_cons, List.length_nil, Nat.reduceAdd, Nat.reduceSub, Array.replicate_succ, Array.replicate_zero, List.push_toArray, List.append_toArray, List.nil_append, List.cons_append]
  go_wp2_with fail
  go_step3
  go_wp2_with fail
  clear hw1
  obtain ⟨RD, hRD⟩ : ∃ R, D.read FN = R := ⟨_, rfl⟩
  have HRD := Lib.hid hRD
  have HLEN := Lib.hid (show RD.2.1.length ≤ 1073741824 by rw [← hRD]; exact read_len H1.out.2.1 FN)
  go_region_held3 (fun w' => w'.cell? ⟨w.heap.size, 0, none⟩ = some (.pointer (some ⟨bl, 0, none⟩)) ∧ w'.cell? ⟨bl, 0, none⟩ = some (.pointer (some ⟨bd, 0, none⟩)) ∧ w'.cell? ⟨bl, 1, none⟩ = some (.string ⟨G.name.toArray⟩))
    (first
      | go_keep
      | (refine ⟨?_, ?_, ?_⟩ <;> assumption))
    (first
      | (go_at_call 89; refine H1.out.2.2.2.2.2.2.2.1.mono ?_; rintro e w2 ⟨rfl, hb2⟩; have k0 := (hb2.cell (p := ⟨w.heap.size, 0, none⟩) hl0).trans e0; have k1 := (hb2.cell (p := ⟨bl, 0, none⟩) hlb).trans e1; have k2 := (hb2.cell (p := ⟨bl, 1, none⟩) hlb).trans e2; have HB2 := Lib.hid (bel_drew hb2); clear hb2)
      | (go_at_call 107; refine (read_c n bd D FN (by have := H1.out.2.2.2.2.2.2.2.2; omega) w2 (H1.out.2.1.below HB2.out)).mono ?_; rintro e w3 ⟨v3, rfl, hbs3, hR3, hT3⟩; rw [hRD] at hbs3 hR3; rw [hRD]; have m0 := Joins.cell_of_block (hT3.block _ _ ((HB2.out.block _ (heap_lt H1.out.2.2.2.2.1)).trans H1.out.2.2.2.2.1) (.inr (by simp [tagOf]))) 0; have hX3 := (H1.out.1.below HB2.out).keeps (KeepsL.of_turn hT3 (by simp) (by simp) (by simp) (by simp)); have m1 := Joins.cell_of_block hX3.at_ 0; have m2 := Joins.cell_of_block hX3.at_ 1; simp at m0 m1 m2; have H3 := Lib.hid (And.intro hbs3 (And.intro hR3 (And.intro hT3 hX3))); clear hbs3 hR3 hT3 hX3))
  obtain ⟨hbs3, hR3, hT3, hX3⟩ := H3.out
  have hT03 : Turn2 n nr TDk TLg w w3 := Turn2.of_turn (((Turn.of_below (bstep H1.out.2.2.1 HB2.out)).trans hT3).mono (Nat.le_refl _) (by simp [TDk]))
  have hB23 : w3.heap[w.heap.size + 2]? = some (.cells #[.int .i64 0] 24 (0, 0)) := hT3.block _ _ ((HB2.out.block _ (heap_lt H1.out.2.2.2.2.2.2.1)).trans H1.out.2.2.2.2.2.2.1) (.inr (by simp [tagOf]))
  have hB13 : w3.heap[w.heap.size + 1]? = some (.cells #[.bool last] 4 (0, 0)) := hT3.block _ _ ((HB2.out.block _ (heap_lt H1.out.2.2.2.2.2.1)).trans H1.out.2.2.2.2.2.1) (.inr (by simp [tagOf]))
  have hB03 : w3.heap[w.heap.size]? = some (.cells #[.pointer (some ⟨bl, 0, none⟩)] 101 (0, 0)) := hT3.block _ _ ((HB2.out.block _ (heap_lt H1.out.2.2.2.2.1)).trans H1.out.2.2.2.2.1) (.inr (by simp [tagOf]))
  have q2 := Joins.cell_of_block hB23 0
  have f2 := Joins.unfrozen_of_block hB23 0
  have q0 := Joins.cell_of_block hB03 0
  simp at q2 q0
  have HT := Lib.hid (And.intro hT03 (And.intro hB23 (And.intro hB13 hB03)))
  have HLM2 := Lib.hid HLM.out.1
  clear hbs3 hR3 hT3 hX3 hT03 hB23 hB13 hB03 k0 k1 k2 e0 e1 e2
  by_cases her : RD.2.2 = 0
  · have hLM := HLM2.out
    rw [hRD, if_neg (by simp [her])] at hLM
    have hE := end_c nr bl bd G w3 ⟨_, _, _, H3.out.2.2.2⟩
    obtain ⟨FI, hFI⟩ : ∃ F, G.fin = F := ⟨_, rfl⟩
    rw [hFI] at hE hLM
    have HE := Lib.hid hE; clear hE
    by_cases hkf : k = FI
    · rw [if_neg (by simp [hkf])] at hLM
      have HLM3 := Lib.hid hLM; clear hLM
      subst hkf
      go_wp2_with (go_at_call 46; refine HE.out.mono ?_; rintro e w4 ⟨rfl, q, hq⟩; have HQ4 := Lib.hid hq; have q0' : w4.cell? ⟨w.heap.size, 0, none⟩ = some (.pointer (some ⟨bl, 0, none⟩)) := (by rw [hq]; exact q0); clear hq)
      obtain ⟨z, hz⟩ : ∃ z, w4.heap.size = z := ⟨_, rfl⟩
      obtain ⟨w5, hw5⟩ : ∃ w5, w4.alloc (.cells #[.int .i64 k, .int .i64 0, .int .i64 0] 159) = w5 := ⟨_, rfl⟩
      rw [hw5]
      rw [hz]
      have H5 := Lib.hid (And.intro hw5 hz); clear hw5 hz q0'
      go_step3
      obtain ⟨A3, cap3, hv3, hc3, hm3, hb3⟩ := H3.out.1
      subst hv3
      have HA3 := Lib.hid (And.intro hc3 (And.intro hm3 hb3)); clear hc3 hm3 hb3
      go_wp2_with fail
      refine (frames_c A3 RD.2.1.length cap3 w5).mono ?_
      rintro e V0 ⟨rfl, hV0⟩
      have hbV : Below w5.heap.size w5 V0 := by rw [hV0]; exact bnew _ _
      have hsV : V0.heap.size = z + 2 := by rw [hV0, ← H5.out.1]; simp [H5.out.2]
      have hs5 : w5.heap.size = z + 1 := by rw [← H5.out.1]; simp [H5.out.2]
      have hw34 : ∀ (b : Nat) (o : Obj), w3.heap[b]? = some o → V0.heap[b]? = some o := by
        intro b o hb
        have hb4 : w4.heap[b]? = some o := by rw [HQ4.out]; exact hb
        have := heap_lt hb4
        refine (hbV.block b (by have := H5.out.2; omega)).trans ?_
        rw [← H5.out.1]
        exact (Below.heap_alloc _ _ _ this).trans hb4
      have hsz3 : w3.heap.size = z := by have := H5.out.2; rw [HQ4.out] at this; exact this
      have hB3 : V0.heap[w5.heap.size]? = some (.cells #[.slice A3 RD.2.1.length cap3] 29 (0, 0)) := by rw [hV0]; exact heap_alloc_new _ _
      have hz3 : V0.heap[z]? = some (.cells #[.int .i64 k, .int .i64 0, .int .i64 0] 159 (0, 0)) := by
        refine (hbV.block z (by omega)).trans ?_
        rw [← H5.out.1, ← H5.out.2]; exact heap_alloc_new _ _
      have hX0 : LogX nr V0 bl bd pv rv vs G := H3.out.2.2.2.keeps fun b o hb _ => hw34 b o hb
      have hR0 : Bs 5 V0 (.slice A3 RD.2.1.length cap3) RD.2.1 := H3.out.1.keeps fun b o hb _ => hw34 b o hb
      have hD0 : DiskR n V0 bd RD.1 := H3.out.2.1.keeps fun b o hb _ => hw34 b o hb
      have hT0 : Turn2 n nr TDk TLg w V0 := ⟨by rw [hV0, ← H5.out.1, HQ4.out]; exact HT.out.1.os, by rw [hV0, ← H5.out.1, HQ4.out]; exact HT.out.1.tape, by rw [hV0, ← H5.out.1, HQ4.out]; exact HT.out.1.output,
        by have := HT.out.1.size; omega, fun b o hb hc => hw34 b o (HT.out.1.block b o hb hc)⟩
      have h66 := hw34 _ _ HT.out.2.1
      have h61 := hw34 _ _ HT.out.2.2.1
      have h60 := hw34 _ _ HT.out.2.2.2
      have hC : LdC nr V0 bl z (w.heap.size + 2) w5.heap.size := ⟨⟨hX0.le, by have := HT.out.1.size; omega, by omega, by have := HT.out.1.size; omega⟩, ⟨_, hX0.at_⟩, ⟨_, hz3⟩, ⟨_, h66⟩, ⟨_, hB3⟩⟩
      have hrvb : rv.ownBlock ≠ some w5.heap.size := by
        intro he
        obtain ⟨_, _, _, _, _, h⟩ := own_slice H3.out.2.2.2.recs
        rcases h with h | ⟨g, h, _, h2⟩
        · rw [h] at he; cases he
        · rw [h] at he; cases he; omega
      have hI0 := LdI.init hX0 hC hrvb hz3 h66
      have hlen : RD.2.1.length ≤ 1073741824 := HLEN.out
      have HV := Lib.hid (And.intro hC (And.intro hB3 (And.intro hR0 (And.intro hlen (And.intro hI0 (And.intro hX0 (And.intro hD0 (And.intro hT0 (And.intro h61 h60)))))))))
      have HS := Lib.hid (And.intro hsV (And.intro hs5 (And.intro hsz3 (And.intro hV0 hbV))))
      clear hC hB3 hR0 hlen hI0 hX0 hD0 hT0 h61 h60 h66 hsV hs5 hsz3 hV0 hbV hw34 hz3 hrvb
      go_wp2_with fail
      obtain ⟨fu, -⟩ : ∃ fu : Nat, True := ⟨0, trivial⟩
      refine (wpIn_wide (n := fu)).1 ?_
      refine load_loop (last := last) rfl rfl HV.out.1 HV.out.2.1 HV.out.2.2.1 HV.out.2.2.2.1 HV.out.2.2.2.2.1 ?_ ?_ ?_
      · intro rec pre x W hpl hlp hdf hI hpre hbs hxl
        obtain ⟨X, j, er, v⟩ := x
        simp only at hbs hxl
        have ne := HV.out.1.ne
        have lt := HV.out.1.lt
        obtain ⟨rv, vs, hat, hown, hrvB, heach⟩ := hI.log
        obtain ⟨Av, capv, hv, hv1, hv2, hv3⟩ := own_slice hown
        subst hv
        have hlt1 : V0.heap.size + 1 < W.heap.size := heap_lt hlp
        have hnb : W.heap[w.heap.size]? = some (.cells #[.pointer (some ⟨bl, 0, none⟩)] 101 (0, 0)) := hI.fr _ _ HV.out.2.2.2.2.2.2.2.2.2 (by rintro he; have := HV.out.2.2.2.2.2.1.at_; rw [← he, HV.out.2.2.2.2.2.2.2.2.2] at this; simp at this) (by have := HS.out.2.2.1; have := heap_lt HT.out.2.2.2; omega) (by omega) (.inr (by simp [tagOf]))
        have hnl : W.heap[w.heap.size + 1]? = some (.cells #[.bool last] 4 (0, 0)) := hI.fr _ _ HV.out.2.2.2.2.2.2.2.2.1 (by rintro he; have := HV.out.2.2.2.2.2.1.at_; rw [← he, HV.out.2.2.2.2.2.2.2.2.1] at this; simp at this) (by have := HS.out.2.2.1; have := heap_lt HT.out.2.2.1; omega) (by omega) (.inr (by simp [tagOf]))
        obtain ⟨rec', hrec'⟩ : ∃ r' : Loop, r' = { rec with state := .busy } := ⟨_, rfl⟩
        obtain ⟨V, hV⟩ : ∃ V, W.putObj (V0.heap.size + 1) (.loop rec') = V := ⟨_, rfl⟩
        have hIV : LdI nr V0 bl z (w.heap.size + 2) w5.heap.size bd pv G k 0 pre V := by
          rw [← hV]; exact hI.step HV.out.1 (Kp2.of_put hlp rfl (by omega) lt.2.2.2)
        have hVh : ∀ (b : Nat) (o : Obj), W.heap[b]? = some o → b ≠ V0.heap.size + 1 → V.heap[b]? = some o := fun b o hb hne => by
          rw [← hV]; exact (World.putObj_heap_other hne).trans hb
        have hVs : V.heap.size = W.heap.size := by rw [← hV]; simp
        have hVl : V.heap[V0.heap.size + 1]? = some (.loop rec') := by rw [← hV]; exact World.putObj_heap_same hlt1
        have hVd := hVh _ _ hdf (by omega)
        have hVn := hVh _ _ hnb (by have := heap_lt HV.out.2.2.2.2.2.2.2.2.2; omega)
        have hVm := hVh _ _ hnl (by have := heap_lt HV.out.2.2.2.2.2.2.2.2.1; omega)
        have hVat := hVh _ _ hat (by have := lt.1; omega)
        have hVz := hIV.part
        have hVe := hIV.err
        have p0 := Joins.cell_of_block hVn 0
        have p1 := Joins.cell_of_block hVm 0
        have p2 := Joins.cell_of_block hVat 4
        simp at p0 p1 p2
        have e2 := Joins.cell_of_block hVe 0
        have f2 := Joins.unfrozen_of_block hVe 0
        simp at e2
        have HR := Lib.hid (And.intro hI (And.intro hpre (And.intro hbs (And.intro hxl (And.intro hat (And.intro hown (And.intro hrvB heach)))))))
        have HR2 := Lib.hid (And.intro hIV (And.intro hVh (And.intro hVl (And.intro hVd (And.intro hVn (And.intro hVm (And.intro hVat (And.intro hVz hVe))))))))
        have HR3 := Lib.hid (And.intro hlp (And.intro hdf (And.intro hV (And.intro hVs (And.intro hv1 (And.intro hv2 hv3))))))
        clear hI hpre hbs hxl hat hown hrvB heach hIV hVh hVl hVd hVn hVm hVat hVz hVe hlp hdf hv1 hv2 hv3 hnb hnl
        simp only [encF, List.zip_toArray, List.zip_cons_cons, List.zip_nil_left, List.zip_nil_right, List.foldl_toArray, List.size_toArray, List.length_cons, List.length_nil, List.foldl_cons, List.foldl_nil, List.setIfInBounds_toArray, List.set_cons_succ, List.set_cons_zero, Nat.reduceAdd]
        gi_wp2
        refine ⟨HR3.out.1, ?_⟩
        rw [← hrec', hV]
        clear hV
        refine wpIn_block ?_
        have ne := HV.out.1.ne
        have lt := HV.out.1.lt
        by_cases he0 : er = 0
        · subst he0
          obtain ⟨Ax, capx, hAx, hcx, hmx, hlx⟩ := HR.out.2.2.1
          subst hAx
          have hbV := Bs.keeps HR.out.2.2.1 (fun b o hb ht => HR2.out.2.1 b o hb (by rintro rfl; rw [HR3.out.1] at hb; cases hb; simp [tagOf] at ht))
          have hownV : V.ownsRow nr 29 1 (.slice Av (G.recs.length + pre.length) capv) (G.recs.length + pre.length) vs := own_keep HR.out.2.2.2.2.2.1 (fun b o hb hv hcc => HR2.out.2.1 b o hb (by rintro rfl; rw [HR3.out.1] at hb; cases hb; simp [Obj.isCells] at hcc))
          have heachV : ∀ (j : Nat) (v : Value) (l : List UInt8), vs[j]? = some v → (G.recs ++ pre.map (·.1))[j]? = some l → Bs 5 V v l := fun j v l hv hl => (HR.out.2.2.2.2.2.2.2 j v l hv hl).keeps (fun b o hb ht => HR2.out.2.1 b o hb (by rintro rfl; rw [HR3.out.1] at hb; cases hb; simp [tagOf] at ht))
          obtain ⟨iI, hiI, hzI0, hzI1, hzI2⟩ := info_bytes
          have hVsz := HR2.out.1.size
          have hnV : nr ≤ V.heap.size := by have := HV.out.1.n0.1; have := lt.1; omega
          obtain ⟨v', W1, happ, hown1, hgrow1, hblk1⟩ := run_append_rd (P := Tryz.prog) ((V.alloc (.cells #[.slice Ax X.length capx] 29)).drew) nr 22 22 29 iI _ 1 24 Tryz.underlying22 hiI hzI0 hzI1 hzI2 rfl (by decide) (.slice Av (G.recs.length + pre.length) capv) (G.recs.length + pre.length) vs
            (own_below hownV (((Below.refl _ V).alloc (Nat.le_refl _) _).drew)) 0 (some ⟨V.heap.size, 0, none⟩) 1 1 [.slice Ax X.length capx] rfl
            (Or.inr ⟨_, _, Nat.zero_le _, rfl, fun k hk => by
              have h3 : k < 1 := by simpa using hk
              match k, h3 with
              | 0, _ => simp [go_sem]⟩) (by simp [Value.oneCell']) (by unfold maxLen; have := hfew.1; have := HV.out.2.2.2.1; omega) (by have := hfew.1; have := HV.out.2.2.2.1; omega) (by simp; omega) (fun h => by cases h)
          obtain ⟨g', cap', rfl⟩ := ownsRow_succ hown1
          have hmo : Tryz.prog.follows .mixedOrders = true := by kernel_rfl
          have hMore := HR2.out.1.more (q := 0) (x := (X, j, 0, .slice Ax X.length capx)) HV.out.1 hnV HR2.out.2.2.2.2.2.2.1 hownV HR.out.2.2.2.2.2.2.1 heachV hbV hown1 ⟨hgrow1.os, hgrow1.tape, hgrow1.output, hgrow1.size, hgrow1.block⟩ (hblk1.imp id (fun h => by rw [h]; simp))
          have hvb : ∀ (b : Nat) (o : Obj), V.heap[b]? = some o → tagOf o ≠ some 29 → (Value.slice Av (G.recs.length + pre.length) capv).ownBlock ≠ some b := by
            intro b o hb ht he
            rcases hownV.2 with ⟨h1, _⟩ | ⟨g, cap2, cur, h1, _, hh, _⟩
            · rw [h1] at he; simp [Value.ownBlock] at he
            · rw [h1] at he
              simp only [Value.ownBlock, Option.some.injEq] at he
              subst he; rw [hb] at hh; cases hh; exact ht rfl
          have hA1 : ∀ (b : Nat) (o : Obj), V.heap[b]? = some o → (V.alloc (.cells #[.slice Ax X.length capx] 29)).heap[b]? = some o := fun b o hb => (Below.heap_alloc _ _ _ (heap_lt hb)).trans hb
          have hW1 : ∀ (b : Nat) (o : Obj), V.heap[b]? = some o → tagOf o ≠ some 29 → W1.heap[b]? = some o := fun b o hb ht =>
            (hgrow1.block b (by have := heap_lt hb; simp; omega) (Ne.symm (hvb b o hb ht))).trans (hA1 b o hb)
          have hFin : RoundPost V0 rec (LdIn nr V0 bl z (w.heap.size + 2) w5.heap.size bd pv G k) (LdIx nr V0 bl z (w.heap.size + 2) w5.heap.size bd pv G k last) (KpF w5.heap.size) (pre ++ [(X, j, 0, .slice Ax X.length capx)]) W .normal { tmps := #[], defers := [] }
              (((W1.setCell ⟨bl, 4, none⟩ (.slice (some ⟨g', 0, none⟩) (G.recs.length + pre.length + 1) cap')).setCell ⟨z, 1, none⟩ (.int .i64 ((pre.length : Int) + 1))).setCell ⟨z, 2, none⟩ (.int .i64 ((sizeSum pre : Int) + (12 + (X.length : Int))))) := by
            refine ⟨?_, ?_, ⟨hMore.1, ?_⟩, ?_, ?_⟩
            · rw [← hrec']; exact hMore.2 _ _ HR2.out.2.2.1 (by omega) (by omega) (hvb _ _ HR2.out.2.2.1 (by simp [tagOf]))
            · exact hMore.2 _ _ HR2.out.2.2.2.1 (by omega) (by omega) (hvb _ _ HR2.out.2.2.2.1 (by simp [tagOf]))
            · intro y hy
              rcases List.mem_append.1 hy with hy | hy
              · exact HR.out.2.1 y hy
              · cases List.mem_singleton.1 hy; exact ⟨rfl, HR.out.2.2.2.1⟩
            · intro b o hb hc
              have hbV' : V.heap[b]? = some o := HR2.out.2.1 b o hb (by
                rintro rfl; rw [HR3.out.1] at hb; cases hb
                rcases hc with hc | hc
                · omega
                · simp [tagOf] at hc)
              refine hMore.2 b o hbV' ?_ ?_ ?_
              · rintro rfl
                rcases hc with hc | hc
                · exact ne.2.2.1 hc
                · rw [HR2.out.2.2.2.2.2.2.1] at hbV'; cases hbV'; simp [tagOf] at hc
              · rintro rfl
                rcases hc with hc | hc
                · exact ne.2.2.2.2.1 hc
                · rw [HR2.out.2.2.2.2.2.2.2.1] at hbV'; cases hbV'; simp [tagOf] at hc
              · rcases hc with hc | hc
                · rw [hc]; exact HR.out.2.2.2.2.2.2.1
                · exact hvb b o hbV' (by rw [hc]; simp)
            · have := hMore.1.size
              have h2 := hgrow1.size
              have h3 : V.heap.size = W.heap.size := HR3.out.2.2.2.1
              simp [World.setCell] at h2 ⊢
              omega
          have HFIN := Lib.hid hFin; clear hFin
          have hms : sizeSum pre + (12 + X.length) ≤ 4000000000000000000 := by
            have h1 := sizeSum_le pre HR.out.2.1
            have h2 : pre.length * 1073741836 ≤ 1073741824 * 1073741836 := Nat.mul_le_mul_right _ (Nat.le_trans hpl HV.out.2.2.2.1)
            have h3 : 12 + X.length ≤ 12 + 1073741824 := Nat.add_le_add_left HR.out.2.2.2.1 _
            exact Nat.le_trans (Nat.add_le_add (Nat.le_trans h1 h2) h3) (by decide)
          have g1 : wrap64 ((pre.length : Int) + 1) = (pre.length : Int) + 1 := wrap_le (pre.length + 1) (by simp) (Nat.le_trans (Nat.succ_le_succ (Nat.le_trans hpl HV.out.2.2.2.1)) (by decide))
          have g2 : wrap64 (12 + (X.length : Int)) = 12 + (X.length : Int) := wrap_le (12 + X.length) (by simp) (Nat.le_trans (Nat.le_add_left _ _) hms)
          have g3 : wrap64 ((sizeSum pre : Int) + (12 + (X.length : Int))) = (sizeSum pre : Int) + (12 + (X.length : Int)) := wrap_le (sizeSum pre + (12 + X.length)) (by simp) hms
          have u0 := Joins.cell_of_block (hA1 _ _ HR2.out.2.2.2.2.1) 0
          have u2 := Joins.cell_of_block (hA1 _ _ HR2.out.2.2.2.2.2.2.1) 4
          have s0 := Joins.cell_of_block (hW1 _ _ HR2.out.2.2.2.2.1 (by simp [tagOf])) 0
          have s2 := Joins.cell_of_block (hW1 _ _ HR2.out.2.2.2.2.2.2.1 (by simp [tagOf])) 4
          have s3 := Joins.unfrozen_of_block (hW1 _ _ HR2.out.2.2.2.2.2.2.1 (by simp [tagOf])) 4
          have hz1 := hW1 _ _ HR2.out.2.2.2.2.2.2.2.1 (by simp [tagOf])
          have s4 := Joins.cell_of_block hz1 1
          have s5 := Joins.cell_of_block hz1 2
          have s6 := Joins.unfrozen_of_block hz1 1
          have s7 := Joins.unfrozen_of_block hz1 2
          simp at u0 u2 s0 s2 s4 s5
          have n1 := ne.1
          have n2 := Ne.symm ne.1
          have HAPP := Lib.hid happ
          have HOW := Lib.hid (And.intro hown1 (And.intro hgrow1 (And.intro hblk1 hownV)))
          clear happ hown1 hgrow1 hblk1 hownV heachV hbV hMore hvb hA1 hW1 hz1 hms hiI hzI0 hzI1 hzI2 ne lt hVsz hnV hcx hmx hlx
          gi_wp2_with fail
          refine wpIn_region_round (by kernel_rfl) (by kernel_rfl) ?_
          refine wpAnyIn_take (i := 5) (v := ?_) rfl rfl (by kernel_rfl) (by kernel_rfl) (by kernel_rfl) (fun _ _ _ h => h) ⟨Or.inl ⟨by rfl, ?_⟩, fun _ => rfl⟩ ?_
          rotate_left
          · intro w; go_simp; (try with_reducible rfl)
          refine wpAnyIn_ready (rs := [0, 1, 6]) (by kernel_rfl) (by simp) ?_
          refine (AllReadyIn.cons rfl (fun K hK => ?_) (AllReadyIn.cons rfl (fun K hK => ?_) (AllReadyIn.cons rfl (fun K hK => ?_) AllReadyIn.nil)))
          · go_simp
            refine hK _ _ ?_
            clear hK K
            refine wpAnyIn_ready (rs := [1, 6]) (by kernel_rfl) (by simp) ?_
            refine (AllReadyIn.cons rfl (fun K hK => ?_) (AllReadyIn.cons rfl (fun K hK => ?_) AllReadyIn.nil))
            · go_simp
              refine hK _ _ ?_
              clear hK K
              refine wpAnyIn_take (i := 2) (v := ?_) rfl rfl (by kernel_rfl) (by kernel_rfl) (by kernel_rfl) (fun _ _ _ h => h) ⟨Or.inl ⟨by rfl, ?_⟩, fun _ => rfl⟩ ?_
              rotate_left
              · intro w; go_simp; (try with_reducible rfl)
              refine wpAnyIn_take (i := 3) (v := ?_) rfl rfl (by kernel_rfl) (by kernel_rfl) (by kernel_rfl) (fun _ _ _ h => h) ⟨Or.inl ⟨by rfl, ?_⟩, fun _ => rfl⟩ ?_
              rotate_left
              · intro w; go_simp; (try with_reducible rfl)
              refine wpAnyIn_ready (rs := [4, 6]) (by kernel_rfl) (by simp) ?_
              refine (AllReadyIn.cons rfl (fun K hK => ?_) (AllReadyIn.cons rfl (fun K hK => ?_) AllReadyIn.nil))
              · go_simp
                refine hK _ _ ?_
                clear hK K
                refine wpAnyIn_ready (rs := [6]) (by kernel_rfl) (by simp) ?_
                refine (AllReadyIn.cons rfl (fun K hK => ?_) AllReadyIn.nil)
                · go_simp
                  refine hK _ _ ?_
                  clear hK K
                  refine wpAnyIn_ready (rs := [7]) (by kernel_rfl) (by simp) ?_
                  refine (AllReadyIn.cons rfl (fun K hK => ?_) AllReadyIn.nil)
                  · refine stepIn_append_run rfl _ _ _ rfl _ _ (by simp [Act.eval, Act.put]) (by simp [Act.eval, Act.put]) HAPP.out ?_
                    go_simp
                    refine hK _ _ ?_
                    clear hK K
                    refine wpAnyIn_take (i := 8) (v := ?_) rfl rfl (by kernel_rfl) (by kernel_rfl) (by kernel_rfl) (fun _ _ _ h => h) ⟨Or.inl ⟨by rfl, ?_⟩, fun _ => rfl⟩ ?_
                    rotate_left
                    · intro w; go_simp; (try with_reducible rfl)
                    refine wpAnyIn_take (i := 9) (v := ?_) rfl rfl (by kernel_rfl) (by kernel_rfl) (by kernel_rfl) (fun _ _ _ h => h) ⟨Or.inl ⟨by rfl, ?_⟩, fun _ => rfl⟩ ?_
                    rotate_left
                    · intro w; go_simp; (try with_reducible rfl)
                    refine wpAnyIn_ready (rs := [10]) (by kernel_rfl) (by simp) ?_
                    refine (AllReadyIn.cons rfl (fun K hK => ?_) AllReadyIn.nil)
                    · go_simp
                      refine hK _ _ ?_
                      clear hK K
                      refine wpAnyIn_done (by kernel_rfl) ?_ _
                      gi_wp2_with fail
                      exact HFIN.out
              · go_simp
                refine hK _ _ ?_
                clear hK K
                refine wpAnyIn_ready (rs := [4]) (by kernel_rfl) (by simp) ?_
                refine (AllReadyIn.cons rfl (fun K hK => ?_) AllReadyIn.nil)
                · go_simp
                  refine hK _ _ ?_
                  clear hK K
                  refine wpAnyIn_ready (rs := [7]) (by kernel_rfl) (by simp) ?_
                  refine (AllReadyIn.cons rfl (fun K hK => ?_) AllReadyIn.nil)
                  · refine stepIn_append_run rfl _ _ _ rfl _ _ (by simp [Act.eval, Act.put]) (by simp [Act.eval, Act.put]) HAPP.out ?_
                    go_simp
                    refine hK _ _ ?_
                    clear hK K
                    refine wpAnyIn_take (i := 8) (v := ?_) rfl rfl (by kernel_rfl) (by kernel_rfl) (by kernel_rfl) (fun _ _ _ h => h) ⟨Or.inl ⟨by rfl, ?_⟩, fun _ => rfl⟩ ?_
                    rotate_left
                    · intro w; go_simp; (try with_reducible rfl)
                    refine wpAnyIn_take (i := 9) (v := ?_) rfl rfl (by kernel_rfl) (by kernel_rfl) (by kernel_rfl) (fun _ _ _ h => h) ⟨Or.inl ⟨by rfl, ?_⟩, fun _ => rfl⟩ ?_
                    rotate_left
                    · intro w; go_simp; (try with_reducible rfl)
                    refine wpAnyIn_ready (rs := [10]) (by kernel_rfl) (by simp) ?_
                    refine (AllReadyIn.cons rfl (fun K hK => ?_) AllReadyIn.nil)
                    · go_simp
                      refine hK _ _ ?_
                      clear hK K
                      refine wpAnyIn_done (by kernel_rfl) ?_ _
                      gi_wp2_with fail
                      exact HFIN.out
            · go_simp
              refine hK _ _ ?_
              clear hK K
              refine wpAnyIn_ready (rs := [1]) (by kernel_rfl) (by simp) ?_
              refine (AllReadyIn.cons rfl (fun K hK => ?_) AllReadyIn.nil)
              · go_simp
                refine hK _ _ ?_
                clear hK K
                refine wpAnyIn_take (i := 2) (v := ?_) rfl rfl (by kernel_rfl) (by kernel_rfl) (by kernel_rfl) (fun _ _ _ h => h) ⟨Or.inl ⟨by rfl, ?_⟩, fun _ => rfl⟩ ?_
                rotate_left
                · intro w; go_simp; (try with_reducible rfl)
                refine wpAnyIn_take (i := 3) (v := ?_) rfl rfl (by kernel_rfl) (by kernel_rfl) (by kernel_rfl) (fun _ _ _ h => h) ⟨Or.inl ⟨by rfl, ?_⟩, fun _ => rfl⟩ ?_
                rotate_left
                · intro w; go_simp; (try with_reducible rfl)
                refine wpAnyIn_ready (rs := [4]) (by kernel_rfl) (by simp) ?_
                refine (AllReadyIn.cons rfl (fun K hK => ?_) AllReadyIn.nil)
                · go_simp
                  refine hK _ _ ?_
                  clear hK K
                  refine wpAnyIn_ready (rs := [7]) (by kernel_rfl) (by simp) ?_
                  refine (AllReadyIn.cons rfl (fun K hK => ?_) AllReadyIn.nil)
                  · refine stepIn_append_run rfl _ _ _ rfl _ _ (by simp [Act.eval, Act.put]) (by simp [Act.eval, Act.put]) HAPP.out ?_
                    go_simp
                    refine hK _ _ ?_
                    clear hK K
                    refine wpAnyIn_take (i := 8) (v := ?_) rfl rfl (by kernel_rfl) (by kernel_rfl) (by kernel_rfl) (fun _ _ _ h => h) ⟨Or.inl ⟨by rfl, ?_⟩, fun _ => rfl⟩ ?_
                    rotate_left
                    · intro w; go_simp; (try with_reducible rfl)
                    refine wpAnyIn_take (i := 9) (v := ?_) rfl rfl (by kernel_rfl) (by kernel_rfl) (by kernel_rfl) (fun _ _ _ h => h) ⟨Or.inl ⟨by rfl, ?_⟩, fun _ => rfl⟩ ?_
                    rotate_left
                    · intro w; go_simp; (try with_reducible rfl)
                    refine wpAnyIn_ready (rs := [10]) (by kernel_rfl) (by simp) ?_
                    refine (AllReadyIn.cons rfl (fun K hK => ?_) AllReadyIn.nil)
                    · go_simp
                      refine hK _ _ ?_
                      clear hK K
                      refine wpAnyIn_done (by kernel_rfl) ?_ _
                      gi_wp2_with fail
                      exact HFIN.out
          · go_simp
            refine hK _ _ ?_
            clear hK K
            refine wpAnyIn_take (i := 2) (v := ?_) rfl rfl (by kernel_rfl) (by kernel_rfl) (by kernel_rfl) (fun _ _ _ h => h) ⟨Or.inl ⟨by rfl, ?_⟩, fun _ => rfl⟩ ?_
            rotate_left
            · intro w; go_simp; (try with_reducible rfl)
            refine wpAnyIn_take (i := 3) (v := ?_) rfl rfl (by kernel_rfl) (by kernel_rfl) (by kernel_rfl) (fun _ _ _ h => h) ⟨Or.inl ⟨by rfl, ?_⟩, fun _ => rfl⟩ ?_
            rotate_left
            · intro w; go_simp; (try with_reducible rfl)
            refine wpAnyIn_ready (rs := [0, 4, 6]) (by kernel_rfl) (by simp) ?_
            refine (AllReadyIn.cons rfl (fun K hK => ?_) (AllReadyIn.cons rfl (fun K hK => ?_) (AllReadyIn.cons rfl (fun K hK => ?_) AllReadyIn.nil)))
            · go_simp
              refine hK _ _ ?_
              clear hK K
              refine wpAnyIn_ready (rs := [4, 6]) (by kernel_rfl) (by simp) ?_
              refine (AllReadyIn.cons rfl (fun K hK => ?_) (AllReadyIn.cons rfl (fun K hK => ?_) AllReadyIn.nil))
              · go_simp
                refine hK _ _ ?_
                clear hK K
                refine wpAnyIn_ready (rs := [6]) (by kernel_rfl) (by simp) ?_
                refine (AllReadyIn.cons rfl (fun K hK => ?_) AllReadyIn.nil)
                · go_simp
                  refine hK _ _ ?_
                  clear hK K
                  refine wpAnyIn_ready (rs := [7]) (by kernel_rfl) (by simp) ?_
                  refine (AllReadyIn.cons rfl (fun K hK => ?_) AllReadyIn.nil)
                  · refine stepIn_append_run rfl _ _ _ rfl _ _ (by simp [Act.eval, Act.put]) (by simp [Act.eval, Act.put]) HAPP.out ?_
                    go_simp
                    refine hK _ _ ?_
                    clear hK K
                    refine wpAnyIn_take (i := 8) (v := ?_) rfl rfl (by kernel_rfl) (by kernel_rfl) (by kernel_rfl) (fun _ _ _ h => h) ⟨Or.inl ⟨by rfl, ?_⟩, fun _ => rfl⟩ ?_
                    rotate_left
                    · intro w; go_simp; (try with_reducible rfl)
                    refine wpAnyIn_take (i := 9) (v := ?_) rfl rfl (by kernel_rfl) (by kernel_rfl) (by kernel_rfl) (fun _ _ _ h => h) ⟨Or.inl ⟨by rfl, ?_⟩, fun _ => rfl⟩ ?_
                    rotate_left
                    · intro w; go_simp; (try with_reducible rfl)
                    refine wpAnyIn_ready (rs := [10]) (by kernel_rfl) (by simp) ?_
                    refine (AllReadyIn.cons rfl (fun K hK => ?_) AllReadyIn.nil)
                    · go_simp
                      refine hK _ _ ?_
                      clear hK K
                      refine wpAnyIn_done (by kernel_rfl) ?_ _
                      gi_wp2_with fail
                      exact HFIN.out
              · go_simp
                refine hK _ _ ?_
                clear hK K
                refine wpAnyIn_ready (rs := [4]) (by kernel_rfl) (by simp) ?_
                refine (AllReadyIn.cons rfl (fun K hK => ?_) AllReadyIn.nil)
                · go_simp
                  refine hK _ _ ?_
                  clear hK K
                  refine wpAnyIn_ready (rs := [7]) (by kernel_rfl) (by simp) ?_
                  refine (AllReadyIn.cons rfl (fun K hK => ?_) AllReadyIn.nil)
                  · refine stepIn_append_run rfl _ _ _ rfl _ _ (by simp [Act.eval, Act.put]) (by simp [Act.eval, Act.put]) HAPP.out ?_
                    go_simp
                    refine hK _ _ ?_
                    clear hK K
                    refine wpAnyIn_take (i := 8) (v := ?_) rfl rfl (by kernel_rfl) (by kernel_rfl) (by kernel_rfl) (fun _ _ _ h => h) ⟨Or.inl ⟨by rfl, ?_⟩, fun _ => rfl⟩ ?_
                    rotate_left
                    · intro w; go_simp; (try with_reducible rfl)
                    refine wpAnyIn_take (i := 9) (v := ?_) rfl rfl (by kernel_rfl) (by kernel_rfl) (by kernel_rfl) (fun _ _ _ h => h) ⟨Or.inl ⟨by rfl, ?_⟩, fun _ => rfl⟩ ?_
                    rotate_left
                    · intro w; go_simp; (try with_reducible rfl)
                    refine wpAnyIn_ready (rs := [10]) (by kernel_rfl) (by simp) ?_
                    refine (AllReadyIn.cons rfl (fun K hK => ?_) AllReadyIn.nil)
                    · go_simp
                      refine hK _ _ ?_
                      clear hK K
                      refine wpAnyIn_done (by kernel_rfl) ?_ _
                      gi_wp2_with fail
                      exact HFIN.out
            · go_simp
              refine hK _ _ ?_
              clear hK K
              refine wpAnyIn_ready (rs := [0, 6]) (by kernel_rfl) (by simp) ?_
              refine (AllReadyIn.cons rfl (fun K hK => ?_) (AllReadyIn.cons rfl (fun K hK => ?_) AllReadyIn.nil))
              · go_simp
                refine hK _ _ ?_
                clear hK K
                refine wpAnyIn_ready (rs := [6]) (by kernel_rfl) (by simp) ?_
                refine (AllReadyIn.cons rfl (fun K hK => ?_) AllReadyIn.nil)
                · go_simp
                  refine hK _ _ ?_
                  clear hK K
                  refine wpAnyIn_ready (rs := [7]) (by kernel_rfl) (by simp) ?_
                  refine (AllReadyIn.cons rfl (fun K hK => ?_) AllReadyIn.nil)
                  · refine stepIn_append_run rfl _ _ _ rfl _ _ (by simp [Act.eval, Act.put]) (by simp [Act.eval, Act.put]) HAPP.out ?_
                    go_simp
                    refine hK _ _ ?_
                    clear hK K
                    refine wpAnyIn_take (i := 8) (v := ?_) rfl rfl (by kernel_rfl) (by kernel_rfl) (by kernel_rfl) (fun _ _ _ h => h) ⟨Or.inl ⟨by rfl, ?_⟩, fun _ => rfl⟩ ?_
                    rotate_left
                    · intro w; go_simp; (try with_reducible rfl)
                    refine wpAnyIn_take (i := 9) (v := ?_) rfl rfl (by kernel_rfl) (by kernel_rfl) (by kernel_rfl) (fun _ _ _ h => h) ⟨Or.inl ⟨by rfl, ?_⟩, fun _ => rfl⟩ ?_
                    rotate_left
                    · intro w; go_simp; (try with_reducible rfl)
                    refine wpAnyIn_ready (rs := [10]) (by kernel_rfl) (by simp) ?_
                    refine (AllReadyIn.cons rfl (fun K hK => ?_) AllReadyIn.nil)
                    · go_simp
                      refine hK _ _ ?_
                      clear hK K
                      refine wpAnyIn_done (by kernel_rfl) ?_ _
                      gi_wp2_with fail
                      exact HFIN.out
              · go_simp
                refine hK _ _ ?_
                clear hK K
                refine wpAnyIn_ready (rs := [0, 7]) (by kernel_rfl) (by simp) ?_
                refine (AllReadyIn.cons rfl (fun K hK => ?_) (AllReadyIn.cons rfl (fun K hK => ?_) AllReadyIn.nil))
                · go_simp
                  refine hK _ _ ?_
                  clear hK K
                  refine wpAnyIn_ready (rs := [7]) (by kernel_rfl) (by simp) ?_
                  refine (AllReadyIn.cons rfl (fun K hK => ?_) AllReadyIn.nil)
                  · refine stepIn_append_run rfl _ _ _ rfl _ _ (by simp [Act.eval, Act.put]) (by simp [Act.eval, Act.put]) HAPP.out ?_
                    go_simp
                    refine hK _ _ ?_
                    clear hK K
                    refine wpAnyIn_take (i := 8) (v := ?_) rfl rfl (by kernel_rfl) (by kernel_rfl) (by kernel_rfl) (fun _ _ _ h => h) ⟨Or.inl ⟨by rfl, ?_⟩, fun _ => rfl⟩ ?_
                    rotate_left
                    · intro w; go_simp; (try with_reducible rfl)
                    refine wpAnyIn_take (i := 9) (v := ?_) rfl rfl (by kernel_rfl) (by kernel_rfl) (by kernel_rfl) (fun _ _ _ h => h) ⟨Or.inl ⟨by rfl, ?_⟩, fun _ => rfl⟩ ?_
                    rotate_left
                    · intro w; go_simp; (try with_reducible rfl)
                    refine wpAnyIn_ready (rs := [10]) (by kernel_rfl) (by simp) ?_
                    refine (AllReadyIn.cons rfl (fun K hK => ?_) AllReadyIn.nil)
                    · go_simp
                      refine hK _ _ ?_
                      clear hK K
                      refine wpAnyIn_done (by kernel_rfl) ?_ _
                      gi_wp2_with fail
                      exact HFIN.out
                · refine stepIn_append_run rfl _ _ _ rfl _ _ (by simp [Act.eval, Act.put]) (by simp [Act.eval, Act.put]) HAPP.out ?_
                  go_simp
                  refine hK _ _ ?_
                  clear hK K
                  refine wpAnyIn_ready (rs := [0]) (by kernel_rfl) (by simp) ?_
                  refine (AllReadyIn.cons rfl (fun K hK => ?_) AllReadyIn.nil)
                  · go_simp
                    refine hK _ _ ?_
                    clear hK K
                    refine wpAnyIn_take (i := 8) (v := ?_) rfl rfl (by kernel_rfl) (by kernel_rfl) (by kernel_rfl) (fun _ _ _ h => h) ⟨Or.inl ⟨by rfl, ?_⟩, fun _ => rfl⟩ ?_
                    rotate_left
                    · intro w; go_simp; (try with_reducible rfl)
                    refine wpAnyIn_take (i := 9) (v := ?_) rfl rfl (by kernel_rfl) (by kernel_rfl) (by kernel_rfl) (fun _ _ _ h => h) ⟨Or.inl ⟨by rfl, ?_⟩, fun _ => rfl⟩ ?_
                    rotate_left
                    · intro w; go_simp; (try with_reducible rfl)
                    refine wpAnyIn_ready (rs := [10]) (by kernel_rfl) (by simp) ?_
                    refine (AllReadyIn.cons rfl (fun K hK => ?_) AllReadyIn.nil)
                    · go_simp
                      refine hK _ _ ?_
                      clear hK K
                      refine wpAnyIn_done (by kernel_rfl) ?_ _
                      gi_wp2_with fail
                      exact HFIN.out
            · go_simp
              refine hK _ _ ?_
              clear hK K
              refine wpAnyIn_ready (rs := [0, 4]) (by kernel_rfl) (by simp) ?_
              refine (AllReadyIn.cons rfl (fun K hK => ?_) (AllReadyIn.cons rfl (fun K hK => ?_) AllReadyIn.nil))
              · go_simp
                refine hK _ _ ?_
                clear hK K
                refine wpAnyIn_ready (rs := [4]) (by kernel_rfl) (by simp) ?_
                refine (AllReadyIn.cons rfl (fun K hK => ?_) AllReadyIn.nil)
                · go_simp
                  refine hK _ _ ?_
                  clear hK K
                  refine wpAnyIn_ready (rs := [7]) (by kernel_rfl) (by simp) ?_
                  refine (AllReadyIn.cons rfl (fun K hK => ?_) AllReadyIn.nil)
                  · refine stepIn_append_run rfl _ _ _ rfl _ _ (by simp [Act.eval, Act.put]) (by simp [Act.eval, Act.put]) HAPP.out ?_
                    go_simp
                    refine hK _ _ ?_
                    clear hK K
                    refine wpAnyIn_take (i := 8) (v := ?_) rfl rfl (by kernel_rfl) (by kernel_rfl) (by kernel_rfl) (fun _ _ _ h => h) ⟨Or.inl ⟨by rfl, ?_⟩, fun _ => rfl⟩ ?_
                    rotate_left
                    · intro w; go_simp; (try with_reducible rfl)
                    refine wpAnyIn_take (i := 9) (v := ?_) rfl rfl (by kernel_rfl) (by kernel_rfl) (by kernel_rfl) (fun _ _ _ h => h) ⟨Or.inl ⟨by rfl, ?_⟩, fun _ => rfl⟩ ?_
                    rotate_left
                    · intro w; go_simp; (try with_reducible rfl)
                    refine wpAnyIn_ready (rs := [10]) (by kernel_rfl) (by simp) ?_
                    refine (AllReadyIn.cons rfl (fun K hK => ?_) AllReadyIn.nil)
                    · go_simp
                      refine hK _ _ ?_
                      clear hK K
                      refine wpAnyIn_done (by kernel_rfl) ?_ _
                      gi_wp2_with fail
                      exact HFIN.out
              · go_simp
                refine hK _ _ ?_
                clear hK K
                refine wpAnyIn_ready (rs := [0, 7]) (by kernel_rfl) (by simp) ?_
                refine (AllReadyIn.cons rfl (fun K hK => ?_) (AllReadyIn.cons rfl (fun K hK => ?_) AllReadyIn.nil))
                · go_simp
                  refine hK _ _ ?_
                  clear hK K
                  refine wpAnyIn_ready (rs := [7]) (by kernel_rfl) (by simp) ?_
                  refine (AllReadyIn.cons rfl (fun K hK => ?_) AllReadyIn.nil)
                  · refine stepIn_append_run rfl _ _ _ rfl _ _ (by simp [Act.eval, Act.put]) (by simp [Act.eval, Act.put]) HAPP.out ?_
                    go_simp
                    refine hK _ _ ?_
                    clear hK K
                    refine wpAnyIn_take (i := 8) (v := ?_) rfl rfl (by kernel_rfl) (by kernel_rfl) (by kernel_rfl) (fun _ _ _ h => h) ⟨Or.inl ⟨by rfl, ?_⟩, fun _ => rfl⟩ ?_
                    rotate_left
                    · intro w; go_simp; (try with_reducible rfl)
                    refine wpAnyIn_take (i := 9) (v := ?_) rfl rfl (by kernel_rfl) (by kernel_rfl) (by kernel_rfl) (fun _ _ _ h => h) ⟨Or.inl ⟨by rfl, ?_⟩, fun _ => rfl⟩ ?_
                    rotate_left
                    · intro w; go_simp; (try with_reducible rfl)
                    refine wpAnyIn_ready (rs := [10]) (by kernel_rfl) (by simp) ?_
                    refine (AllReadyIn.cons rfl (fun K hK => ?_) AllReadyIn.nil)
                    · go_simp
                      refine hK _ _ ?_
                      clear hK K
                      refine wpAnyIn_done (by kernel_rfl) ?_ _
                      gi_wp2_with fail
                      exact HFIN.out
                · refine stepIn_append_run rfl _ _ _ rfl _ _ (by simp [Act.eval, Act.put]) (by simp [Act.eval, Act.put]) HAPP.out ?_
                  go_simp
                  refine hK _ _ ?_
                  clear hK K
                  refine wpAnyIn_ready (rs := [0]) (by kernel_rfl) (by simp) ?_
                  refine (AllReadyIn.cons rfl (fun K hK => ?_) AllReadyIn.nil)
                  · go_simp
                    refine hK _ _ ?_
                    clear hK K
                    refine wpAnyIn_take (i := 8) (v := ?_) rfl rfl (by kernel_rfl) (by kernel_rfl) (by kernel_rfl) (fun _ _ _ h => h) ⟨Or.inl ⟨by rfl, ?_⟩, fun _ => rfl⟩ ?_
                    rotate_left
                    · intro w; go_simp; (try with_reducible rfl)
                    refine wpAnyIn_take (i := 9) (v := ?_) rfl rfl (by kernel_rfl) (by kernel_rfl) (by kernel_rfl) (fun _ _ _ h => h) ⟨Or.inl ⟨by rfl, ?_⟩, fun _ => rfl⟩ ?_
                    rotate_left
                    · intro w; go_simp; (try with_reducible rfl)
                    refine wpAnyIn_ready (rs := [10]) (by kernel_rfl) (by simp) ?_
                    refine (AllReadyIn.cons rfl (fun K hK => ?_) AllReadyIn.nil)
                    · go_simp
                      refine hK _ _ ?_
                      clear hK K
                      refine wpAnyIn_done (by kernel_rfl) ?_ _
                      gi_wp2_with fail
                      exact HFIN.out
          · go_simp
            refine hK _ _ ?_
            clear hK K
            refine wpAnyIn_ready (rs := [0, 1]) (by kernel_rfl) (by simp) ?_
            refine (AllReadyIn.cons rfl (fun K hK => ?_) (AllReadyIn.cons rfl (fun K hK => ?_) AllReadyIn.nil))
            · go_simp
              refine hK _ _ ?_
              clear hK K
              refine wpAnyIn_ready (rs := [1]) (by kernel_rfl) (by simp) ?_
              refine (AllReadyIn.cons rfl (fun K hK => ?_) AllReadyIn.nil)
              · go_simp
                refine hK _ _ ?_
                clear hK K
                refine wpAnyIn_take (i := 2) (v := ?_) rfl rfl (by kernel_rfl) (by kernel_rfl) (by kernel_rfl) (fun _ _ _ h => h) ⟨Or.inl ⟨by rfl, ?_⟩, fun _ => rfl⟩ ?_
                rotate_left
                · intro w; go_simp; (try with_reducible rfl)
                refine wpAnyIn_take (i := 3) (v := ?_) rfl rfl (by kernel_rfl) (by kernel_rfl) (by kernel_rfl) (fun _ _ _ h => h) ⟨Or.inl ⟨by rfl, ?_⟩, fun _ => rfl⟩ ?_
                rotate_left
                · intro w; go_simp; (try with_reducible rfl)
                refine wpAnyIn_ready (rs := [4]) (by kernel_rfl) (by simp) ?_
                refine (AllReadyIn.cons rfl (fun K hK => ?_) AllReadyIn.nil)
                · go_simp
                  refine hK _ _ ?_
                  clear hK K
                  refine wpAnyIn_ready (rs := [7]) (by kernel_rfl) (by simp) ?_
                  refine (AllReadyIn.cons rfl (fun K hK => ?_) AllReadyIn.nil)
                  · refine stepIn_append_run rfl _ _ _ rfl _ _ (by simp [Act.eval, Act.put]) (by simp [Act.eval, Act.put]) HAPP.out ?_
                    go_simp
                    refine hK _ _ ?_
                    clear hK K
                    refine wpAnyIn_take (i := 8) (v := ?_) rfl rfl (by kernel_rfl) (by kernel_rfl) (by kernel_rfl) (fun _ _ _ h => h) ⟨Or.inl ⟨by rfl, ?_⟩, fun _ => rfl⟩ ?_
                    rotate_left
                    · intro w; go_simp; (try with_reducible rfl)
                    refine wpAnyIn_take (i := 9) (v := ?_) rfl rfl (by kernel_rfl) (by kernel_rfl) (by kernel_rfl) (fun _ _ _ h => h) ⟨Or.inl ⟨by rfl, ?_⟩, fun _ => rfl⟩ ?_
                    rotate_left
                    · intro w; go_simp; (try with_reducible rfl)
                    refine wpAnyIn_ready (rs := [10]) (by kernel_rfl) (by simp) ?_
                    refine (AllReadyIn.cons rfl (fun K hK => ?_) AllReadyIn.nil)
                    · go_simp
                      refine hK _ _ ?_
                      clear hK K
                      refine wpAnyIn_done (by kernel_rfl) ?_ _
                      gi_wp2_with fail
                      exact HFIN.out
            · go_simp
              refine hK _ _ ?_
              clear hK K
              refine wpAnyIn_take (i := 2) (v := ?_) rfl rfl (by kernel_rfl) (by kernel_rfl) (by kernel_rfl) (fun _ _ _ h => h) ⟨Or.inl ⟨by rfl, ?_⟩, fun _ => rfl⟩ ?_
              rotate_left
              · intro w; go_simp; (try with_reducible rfl)
              refine wpAnyIn_take (i := 3) (v := ?_) rfl rfl (by kernel_rfl) (by kernel_rfl) (by kernel_rfl) (fun _ _ _ h => h) ⟨Or.inl ⟨by rfl, ?_⟩, fun _ => rfl⟩ ?_
              rotate_left
              · intro w; go_simp; (try with_reducible rfl)
              refine wpAnyIn_ready (rs := [0, 4]) (by kernel_rfl) (by simp) ?_
              refine (AllReadyIn.cons rfl (fun K hK => ?_) (AllReadyIn.cons rfl (fun K hK => ?_) AllReadyIn.nil))
              · go_simp
                refine hK _ _ ?_
                clear hK K
                refine wpAnyIn_ready (rs := [4]) (by kernel_rfl) (by simp) ?_
                refine (AllReadyIn.cons rfl (fun K hK => ?_) AllReadyIn.nil)
                · go_simp
                  refine hK _ _ ?_
                  clear hK K
                  refine wpAnyIn_ready (rs := [7]) (by kernel_rfl) (by simp) ?_
                  refine (AllReadyIn.cons rfl (fun K hK => ?_) AllReadyIn.nil)
                  · refine stepIn_append_run rfl _ _ _ rfl _ _ (by simp [Act.eval, Act.put]) (by simp [Act.eval, Act.put]) HAPP.out ?_
                    go_simp
                    refine hK _ _ ?_
                    clear hK K
                    refine wpAnyIn_take (i := 8) (v := ?_) rfl rfl (by kernel_rfl) (by kernel_rfl) (by kernel_rfl) (fun _ _ _ h => h) ⟨Or.inl ⟨by rfl, ?_⟩, fun _ => rfl⟩ ?_
                    rotate_left
                    · intro w; go_simp; (try with_reducible rfl)
                    refine wpAnyIn_take (i := 9) (v := ?_) rfl rfl (by kernel_rfl) (by kernel_rfl) (by kernel_rfl) (fun _ _ _ h => h) ⟨Or.inl ⟨by rfl, ?_⟩, fun _ => rfl⟩ ?_
                    rotate_left
                    · intro w; go_simp; (try with_reducible rfl)
                    refine wpAnyIn_ready (rs := [10]) (by kernel_rfl) (by simp) ?_
                    refine (AllReadyIn.cons rfl (fun K hK => ?_) AllReadyIn.nil)
                    · go_simp
                      refine hK _ _ ?_
                      clear hK K
                      refine wpAnyIn_done (by kernel_rfl) ?_ _
                      gi_wp2_with fail
                      exact HFIN.out
              · go_simp
                refine hK _ _ ?_
                clear hK K
                refine wpAnyIn_ready (rs := [0, 7]) (by kernel_rfl) (by simp) ?_
                refine (AllReadyIn.cons rfl (fun K hK => ?_) (AllReadyIn.cons rfl (fun K hK => ?_) AllReadyIn.nil))
                · go_simp
                  refine hK _ _ ?_
                  clear hK K
                  refine wpAnyIn_ready (rs := [7]) (by kernel_rfl) (by simp) ?_
                  refine (AllReadyIn.cons rfl (fun K hK => ?_) AllReadyIn.nil)
                  · refine stepIn_append_run rfl _ _ _ rfl _ _ (by simp [Act.eval, Act.put]) (by simp [Act.eval, Act.put]) HAPP.out ?_
                    go_simp
                    refine hK _ _ ?_
                    clear hK K
                    refine wpAnyIn_take (i := 8) (v := ?_) rfl rfl (by kernel_rfl) (by kernel_rfl) (by kernel_rfl) (fun _ _ _ h => h) ⟨Or.inl ⟨by rfl, ?_⟩, fun _ => rfl⟩ ?_
                    rotate_left
                    · intro w; go_simp; (try with_reducible rfl)
                    refine wpAnyIn_take (i := 9) (v := ?_) rfl rfl (by kernel_rfl) (by kernel_rfl) (by kernel_rfl) (fun _ _ _ h => h) ⟨Or.inl ⟨by rfl, ?_⟩, fun _ => rfl⟩ ?_
                    rotate_left
                    · intro w; go_simp; (try with_reducible rfl)
                    refine wpAnyIn_ready (rs := [10]) (by kernel_rfl) (by simp) ?_
                    refine (AllReadyIn.cons rfl (fun K hK => ?_) AllReadyIn.nil)
                    · go_simp
                      refine hK _ _ ?_
                      clear hK K
                      refine wpAnyIn_done (by kernel_rfl) ?_ _
                      gi_wp2_with fail
                      exact HFIN.out
                · refine stepIn_append_run rfl _ _ _ rfl _ _ (by simp [Act.eval, Act.put]) (by simp [Act.eval, Act.put]) HAPP.out ?_
                  go_simp
                  refine hK _ _ ?_
                  clear hK K
                  refine wpAnyIn_ready (rs := [0]) (by kernel_rfl) (by simp) ?_
                  refine (AllReadyIn.cons rfl (fun K hK => ?_) AllReadyIn.nil)
                  · go_simp
                    refine hK _ _ ?_
                    clear hK K
                    refine wpAnyIn_take (i := 8) (v := ?_) rfl rfl (by kernel_rfl) (by kernel_rfl) (by kernel_rfl) (fun _ _ _ h => h) ⟨Or.inl ⟨by rfl, ?_⟩, fun _ => rfl⟩ ?_
                    rotate_left
                    · intro w; go_simp; (try with_reducible rfl)
                    refine wpAnyIn_take (i := 9) (v := ?_) rfl rfl (by kernel_rfl) (by kernel_rfl) (by kernel_rfl) (fun _ _ _ h => h) ⟨Or.inl ⟨by rfl, ?_⟩, fun _ => rfl⟩ ?_
                    rotate_left
                    · intro w; go_simp; (try with_reducible rfl)
                    refine wpAnyIn_ready (rs := [10]) (by kernel_rfl) (by simp) ?_
                    refine (AllReadyIn.cons rfl (fun K hK => ?_) AllReadyIn.nil)
                    · go_simp
                      refine hK _ _ ?_
                      clear hK K
                      refine wpAnyIn_done (by kernel_rfl) ?_ _
                      gi_wp2_with fail
                      exact HFIN.out
        · by_cases h10 : er = 10
          · subst h10
            cases last
            · gi_wp2_with fail
              refine ⟨?_, ?_, pre, _, rfl, HR2.out.1.fail HV.out.1 34, HR.out.2.1, (by simp), (by simp)⟩
              · rw [← hrec']; exact heap_setCell_ne' HR2.out.2.2.1 (by omega)
              · exact heap_setCell_ne' HR2.out.2.2.2.1 (by omega)
            · gi_wp2_with fail
              exact ⟨by rw [← hrec']; exact HR2.out.2.2.1, HR2.out.2.2.2.1, pre, _, rfl, HR2.out.1, HR.out.2.1, rfl, rfl⟩
          · have h1 : ¬ (er : Int) = 0 := by omega
            have h2 : ¬ (er : Int) = 10 := by omega
            gi_wp2_with fail
            refine ⟨?_, ?_, pre, _, rfl, HR2.out.1.fail HV.out.1 34, HR.out.2.1, he0, (fun h => h10 h.1)⟩
            · rw [← hrec']; exact heap_setCell_ne' HR2.out.2.2.1 (by omega)
            · exact heap_setCell_ne' HR2.out.2.2.2.1 (by omega)
      · intro e acc W he hI hacc hal hsc hd
        have hK : ∀ {K : Act → World → Prop} {Q : Exit → Act → World → Prop} {a : Act}, Exit.inBlock 0 (Exit.then K Q) e a W = K a W := by
          rcases he with rfl | rfl <;> (intros; rfl)
        rw [hK]
        clear hK he
        obtain ⟨rvW, vsW, hat, hown, hrvB, heach⟩ := hI.log
        obtain ⟨Ap, capp, hpv, hp1, hp2, hp3⟩ := own_slice HV.out.2.2.2.2.2.1.parts
        subst hpv
        have ne := HV.out.1.ne
        have lt := HV.out.1.lt
        have hnW : nr ≤ W.heap.size := by have := hI.size; have := HV.out.1.n0.1; omega
        have hWn := hI.fr _ _ HV.out.2.2.2.2.2.2.2.2.2 (by rintro he; have := HV.out.2.2.2.2.2.1.at_; rw [← he, HV.out.2.2.2.2.2.2.2.2.2] at this; simp at this) (by have := HS.out.2.2.1; have := heap_lt HT.out.2.2.2; omega) (by omega) (.inr (by simp [tagOf]))
        have hpz : (Value.slice Ap G.parts.length capp).ownBlock ≠ some z := by
          obtain ⟨_, _, _, _, _, hp4⟩ := own_slice H3.out.2.2.2.parts
          rcases hp4 with h | ⟨g, h, _, h2⟩
          · rw [h]; simp
          · rw [h]; intro he; cases he; have := HS.out.2.2.1; omega
        have hownp : W.ownsRow nr 159 3 (.slice Ap G.parts.length capp) G.parts.length (partCells G.parts) := own_keep HV.out.2.2.2.2.2.1.parts fun b o hb hv hcc => by
          have ho : tagOf o = some 159 := by
            rcases HV.out.2.2.2.2.2.1.parts.2 with ⟨h1, _⟩ | ⟨g, cap, cur, h1, _, hh, _⟩
            · rw [h1] at hv; simp [Value.ownBlock] at hv
            · rw [h1] at hv; simp only [Value.ownBlock, Option.some.injEq] at hv; subst hv; rw [hb] at hh; cases hh; rfl
          refine hI.fr b o hb ?_ (fun e => hpz (by rw [hv, e])) ?_ (.inr (by rw [ho]; simp))
          · rintro rfl; rw [HV.out.2.2.2.2.2.1.at_] at hb; cases hb; simp [tagOf] at ho
          · rintro rfl; obtain ⟨c, h6⟩ := HV.out.1.e6; rw [h6] at hb; cases hb; simp [tagOf] at ho
        have hpv : ∀ (b : Nat) (o : Obj), W.heap[b]? = some o → b ≠ z → tagOf o ≠ some 159 ∨ b = z → (Value.slice Ap G.parts.length capp).ownBlock ≠ some b := by
          intro b o hb hz ht he
          rcases hownp.2 with ⟨h1, _⟩ | ⟨g, cap, cur, h1, _, hh, _⟩
          · rw [h1] at he; simp [Value.ownBlock] at he
          · rw [h1] at he; simp only [Value.ownBlock, Option.some.injEq] at he; subst he; rw [hb] at hh; cases hh
            rcases ht with ht | ht
            · exact ht rfl
            · exact hz ht
        have hpv1 := hpv _ _ hWn (by have := HS.out.2.2.1; have := heap_lt HT.out.2.2.2; omega) (.inl (by simp [tagOf]))
        have hpv2 := hpv _ _ hat ne.1 (.inl (by simp [tagOf]))
        have hpv3 := hpv _ _ hI.err (Ne.symm ne.2.2.2.1) (.inl (by simp [tagOf]))
        have hfin := fun (q : Nat) (pv' : Value) (W2 : World) => LdI.finish (q := q) (pv' := pv') (W2 := W2) hI HV.out.1 HV.out.2.2.2.2.2.1 hpz
        have hq1 : G.parts.length + 1 ≤ maxLen := by unfold maxLen; have := hfew.2; omega
        have hq2 : (G.parts.length + 1) * 24 ≤ 140737488355328 := by have := hfew.2; omega
        obtain ⟨iI, hiI, hzI0, hzI1, hzI2⟩ := info_part
        have e2 := Joins.cell_of_block hI.err 0
        have f2 := Joins.unfrozen_of_block hI.err 0
        have p0 := Joins.cell_of_block hWn 0
        have p1 := Joins.cell_of_block hat 3
        have pf := Joins.unfrozen_of_block hat 3
        have z0 := Joins.cell_of_block hI.part 0
        have z1 := Joins.cell_of_block hI.part 1
        have z2 := Joins.cell_of_block hI.part 2
        simp at e2 p0 p1 z0 z1 z2
        have HW := Lib.hid (And.intro hI (And.intro hacc (And.intro hal (And.intro hsc (And.intro hd (And.intro hat (And.intro hown (And.intro hrvB (And.intro heach (And.intro hWn (And.intro hpz hownp)))))))))))
        obtain ⟨pv', W2, happ, hown', hgrow', hblk'⟩ := run_append_rd (P := Tryz.prog) ((W.alloc (.cells #[.int .i64 k, .int .i64 (acc.length : Int), .int .i64 (sizeSum acc : Int)] 159)).drew) nr 141 141 159 iI _ 3 24 Tryz.underlying141 hiI hzI0 hzI1 hzI2 rfl (by decide) _ G.parts.length (partCells G.parts)
          (own_below hownp (((Below.refl _ W).alloc (Nat.le_refl _) _).drew)) 0 (some ⟨W.heap.size, 0, none⟩) 1 1 [.int .i64 k, .int .i64 (acc.length : Int), .int .i64 (sizeSum acc : Int)] rfl (rd_new3 W _ _ _ _) (by simp [Value.oneCell']) hq1 hq2 (Nat.le_trans hnW (by simp)) (fun h => by cases h)
        obtain ⟨g', cap', rfl⟩ := ownsRow_succ hown'
        have hfin2 := hfin 0 _ W2 hown' ⟨hgrow'.os, hgrow'.tape, hgrow'.output, hgrow'.size, hgrow'.block⟩ (hblk'.imp id (fun h => by rw [h]; simp)) ⟨by have := hfew.1; have := HV.out.2.2.2.1; omega, by have := hfew.2; omega⟩
        have hAW : ∀ y, y < W.heap.size → ((W.alloc (.cells #[.int .i64 k, .int .i64 (acc.length : Int), .int .i64 (sizeSum acc : Int)] 159)).drew).heap[y]? = W.heap[y]? := fun y hy => Below.heap_alloc W _ y hy
        have b0 := grown_at hgrow' hpv1 hWn hAW
        have b1 := grown_at hgrow' hpz hI.part hAW
        have b2 := grown_at hgrow' hpv2 hat hAW
        have b3 := grown_at hgrow' hpv3 hI.err hAW
        have a0 := Joins.cell_of_block b0 0
        have a1 := Joins.cell_of_block b1 0
        have a2 := Joins.cell_of_block b1 1
        have a3 := Joins.cell_of_block b1 2
        have a4 := Joins.unfrozen_of_block b2 3
        have a5 := Joins.cell_of_block b2 0
        have a6 := Joins.cell_of_block b2 1
        have a7 := Joins.unfrozen_of_block b3 0
        have a8 := Joins.cell_of_block b2 3
        have u3 := Joins.cell_of_block ((Below.heap_alloc W (.cells #[.int .i64 k, .int .i64 (acc.length : Int), .int .i64 (sizeSum acc : Int)] 159) _ (heap_lt hat)).trans hat) 3
        have u0 := Joins.cell_of_block ((Below.heap_alloc W (.cells #[.int .i64 k, .int .i64 (acc.length : Int), .int .i64 (sizeSum acc : Int)] 159) _ (heap_lt hWn)).trans hWn) 0
        have a9 := Joins.cell_of_block b3 0
        have n1 := ne.1
        have n2 := Ne.symm ne.1
        simp at a0 a1 a2 a3 a5 a6 a8 a9 u3 u0
        have hwb : bl ≠ w.heap.size := by rintro he; rw [he] at b2; rw [b0] at b2; simp at b2
        have d0 := (World.cell?_setCell_far W2 ⟨bl, 3, none⟩ ⟨w.heap.size, 0, none⟩ (.slice (some ⟨g', 0, none⟩) (G.parts.length + 1) cap') hwb).trans a0
        have d1 := (World.cell?_setCell_far W2 ⟨bl, 3, none⟩ ⟨z, 0, none⟩ (.slice (some ⟨g', 0, none⟩) (G.parts.length + 1) cap') n1).trans a1
        have d2 := (World.cell?_setCell_far W2 ⟨bl, 3, none⟩ ⟨z, 1, none⟩ (.slice (some ⟨g', 0, none⟩) (G.parts.length + 1) cap') n1).trans a2
        have d3 := (World.cell?_setCell_far W2 ⟨bl, 3, none⟩ ⟨z, 2, none⟩ (.slice (some ⟨g', 0, none⟩) (G.parts.length + 1) cap') n1).trans a3
        have hDW : DiskR n W bd RD.1 := HV.out.2.2.2.2.2.2.1.keeps fun b o hb ht => by
          refine hI.fr b o hb ?_ ?_ ?_ ?_
          · rintro rfl; obtain ⟨c, h⟩ := HV.out.1.bl; rw [h] at hb; cases hb; simp [tagOf] at ht
          · rintro rfl; obtain ⟨c, h⟩ := HV.out.1.z; rw [h] at hb; cases hb; simp [tagOf] at ht
          · rintro rfl; obtain ⟨c, h⟩ := HV.out.1.e6; rw [h] at hb; cases hb; simp [tagOf] at ht
          · right; rcases ht with ht | ht | ht | ht <;> rw [ht] <;> simp
        obtain ⟨E, hE⟩ : ∃ E, W2.setCell ⟨bl, 3, none⟩ (.slice (some ⟨g', 0, none⟩) (G.parts.length + 1) cap') = E := ⟨_, rfl⟩
        rw [hE] at hfin2
        have hDE : DiskR n E bd RD.1 := hDW.keeps fun b o hb ht => hfin2.2.2 b o hb (by rcases ht with ht | ht | ht | ht <;> rw [ht] <;> simp) (by rcases ht with ht | ht | ht | ht <;> rw [ht] <;> simp)
        have hsE : E.heap.size = W2.heap.size := by rw [← hE]; simp [World.setCell]
        have hTE : Turn2 n nr TDk TLg w E := by
          have hT := HV.out.2.2.2.2.2.2.2.1
          have hs2 := hgrow'.size
          refine ⟨?_, ?_, ?_, ?_, fun b o hb hc => ?_⟩
          · rw [← hE]; exact hgrow'.os.trans (hI.os.trans hT.os)
          · rw [← hE]; exact hgrow'.tape.trans (hI.tape.trans hT.tape)
          · rw [← hE]; exact hgrow'.output.trans (hI.output.trans hT.output)
          · have h1 := hI.size; have h2 := hT.size; rw [hsE]; simp at hs2; omega
          · have hb0 := hT.block b o hb hc
            have hlt := heap_lt hb
            have hbW := hI.fr b o hb0 (by
              rintro rfl; rw [HV.out.2.2.2.2.2.1.at_] at hb0; cases hb0
              rcases hc.2 with hc | hc
              · have := HV.out.1.n0.1; omega
              · exact hc (by simp [tagOf, TLg])) (by have := HS.out.2.2.1; have := HT.out.1.size; omega) (by omega) (by
              rcases hc.2 with hc | hc
              · exact .inl hc
              · right; intro he; exact hc (by rw [he]; simp [TLg]))
            refine hfin2.2.1 b o hbW ?_ ?_
            · rintro rfl; rw [hat] at hbW; cases hbW
              rcases hc.2 with hc | hc
              · have := HV.out.1.n0.1; omega
              · exact hc (by simp [tagOf, TLg])
            · intro he
              rcases hownp.2 with ⟨h1, _⟩ | ⟨g, cap, cur, h1, hgn, hh, _⟩
              · rw [h1] at he; simp [Value.ownBlock] at he
              · rw [h1] at he; simp only [Value.ownBlock, Option.some.injEq] at he; subst he; rw [hbW] at hh; cases hh
                rcases hc.2 with hc | hc
                · omega
                · exact hc (by simp [tagOf, TLg])
        have heE := hfin2.2.1 _ _ hI.err (Ne.symm ne.2.1) hpv3
        have hdE := hfin2.2.2 _ _ hd (by simp [tagOf]) (by simp [tagOf])
        have hzE := hfin2.2.1 _ _ hI.part (Ne.symm ne.1) hpz
        have hnE := hfin2.2.1 _ _ hWn (Ne.symm hwb) hpv1
        have hbE : E.heap[bl]? = some (.cells #[.pointer (some ⟨bd, 0, none⟩), .string ⟨G.name.toArray⟩, .int .i64 G.most, .slice (some ⟨g', 0, none⟩) (G.parts.length + 1) cap', rvW, .int .i64 G.first, .bool G.dirty] 143 (0, 0)) := by rw [← hE, Joins.block_setCell b2]; rfl
        have k0 := Joins.cell_of_block hbE 0
        have k1 := Joins.cell_of_block hbE 1
        have k2 := Joins.cell_of_block heE 0
        have k3 := Joins.unfrozen_of_block heE 0
        simp at k0 k1 k2
        have hLM : LM = if sizeSum acc < RD.2.1.length then ((RD.1.trunc FN (sizeSum acc : Int)).1, { G with recs := G.recs ++ acc.map (·.1), parts := G.parts ++ [⟨k, acc.length, sizeSum acc⟩] }, (RD.1.trunc FN (sizeSum acc : Int)).2)
            else (RD.1, { G with recs := G.recs ++ acc.map (·.1), parts := G.parts ++ [⟨k, acc.length, sizeSum acc⟩] }, 0) := by
          rw [← HLM3.out, hsc]
          simp only [List.length_map]
        have HLM4 := Lib.hid hLM
        have HEE := Lib.hid (And.intro hDE (And.intro hTE (And.intro heE (And.intro hdE (And.intro hzE (And.intro hnE (And.intro hbE hfin2.1)))))))
        clear hDW hDE hTE hsE heE hdE hzE hnE hbE hLM
        have HAPP := Lib.hid happ
        have HG := Lib.hid (And.intro hown' (And.intro hgrow' (And.intro hblk' (And.intro b0 (And.intro b1 (And.intro b2 b3))))))
        have HF := Lib.hid hfin2
        clear happ hown' hgrow' hblk' b0 b1 b2 b3 hfin2 hAW hI hacc hal hsc hd hat hown hrvB heach hWn hpz hownp hfin hpv1 hpv2 hpv3 hpv hq1 hq2 hnW hiI hzI0 hzI1 hzI2
        rw [hE] at d0 d1 d2 d3
        have HEq := Lib.hid hE
        have HFC := Lib.hid (file_c n G.name (by have := H1.out.1.nm; omega) k (by omega) (by omega) E.drew (hg.below ((HEE.out.2.1.below hnr hn).drew)))
        rw [HLM.out.2] at HFC
        by_cases hlt : sizeSum acc < RD.2.1.length
        · have hlt' : (sizeSum acc : Int) < (RD.2.1.length : Int) := by omega
          go_wp2_with fail
          refine wp_region_noPanic ?_
          refine wp_region_held_drew (S := (fun w' => w'.cell? ⟨w.heap.size, 0, none⟩ = some (.pointer (some ⟨bl, 0, none⟩)) ∧ w'.cell? ⟨z, 0, none⟩ = some (.int .i64 k) ∧ w'.cell? ⟨z, 1, none⟩ = some (.int .i64 (acc.length : Int)) ∧ w'.cell? ⟨z, 2, none⟩ = some (.int .i64 (sizeSum acc : Int)))) (by kernel_rfl) ?_ (fun hHeld => ?_)
          · (try dsimp only); (first | (refine ⟨?_, ?_, ?_, ?_⟩ <;> assumption) | go_keep)
          refine wpAnyH_take (i := 0) (v := ?_) rfl (by kernel_rfl) (by kernel_rfl) (by kernel_rfl) (fun _ _ _ h => h) (Or.inl ⟨by rfl, ?_⟩) hHeld ?_
          rotate_left
          · intro w hSw; (try dsimp only at hSw); go_simp; (try with_reducible rfl)
          (try simp only [Act.put, List.getElem_toArray, List.getElem_cons_succ, List.getElem_cons_zero, List.setIfInBounds_toArray, List.set_cons_zero, List.set_cons_succ])
          refine wpAnyH_take (i := 1) (v := ?_) rfl (by kernel_rfl) (by kernel_rfl) (by kernel_rfl) (fun _ _ _ h => h) (Or.inl ⟨by rfl, ?_⟩) hHeld ?_
          rotate_left
          · intro w hSw; (try dsimp only at hSw); go_simp; (try with_reducible rfl)
          (try simp only [Act.put, List.getElem_toArray, List.getElem_cons_succ, List.getElem_cons_zero, List.setIfInBounds_toArray, List.set_cons_zero, List.set_cons_succ])
          refine wpAnyH_take (i := 2) (v := ?_) rfl (by kernel_rfl) (by kernel_rfl) (by kernel_rfl) (fun _ _ _ h => h) (Or.inl ⟨by rfl, ?_⟩) hHeld ?_
          rotate_left
          · intro w hSw; (try dsimp only at hSw); go_simp; (try with_reducible rfl)
          (try simp only [Act.put, List.getElem_toArray, List.getElem_cons_succ, List.getElem_cons_zero, List.setIfInBounds_toArray, List.set_cons_zero, List.set_cons_succ])
          refine wpAnyH_take (i := 3) (v := ?_) rfl (by kernel_rfl) (by kernel_rfl) (by kernel_rfl) (fun _ _ _ h => h) (Or.inl ⟨by rfl, ?_⟩) hHeld ?_
          rotate_left
          · intro w hSw; (try dsimp only at hSw); go_simp; (try with_reducible rfl)
          (try simp only [Act.put, List.getElem_toArray, List.getElem_cons_succ, List.getElem_cons_zero, List.setIfInBounds_toArray, List.set_cons_zero, List.set_cons_succ])
          refine wpAnyH_take (i := 5) (v := ?_) rfl (by kernel_rfl) (by kernel_rfl) (by kernel_rfl) (fun _ _ _ h => h) (Or.inl ⟨by rfl, ?_⟩) hHeld ?_
          rotate_left
          · intro w hSw; (try dsimp only at hSw); go_simp; (try with_reducible rfl)
          (try simp only [Act.put, List.getElem_toArray, List.getElem_cons_succ, List.getElem_cons_zero, List.setIfInBounds_toArray, List.set_cons_zero, List.set_cons_succ])
          refine wpAnyH_ready (rs := [4, 6]) (by kernel_rfl) (by simp) ?_
          refine (AllReadyH.cons rfl (fun K hK => ?_) (AllReadyH.cons rfl (fun K hK => ?_) AllReadyH.nil))
          go_simp
          refine hK.out _ _ ?_ (fun hHeld2 => ?_)
          · (try dsimp only); (first | (refine ⟨?_, ?_, ?_, ?_⟩ <;> assumption) | go_keep)
          clear hK K hHeld
          rename _ => hHeld
          (try simp only [Act.put, List.getElem_toArray, List.getElem_cons_succ, List.getElem_cons_zero, List.setIfInBounds_toArray, List.set_cons_zero, List.set_cons_succ])
          refine wpAnyH_ready (rs := [6]) (by kernel_rfl) (by simp) ?_
          refine (AllReadyH.cons rfl (fun K hK => ?_) AllReadyH.nil)
          go_simp
          refine hK.out _ _ ?_ (fun hHeld2 => ?_)
          · (try dsimp only); (first | (refine ⟨?_, ?_, ?_, ?_⟩ <;> assumption) | go_keep)
          clear hK K hHeld
          rename _ => hHeld
          (try simp only [Act.put, List.getElem_toArray, List.getElem_cons_succ, List.getElem_cons_zero, List.setIfInBounds_toArray, List.set_cons_zero, List.set_cons_succ])
          refine wpAnyH_ready (rs := [7]) (by kernel_rfl) (by simp) ?_
          refine (AllReadyH.cons rfl (fun K hK => ?_) AllReadyH.nil)
          (try rw [if_pos (by rfl)])
          refine wp_append_run _ _ _ rfl _ _ rfl rfl HAPP.out ?_
          refine hK.out _ _ ?_ (fun hHeld2 => ?_)
          · (try dsimp only); (first | (refine ⟨?_, ?_, ?_, ?_⟩ <;> assumption) | go_keep)
          clear hK K hHeld
          rename _ => hHeld
          (try simp only [Act.put, List.getElem_toArray, List.getElem_cons_succ, List.getElem_cons_zero, List.setIfInBounds_toArray, List.set_cons_zero, List.set_cons_succ])
          refine wpAnyH_take (i := 8) (v := ?_) rfl (by kernel_rfl) (by kernel_rfl) (by kernel_rfl) (fun _ _ _ h => h) (Or.inl ⟨by rfl, ?_⟩) hHeld ?_
          rotate_left
          · intro w hSw; (try dsimp only at hSw); go_simp; (try with_reducible rfl)
          (try simp only [Act.put, List.getElem_toArray, List.getElem_cons_succ, List.getElem_cons_zero, List.setIfInBounds_toArray, List.set_cons_zero, List.set_cons_succ])
          refine wpAnyH_take (i := 9) (v := ?_) rfl (by kernel_rfl) (by kernel_rfl) (by kernel_rfl) (fun _ _ _ h => h) (Or.inl ⟨by rfl, ?_⟩) hHeld ?_
          rotate_left
          · intro w hSw; (try dsimp only at hSw); go_simp; (try with_reducible rfl)
          (try simp only [Act.put, List.getElem_toArray, List.getElem_cons_succ, List.getElem_cons_zero, List.setIfInBounds_toArray, List.set_cons_zero, List.set_cons_succ])
          refine wpAnyH_ready (rs := [10]) (by kernel_rfl) (by simp) ?_
          refine (AllReadyH.cons rfl (fun K hK => ?_) AllReadyH.nil)
          go_simp
          refine hK.out _ _ ?_ (fun hHeld2 => ?_)
          · (try dsimp only); (first | (refine ⟨?_, ?_, ?_, ?_⟩ <;> assumption) | go_keep)
          clear hK K hHeld
          rename _ => hHeld
          (try simp only [Act.put, List.getElem_toArray, List.getElem_cons_succ, List.getElem_cons_zero, List.setIfInBounds_toArray, List.set_cons_zero, List.set_cons_succ])
          refine wpAnyH_done (by kernel_rfl) ?_ _
          refine NoPanic.normal ?_
          clear hHeld
          rotate_left 1
          go_simp
          refine hK.out _ _ ?_ (fun hHeld2 => ?_)
          · (try dsimp only); (first | (refine ⟨?_, ?_, ?_, ?_⟩ <;> assumption) | go_keep)
          clear hK K hHeld
          rename _ => hHeld
          (try simp only [Act.put, List.getElem_toArray, List.getElem_cons_succ, List.getElem_cons_zero, List.setIfInBounds_toArray, List.set_cons_zero, List.set_cons_succ])
          refine wpAnyH_ready (rs := [4]) (by kernel_rfl) (by simp) ?_
          refine (AllReadyH.cons rfl (fun K hK => ?_) AllReadyH.nil)
          go_simp
          refine hK.out _ _ ?_ (fun hHeld2 => ?_)
          · (try dsimp only); (first | (refine ⟨?_, ?_, ?_, ?_⟩ <;> assumption) | go_keep)
          clear hK K hHeld
          rename _ => hHeld
          (try simp only [Act.put, List.getElem_toArray, List.getElem_cons_succ, List.getElem_cons_zero, List.setIfInBounds_toArray, List.set_cons_zero, List.set_cons_succ])
          refine wpAnyH_ready (rs := [7]) (by kernel_rfl) (by simp) ?_
          refine (AllReadyH.cons rfl (fun K hK => ?_) AllReadyH.nil)
          (try rw [if_pos (by rfl)])
          refine wp_append_run _ _ _ rfl _ _ rfl rfl HAPP.out ?_
          refine hK.out _ _ ?_ (fun hHeld2 => ?_)
          · (try dsimp only); (first | (refine ⟨?_, ?_, ?_, ?_⟩ <;> assumption) | go_keep)
          clear hK K hHeld
          rename _ => hHeld
          (try simp only [Act.put, List.getElem_toArray, List.getElem_cons_succ, List.getElem_cons_zero, List.setIfInBounds_toArray, List.set_cons_zero, List.set_cons_succ])
          refine wpAnyH_take (i := 8) (v := ?_) rfl (by kernel_rfl) (by kernel_rfl) (by kernel_rfl) (fun _ _ _ h => h) (Or.inl ⟨by rfl, ?_⟩) hHeld ?_
          rotate_left
          · intro w hSw; (try dsimp only at hSw); go_simp; (try with_reducible rfl)
          (try simp only [Act.put, List.getElem_toArray, List.getElem_cons_succ, List.getElem_cons_zero, List.setIfInBounds_toArray, List.set_cons_zero, List.set_cons_succ])
          refine wpAnyH_take (i := 9) (v := ?_) rfl (by kernel_rfl) (by kernel_rfl) (by kernel_rfl) (fun _ _ _ h => h) (Or.inl ⟨by rfl, ?_⟩) hHeld ?_
          rotate_left
          · intro w hSw; (try dsimp only at hSw); go_simp; (try with_reducible rfl)
          (try simp only [Act.put, List.getElem_toArray, List.getElem_cons_succ, List.getElem_cons_zero, List.setIfInBounds_toArray, List.set_cons_zero, List.set_cons_succ])
          refine wpAnyH_ready (rs := [10]) (by kernel_rfl) (by simp) ?_
          refine (AllReadyH.cons rfl (fun K hK => ?_) AllReadyH.nil)
          go_simp
          refine hK.out _ _ ?_ (fun hHeld2 => ?_)
          · (try dsimp only); (first | (refine ⟨?_, ?_, ?_, ?_⟩ <;> assumption) | go_keep)
          clear hK K hHeld
          rename _ => hHeld
          (try simp only [Act.put, List.getElem_toArray, List.getElem_cons_succ, List.getElem_cons_zero, List.setIfInBounds_toArray, List.set_cons_zero, List.set_cons_succ])
          refine wpAnyH_done (by kernel_rfl) ?_ _
          refine NoPanic.normal ?_
          clear hHeld
          rotate_left 1
          all_goals
            go_wp2_with fail
            go_region_held3 (fun w' => w'.cell? ⟨w.heap.size, 0, none⟩ = some (.pointer (some ⟨bl, 0, none⟩)) ∧ w'.cell? ⟨bl, 0, none⟩ = some (.pointer (some ⟨bd, 0, none⟩)) ∧ w'.cell? ⟨bl, 1, none⟩ = some (.string ⟨G.name.toArray⟩) ∧ w'.cell? ⟨z, 2, none⟩ = some (.int .i64 (sizeSum acc : Int)))
              (first | (refine ⟨?_, ?_, ?_, ?_⟩ <;> assumption) | go_keep)
              (first
                | (go_at_call 89; refine HFC.out.mono ?_; rintro e w6 ⟨rfl, hb6⟩
                   have m0 := (hb6.cell (p := ⟨w.heap.size, 0, none⟩) (cell_lt d0)).trans d0
                   have m1 := (hb6.cell (p := ⟨bl, 0, none⟩) (cell_lt k0)).trans k0
                   have m2 := (hb6.cell (p := ⟨bl, 1, none⟩) (cell_lt k0)).trans k1
                   have m3 := (hb6.cell (p := ⟨z, 2, none⟩) (cell_lt d3)).trans d3
                   have HB6 := Lib.hid (bel_drew hb6); clear hb6)
                | (go_at_call 109; refine (trunc_c n bd RD.1 FN (by have := H1.out.2.2.2.2.2.2.2.2; omega) (sizeSum acc : Int) w6 (HEE.out.1.below HB6.out)).mono ?_; rintro e w7 ⟨rfl, hR7, hT7⟩
                   have hT67 : Turn n [some 86, some 91] E w7 := (Turn.of_below HB6.out).trans hT7
                   have o0 := Joins.cell_of_block (hT67.block _ _ HEE.out.2.2.2.2.2.1 (.inr (by simp [tagOf]))) 0
                   have o1 := Joins.cell_of_block (hT67.block _ _ HEE.out.2.2.2.2.2.2.1 (.inr (by simp [tagOf]))) 0
                   have o2 := Joins.cell_of_block (hT67.block _ _ HEE.out.2.2.2.2.2.2.1 (.inr (by simp [tagOf]))) 1
                   have o3 := Joins.cell_of_block (hT67.block _ _ HEE.out.2.2.2.2.1 (.inr (by simp [tagOf]))) 2
                   have o4 := Joins.cell_of_block (hT67.block _ _ HEE.out.2.2.1 (.inr (by simp [tagOf]))) 0
                   have o5 := Joins.unfrozen_of_block (hT67.block _ _ HEE.out.2.2.1 (.inr (by simp [tagOf]))) 0
                   simp at o0 o1 o2 o3 o4
                   have r0 := (World.cell?_setCell_far w7 ⟨w.heap.size + 1 + 1, 0, none⟩ ⟨w.heap.size, 0, none⟩ (.int .i64 (RD.1.trunc FN (sizeSum acc : Int)).2) (by dsimp only; omega)).trans o0
                   have r1 := (World.cell?_setCell_far w7 ⟨w.heap.size + 1 + 1, 0, none⟩ ⟨bl, 0, none⟩ (.int .i64 (RD.1.trunc FN (sizeSum acc : Int)).2) (Ne.symm HV.out.1.ne.2.1)).trans o1
                   have r2 := (World.cell?_setCell_far w7 ⟨w.heap.size + 1 + 1, 0, none⟩ ⟨bl, 1, none⟩ (.int .i64 (RD.1.trunc FN (sizeSum acc : Int)).2) (Ne.symm HV.out.1.ne.2.1)).trans o2
                   have r3 := (World.cell?_setCell_far w7 ⟨w.heap.size + 1 + 1, 0, none⟩ ⟨z, 2, none⟩ (.int .i64 (RD.1.trunc FN (sizeSum acc : Int)).2) (Ne.symm HV.out.1.ne.2.2.2.1)).trans o3
                   have HT7 := Lib.hid (And.intro hR7 (And.intro hT7 hT67)); clear hR7 hT7 hT67))
            go_wp2_with fail
            rw [Exit.noGoto_ret]
            obtain ⟨hR7, hT7, hT67⟩ := HT7.out
            have heE := hT67.block _ _ HEE.out.2.2.1 (.inr (by simp [tagOf]))
            have hdE := hT67.block _ _ HEE.out.2.2.2.1 (.inr (by simp [tagOf]))
            have hLE := HEE.out.2.2.2.2.2.2.2.keeps (KeepsL.of_turn hT67 (by simp) (by simp) (by simp) (by simp))
            have hTE := HEE.out.2.1.trans (Turn2.of_turn hT67)
            obtain ⟨h1, h2, h3, h4⟩ := load_end (x := V0.heap.size) (o' := .deferred none) (bl := bl) (.int .i64 (RD.1.trunc FN (sizeSum acc : Int)).2) heE hdE hR7 hTE (by omega) (by have := HS.out.1; have := HS.out.2.2.1; have := HT.out.1.size; omega)
            have hres : (((w7.setCell ⟨w.heap.size + 2, 0, none⟩ (.int .i64 (RD.1.trunc FN (sizeSum acc : Int)).2)).putObj V0.heap.size (.deferred none))).heap[w.heap.size + 2]? = some (.cells #[.int .i64 (RD.1.trunc FN (sizeSum acc : Int)).2] 24 (0, 0)) := by
              rw [World.putObj_heap_other (by have := HV.out.1.lt; omega), Joins.block_setCell heE]; rfl
            have y0 := Joins.cell_of_block hres 0
            simp at y0
            refine marks_ret1 (v := .int .i64 (RD.1.trunc FN (sizeSum acc : Int)).2) h4 (by simp [results, Tryz.results73, go_sem, y0]) rfl ?_
            rw [HLM4.out, if_pos hlt]
            exact ⟨rfl, h1, fun _ => h2 hLE, h3⟩
        · have hlt' : ¬ ((sizeSum acc : Int) < (RD.2.1.length : Int)) := by omega
          go_wp2_with fail
          refine wp_region_noPanic ?_
          refine wp_region_held_drew (S := (fun w' => w'.cell? ⟨w.heap.size, 0, none⟩ = some (.pointer (some ⟨bl, 0, none⟩)) ∧ w'.cell? ⟨z, 0, none⟩ = some (.int .i64 k) ∧ w'.cell? ⟨z, 1, none⟩ = some (.int .i64 (acc.length : Int)) ∧ w'.cell? ⟨z, 2, none⟩ = some (.int .i64 (sizeSum acc : Int)))) (by kernel_rfl) ?_ (fun hHeld => ?_)
          · (try dsimp only); (first | (refine ⟨?_, ?_, ?_, ?_⟩ <;> assumption) | go_keep)
          refine wpAnyH_take (i := 0) (v := ?_) rfl (by kernel_rfl) (by kernel_rfl) (by kernel_rfl) (fun _ _ _ h => h) (Or.inl ⟨by rfl, ?_⟩) hHeld ?_
          rotate_left
          · intro w hSw; (try dsimp only at hSw); go_simp; (try with_reducible rfl)
          (try simp only [Act.put, List.getElem_toArray, List.getElem_cons_succ, List.getElem_cons_zero, List.setIfInBounds_toArray, List.set_cons_zero, List.set_cons_succ])
          refine wpAnyH_take (i := 1) (v := ?_) rfl (by kernel_rfl) (by kernel_rfl) (by kernel_rfl) (fun _ _ _ h => h) (Or.inl ⟨by rfl, ?_⟩) hHeld ?_
          rotate_left
          · intro w hSw; (try dsimp only at hSw); go_simp; (try with_reducible rfl)
          (try simp only [Act.put, List.getElem_toArray, List.getElem_cons_succ, List.getElem_cons_zero, List.setIfInBounds_toArray, List.set_cons_zero, List.set_cons_succ])
          refine wpAnyH_take (i := 2) (v := ?_) rfl (by kernel_rfl) (by kernel_rfl) (by kernel_rfl) (fun _ _ _ h => h) (Or.inl ⟨by rfl, ?_⟩) hHeld ?_
          rotate_left
          · intro w hSw; (try dsimp only at hSw); go_simp; (try with_reducible rfl)
          (try simp only [Act.put, List.getElem_toArray, List.getElem_cons_succ, List.getElem_cons_zero, List.setIfInBounds_toArray, List.set_cons_zero, List.set_cons_succ])
          refine wpAnyH_take (i := 3) (v := ?_) rfl (by kernel_rfl) (by kernel_rfl) (by kernel_rfl) (fun _ _ _ h => h) (Or.inl ⟨by rfl, ?_⟩) hHeld ?_
          rotate_left
          · intro w hSw; (try dsimp only at hSw); go_simp; (try with_reducible rfl)
          (try simp only [Act.put, List.getElem_toArray, List.getElem_cons_succ, List.getElem_cons_zero, List.setIfInBounds_toArray, List.set_cons_zero, List.set_cons_succ])
          refine wpAnyH_take (i := 5) (v := ?_) rfl (by kernel_rfl) (by kernel_rfl) (by kernel_rfl) (fun _ _ _ h => h) (Or.inl ⟨by rfl, ?_⟩) hHeld ?_
          rotate_left
          · intro w hSw; (try dsimp only at hSw); go_simp; (try with_reducible rfl)
          (try simp only [Act.put, List.getElem_toArray, List.getElem_cons_succ, List.getElem_cons_zero, List.setIfInBounds_toArray, List.set_cons_zero, List.set_cons_succ])
          refine wpAnyH_ready (rs := [4, 6]) (by kernel_rfl) (by simp) ?_
          refine (AllReadyH.cons rfl (fun K hK => ?_) (AllReadyH.cons rfl (fun K hK => ?_) AllReadyH.nil))
          go_simp
          refine hK.out _ _ ?_ (fun hHeld2 => ?_)
          · (try dsimp only); (first | (refine ⟨?_, ?_, ?_, ?_⟩ <;> assumption) | go_keep)
          clear hK K hHeld
          rename _ => hHeld
          (try simp only [Act.put, List.getElem_toArray, List.getElem_cons_succ, List.getElem_cons_zero, List.setIfInBounds_toArray, List.set_cons_zero, List.set_cons_succ])
          refine wpAnyH_ready (rs := [6]) (by kernel_rfl) (by simp) ?_
          refine (AllReadyH.cons rfl (fun K hK => ?_) AllReadyH.nil)
          go_simp
          refine hK.out _ _ ?_ (fun hHeld2 => ?_)
          · (try dsimp only); (first | (refine ⟨?_, ?_, ?_, ?_⟩ <;> assumption) | go_keep)
          clear hK K hHeld
          rename _ => hHeld
          (try simp only [Act.put, List.getElem_toArray, List.getElem_cons_succ, List.getElem_cons_zero, List.setIfInBounds_toArray, List.set_cons_zero, List.set_cons_succ])
          refine wpAnyH_ready (rs := [7]) (by kernel_rfl) (by simp) ?_
          refine (AllReadyH.cons rfl (fun K hK => ?_) AllReadyH.nil)
          (try rw [if_pos (by rfl)])
          refine wp_append_run _ _ _ rfl _ _ rfl rfl HAPP.out ?_
          refine hK.out _ _ ?_ (fun hHeld2 => ?_)
          · (try dsimp only); (first | (refine ⟨?_, ?_, ?_, ?_⟩ <;> assumption) | go_keep)
          clear hK K hHeld
          rename _ => hHeld
          (try simp only [Act.put, List.getElem_toArray, List.getElem_cons_succ, List.getElem_cons_zero, List.setIfInBounds_toArray, List.set_cons_zero, List.set_cons_succ])
          refine wpAnyH_take (i := 8) (v := ?_) rfl (by kernel_rfl) (by kernel_rfl) (by kernel_rfl) (fun _ _ _ h => h) (Or.inl ⟨by rfl, ?_⟩) hHeld ?_
          rotate_left
          · intro w hSw; (try dsimp only at hSw); go_simp; (try with_reducible rfl)
          (try simp only [Act.put, List.getElem_toArray, List.getElem_cons_succ, List.getElem_cons_zero, List.setIfInBounds_toArray, List.set_cons_zero, List.set_cons_succ])
          refine wpAnyH_take (i := 9) (v := ?_) rfl (by kernel_rfl) (by kernel_rfl) (by kernel_rfl) (fun _ _ _ h => h) (Or.inl ⟨by rfl, ?_⟩) hHeld ?_
          rotate_left
          · intro w hSw; (try dsimp only at hSw); go_simp; (try with_reducible rfl)
          (try simp only [Act.put, List.getElem_toArray, List.getElem_cons_succ, List.getElem_cons_zero, List.setIfInBounds_toArray, List.set_cons_zero, List.set_cons_succ])
          refine wpAnyH_ready (rs := [10]) (by kernel_rfl) (by simp) ?_
          refine (AllReadyH.cons rfl (fun K hK => ?_) AllReadyH.nil)
          go_simp
          refine hK.out _ _ ?_ (fun hHeld2 => ?_)
          · (try dsimp only); (first | (refine ⟨?_, ?_, ?_, ?_⟩ <;> assumption) | go_keep)
          clear hK K hHeld
          rename _ => hHeld
          (try simp only [Act.put, List.getElem_toArray, List.getElem_cons_succ, List.getElem_cons_zero, List.setIfInBounds_toArray, List.set_cons_zero, List.set_cons_succ])
          refine wpAnyH_done (by kernel_rfl) ?_ _
          refine NoPanic.normal ?_
          clear hHeld
          rotate_left 1
          go_simp
          refine hK.out _ _ ?_ (fun hHeld2 => ?_)
          · (try dsimp only); (first | (refine ⟨?_, ?_, ?_, ?_⟩ <;> assumption) | go_keep)
          clear hK K hHeld
          rename _ => hHeld
          (try simp only [Act.put, List.getElem_toArray, List.getElem_cons_succ, List.getElem_cons_zero, List.setIfInBounds_toArray, List.set_cons_zero, List.set_cons_succ])
          refine wpAnyH_ready (rs := [4]) (by kernel_rfl) (by simp) ?_
          refine (AllReadyH.cons rfl (fun K hK => ?_) AllReadyH.nil)
          go_simp
          refine hK.out _ _ ?_ (fun hHeld2 => ?_)
          · (try dsimp only); (first | (refine ⟨?_, ?_, ?_, ?_⟩ <;> assumption) | go_keep)
          clear hK K hHeld
          rename _ => hHeld
          (try simp only [Act.put, List.getElem_toArray, List.getElem_cons_succ, List.getElem_cons_zero, List.setIfInBounds_toArray, List.set_cons_zero, List.set_cons_succ])
          refine wpAnyH_ready (rs := [7]) (by kernel_rfl) (by simp) ?_
          refine (AllReadyH.cons rfl (fun K hK => ?_) AllReadyH.nil)
          (try rw [if_pos (by rfl)])
          refine wp_append_run _ _ _ rfl _ _ rfl rfl HAPP.out ?_
          refine hK.out _ _ ?_ (fun hHeld2 => ?_)
          · (try dsimp only); (first | (refine ⟨?_, ?_, ?_, ?_⟩ <;> assumption) | go_keep)
          clear hK K hHeld
          rename _ => hHeld
          (try simp only [Act.put, List.getElem_toArray, List.getElem_cons_succ, List.getElem_cons_zero, List.setIfInBounds_toArray, List.set_cons_zero, List.set_cons_succ])
          refine wpAnyH_take (i := 8) (v := ?_) rfl (by kernel_rfl) (by kernel_rfl) (by kernel_rfl) (fun _ _ _ h => h) (Or.inl ⟨by rfl, ?_⟩) hHeld ?_
          rotate_left
          · intro w hSw; (try dsimp only at hSw); go_simp; (try with_reducible rfl)
          (try simp only [Act.put, List.getElem_toArray, List.getElem_cons_succ, List.getElem_cons_zero, List.setIfInBounds_toArray, List.set_cons_zero, List.set_cons_succ])
          refine wpAnyH_take (i := 9) (v := ?_) rfl (by kernel_rfl) (by kernel_rfl) (by kernel_rfl) (fun _ _ _ h => h) (Or.inl ⟨by rfl, ?_⟩) hHeld ?_
          rotate_left
          · intro w hSw; (try dsimp only at hSw); go_simp; (try with_reducible rfl)
          (try simp only [Act.put, List.getElem_toArray, List.getElem_cons_succ, List.getElem_cons_zero, List.setIfInBounds_toArray, List.set_cons_zero, List.set_cons_succ])
          refine wpAnyH_ready (rs := [10]) (by kernel_rfl) (by simp) ?_
          refine (AllReadyH.cons rfl (fun K hK => ?_) AllReadyH.nil)
          go_simp
          refine hK.out _ _ ?_ (fun hHeld2 => ?_)
          · (try dsimp only); (first | (refine ⟨?_, ?_, ?_, ?_⟩ <;> assumption) | go_keep)
          clear hK K hHeld
          rename _ => hHeld
          (try simp only [Act.put, List.getElem_toArray, List.getElem_cons_succ, List.getElem_cons_zero, List.setIfInBounds_toArray, List.set_cons_zero, List.set_cons_succ])
          refine wpAnyH_done (by kernel_rfl) ?_ _
          refine NoPanic.normal ?_
          clear hHeld
          rotate_left 1
          all_goals
            go_wp2_with fail
            rw [Exit.noGoto_ret]
            obtain ⟨h1, h2, h3, h4⟩ := load_end (x := V0.heap.size) (o' := .deferred none) (bl := bl) (.int .i64 0) HEE.out.2.2.1 HEE.out.2.2.2.1 HEE.out.1 HEE.out.2.1 (by omega) (by have := HS.out.1; have := HS.out.2.2.1; have := HT.out.1.size; omega)
            have hres : (((E.setCell ⟨w.heap.size + 2, 0, none⟩ (.int .i64 0)).putObj V0.heap.size (.deferred none))).heap[w.heap.size + 2]? = some (.cells #[.int .i64 0] 24 (0, 0)) := by
              rw [World.putObj_heap_other (by have := HV.out.1.lt; omega), Joins.block_setCell HEE.out.2.2.1]; rfl
            have y0 := Joins.cell_of_block hres 0
            simp at y0
            refine marks_ret1 (v := .int .i64 0) h4 (by simp [results, Tryz.results73, go_sem, y0]) rfl ?_
            rw [HLM4.out, if_neg hlt]
            exact ⟨rfl, h1, fun _ => h2 HEE.out.2.2.2.2.2.2.2, h3⟩
      · intro acc W hI hsc hd
        simp only [Exit.inBlock, Exit.then]
        rw [Exit.noGoto_ret]
        have y0 := Joins.cell_of_block (World.putObj_heap_other (o := .deferred none) (show w.heap.size + 2 ≠ V0.heap.size by have := HV.out.1.lt; omega) |>.trans hI.err) 0
        simp at y0
        refine marks_ret1 (v := .int .i64 34) hd (by simp [results, Tryz.results73, go_sem, y0]) rfl ?_
        rw [← HLM3.out, hsc]
        have ne := HV.out.1.ne
        have lt := HV.out.1.lt
        have n0 := HV.out.1.n0
        have hsz := H1.out.2.2.2.1
        have hkp : ∀ (b : Nat) (o : Obj), V0.heap[b]? = some o → b ≠ bl → b ≠ z → b ≠ w.heap.size + 2 → (b < nr ∨ tagOf o ≠ some 29) → (W.putObj V0.heap.size (.deferred none)).heap[b]? = some o := fun b o hb h1 h2 h3 h4 =>
          (World.putObj_heap_other (by have := heap_lt hb; omega)).trans (hI.fr b o hb h1 h2 h3 h4)
        refine ⟨rfl, HV.out.2.2.2.2.2.2.1.keeps fun b o hb ht => ?_, (fun h => by simp at h), ?_⟩
        · refine hkp b o hb ?_ ?_ ?_ ?_
          · rintro rfl; obtain ⟨c, h⟩ := HV.out.1.bl; rw [h] at hb; cases hb; simp [tagOf] at ht
          · rintro rfl; obtain ⟨c, h⟩ := HV.out.1.z; rw [h] at hb; cases hb; simp [tagOf] at ht
          · rintro rfl; obtain ⟨c, h⟩ := HV.out.1.e6; rw [h] at hb; cases hb; simp [tagOf] at ht
          · right; rcases ht with ht | ht | ht | ht <;> rw [ht] <;> simp
        · have hT := HV.out.2.2.2.2.2.2.2.1
          refine ⟨hI.os.trans hT.os, hI.tape.trans hT.tape, hI.output.trans hT.output, by have := hI.size; have := hT.size; simp; omega, fun b o hb hc => ?_⟩
          have hb0 := hT.block b o hb hc
          have hlt := heap_lt hb
          refine hkp b o hb0 ?_ ?_ ?_ ?_
          · rintro rfl; obtain ⟨c, h⟩ := HV.out.1.bl; rw [h] at hb0; cases hb0
            rcases hc.2 with hc | hc
            · omega
            · exact hc (by simp [tagOf, TLg])
          · have := HS.out.2.2.1; have := HT.out.1.size; omega
          · omega
          · rcases hc.2 with hc | hc
            · exact .inl hc
            · right; intro he; exact hc (by rw [he]; simp [TLg])
    · rw [if_pos hkf] at hLM
      have HLM3 := Lib.hid hLM; clear hLM
      go_wp2_with (go_at_call 46; refine HE.out.mono ?_; rintro e w4 ⟨rfl, q, rfl⟩; have q2' : (w3.drewN q).cell? ⟨w.heap.size + 2, 0, none⟩ = some (.int .i64 0) := q2; have f2' : (w3.drewN q).frozen? ⟨w.heap.size + 2, 0, none⟩ = false := f2)
      rw [Exit.noGoto_ret]
      have hb2 : (w3.drewN q).heap[w.heap.size + 2]? = some (.cells #[.int .i64 0] 24 (0, 0)) := HT.out.2.1
      have hb2' : ((w3.drewN q).setCell ⟨w.heap.size + 2, 0, none⟩ (.int .i64 34)).heap[w.heap.size + 2]? = some (.cells #[.int .i64 34] 24 (0, 0)) := by rw [Joins.block_setCell hb2]; rfl
      have y0 := Joins.cell_of_block hb2' 0
      simp at y0
      refine marks_ret0 (v := .int .i64 34) (by simp [results, Tryz.results73, go_sem, y0]) rfl ?_
      rw [← HLM3.out]
      have hsz := H1.out.2.2.2.1
      have hne : ∀ (b : Nat) (o : Obj), w3.heap[b]? = some o → (tagOf o ≠ some 24) → ((w3.drewN q).setCell ⟨w.heap.size + 2, 0, none⟩ (.int .i64 34)).heap[b]? = some o := fun b o hb ht =>
        heap_setCell_ne (w := w3.drewN q) hb (by rintro rfl; rw [HT.out.2.1] at hb; cases hb; exact ht rfl)
      refine ⟨rfl, H3.out.2.1.keeps fun b o hb ht => hne b o hb (by rcases ht with ht | ht | ht | ht <;> rw [ht] <;> simp), (fun h => by simp at h), ?_⟩
      refine ⟨HT.out.1.os, HT.out.1.tape, HT.out.1.output, Nat.le_trans HT.out.1.size (by simp [World.setCell]), fun b o hb hc => heap_setCell_ne (w := w3.drewN q) (HT.out.1.block b o hb hc) (by have := heap_lt hb; omega)⟩
  · go_wp2_with fail
    rw [Exit.noGoto_ret]
    have hb2 := HT.out.2.1
    have hb2' : (w3.setCell ⟨w.heap.size + 2, 0, none⟩ (.int .i64 RD.2.2)).heap[w.heap.size + 2]? = some (.cells #[.int .i64 RD.2.2] 24 (0, 0)) := by rw [Joins.block_setCell hb2]; rfl
    have y0 := Joins.cell_of_block hb2' 0
    simp at y0
    refine marks_ret0 (v := .int .i64 RD.2.2) (by simp [results, Tryz.results73, go_sem, y0]) rfl ?_
    have hLM := HLM2.out
    rw [hRD, if_pos her] at hLM
    rw [← hLM]
    have hsz := H1.out.2.2.2.1
    have hne : ∀ (b : Nat) (o : Obj), w3.heap[b]? = some o → (tagOf o ≠ some 24) → (w3.setCell ⟨w.heap.size + 2, 0, none⟩ (.int .i64 RD.2.2)).heap[b]? = some o := fun b o hb ht =>
      heap_setCell_ne hb (by rintro rfl; rw [hb2] at hb; cases hb; exact ht rfl)
    refine ⟨rfl, H3.out.2.1.keeps fun b o hb ht => hne b o hb (by rcases ht with ht | ht | ht | ht <;> rw [ht] <;> simp), fun h => absurd h her, ?_⟩
    refine ⟨HT.out.1.os, HT.out.1.tape, HT.out.1.output, Nat.le_trans HT.out.1.size (by simp [World.setCell]), fun b o hb hc => heap_setCell_ne (HT.out.1.block b o hb hc) (by have := heap_lt hb; omega)⟩
end Go.Proofs.YtnljhabpcoiihaaGreatDoor
