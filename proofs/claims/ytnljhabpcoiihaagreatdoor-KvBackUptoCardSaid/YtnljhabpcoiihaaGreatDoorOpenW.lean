/- A log's Open. -/
import Derived.Test.YtnljhabpcoiihaaGreatDoorLoad
set_option linter.all false
namespace Go.Proofs.YtnljhabpcoiihaaGreatDoor
open Go.RowKit

def openAll : List Int → Nat → DiskM → LogM → DiskM × Option LogM × Int
  | [], _, D, G => (D, some G, 0)
  | k :: r, i, D, G =>
    if (LogM.load D (if i = 0 then { G with first := k } else G) k r.isEmpty).2.2 ≠ 0 then
      ((LogM.load D (if i = 0 then { G with first := k } else G) k r.isEmpty).1, none, (LogM.load D (if i = 0 then { G with first := k } else G) k r.isEmpty).2.2)
    else openAll r (i + 1) (LogM.load D (if i = 0 then { G with first := k } else G) k r.isEmpty).1 (LogM.load D (if i = 0 then { G with first := k } else G) k r.isEmpty).2.1
def LogM.new (name : List UInt8) (most : Int) : LogM := { name := name, most := most, parts := [], recs := [], first := 0, dirty := false }
def openM (D : DiskM) (name : List UInt8) (most : Int) : DiskM × Option LogM × Int :=
  if Wal.nameB name = false ∨ most < 1 then (D, none, 1)
  else if D.down = true then (D, none, 32)
  else openAll (numbersB name D.names) 0 D (LogM.new name most)

theorem numOf_range {name f : List UInt8} {k : Int} (h : numOf name f = some k) : 0 ≤ k ∧ k < 1000000000 := by
  unfold numOf at h
  split at h
  · rename_i hp
    split at h
    · cases h
    · split at h
      · split at h
        · rename_i v hv hF
          cases h
          unfold Wal.fileB at hF
          split at hF
          · subst hF
            simp at hp
          · omega
        · cases h
      · cases h
  · cases h
theorem numbersB_range {name : List UInt8} {l : List (List UInt8)} : ∀ k ∈ numbersB name l, 0 ≤ k ∧ k < 1000000000 := by
  intro k hk
  unfold numbersB at hk
  have := (List.mergeSort_perm _ _).mem_iff.1 hk
  obtain ⟨f, _, hf⟩ := List.mem_filterMap.1 this
  exact numOf_range hf
theorem numbersB_length (name : List UInt8) (l : List (List UInt8)) : (numbersB name l).length ≤ l.length := by
  unfold numbersB
  rw [List.length_mergeSort]
  exact List.length_filterMap_le _ _

theorem seqF_length : ∀ (f : Nat) (l : List UInt8), (seqF f l).length ≤ f := by
  intro f
  induction f with
  | zero => intro l; simp [seqF]
  | succ f ih =>
    intro l
    unfold seqF
    split
    · simp
    split
    · have := ih (l.drop (Wal.nextB l).2.1); simp only [List.length_cons]; omega
    · simp
theorem scanS_length {last : Bool} {l : List (List UInt8 × Nat × Nat)} {xs : List (List UInt8)} {m : Nat} (h : scanS last l = some (xs, m)) : xs.length ≤ l.length := by
  induction l generalizing xs m with
  | nil => cases h; simp
  | cons a r ih =>
    obtain ⟨x, k, e⟩ := a
    unfold scanS at h
    split at h
    · split at h
      · rename_i ys q hs
        cases h
        have := ih hs
        simp; omega
      · cases h
    · split at h
      · cases h; simp
      · cases h
theorem load_few {n : Nat} {w : World} {bd : Nat} {D : DiskM} (h : DiskR n w bd D) (G : LogM) (k : Int) (last : Bool) :
    (LogM.load D G k last).2.1.recs.length ≤ G.recs.length + 1073741825 ∧ (LogM.load D G k last).2.1.parts.length ≤ G.parts.length + 1 := by
  have hl := read_len h (Wal.fileB G.name k)
  unfold LogM.load
  split
  · simp
  · split
    · simp
    · split
      · simp
      · rename_i xs m hs
        have h1 := scanS_length hs
        have h2 := seqF_length ((D.read (Wal.fileB G.name k)).2.1.length + 1) (D.read (Wal.fileB G.name k)).2.1
        split <;> simp <;> omega

def manyR (j : Nat) : Nat := 1073741825 * j
theorem manyR_succ (j : Nat) : manyR j + 1073741825 = manyR (j + 1) := by unfold manyR; omega
theorem manyR_le {j : Nat} (h : j ≤ 16) : manyR j ≤ 549755813888 := by unfold manyR; omega
theorem load_many {n : Nat} {w : World} {bd : Nat} {D : DiskM} (h : DiskR n w bd D) {G : LogM} {k : Int} {last : Bool} {j : Nat} (hr : G.recs.length ≤ manyR j) (hp : G.parts.length ≤ j) :
    (LogM.load D G k last).2.1.recs.length ≤ manyR (j + 1) ∧ (LogM.load D G k last).2.1.parts.length ≤ j + 1 := by
  have := load_few h G k last
  rw [← manyR_succ]
  exact ⟨by omega, by omega⟩
theorem few_ok {G : LogM} {j : Nat} (hj : j ≤ 16) (hr : G.recs.length ≤ manyR j) (hp : G.parts.length ≤ j) : G.recs.length ≤ 549755813888 ∧ G.parts.length ≤ 549755813888 :=
  ⟨Nat.le_trans hr (manyR_le hj), Nat.le_trans hp (Nat.le_trans hj (by decide))⟩

/-- the first number is set -/
theorem LogX.fstSet {n : Nat} {w : World} {bl bd : Nat} {pv rv : Value} {vs : List Value} {G : LogM} (h : LogX n w bl bd pv rv vs G) (k : Int) (hk : 0 ≤ k ∧ k ≤ 1000000000) : LogX n (w.setCell ⟨bl, 5, none⟩ (.int .i64 k)) bl bd pv rv vs { G with first := k } := by
  have hother : ∀ (b : Nat) (o : Obj), w.heap[b]? = some o → tagOf o ≠ some 143 → (w.setCell ⟨bl, 5, none⟩ (.int .i64 k)).heap[b]? = some o := fun b o hb ht =>
    heap_setCell_ne hb (by rintro rfl; rw [h.at_] at hb; cases hb; exact ht rfl)
  exact ⟨h.le, by rw [Joins.block_setCell h.at_]; rfl, own_keeps h.parts fun b o hb ht => hother b o hb (by rw [ht]; simp), own_keeps h.recs fun b o hb ht => hother b o hb (by rw [ht]; simp),
    fun k v l hv hl => (h.each k v l hv hl).keeps fun b o hb ht => hother b o hb (by rw [ht]; simp), h.few, hk, h.nm⟩

def OpenPost (n bd : Nat) (w : World) (R : DiskM × Option LogM × Int) (e : Ending) (w' : World) : Prop :=
  (match R.2.1 with
    | some G => ∃ bl, e = .returned (.tuple #[.pointer (some ⟨bl, 0, none⟩), .int .i64 0]) ∧ w.heap.size ≤ bl ∧ LogR n w' bl bd G
    | none => e = .returned (.tuple #[.pointer none, .int .i64 R.2.2])) ∧ DiskR n w' bd R.1 ∧ Turn n TLd w w'

/-- the same, with the log's own bound: no block that stood is turned but the disk's -/
def OpenPost2 (n bd : Nat) (w : World) (R : DiskM × Option LogM × Int) (e : Ending) (w' : World) : Prop :=
  (match R.2.1 with
    | some G => ∃ bl, e = .returned (.tuple #[.pointer (some ⟨bl, 0, none⟩), .int .i64 0]) ∧ w.heap.size ≤ bl ∧ LogR w.heap.size w' bl bd G
    | none => e = .returned (.tuple #[.pointer none, .int .i64 R.2.2])) ∧ DiskR n w' bd R.1 ∧ Turn2 n w.heap.size TDk TLg w w'
theorem LogR.mono {n m : Nat} {w : World} {bl bd : Nat} {G : LogM} (h : LogR m w bl bd G) (hn : n ≤ m) : LogR n w bl bd G := by
  obtain ⟨pv, rv, vs, h⟩ := h
  have ho : ∀ {e : TypeId} {size : Nat} {v : Value} {k : Nat} {xs : List Value}, w.ownsRow m e size v k xs → w.ownsRow n e size v k xs := by
    rintro e size v k xs ⟨hl, h | ⟨g, cap, cur, hv, hg, r⟩⟩
    · exact ⟨hl, .inl h⟩
    · exact ⟨hl, .inr ⟨g, cap, cur, hv, Nat.le_trans hn hg, r⟩⟩
  exact ⟨pv, rv, vs, Nat.le_trans hn h.le, h.at_, ho h.parts, ho h.recs, h.each, h.few, h.fst, h.nm⟩

set_option maxRecDepth 100000 in
set_option maxHeartbeats 400000 in
theorem open_x (n bd : Nat) (D : DiskM) (name : List UInt8) (most : Int) (hnm : name.length ≤ 1048576) (w : World) (hD : DiskR n w bd D) (hg : Glob n w) (hn : n ≤ w.heap.size) :
    Calls Tryz.prog 44 #[.pointer (some ⟨bd, 0, none⟩), .string ⟨name.toArray⟩, .int .i64 most] w (OpenPost2 n bd w (openM D name most)) := by
  obtain ⟨RS, hRS⟩ : ∃ R, openM D name most = R := ⟨_, rfl⟩
  rw [hRS]
  unfold openM at hRS
  have HD := Lib.hid (And.intro hD (And.intro hg hn)); clear hD hg
  have hNC := name_c name (by omega) w
  obtain ⟨NB, hNB⟩ : ∃ b, Wal.nameB name = b := ⟨_, rfl⟩
  rw [hNB] at hNC hRS
  have HN := Lib.hid hNC; clear hNC
  have HR := Lib.hid hRS; clear hRS
  cases NB with
  | false =>
    go_enter Tryz.func44, Tryz.ntmps44
    go_wp2_with (go_at_call 70; refine HN.out.mono ?_; rintro e w1 ⟨rfl, hb⟩; have HB := Lib.hid hb; clear hb)
    go_ret2
    have hR := HR.out
    rw [if_pos (by simp)] at hR
    rw [← hR]
    exact ⟨rfl, HD.out.1.below HB.out, Turn2.of_below HB.out⟩
  | true =>
    by_cases hm : most < 1
    · go_enter Tryz.func44, Tryz.ntmps44
      go_wp2_with (go_at_call 70; refine HN.out.mono ?_; rintro e w1 ⟨rfl, hb⟩; have HB := Lib.hid hb; clear hb)
      go_ret2
      have hR := HR.out
      rw [if_pos (by simp [hm])] at hR
      rw [← hR]
      exact ⟨rfl, HD.out.1.below HB.out, Turn2.of_below HB.out⟩
    · have hR := HR.out
      rw [if_neg (by simp [hm])] at hR
      have HR2 := Lib.hid hR; clear hR
      obtain ⟨dn, hdn⟩ : ∃ b, D.down = b := ⟨_, rfl⟩
      have HDN := Lib.hid hdn; clear hdn
      cases dn with
      | true =>
        go_enter Tryz.func44, Tryz.ntmps44
        go_wp2_with (first
          | (go_at_call 70; refine HN.out.mono ?_; rintro e w1 ⟨rfl, hb⟩; have HB := Lib.hid hb; clear hb)
          | (go_at_call 71; refine (down_c n bd D w1 (HD.out.1.below HB.out)).mono ?_; rintro e w2 ⟨rfl, rfl⟩; rw [HDN.out]))
        go_ret2
        have hR := HR2.out
        rw [if_pos HDN.out] at hR
        rw [← hR]
        exact ⟨rfl, HD.out.1.below HB.out, Turn2.of_below HB.out⟩
      | false =>
        have hR := HR2.out
        rw [if_neg (by rw [HDN.out]; simp)] at hR
        have HR3 := Lib.hid hR; clear hR
        obtain ⟨N, hN⟩ : ∃ N, numbersB name D.names = N := ⟨_, rfl⟩
        have hNr := numbersB_range (name := name) (l := D.names)
        have hNl : N.length ≤ 16 := by
          rw [← hN]
          refine Nat.le_trans (numbersB_length _ _) ?_
          obtain ⟨_, _, _, _, hX⟩ := HD.out.1
          unfold DiskM.names; rw [List.length_mergeSort, List.length_map]; exact hX.fits.2.2.2.1
        have hR := HR3.out
        rw [hN] at hNr hR
        have HNN := Lib.hid (And.intro hN (And.intro hNr hR)); clear hN hNr hR
        have HWL := Lib.hid (show wrap64 ((N.length : Int) - 1) = (N.length : Int) - 1 by unfold wrap64; omega)
        have hNC : ∀ W, DiskR n W bd D → Below w.heap.size w W → Calls Tryz.prog 72 #[.pointer (some ⟨bd, 0, none⟩), .string ⟨name.toArray⟩] W fun e w' =>
            ∃ v, e = .returned v ∧ w'.ownsRow W.heap.size 3 1 v N.length (N.map (Value.int .i64)) ∧ Below W.heap.size W w' := by
          intro W hDW hbW
          have h := numbers_c n bd D name hnm W hDW (HD.out.2.1.below (hbW.mono HD.out.2.2)) (Nat.le_trans HD.out.2.2 hbW.size)
          rw [HDN.out] at h
          simp only [Bool.false_eq_true, if_false, HNN.out.1] at h
          exact h
        have HNC := Lib.hid hNC; clear hNC
        go_enter Tryz.func44, Tryz.ntmps44
        go_wp2_with (first
          | (go_at_call 70; refine HN.out.mono ?_; rintro e w1 ⟨rfl, hb⟩; have HB := Lib.hid hb; clear hb)
          | (go_at_call 71; refine (down_c n bd D w1 (HD.out.1.below HB.out)).mono ?_; rintro e w2 ⟨rfl, rfl⟩; rw [HDN.out])
          | (go_at_call 72; refine (HNC.out _ ((HD.out.1.below HB.out).below (bnew _ _)) (HB.out.trans ((bnew _ _).mono HB.out.size))).mono ?_; rintro e w3 ⟨v, rfl, hown, hb3⟩; obtain ⟨A1, c1, rfl, -, -, -⟩ := own_slice hown; have HO := Lib.hid (And.intro hown hb3); clear hown hb3))
        have hn16 : name.length ≤ 16 := by
          unfold Wal.nameB at hNB
          simp at hNB
          omega
        obtain ⟨bl, hbl⟩ : ∃ b, w2.heap.size = b := ⟨_, rfl⟩
        have hb2 := HB.out
        have hLg0 : LogR w.heap.size (w2.alloc (.cells #[.pointer (some ⟨bd, 0, none⟩), .string ⟨name.toArray⟩, .int .i64 most, .slice none 0 0, .slice none 0 0, .int .i64 0, .bool false] 143)) bl bd (LogM.new name most) :=
          ⟨.slice none 0 0, .slice none 0 0, [], by have := hb2.size; omega, by rw [← hbl]; exact heap_alloc_new _ _, World.ownsRow_nil _ _ _ _, World.ownsRow_nil _ _ _ _, (by intro k v l h; simp at h), ⟨Nat.zero_le _, Nat.zero_le _⟩, (show (0 : Int) ≤ 0 ∧ (0 : Int) ≤ 1000000000 by decide), hn16⟩
        have hLg := hLg0.below HO.out.2
        have hD3 := ((HD.out.1.below hb2).below (bnew w2 (.cells #[.pointer (some ⟨bd, 0, none⟩), .string ⟨name.toArray⟩, .int .i64 most, .slice none 0 0, .slice none 0 0, .int .i64 0, .bool false] 143))).below HO.out.2
        have hb3 : Below w.heap.size w w3 := bstep (bstep hb2 (bnew w2 _)) HO.out.2
        have hlt3 : w.heap.size ≤ bl := by have := hb2.size; omega
        have HS := Lib.hid (And.intro hLg (And.intro hD3 (And.intro hb3 (And.intro hlt3 hbl)))); clear hLg0 hLg hD3 hb3 hb2 hlt3
        rw [hbl]
        clear hbl hn16
        go_loopw [37] (fun i wr => ∃ (j : Nat) (Dj : DiskM) (Gj : LogM), j ≤ N.length ∧ i = .int .i64 j ∧ openAll (N.drop j) j Dj Gj = RS ∧ DiskR n wr bd Dj ∧ LogR w.heap.size wr bl bd Gj ∧ Gj.recs.length ≤ manyR j ∧ Gj.parts.length ≤ j ∧ Turn2 n w.heap.size TDk TLg w3 wr) (fun i _ => N.length - (intOf i).toNat)
        case atStart => exact ⟨0, D, LogM.new name most, Nat.zero_le _, rfl, HNN.out.2.2, HS.out.2.1, HS.out.1, Nat.zero_le _, Nat.zero_le _, Turn2.refl _ _ _ _ _⟩
        case round =>
          obtain ⟨j, Dj, Gj, hj, rfl, hop, hDj, hLj, hrj, hpj, hTj⟩ := hrel
          have HJW := Lib.hid (show wrap64 ((j : Int) + 1) = (j : Int) + 1 by unfold wrap64; omega)
          by_cases hlt : j < N.length
          · have hrd : Rd 0 wr A1 (N.map (Value.int .i64)) := (Rd.of_own (own_keep HO.out.1 fun b o hb hv _ => hTj.block b o hb (by
              rcases HO.out.1.2 with ⟨h1, _⟩ | ⟨g, cap, cur, h1, _, hh, _⟩
              · rw [h1] at hv; simp [Value.ownBlock] at hv
              · rw [h1] at hv; simp only [Value.ownBlock, Option.some.injEq] at hv; subst hv; rw [hb] at hh; cases hh; constructor <;> (right; simp [tagOf, TDk, TLg])))).mono (Nat.zero_le _)
            obtain ⟨b, o, hA, hcell⟩ := hrd.addr (by rw [List.length_map]; omega)
            have q0 := hcell j (by rw [List.length_map]; exact hlt)
            rw [List.getElem?_map, List.getElem?_eq_getElem hlt] at q0
            simp only [Option.map_some] at q0
            subst hA
            obtain ⟨k, hk⟩ : ∃ k, N[j] = k := ⟨_, rfl⟩
            have hkr := HNN.out.2.1 k (hk ▸ List.getElem_mem hlt)
            rw [hk] at q0
            rw [List.drop_eq_getElem_cons hlt, hk, openAll] at hop
            have hem : (N.drop (j + 1)).isEmpty = ((j : Int) == (N.length : Int) - 1) := by
              rw [Bool.eq_iff_iff, List.isEmpty_iff, List.drop_eq_nil_iff, beq_iff_eq]
              omega
            have hst : ∀ (W : World) (G1 : LogM), (if j = 0 then { Gj with first := k } else Gj) = G1 → DiskR n W bd Dj → LogR w.heap.size W bl bd G1 → Turn2 n w.heap.size TDk TLg w3 W → 
                Calls Tryz.prog 73 #[.pointer (some ⟨bl, 0, none⟩), .int .i64 k, .bool ((j : Int) == (N.length : Int) - 1)] W fun e w5 => ∃ L : DiskM × LogM × Int, e = .returned (.int .i64 L.2.2) ∧ DiskR n w5 bd L.1 ∧ Turn2 n w.heap.size TDk TLg w3 w5 ∧
                  (L.2.2 ≠ 0 → RS = (L.1, none, L.2.2)) ∧ (L.2.2 = 0 → LogR w.heap.size w5 bl bd L.2.1 ∧ openAll (N.drop (j + 1)) (j + 1) L.1 L.2.1 = RS ∧ L.2.1.recs.length ≤ manyR (j + 1) ∧ L.2.1.parts.length ≤ j + 1) := by
              intro W G1 hG1 hDW hLW hTW
              have hb3 := HS.out.2.2.1
              have hnW : n ≤ W.heap.size := Nat.le_trans HD.out.2.2 (Nat.le_trans hb3.size hTW.size)
              have hgW : Glob n W := HD.out.2.1.below ((hb3.mono HD.out.2.2).trans (hTW.below HD.out.2.2 (Nat.le_trans HD.out.2.2 hb3.size)))
              have hr1 : G1.recs.length ≤ manyR j := by rw [← hG1]; split <;> exact hrj
              have hp1 : G1.parts.length ≤ j := by rw [← hG1]; split <;> exact hpj
              refine (load_c n w.heap.size bl bd Dj G1 k _ hkr.1 (Int.le_of_lt hkr.2) W hDW hLW hgW HD.out.2.2 (Nat.le_trans hb3.size hTW.size) (few_ok (j := j) (by omega) hr1 hp1)).mono ?_
              rintro e w5 ⟨rfl, h1, h2, h3⟩
              rw [hG1, hem] at hop
              refine ⟨_, rfl, h1, hTW.trans h3, fun h => ?_, fun h => ?_⟩
              · rw [if_pos h] at hop; exact hop.symm
              · rw [if_neg (by simp [h])] at hop
                exact ⟨h2 h, hop, load_many hDW hr1 hp1⟩
            have HJ := Lib.hid (And.intro hst (And.intro hDj (And.intro hLj (And.intro hTj (And.intro hkr hrd)))))
            clear hst hop hDj hLj hrj hpj hTj hkr hrd hem hcell
            by_cases h0 : j = 0
            · subst h0
              rw [Nat.add_zero] at q0
              obtain ⟨pv, rv, vs, hX⟩ := HJ.out.2.2.1
              have c5 := Joins.cell_of_block hX.at_ 5
              have f5 := Joins.unfrozen_of_block hX.at_ 5
              simp at c5
              have HX := Lib.hid hX; clear hX
              have hwl := HWL.out
              have hjw := HJW.out
              simp only [Int.natCast_zero, Int.zero_add] at hjw
              go_wp2_with fail
              refine (HJ.out.1 _ { Gj with first := k } rfl (HJ.out.2.1.keeps fun b o hb ht => heap_setCell_ne hb (by rintro rfl; rw [HX.out.at_] at hb; cases hb; simp [tagOf] at ht)) ⟨_, _, _, HX.out.fstSet k ⟨HJ.out.2.2.2.2.1.1, Int.le_of_lt HJ.out.2.2.2.2.1.2⟩⟩ (HJ.out.2.2.2.1.setCell HX.out.at_ HX.out.le (by simp [TLg]) 5 _)).mono ?_
              rintro e w5 ⟨L, rfl, hR5, hT5, hno, hyes⟩
              have H5 := Lib.hid (And.intro hR5 (And.intro hT5 (And.intro hno hyes))); clear hR5 hT5 hno hyes
              by_cases her : L.2.2 = 0
              · go_wp2
                obtain ⟨q1, q2, q3, q4⟩ := H5.out.2.2.2 her
                exact ⟨⟨0 + 1, L.1, L.2.1, by omega, by simp, q2, H5.out.1, q1, q3, q4, H5.out.2.1⟩, by simp [intOf]; omega⟩
              · go_wp2
                go_ret2
                rw [H5.out.2.2.1 her]
                exact ⟨rfl, H5.out.1, (Turn2.of_below HS.out.2.2.1).trans H5.out.2.1⟩
            · have h0' : ¬ (j : Int) = 0 := by omega
              have hwl := HWL.out
              have hjw := HJW.out
              go_wp2_with fail
              refine (HJ.out.1 _ Gj (if_neg h0) HJ.out.2.1 HJ.out.2.2.1 HJ.out.2.2.2.1).mono ?_
              rintro e w5 ⟨L, rfl, hR5, hT5, hno, hyes⟩
              have H5 := Lib.hid (And.intro hR5 (And.intro hT5 (And.intro hno hyes))); clear hR5 hT5 hno hyes
              by_cases her : L.2.2 = 0
              · go_wp2
                obtain ⟨q1, q2, q3, q4⟩ := H5.out.2.2.2 her
                exact ⟨⟨j + 1, L.1, L.2.1, by omega, by simp, q2, H5.out.1, q1, q3, q4, H5.out.2.1⟩, by simp [intOf]; omega⟩
              · go_wp2
                go_ret2
                rw [H5.out.2.2.1 her]
                exact ⟨rfl, H5.out.1, (Turn2.of_below HS.out.2.2.1).trans H5.out.2.1⟩
          · have hjN : j = N.length := by omega
            subst hjN
            rw [List.drop_length, openAll] at hop
            have HJ := Lib.hid (And.intro hop (And.intro hDj (And.intro hLj hTj))); clear hop hDj hLj hTj hrj hpj
            go_wp2
            go_ret2
            rw [← HJ.out.1]
            exact ⟨⟨bl, rfl, HS.out.2.2.2.1, HJ.out.2.2.1⟩, HJ.out.2.1, (Turn2.of_below HS.out.2.2.1).trans HJ.out.2.2.2⟩

theorem open_c (n bd : Nat) (D : DiskM) (name : List UInt8) (most : Int) (hnm : name.length ≤ 1048576) (w : World) (hD : DiskR n w bd D) (hg : Glob n w) (hn : n ≤ w.heap.size) :
    Calls Tryz.prog 44 #[.pointer (some ⟨bd, 0, none⟩), .string ⟨name.toArray⟩, .int .i64 most] w (OpenPost n bd w (openM D name most)) := by
  refine (open_x n bd D name most hnm w hD hg hn).mono ?_
  obtain ⟨R, hR⟩ : ∃ R, openM D name most = R := ⟨_, rfl⟩
  rw [hR]
  obtain ⟨D', o, c⟩ := R
  rintro e w' ⟨h1, h2, h3⟩
  refine ⟨?_, h2, h3.turn hn⟩
  cases o with
  | none => exact h1
  | some G =>
    obtain ⟨bl, h4, h5, h6⟩ := h1
    exact ⟨bl, h4, h5, h6.mono hn⟩
end Go.Proofs.YtnljhabpcoiihaaGreatDoor
