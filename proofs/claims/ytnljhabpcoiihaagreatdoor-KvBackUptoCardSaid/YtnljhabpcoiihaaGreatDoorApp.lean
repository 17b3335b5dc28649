/- A disk's Append. -/
import Derived.Test.YtnljhabpcoiihaaGreatDoorThere
set_option linter.all false
namespace Go.Proofs.YtnljhabpcoiihaaGreatDoor
open Go.RowKit

/-- the entries that a range has not yet come to -/
def leftX (xs : List FEnt) (seen : Array Nat) : List FEnt := xs.filter fun x => !seen.contains x.born
def sumX (xs : List FEnt) : Nat := (xs.map fun x => x.f.b.length).sum
theorem leftX_empty (xs : List FEnt) : leftX xs #[] = xs := by simp [leftX]
theorem leftOf_ents (xs : List FEnt) (seen : Array Nat) : (leftOf (xs.map FEnt.ent).toArray seen) = ((leftX xs seen).map FEnt.ent).toArray := by
  unfold leftOf leftX
  rw [List.filter_toArray, List.filter_map]
  rfl
theorem sumX_same (xs : List FEnt) : sumX xs = sumLen (xs.map (·.f)) := by
  simp [sumX, sumLen, List.map_map]
  rfl
theorem leftX_push (xs : List FEnt) (hn : (xs.map (·.born)).Nodup) (seen : Array Nat) (x : FEnt) (hx : x ∈ leftX xs seen) :
    sumX (leftX xs (seen.push x.born)) + x.f.b.length = sumX (leftX xs seen) ∧ (leftX xs (seen.push x.born)).length < (leftX xs seen).length := by
  have e : leftX xs (seen.push x.born) = (leftX xs seen).filter fun y => y.born != x.born := by
    unfold leftX
    rw [List.filter_filter]
    congr 1
    funext y
    simp only [Array.contains_push, Bool.not_or, bne]
    rw [Bool.and_comm]
  rw [e]
  have hn2 : ((leftX xs seen).map (·.born)).Nodup := (List.filter_sublist.map _).nodup hn
  generalize leftX xs seen = ys at hx hn2
  clear e hn
  induction ys with
  | nil => simp at hx
  | cons y r ih =>
    rw [List.map_cons, List.nodup_cons] at hn2
    rcases List.mem_cons.1 hx with h | h
    · subst h
      have : r.filter (fun y => y.born != x.born) = r := List.filter_eq_self.2 fun z hz => by
        simp only [bne_iff_ne, ne_eq]
        intro e
        exact hn2.1 (e ▸ List.mem_map_of_mem hz)
      rw [List.filter_cons, if_neg (by simp), this]
      simp only [sumX, List.map_cons, List.sum_cons, List.length_cons]
      omega
    · obtain ⟨h1, h2⟩ := ih h hn2.2
      have hne : y.born ≠ x.born := fun e => hn2.1 (e ▸ List.mem_map_of_mem h)
      rw [List.filter_cons, if_pos (by simpa using hne)]
      simp only [sumX, List.map_cons, List.sum_cons, List.length_cons] at h1 ⊢
      omega

def DiskM.append (D : DiskM) (s : List UInt8) (b : List UInt8) : DiskM × Int :=
  if (D.step (dnameB s)).2 ≠ 0 then D.step (dnameB s)
  else match fileAt D.files s with
    | none =>
      if 16 ≤ D.files.length then ((D.step (dnameB s)).1, 3)
      else if D.room < (sumLen D.files : Int) + b.length then ((D.step (dnameB s)).1, 30)
      else ({ (D.step (dnameB s)).1 with files := D.files ++ [{ name := s, b := b, safe := 0 }] }, 0)
    | some f =>
      if D.room < (sumLen D.files : Int) + b.length then ((D.step (dnameB s)).1, 30)
      else ({ (D.step (dnameB s)).1 with files := setFile D.files { f with b := f.b ++ b } }, 0)

theorem List.Sublist.sum_le' {a b : List Nat} (h : a.Sublist b) : a.sum ≤ b.sum := by
  induction h with
  | slnil => simp
  | cons _ _ ih => simp; omega
  | cons_cons _ _ ih => simp; omega

theorem DiskX.below {n : Nat} {w w' : World} {bd bm clock : Nat} {pv : Value} {xs : List FEnt} {D : DiskM} (h : DiskX n w bd bm clock pv xs D) (hb : Below w.heap.size w w') : DiskX n w' bd bm clock pv xs D :=
  h.keeps (Keeps8.of_below hb)

/-- a file is laid -/
theorem DiskX.lay {n : Nat} {w w' : World} {bd bm clock : Nat} {pv : Value} {xs : List FEnt} {D : DiskM} (h : DiskX n w bd bm clock pv xs D) (f : FileM) (blk : Nat) (hn : n ≤ blk) (hw : w.heap.size ≤ blk)
    (hnew : fileAt D.files f.name = none) (hm : w'.heap[bm]? = some (.map ((xs ++ [({ f := f, blk := blk, born := clock } : FEnt)]).map FEnt.ent).toArray (clock + 1)))
    {v' : Value} (hb : w'.heap[blk]? = some (.cells #[v', .int .i64 (f.safe : Int)] 91 (0, 0))) (hv : Bs 5 w' v' f.b)
    (hk : ∀ (b : Nat) (o : Obj), w.heap[b]? = some o → b ≠ bm → w'.heap[b]? = some o) (hs : f.safe ≤ f.b.length) (h16 : D.files.length < 16) (hroom : (sumLen D.files : Int) + f.b.length ≤ D.room) (h32 : f.name.length ≤ 32) :
    DiskX n w' bd bm (clock + 1) pv (xs ++ [({ f := f, blk := blk, born := clock } : FEnt)]) { D with files := D.files ++ [f] } := by
  have hdb : bd ≠ bm := fun e => by have := h.files.at_; rw [← e, h.at_] at this; cases this
  refine ⟨h.le, hk _ _ h.at_ hdb, ?_, ⟨hm, h.files.le, ?_, ?_, ?_, ?_⟩, ?_, ?_, h.apart⟩
  · rcases h.plan with h2 | ⟨bp, es, c, rfl, h1, h2, h3⟩
    · exact .inl h2
    · exact .inr ⟨bp, es, c, rfl, h1, hk _ _ h2 (h.apart.1 bp rfl), h3⟩
  · intro y hy
    rcases List.mem_append.1 hy with hy | hy
    · have := h.files.born y hy; omega
    · simp at hy; subst hy; simp
  · rw [List.map_append, List.map_singleton, List.nodup_append]
    refine ⟨h.files.nb, by simp, ?_⟩
    intro a ha b hb' e
    obtain ⟨y, hy, rfl⟩ := List.mem_map.1 ha
    have := h.files.born y hy
    simp at hb'
    omega
  · rw [List.map_append, List.map_singleton, List.nodup_append]
    refine ⟨h.files.nk, by simp, ?_⟩
    intro a ha b hb' e
    obtain ⟨y, hy, rfl⟩ := List.mem_map.1 ha
    obtain ⟨_, v, h2, _⟩ := h.files.each y hy
    have := heap_lt h2
    simp at hb'
    omega
  · intro y hy
    rcases List.mem_append.1 hy with hy | hy
    · obtain ⟨h1, v, h2, h3⟩ := h.files.each y hy
      have hne : y.blk ≠ bm := fun e => by have := h.files.at_; rw [← e, h2] at this; cases this
      exact ⟨h1, v, hk _ _ h2 hne, h3.keeps fun b o hb' ht => hk b o hb' (fun e => by subst e; rw [h.files.at_] at hb'; cases hb'; cases ht)⟩
    · simp at hy; subst hy; exact ⟨hn, v', hb, hv⟩
  · rw [List.map_append, h.same]; rfl
  · obtain ⟨f0, f1, f2, f3, f4, f5⟩ := h.fits
    refine ⟨f0, f1, ?_, ?_, ?_, ?_⟩
    · show ((sumLen (D.files ++ [f]) : Nat) : Int) ≤ D.room
      have : sumLen (D.files ++ [f]) = sumLen D.files + f.b.length := by simp [sumLen]
      rw [this]; omega
    · show (D.files ++ [f]).length ≤ 16
      simp; omega
    · show ((D.files ++ [f]).map (·.name)).Nodup
      rw [List.map_append, List.map_singleton, List.nodup_append]
      refine ⟨f4, by simp, ?_⟩
      intro a ha b hb' e
      obtain ⟨g, hg, rfl⟩ := List.mem_map.1 ha
      simp at hb'
      have := fileAt_of f4 hg
      rw [e, hb', hnew] at this
      cases this
    · intro g hg
      rcases List.mem_append.1 hg with hg | hg
      · exact f5 g hg
      · simp at hg; subst hg; exact ⟨hs, h32⟩

theorem bsl2 {w : World} {v1 v2 : Value} {l1 l2 : List UInt8} (h1 : BytesR 0 w v1 l1) (h2 : BytesR 0 w v2 l2) : Bsl w [v1, v2] [l1, l2] := by
  refine ⟨rfl, fun k v l hv hl => ?_⟩
  match k with
  | 0 => simp at hv hl; subst hv hl; exact h1
  | 1 => simp at hv hl; subst hv hl; exact h2
  | k + 2 => simp at hv

theorem rd_new2 (w : World) (T : TypeId) (a b : Value) : Rd 0 (w.alloc (.cells #[a, b] T)) (some ⟨w.heap.size, 0, none⟩) [a, b] := by
  refine .inr ⟨w.heap.size, 0, Nat.zero_le _, rfl, fun k hk => ?_⟩
  rw [Joins.cell_of_block (heap_alloc_new w _)]
  simp

theorem run_len_map {P : Program} {w : World} {t k e : TypeId} (ht : P.underlying t = some (.map k e)) {bm : Nat} {es : Array MapEntry} {clock : Nat} (hb : w.heap[bm]? = some (.map es clock)) (ty : TypeId) :
    (Builtin.len_ #[t] ty #[.map (some bm)]).run P w = .ok (.int .i64 es.size) w := by
  simp [Builtin.len_, Builtin.lenOf, run_underlying ht, Go.MapKept.run_getObj_map hb, goInt]

theorem append_mp (D : DiskM) (s l : List UInt8) : (D.append s l).1.mp = D.mp := by
  have h := step_mp D (dnameB s)
  unfold DiskM.append
  repeat' split
  all_goals exact h

set_option maxRecDepth 100000 in
set_option maxHeartbeats 400000 in
theorem append_c (n bd : Nat) (D : DiskM) (s : List UInt8) (hm : s.length ≤ 4611686018427387904) (l : List UInt8) (A : Option Addr) (cap m : Nat) (hml : m = l.length) (hl : m ≤ 4611686018427387904) (w : World) (hD : DiskR n w bd D) 
    (hrw : ∀ W, Turn n [some 86, none, some 91] w W → Rd 0 W A (bytesV l)) (hmc : m ≤ cap) :
    Calls Tryz.prog 10 #[.pointer (some ⟨bd, 0, none⟩), .string ⟨s.toArray⟩, .slice A m cap] w fun e w' =>
      e = .returned (.int .i64 (D.append s l).2) ∧ DiskR n w' bd (D.append s l).1 ∧ Turn n [some 86, none, some 91] w w' ∧ MapK D.mp w w' := by
  have hb0 := bnew w (.cells #[.string ⟨s.toArray⟩] 9)
  have hst := step_c n bd D s hm w.heap.size 0 1 _ (hD.below hb0) (own_string w ⟨s.toArray⟩)
  obtain ⟨RD, hrd⟩ : ∃ R, D.append s l = R := ⟨_, rfl⟩
  rw [hrd]
  unfold DiskM.append at hrd
  have HB := Lib.hid hb0; clear hb0
  have HM := Lib.hid (And.intro hml hrw); clear hml hrw hD
  have hk := step_keeps D (dnameB s)
  have hsm := step_mp D (dnameB s)
  obtain ⟨k, hk0⟩ : ∃ k, (D.step (dnameB s)).2 = k := ⟨_, rfl⟩
  obtain ⟨ND, hnd⟩ : ∃ k, (D.step (dnameB s)).1 = k := ⟨_, rfl⟩
  rw [hk0] at hst hrd
  rw [hnd] at hst hrd hk hsm
  have HSM := Lib.hid hsm; clear hsm
  by_cases h0 : k = 0
  · subst h0
    rw [if_neg (by simp)] at hrd
    have HS := Lib.hid hst; clear hst
    have HK := Lib.hid (And.intro hk (And.intro hk0 hrd)); clear hk hk0 hrd hnd
    go_enter Tryz.func10, Tryz.ntmps10
    go_wp2_with (go_at_call 37; refine HS.out.mono ?_; rintro e W ⟨rfl, ⟨bm, clock, pv, xs, hX⟩, hT⟩; have c0 := Joins.cell_of_block hX.at_ 0; have c1 := Joins.cell_of_block hX.at_ 1; have hl := look_file und_files und_string zero_file xs hX.files.at_ s; have hrg := run_range_map W 83 _ _ bm _ clock und_files hX.files.at_; simp at c0 c1; have HX := Lib.hid (And.intro hX hT); clear hX hT)
    clear c0 c1 hl hrg
    obtain ⟨hX, hT⟩ := HX.out
    have hsum : (sumX xs : Int) ≤ ND.room ∧ 0 ≤ ND.room ∧ ND.room ≤ 1073741824 := by
      have := hX.fits
      rw [sumX_same, hX.same]
      exact ⟨this.2.2.1, this.1, this.2.1⟩
    have HSum := Lib.hid hsum; clear hsum
    clear hX hT
    go_loopw [9] (fun v wr => ∃ seen, v = .int .i64 (ND.room - sumX xs + sumX (leftX xs seen)) ∧ wr.heap[W.heap.size]? = some (.mapIter (some bm) clock seen clock) ∧ Below W.heap.size W wr) (fun _ wr => wr.rangeLeft bm W.heap.size)
    case atStart =>
      refine ⟨#[], ?_, heap_alloc_new _ _, bnew _ _⟩
      rw [leftX_empty]
      exact congrArg _ (by omega)
    case round =>
      obtain ⟨seen, rfl, hit, hB⟩ := hrel
      have hX := HX.out.1
      have hbm : wr.heap[bm]? = some (.map (xs.map FEnt.ent).toArray clock) := (hB.block bm (heap_lt hX.files.at_)).trans hX.files.at_
      have hold : ∀ y ∈ ((xs.map FEnt.ent).toArray).toList, y.born < clock := by
        intro y hy
        obtain ⟨x, hx, rfl⟩ := List.mem_map.1 hy
        exact hX.files.born x hx
      have hrl : wr.rangeLeft bm W.heap.size = (leftX xs seen).length := by
        simp only [World.rangeLeft, hbm, hit, leftOf_ents]
        simp
      have HRL := Lib.hid hrl; clear hrl
      rcases run_next_at (P := Tryz.prog) wr 0 W.heap.size bm clock clock seen _ clock hit hbm hold (Nat.le_refl _) with ⟨hz, hrun⟩ | ⟨e, he, w1, hw1, hrun⟩
      · have hl0 : leftX xs seen = [] := by
          rw [leftOf_ents] at hz
          exact List.eq_nil_of_length_eq_zero (by simpa using hz)
        have ev : ND.room - (sumX xs : Int) + (sumX (leftX xs seen) : Int) = ND.room - sumX xs := by rw [hl0]; simp [sumX]
        rw [ev]
        have hX2 := hX.below hB
        have c1 := Joins.cell_of_block hX2.at_ 1
        simp at c1
        have hlen := run_len_map (P := Tryz.prog) und_files hX2.files.at_ 3
        simp only [List.size_toArray, List.length_map] at hlen
        obtain ⟨hkf, hkr, _⟩ := HK.out.1
        have hsx : (sumX xs : Int) = sumLen D.files := by rw [sumX_same, hX.same, hkf]
        have hxl : xs.length = D.files.length := by rw [← hkf, ← hX.same, List.length_map]
        have HB2 := Lib.hid (And.intro hB (And.intro hX2 (And.intro hsx (And.intro hxl (And.intro hkf hkr)))))
        clear hold hX hit hz hbm hB ev hl0 hX2 hsx hkf hkr
        have HE := Lib.hid HX.out.1.same
        cases he : entAt xs s with
        | none =>
          simp only [Option.map_none]
          have e0 : fileAt D.files s = none := by
            have := entAt_none he
            rwa [HE.out, HB2.out.2.2.2.2.1] at this
          by_cases h16 : 16 ≤ D.files.length
          · go_wp2
            go_ret
            have hrd := HK.out.2.2
            rw [e0] at hrd
            simp only [if_pos h16] at hrd
            rw [← hrd]
            exact ⟨rfl, ⟨bm, clock, pv, xs, HB2.out.2.1⟩, (((Turn.of_below HB.out).trans HX.out.2).mono (Nat.le_refl _) (by simp)).bel HB2.out.1, MapK.of_turn (((Turn.of_below HB.out).trans HX.out.2).bel HB2.out.1) (by simp)⟩
          · by_cases hroom : ND.room - (sumX xs : Int) < m
            · go_wp2
              go_ret
              have hrd := HK.out.2.2
              have hsx := HB2.out.2.2.1
              have hkr := HB2.out.2.2.2.2.2
              rw [e0] at hrd
              simp only [if_neg h16] at hrd
              rw [if_pos (by rw [← HM.out.1, ← hsx, ← hkr]; omega)] at hrd
              rw [← hrd]
              exact ⟨rfl, ⟨bm, clock, pv, xs, HB2.out.2.1⟩, (((Turn.of_below HB.out).trans HX.out.2).mono (Nat.le_refl _) (by simp)).bel HB2.out.1, MapK.of_turn (((Turn.of_below HB.out).trans HX.out.2).bel HB2.out.1) (by simp)⟩
            · obtain ⟨W4, hW4⟩ : ∃ W4, Go.ChangeMaps.setBlock (wr.alloc (.cells #[.slice none 0 0, .int .i64 0] 91)) bm (.map ((xs ++ [({ f := ({ name := s, b := l, safe := 0 } : FileM), blk := wr.heap.size, born := clock } : FEnt)]).map FEnt.ent).toArray (clock + 1)) = W4 := ⟨_, rfl⟩
              have hX3 := HB2.out.2.1.below (bnew wr (.cells #[.slice none 0 0, .int .i64 0] 91))
              have c1' := Joins.cell_of_block hX3.at_ 1
              simp at c1'
              have hlay := lay_file (P := Tryz.prog) und_files und_string xs hX3.files.at_ s he wr.heap.size { name := s, b := l, safe := 0 } rfl
              rw [hW4] at hlay
              have hbmlt := heap_lt HB2.out.2.1.files.at_
              have hm4 : W4.heap[bm]? = some (.map ((xs ++ [({ f := ({ name := s, b := l, safe := 0 } : FileM), blk := wr.heap.size, born := clock } : FEnt)]).map FEnt.ent).toArray (clock + 1)) := by
                rw [← hW4]; simp only [Go.ChangeMaps.setBlock]; rw [Array.getElem?_setIfInBounds_self_of_lt (by simp; omega)]
              have hn4 : W4.heap[wr.heap.size]? = some (.cells #[.slice none 0 0, .int .i64 0] 91 (0, 0)) := by
                rw [← hW4]; simp only [Go.ChangeMaps.setBlock]; rw [Array.getElem?_setIfInBounds_ne (by omega)]; exact heap_alloc_new wr _
              have hk4 : ∀ (b : Nat) (o : Obj), wr.heap[b]? = some o → b ≠ bm → W4.heap[b]? = some o := fun b o hb hne => by
                rw [← hW4]; simp only [Go.ChangeMaps.setBlock]; rw [Array.getElem?_setIfInBounds_ne (by omega)]
                exact (Below.heap_alloc _ _ _ (heap_lt hb)).trans hb
              have hT4 : Turn n [some 86, none, some 91] w W4 := by
                rw [← hW4]
                exact (((((Turn.of_below HB.out).trans HX.out.2).mono (Nat.le_refl _) (by simp)).bel HB2.out.1).alloc _).setBlock hX3.files.at_ hX3.files.le (by simp [tagOf]) _
              have c0n := Joins.cell_of_block hn4 0
              simp at c0n
              have HQ := Lib.hid (And.intro hm4 (And.intro hn4 (And.intro hk4 hT4)))
              have hcat := concat_c (some ⟨W4.heap.size, 0, none⟩) 2 2 [.slice none 0 0, .slice A m cap] [[], l] rfl (by omega) (by simp; rw [← HM.out.1]; have := HSum.out; omega) (W4.alloc (.cells #[.slice none 0 0, .slice A m cap] 29)) (rd_new2 _ _ _ _) (bsl2 (BytesR.nil _ _) ⟨A, cap, by rw [HM.out.1], by rw [← HM.out.1]; exact hmc, HM.out.2 _ (hT4.alloc _)⟩)
              have HC := Lib.hid hcat
              clear hm4 hn4 hk4 hT4 hcat hX3 hbmlt hW4
              go_wp2_with (go_at_call 38; refine HC.out.mono ?_; rintro e W6 ⟨v, rfl, hown, hb6⟩; obtain ⟨A6, c6, rfl, _, _, _⟩ := own_slice hown; have hn6 := (hb6.block _ (heap_lt ((Below.heap_alloc W4 (.cells #[.slice none 0 0, .slice A m cap] 29) _ (heap_lt HQ.out.2.1)).trans HQ.out.2.1))).trans ((Below.heap_alloc W4 _ _ (heap_lt HQ.out.2.1)).trans HQ.out.2.1); have c60 := Joins.cell_of_block hn6 0; have f60 := Joins.unfrozen_of_block hn6 0; simp at c60; have H6 := Lib.hid (And.intro hown (And.intro hb6 hn6)); clear hown hb6 hn6)
              go_ret
              obtain ⟨hm4, hn4, hk4, hT4⟩ := HQ.out
              obtain ⟨hown, hb6, hn6⟩ := H6.out
              have hXr := HB2.out.2.1
              obtain ⟨_, _, hsx, hxl, hkf, hkr⟩ := HB2.out
              have hbm := heap_lt hXr.files.at_
              have hn4lt := heap_lt hn4
              have hmc4 : ∀ (b : Nat) (o : Obj), W4.heap[b]? = some o → b ≠ wr.heap.size → (W6.setCell ⟨wr.heap.size, 0, none⟩ (.slice A6 ([[], l] : List (List UInt8)).flatten.length c6)).heap[b]? = some o := fun b o hb hne =>
                heap_setCell_ne ((hb6.block b (by have := heap_lt hb; simp; omega)).trans ((Below.heap_alloc _ _ _ (heap_lt hb)).trans hb)) hne
              have hfl : ([[], l] : List (List UInt8)).flatten = l := by simp
              rw [hfl] at hown hmc4
              have hv6 : Bs 5 (W6.setCell ⟨wr.heap.size, 0, none⟩ (.slice A6 l.length c6)) (.slice A6 l.length c6) l :=
                (Bs.of_own hown).keeps fun b o hb' ht => heap_setCell_ne hb' (fun e => by subst e; rw [hn6] at hb'; cases hb'; revert ht; simp [tagOf])
              have hnb : n ≤ wr.heap.size := by have := heap_lt hXr.at_; have := hXr.le; omega
              have hXL := hXr.lay { name := s, b := l, safe := 0 } wr.heap.size hnb (Nat.le_refl _) (by rw [hkf]; exact e0) (hmc4 _ _ hm4 (by omega)) (by rw [Joins.block_setCell hn6]; rfl) hv6
                (fun b o hb hne => hmc4 b o (hk4 b o hb hne) (by have := heap_lt hb; omega)) (Nat.zero_le _) (by rw [hkf]; omega) (by
                  rw [hkf, ← hsx]; simp only; rw [← HM.out.1]; omega) (by
                  have := (step_ok HK.out.2.1).1
                  unfold dnameB at this
                  simp at this
                  exact this.1.2)
              have hrd := HK.out.2.2
              rw [e0] at hrd
              simp only [if_neg h16] at hrd
              rw [if_neg (by rw [← HM.out.1, ← hsx, ← hkr]; omega)] at hrd
              rw [← hrd]
              rw [hkf] at hXL
              exact ⟨rfl, ⟨bm, clock + 1, pv, _, hXL⟩, ((hT4.alloc _).bel hb6).setCell hn6 hnb (by simp) _ _, fun y oy hy ht hne => by
                have hM := MapK.of_turn (m := D.mp) (((Turn.of_below HB.out).trans HX.out.2).bel HB2.out.1) (by simp) y oy hy ht hne
                have hmm : D.mp = bm := HSM.out.symm.trans hXr.apart.2.1
                exact hmc4 y oy (hk4 y oy hM (by rw [← hmm]; exact hne)) (by have := heap_lt hM; omega)⟩
        | some x =>
          simp only [Option.map_some]
          obtain ⟨e1, e2, e3⟩ := entAt_some he
          have e0 : fileAt D.files s = some x.f := by
            rwa [HE.out, HB2.out.2.2.2.2.1] at e1
          have HX0 := Lib.hid (And.intro e2 (And.intro e3 e0)); clear e1 e2 e3 e0 he
          by_cases hroom : ND.room - (sumX xs : Int) < m
          · go_wp2
            go_ret
            have hrd := HK.out.2.2
            have hsx := HB2.out.2.2.1
            have hkr := HB2.out.2.2.2.2.2
            rw [HX0.out.2.2] at hrd
            simp only at hrd
            rw [if_pos (by rw [← HM.out.1, ← hsx, ← hkr]; omega)] at hrd
            rw [← hrd]
            exact ⟨rfl, ⟨bm, clock, pv, xs, HB2.out.2.1⟩, (((Turn.of_below HB.out).trans HX.out.2).mono (Nat.le_refl _) (by simp)).bel HB2.out.1, MapK.of_turn (((Turn.of_below HB.out).trans HX.out.2).bel HB2.out.1) (by simp)⟩
          · obtain ⟨hxn, v, hb, hv⟩ := HB2.out.2.1.files.each x HX0.out.1
            have c0 := Joins.cell_of_block hb 0
            simp at c0
            have hv0 := hv
            obtain ⟨A1, c1', rfl, hc1, hm1, _⟩ := hv
            have hflen := file_len HB2.out.2.1.fits (f := x.f) (by rw [← HB2.out.2.1.same]; exact List.mem_map_of_mem HX0.out.1)
            have hT4 : Turn n [some 86, none, some 91] w wr := (((Turn.of_below HB.out).trans HX.out.2).mono (Nat.le_refl _) (by simp)).bel HB2.out.1
            have hcat := concat_c (some ⟨wr.heap.size, 0, none⟩) 2 2 [.slice A1 x.f.b.length c1', .slice A m cap] [x.f.b, l] rfl (by omega) (by simp; rw [← HM.out.1]; have := HSum.out; omega) (wr.alloc (.cells #[.slice A1 x.f.b.length c1', .slice A m cap] 29)) (rd_new2 _ _ _ _) (bsl2 (hv0.toR.below (bnew _ _)) ⟨A, cap, by rw [HM.out.1], by rw [← HM.out.1]; exact hmc, HM.out.2 _ (hT4.alloc _)⟩)
            have HC := Lib.hid hcat
            have HQ := Lib.hid (And.intro hxn (And.intro hb (And.intro hT4 hflen)))
            clear hcat hb hv0 hT4 hxn hflen
            go_wp2_with (go_at_call 38; refine HC.out.mono ?_; rintro e W6 ⟨v, rfl, hown, hb6⟩; obtain ⟨A6, c6, rfl, _, _, _⟩ := own_slice hown; have hn6 := (hb6.block _ (heap_lt ((Below.heap_alloc wr (.cells #[.slice A1 x.f.b.length c1', .slice A m cap] 29) _ (heap_lt HQ.out.2.1)).trans HQ.out.2.1))).trans ((Below.heap_alloc wr _ _ (heap_lt HQ.out.2.1)).trans HQ.out.2.1); have c60 := Joins.cell_of_block hn6 0; have f60 := Joins.unfrozen_of_block hn6 0; simp at c60; have H6 := Lib.hid (And.intro hown (And.intro hb6 hn6)); clear hown hb6 hn6)
            go_ret
            obtain ⟨hxn, hb, hT4, hflen⟩ := HQ.out
            obtain ⟨hown, hb6, hn6⟩ := H6.out
            have hXr := HB2.out.2.1
            obtain ⟨_, _, hsx, hxl, hkf, hkr⟩ := HB2.out
            have hfl : ([x.f.b, l] : List (List UInt8)).flatten = x.f.b ++ l := by simp
            rw [hfl] at hown
            have hmc4 : ∀ (b : Nat) (o : Obj), wr.heap[b]? = some o → b ≠ x.blk → (W6.setCell ⟨x.blk, 0, none⟩ (.slice A6 (x.f.b ++ l).length c6)).heap[b]? = some o := fun b o hb hne =>
              heap_setCell_ne ((hb6.block b (by have := heap_lt hb; simp; omega)).trans ((Below.heap_alloc _ _ _ (heap_lt hb)).trans hb)) hne
            have hv6 : Bs 5 (W6.setCell ⟨x.blk, 0, none⟩ (.slice A6 (x.f.b ++ l).length c6)) (.slice A6 (x.f.b ++ l).length c6) (x.f.b ++ l) :=
              (Bs.of_own hown).keeps fun b o hb' ht => heap_setCell_ne hb' (fun e => by subst e; rw [hn6] at hb'; cases hb'; revert ht; simp [tagOf])
            have hroom2 : (sumLen ND.files : Int) + ({ x.f with b := x.f.b ++ l } : FileM).b.length - x.f.b.length ≤ ND.room := by
              rw [hkf, ← hsx]; simp only [List.length_append]; rw [← HM.out.1]; omega
            have hsafe := hXr.fits.2.2.2.2.2 x.f (by rw [← hXr.same]; exact List.mem_map_of_mem HX0.out.1)
            have hXL := hXr.turnFile (w' := W6.setCell ⟨x.blk, 0, none⟩ (.slice A6 (x.f.b ++ l).length c6)) HX0.out.1 { x.f with b := x.f.b ++ l } rfl (by rw [Joins.block_setCell hn6]; rfl) hv6 hmc4
              (set_fits hXr.fits (f := x.f) (by rw [hkf]; simp only; rw [HX0.out.2.1]; exact HX0.out.2.2) (by simp only [List.length_append]; have := hsafe.1; omega) hroom2)
            have hrd := HK.out.2.2
            rw [HX0.out.2.2] at hrd
            simp only at hrd
            rw [if_neg (by rw [← HM.out.1, ← hsx, ← hkr]; omega)] at hrd
            rw [← hrd]
            rw [hkf] at hXL
            have hfl2 : x.f.b.length + l.length = (x.f.b ++ l).length := by rw [List.length_append]
            rw [hfl2]
            exact ⟨rfl, ⟨bm, clock, pv, _, hXL⟩, ((hT4.alloc _).bel hb6).setCell hn6 hxn (by simp) _ _, fun y oy hy ht hne => by
              have hM := MapK.of_turn (m := D.mp) (((Turn.of_below HB.out).trans HX.out.2).bel HB2.out.1) (by simp) y oy hy ht hne
              exact hmc4 y oy hM (by rintro rfl; rw [hb] at hM; cases hM; simp [tagOf] at ht)⟩
      · rw [leftOf_ents] at he
        obtain ⟨x, hx, rfl⟩ := List.mem_map.1 he
        have hxs : x ∈ xs := (List.mem_filter.1 hx).1
        obtain ⟨hs1, hs2⟩ := leftX_push xs hX.files.nb seen x hx
        have hw1h : w1.heap = wr.heap := by rcases hw1 with rfl | rfl <;> rfl
        have hB1 : Below W.heap.size W w1 := by
          rcases hw1 with rfl | rfl
          · exact hB
          · exact hB.drew
        have hrlt : W.heap.size < w1.heap.size := by rw [hw1h]; exact heap_lt hit
        obtain ⟨W2, hW2⟩ : ∃ W2, Go.ChangeMaps.setBlock w1 W.heap.size (.mapIter (some bm) clock (seen.push x.ent.born) clock) = W2 := ⟨_, rfl⟩
        rw [hW2] at hrun
        have hit2 : W2.heap[W.heap.size]? = some (.mapIter (some bm) clock (seen.push x.ent.born) clock) := by
          rw [← hW2]; simp [Go.ChangeMaps.setBlock, hrlt]
        have hB2 : Below W.heap.size W W2 := by
          rw [← hW2]
          exact hB1.trans ⟨rfl, rfl, rfl, by simp [Go.ChangeMaps.setBlock], fun j hj => by simp only [Go.ChangeMaps.setBlock]; rw [Array.getElem?_setIfInBounds_ne (by omega)]⟩
        have hbm2 : W2.heap[bm]? = some (.map (xs.map FEnt.ent).toArray clock) := (hB2.block bm (heap_lt hX.files.at_)).trans hX.files.at_
        have hent := run_entry_at (P := Tryz.prog) W2 W.heap.size bm clock seen _ clock x.ent hit2 hbm2 (List.mem_map_of_mem hxs) (by
          have : ((xs.map FEnt.ent).toArray).toList.map (·.born) = xs.map (·.born) := by
            rw [List.map_map]; rfl
          rw [this]; exact hX.files.nb)
        obtain ⟨_, v, hb, A1, c1, rfl, _⟩ := hX.files.each x hxs
        have hb' := (hB2.block x.blk (heap_lt hb)).trans hb
        have c0 := Joins.cell_of_block hb' 0
        simp at c0
        obtain ⟨len, hlen⟩ : ∃ m, x.f.b.length = m := ⟨_, rfl⟩
        obtain ⟨L1, hL1⟩ : ∃ m, sumX (leftX xs seen) = m := ⟨_, rfl⟩
        obtain ⟨SX, hSX⟩ : ∃ m, sumX xs = m := ⟨_, rfl⟩
        have hle1 : L1 ≤ SX := by
          rw [← hL1, ← hSX]
          exact List.Sublist.sum_le' (List.filter_sublist.map _)
        rw [hlen] at c0 hs1
        rw [hL1] at hs1 ⊢
        have hS3 := HSum.out
        rw [hSX] at hS3 ⊢
        have hw : wrap64 (ND.room - (SX : Int) + (L1 : Int) - (len : Int)) = ND.room - SX + L1 - len := by unfold wrap64; omega
        have hk1 : x.ent.key = .string ⟨x.f.name.toArray⟩ := rfl
        have hk2 : x.ent.val = .pointer (some ⟨x.blk, 0, none⟩) := rfl
        rw [hk1, hk2] at hrun hent
        have HQ := Lib.hid (And.intro hs1 (And.intro hs2 (And.intro hit2 (And.intro hB2 (And.intro hbm2 hSX)))))
        clear hs1 hs2 hit2 hB2 hbm2 hold hX hbm hb' hb hw1h hB1 hrlt hW2 hw1 hit hB hL1 hlen hle1 hS3 hSX hk1 hk2 he
        go_wp2_with fail
        obtain ⟨q1, q2, q3, q4, q5, q6⟩ := HQ.out
        refine ⟨⟨seen.push x.born, ?_, q3, q4⟩, ?_⟩
        · rw [hw]; congr 1; omega
        · rw [HRL.out]
          have : W2.rangeLeft bm W.heap.size = (leftX xs (seen.push x.born)).length := by
            simp only [World.rangeLeft, q5, q3, leftOf_ents]
            simp [FEnt.ent]
          rw [this]; exact q2
  · rw [if_pos h0] at hrd
    have HS := Lib.hid hst; clear hst
    have HK := Lib.hid (And.intro hk (And.intro hk0 (And.intro hrd hnd))); clear hk hk0 hrd hnd
    go_enter Tryz.func10, Tryz.ntmps10
    go_wp2_with (go_at_call 37; refine HS.out.mono ?_; rintro e W ⟨rfl, hR1, hT1⟩; have HR1 := Lib.hid (And.intro hR1 hT1); clear hR1 hT1)
    go_ret
    obtain ⟨_, h2, h3, h4⟩ := HK.out
    have e1 : RD.1 = ND := by rw [← h3]; exact h4
    have e2 : RD.2 = k := by rw [← h3]; exact h2
    rw [e1, e2]
    exact ⟨rfl, HR1.out.1, ((Turn.of_below HB.out).trans HR1.out.2).mono (Nat.le_refl _) (by simp), MapK.of_turn ((Turn.of_below HB.out).trans HR1.out.2) (by simp)⟩
end Go.Proofs.YtnljhabpcoiihaaGreatDoor
