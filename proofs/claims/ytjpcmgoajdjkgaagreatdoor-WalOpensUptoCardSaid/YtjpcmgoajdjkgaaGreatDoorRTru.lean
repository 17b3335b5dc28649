/- The reference's disk: Truncate, of a file that is there, to a size that it has. -/
import Derived.Test.YtjpcmgoajdjkgaaGreatDoorRDsk
import Derived.Test.YtjpcmgoajdjkgaaGreatDoorRefF
import Derived.Test.YtjpcmgoajdjkgaaGreatDoorByt
set_option linter.all false
namespace Go.Proofs.YtjpcmgoajdjkgaaGreatDoor
open Go.RowKit

set_option maxRecDepth 100000 in
set_option maxHeartbeats 800000 in
theorem rtrunc_c (n rd : Nat) (room N : Int) (lv : Value) (es : List (FileM × Value)) (hes : es.length ≤ 1048576) (s : List UInt8) (hm : s.length ≤ 4611686018427387904) (hok : dnameB s = true) (k : Nat) (hex : ∃ x ∈ es, x.1.name = s)
    (hk : ∀ (i : Nat) (x : FileM × Value), FirstAt es s i → es[i]? = some x → k ≤ x.1.b.length) (w : World) (hX : RdX n w rd room N lv es) :
    Calls Tryz.prog 59 #[.pointer (some ⟨rd, 0, none⟩), .string ⟨s.toArray⟩, .int .i64 k] w fun e w' =>
      e = .returned (.int .i64 0) ∧ Turn n [some 81, some 89] w w' ∧
      ∃ (i : Nat) (x : FileM × Value) (v : Value), FirstAt es s i ∧ es[i]? = some x ∧ ∃ N', RdX n w' rd room N' lv (es.set i ({ x.1 with b := x.1.b.take k, safe := k }, v)) := by
  have hst := rthere_c n rd room N lv es hes s hm w hX
  obtain ⟨A, cap, rfl, _, _, _⟩ := own_slice hX.row
  rw [hok] at hst
  have HS := Lib.hid (And.intro hst (And.intro hex hk)); clear hst hX hex hk
  go_enter Tryz.func59, Tryz.ntmps59
  go_wp2_with fail
  refine HS.out.1.mono ?_
  rintro e w1 ⟨⟨N1, hX1⟩, hT1, ⟨h0, rfl⟩ | ⟨h0, h1, rfl⟩ | ⟨h0, i, hF, rfl⟩⟩
  · cases h0
  · obtain ⟨x, hx, he⟩ := HS.out.2.1
    exact absurd he (h1 x hx)
  · obtain ⟨hi, hn1, hn2⟩ := hF
    have c3 := Joins.cell_of_block hX1.at_ 3
    simp at c3
    obtain ⟨g, cap', cur, hv, hng, hh, hcl, hcm, hcs, hct⟩ : ∃ g cap' cur, Value.slice A es.length cap = .slice (some ⟨g, 0, none⟩) es.length cap' ∧ n ≤ g ∧ w1.heap[g]? = some (.cells cur 89 (0, 0)) ∧ es.length ≤ cap' ∧ cap' ≤ maxLen ∧ cur.size = cap' * 3 ∧ cur.toList.take (es.length * 3) = rfCells es := by
      rcases hX1.row.2 with ⟨_, h2⟩ | h
      · omega
      · exact h
    injection hv with h1 h2 h3
    subst h1 h3
    obtain ⟨x, hx⟩ : ∃ x, es[i] = x := ⟨_, rfl⟩
    have hx' : es[i]? = some x := by rw [List.getElem?_eq_getElem hi, hx]
    have hkl := HS.out.2.2 i x ⟨hi, hn1, hn2⟩ hx'
    obtain ⟨-, g1, -⟩ := rfCells_get es i hi
    rw [hx] at g1
    have q1 : w1.cell? ⟨g, i * 3 + 1, none⟩ = some x.2 := by
      rw [Joins.cell_of_block hh, ← Array.getElem?_toList, ← g1, ← hct, List.getElem?_take, if_pos (by omega)]
    have u1 := Joins.unfrozen_of_block hh (i * 3 + 1)
    have hbs := hX1.each x (hx ▸ List.getElem_mem hi)
    obtain ⟨Ab, cb, hvv, hcb, hmb, hb3⟩ := hbs
    rw [hvv] at q1
    obtain ⟨i0, hi0, hz0, hz1, hz2⟩ := info8
    have hsl := fun w => run_slice_to (P := Tryz.prog) w 22 5 i0 1 Tryz.underlying22 hi0 hz1 Ab x.1.b.length cb .i64 (k : Int) k rfl (by omega)
    have u2 := Joins.unfrozen_of_block hh (i * 3 + 2)
    have hne1 : g ≠ rd := by rintro rfl; rw [hX1.at_] at hh; simp at hh
    have hne2 : rd ≠ g := Ne.symm hne1
    have hX2 : RdX n ((w1.setCell ⟨g, i * 3 + 1, none⟩ (.slice Ab k cb)).setCell ⟨g, i * 3 + 2, none⟩ (.int .i64 (k : Int))) rd room N1 (.slice (some ⟨g, 0, none⟩) es.length cap) (es.set i ({ x.1 with b := x.1.b.take k, safe := k }, .slice Ab k cb)) := by
      have hkeep : ∀ (b : Nat) (o : Obj), w1.heap[b]? = some o → tagOf o ≠ some 89 → ((w1.setCell ⟨g, i * 3 + 1, none⟩ (.slice Ab k cb)).setCell ⟨g, i * 3 + 2, none⟩ (.int .i64 (k : Int))).heap[b]? = some o := fun b o hb ht => by
        have hbg : b ≠ g := by rintro rfl; rw [hh] at hb; cases hb; exact ht rfl
        exact heap_setCell_ne (heap_setCell_ne hb hbg) hbg
      have hB : ∀ (v : Value) (l : List UInt8), Bs 5 w1 v l → Bs 5 ((w1.setCell ⟨g, i * 3 + 1, none⟩ (.slice Ab k cb)).setCell ⟨g, i * 3 + 2, none⟩ (.int .i64 (k : Int))) v l := fun v l h => h.keeps fun b o hb ht => hkeep b o hb (by rw [ht]; simp)
      have hrow := own_setAt (own_setAt hX1.row (j := i * 3 + 1) (by omega) (.slice Ab k cb)) (j := i * 3 + 2) (by omega) (.int .i64 (k : Int))
      have hset := rfCells_set ({ x.1 with b := x.1.b.take k, safe := k }, .slice Ab k cb) es i hi (by rw [hx])
      simp only at hset
      rw [hset] at hrow
      refine ⟨hX1.le, hkeep _ _ hX1.at_ (by simp [tagOf]), by rw [List.length_set]; exact hrow, fun e he => ?_⟩
      rcases List.mem_or_eq_of_mem_set he with he | rfl
      · exact hB _ _ (hX1.each e he)
      · refine hB _ _ ?_
        refine ⟨Ab, cb, by simp [Nat.min_eq_left hkl], by simp; omega, hmb, ?_⟩
        rcases hb3 with h | ⟨b, o, c, f, rfl, h4, h5⟩
        · exact .inl (by simp [h])
        · refine .inr ⟨b, o, c, f, rfl, h4, fun j hj => ?_⟩
          have hj2 : j < k := by simp at hj; omega
          rw [h5 j (by omega)]
          simp [bytesV, List.map_take, List.getElem?_take, hj2]
    have hT2 : Turn n [some 81, some 89] w ((w1.setCell ⟨g, i * 3 + 1, none⟩ (.slice Ab k cb)).setCell ⟨g, i * 3 + 2, none⟩ (.int .i64 (k : Int))) := by
      have hT := hT1.mono (Nat.le_refl n) (T' := [some 81, some 89]) (by simp)
      exact (hT.setCell hh hng (by simp) (i * 3 + 1) _).setCell (by rw [Joins.block_setCell hh]) hng (by simp) (i * 3 + 2) _
    have hh2 : (w1.drew.setCell ⟨g, i * 3 + 1, none⟩ (.slice Ab k cb)).heap[g]? = some (.cells (cur.setIfInBounds (i * 3 + 1) (.slice Ab k cb)) 89 (0, 0)) := Joins.block_setCell (w := w1.drew) hh (i := i * 3 + 1) _
    have u2d := Joins.unfrozen_of_block hh2 (i * 3 + 2)
    have q2d : (w1.drew.setCell ⟨g, i * 3 + 1, none⟩ (.slice Ab k cb)).cell? ⟨g, i * 3 + 2, none⟩ = some (.int .i64 (x.1.safe : Int)) := by
      rw [Joins.cell_of_block hh2]
      obtain ⟨-, -, g2⟩ := rfCells_get es i hi
      rw [hx] at g2
      rw [Array.getElem?_setIfInBounds_ne (by omega), ← Array.getElem?_toList, ← g2, ← hct, List.getElem?_take, if_pos (by omega)]
    have u2e : ((w1.setCell ⟨g, i * 3 + 1, none⟩ (.slice Ab k cb)).drew).frozen? ⟨g, i * 3 + 2, none⟩ = false := u2d
    have q2e : ((w1.setCell ⟨g, i * 3 + 1, none⟩ (.slice Ab k cb)).drew).cell? ⟨g, i * 3 + 2, none⟩ = some (.int .i64 (x.1.safe : Int)) := q2d
    have u2f : (w1.setCell ⟨g, i * 3 + 1, none⟩ (.slice Ab k cb)).frozen? ⟨g, i * 3 + 2, none⟩ = false := u2d
    have q2f : (w1.setCell ⟨g, i * 3 + 1, none⟩ (.slice Ab k cb)).cell? ⟨g, i * 3 + 2, none⟩ = some (.int .i64 (x.1.safe : Int)) := q2d
    have H1 := Lib.hid (And.intro hX2 (And.intro hT2 (And.intro (show FirstAt es s i from ⟨hi, hn1, hn2⟩) hx')))
    have hkn : ¬ (x.1.b.length : Int) < (k : Int) := by omega
    clear hX2 hT2 hX1 hT1 hh hh2 hcs hct hb3 hx hx' g1 hn1 hn2 hvv
    have c3d : w1.drew.cell? ⟨rd, 3, none⟩ = some (.slice (some ⟨g, 0, none⟩) es.length cap) := c3
    have q1d : w1.drew.cell? ⟨g, i * 3 + 1, none⟩ = some (.slice Ab x.1.b.length cb) := q1
    have u1d : w1.drew.frozen? ⟨g, i * 3 + 1, none⟩ = false := u1
    go_wp2_with fail
    go_region
    go_wp2_with fail
    go_ret
    refine ⟨rfl, ?_, i, x, _, H1.out.2.2.1, H1.out.2.2.2, _, H1.out.1.keeps fun _ _ h _ => h⟩
    exact ⟨H1.out.2.1.os, H1.out.2.1.tape, H1.out.2.1.output, H1.out.2.1.size, H1.out.2.1.block⟩
end Go.Proofs.YtjpcmgoajdjkgaaGreatDoor
