/- A disk's names, in order. -/
import Derived.Test.YtnljhabpcoiihaaGreatDoorApp
import Derived.OwnWalkIn
import Derived.TacticsInMore
import Derived.LoopNIn
import Derived.LoopIn
import Derived.Shelf.Abstract
set_option linter.all false
namespace Go.Proofs.YtnljhabpcoiihaaGreatDoor
open Go.RowKit Go.Maps Go.Sort Go.Shelf

theorem Tryz_sorts (m : Nat) : AnyZ.SortsIn Tryz.prog Tryz.sorted53_ren Fence.wide m :=
  ⟨fun blk off cap ss W hH hblk hsz => callsIn_wide.2 (AnyM.slices_Sort_string Tryz.sort84 blk off cap ss W hH hblk hsz),
   fun p cap W => callsIn_wide.2 (AnyM.slices_Sort_string_none Tryz.sort84 p cap W)⟩

theorem Tryz_maps_Keys (mb : Option Nat) (W : World) : CallsIn Fence.wide 5 Tryz.prog 94 #[.map mb] W fun e w' => e = .returned (.func (.func 122) #[] #[.pointer (some ⟨W.heap.size, 0, none⟩)]) ∧ w' = W.alloc (.cells #[.map mb] 83) :=
  AnyZ.keys_in Tryz.keys94 Fence.wide 5 trivial rfl mb W

set_option maxHeartbeats 1000000 in
theorem Tryz_sorted {H : Type} (b nn : Nat) (D0 : DataW H) (R : Value → Option (DataW H × List MemPlace)) (w : World) (hown : w.ownsMap Tryz.prog 9 R b nn D0) (hmax : Maps.size D0 ≤ maxLen) (hbytes : Maps.size D0 * 16 ≤ 140737488355328) :
    CallsIn Fence.wide 5 Tryz.prog 53 #[.func (.func 122) #[] #[.pointer (some ⟨w.heap.size, 0, none⟩)]] (w.alloc (.cells #[.map (some b)] 83)) fun e w' => ∃ (v : Value) (ss : List (List UInt8)), e = .returned v ∧ ss.Perm (strKeys D0) ∧
      w'.ownsRow (w.alloc (.cells #[.map (some b)] 83)).heap.size 9 1 v ss.length ((ss.mergeSort (fun x y => decide (x ≤ y))).map encStr) ∧ (v = .slice none 0 0 ↔ ss = []) ∧ Below (w.alloc (.cells #[.map (some b)] 83)).heap.size (w.alloc (.cells #[.map (some b)] 83)) w' := by
  have hbl := hown.lt
  have hseq : SeqGives Fence.wide 2 Tryz.prog 122 #[.pointer (some ⟨w.heap.size, 0, none⟩)] encStr (fun ss => ss.Perm (strKeys D0)) (Maps.size D0) (w.alloc (.cells #[.map (some b)] 83)) :=
    AnyZ.keys_gives (ρ := Tryz.keys94_ren) { Tryz.keys94 with } Fence.wide _ trivial rfl (by omega) w.heap.size b nn D0 _ (by simp) (by simp) (by
      obtain ⟨es, clock, hb, Ft, hs, hD⟩ := hown
      exact ⟨es, clock, (Below.heap_alloc _ _ b hbl).trans hb, Ft, hs, hD⟩)
  exact AnyZ.sorted_in Tryz.sorted53 Fence.wide 5 trivial trivial trivial trivial rfl (by omega) (Tryz_sorts _) (enters_of Tryz.func84 (by kernel_rfl) rfl) 122 #[.pointer (some ⟨w.heap.size, 0, none⟩)] trivial (enters_of Tryz.func122 (by kernel_rfl) rfl) _ _ hmax hbytes _ hseq

set_option maxHeartbeats 1000000 in
theorem Tryz_sorted_nil (w : World) :
    CallsIn Fence.wide 5 Tryz.prog 53 #[.func (.func 122) #[] #[.pointer (some ⟨w.heap.size, 0, none⟩)]] (w.alloc (.cells #[.map none] 83)) fun e w' => ∃ (v : Value) (ss : List (List UInt8)), e = .returned v ∧ ss = [] ∧
      w'.ownsRow (w.alloc (.cells #[.map none] 83)).heap.size 9 1 v ss.length ((ss.mergeSort (fun x y => decide (x ≤ y))).map encStr) ∧ (v = .slice none 0 0 ↔ ss = []) ∧ Below (w.alloc (.cells #[.map none] 83)).heap.size (w.alloc (.cells #[.map none] 83)) w' := by
  have hseq : SeqGives Fence.wide 2 Tryz.prog 122 #[.pointer (some ⟨w.heap.size, 0, none⟩)] encStr (fun ss : List (List UInt8) => ss = []) 0 (w.alloc (.cells #[.map none] 83)) :=
    AnyZ.keys_gives_nil (ρ := Tryz.keys94_ren) { Tryz.keys94 with } Fence.wide _ trivial rfl w.heap.size _ (by simp) (by simp)
  exact AnyZ.sorted_in Tryz.sorted53 Fence.wide 5 trivial trivial trivial trivial rfl (by omega) (Tryz_sorts _) (enters_of Tryz.func84 (by kernel_rfl) rfl) 122 #[.pointer (some ⟨w.heap.size, 0, none⟩)] trivial (enters_of Tryz.func122 (by kernel_rfl) rfl) _ 0 (Nat.zero_le _) (by omega) _ hseq


/-- a disk's names, in order -/
def DiskM.names (D : DiskM) : List (List UInt8) := (D.files.map (·.name)).mergeSort leB

def unitR : Value → Option (DataW Unit × List MemPlace) := fun _ => some (.nil, [])

theorem FilesR.owns {n : Nat} {w : World} {bd bm clock : Nat} {pv : Value} {xs : List FEnt} {D : DiskM} (h : DiskX n w bd bm clock pv xs D) :
    ∃ D0 : DataW Unit, w.ownsMap Tryz.prog 9 unitR bm 16 D0 ∧ Maps.size D0 ≤ 16 ∧ (strKeys D0).Perm (D.files.map (·.name)) := by
  have hlen : xs.length ≤ 16 := by have := h.fits.2.2.2.1; rw [← h.same, List.length_map] at this; exact this
  have hk : ∀ x ∈ xs, keyOf Tryz.prog 9 x.ent.key = some (.string x.f.name) := fun x hx => by
    have h32 := (h.fits.2.2.2.2.2 x.f (by rw [← h.same]; exact List.mem_map_of_mem hx)).2
    have := WideMaps.keyOf_string_mk (P := Tryz.prog) (k := 9) und_string (s := ⟨x.f.name.toArray⟩) (by simp [ByteArray.size, maxLen]; omega)
    simpa [FEnt.ent] using this
  have hrd : ∀ x ∈ xs, WideElems.rd Tryz.prog 9 unitR x.ent = some (.string x.f.name, .nil) := fun x hx => by simp [WideElems.rd, hk x hx, unitR]
  have hnames : (xs.map fun y => y.f.name).Nodup := by
    have := h.fits.2.2.2.2.1
    rw [← h.same, List.map_map] at this
    exact this
  refine ⟨_, ⟨_, clock, h.files.at_, ⟨?_, ?_, ?_⟩, ?_, rfl⟩, ?_, ?_⟩
  · simp [maxLen]; omega
  · refine ⟨?_, ?_, ?_⟩
    · intro y hy
      obtain ⟨x, hx, rfl⟩ := List.mem_map.1 hy
      exact h.files.born x hx
    · have : ((xs.map FEnt.ent).toArray).toList.map (·.born) = xs.map (·.born) := by
        simp only [List.map_map]; rfl
      rw [this]; exact h.files.nb
    · have : ((xs.map FEnt.ent).toArray).toList.map (·.key) = (xs.map fun y => y.f.name).map (fun s => Value.string ⟨s.toArray⟩) := by
        simp only [List.map_map]; rfl
      rw [this]
      exact List.pairwise_map.2 (List.Pairwise.imp (fun {a b} hne e => hne (by injection e with e; injection e with e; exact congrArg Array.toList e)) hnames)
  · intro y hy
    obtain ⟨x, hx, rfl⟩ := List.mem_map.1 hy
    exact ⟨_, hrd x hx⟩
  · simp; exact hlen
  · simp only [Maps.size, length_sorted]; simp; exact hlen
  · show ((((xs.map FEnt.ent).toArray.toList.map (WideElems.rg Tryz.prog 9 unitR)).foldr DataW.insert []).map fun p => strOf p.1).Perm _
    refine ((WideShapes.sorted_perm _).map _).trans (List.Perm.of_eq ?_)
    rw [← h.same]
    simp only [List.map_map]
    apply List.map_congr_left
    intro x hx
    simp only [Function.comp, WideElems.rg_of (hrd x hx), strOf]

set_option maxRecDepth 100000 in
set_option maxHeartbeats 1000000 in
theorem names_c (n bd : Nat) (D : DiskM) (w : World) (hD : DiskR n w bd D) :
    Calls Tryz.prog 60 #[.pointer (some ⟨bd, 0, none⟩)] w fun e w' => ∃ v, e = .returned v ∧ w'.ownsRow w.heap.size 9 1 v D.names.length (D.names.map encStr) ∧ Below w.heap.size w w' := by
  obtain ⟨bm, clock, pv, xs, hX⟩ := hD
  obtain ⟨D0, hown, hsz, hperm⟩ := FilesR.owns hX
  have c1 := Joins.cell_of_block hX.at_ 1
  simp at c1
  have HX := Lib.hid (And.intro hX (And.intro hperm (And.intro hown hsz))); clear hX hperm hown hsz
  refine (callsIn_wide (n := 6)).1 ?_
  have hfK : Fence.wide.fn 94 := trivial
  have hfS : Fence.wide.fn 53 := trivial
  refine callsIn_of_wp Tryz.func60 rfl trivial ?_ rfl
  simp only [Tryz.ntmps60, List.size_toArray, List.length_cons, List.length_nil, Nat.reduceAdd, Nat.reduceSub, Array.replicate_succ, Array.replicate_zero, List.push_toArray, List.append_toArray, List.nil_append, List.cons_append]
  gi_wp2_with (first
    | (gi_at_call 94; refine (Tryz_maps_Keys _ _).mono ?_; rintro e w' ⟨rfl, rfl⟩)
    | (gi_at_call 53; refine (Tryz_sorted bm 16 D0 unitR w HX.out.2.2.1 (by have := HX.out.2.2.2; simp [maxLen]; omega) (by have := HX.out.2.2.2; omega)).mono ?_; rintro e w' ⟨v, ss, rfl, hS, hrow, hnil, hb⟩))
  go_ret
  have e1 : ss.mergeSort leB = D.names := mergeSort_of_perm (hS.trans HX.out.2.1)
  have e2 : ss.length = D.names.length := by rw [← e1, List.length_mergeSort]
  refine ⟨v, rfl, ?_, ((Below.refl _ w).alloc (Nat.le_refl _) _).trans (hb.mono (by simp))⟩
  rw [← e1, List.length_mergeSort]
  exact own_base hrow (by simp)
end Go.Proofs.YtnljhabpcoiihaaGreatDoor
