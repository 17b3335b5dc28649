/- The store's Get and Len. -/
import Derived.Test.YtnljhabpcoiihaaGreatDoorKvW
set_option linter.all false
namespace Go.Proofs.YtnljhabpcoiihaaGreatDoor
open Go.RowKit

def getK (m : KvM) (s : List UInt8) : Option (List UInt8) := (pIdx m s).bind fun j => (m[j]?).map (·.2)
theorem look_s {w : World} {bm : Nat} {m : KvM} (h : MapS w bm m) (s : List UInt8) : ∃ A n c, Bs 5 w (.slice A n c) ((getK m s).getD []) ∧ ((getK m s).getD []).length = n ∧
    ∀ W, Below w.heap.size w W → (Instr.lookup 104 (.map (some bm)) (.string ⟨s.toArray⟩) true).run Tryz.prog W = .ok (.tuple #[.agg #[.slice A n c], .bool (getK m s).isSome]) W := by
  obtain ⟨clock, xs, hX, rfl⟩ := h
  unfold getK
  rw [pIdx_ents]
  cases hi : kIdx xs s with
  | none =>
    refine ⟨none, 0, 0, Bs.nil _ _, rfl, fun W hW => ?_⟩
    rw [look_k und_kvm und_str zero_val xs ((hW.block _ (heap_lt hX.at_)).trans hX.at_) s, hi]
    rfl
  | some j =>
    obtain ⟨h1, h2⟩ := kIdx_some hi
    have hb := hX.each xs[j] (List.getElem_mem h1)
    obtain ⟨A, c, hv, -⟩ := id hb
    have e : ((xs.map KEnt.kv)[j]?).map (·.2) = some xs[j].val := by
      rw [List.getElem?_map, List.getElem?_eq_getElem h1]; rfl
    simp only [Option.bind_some, e, Option.getD_some, Option.isSome_some]
    rw [hv] at hb
    refine ⟨A, xs[j].val.length, c, hb, rfl, fun W hW => ?_⟩
    rw [look_k und_kvm und_str zero_val xs ((hW.block _ (heap_lt hX.at_)).trans hX.at_) s, hi]
    simp only [Option.bind_some, List.getElem?_eq_getElem h1, Option.map_some, Option.getD_some, Option.isSome_some, hv]

set_option maxRecDepth 100000 in
set_option maxHeartbeats 2000000 in
theorem kget_c (bs bm : Nat) (m : KvM) (lp br : Value) (A : Option Addr) (nk cap : Nat) (key : List UInt8) (hnk : nk = key.length) (w : World) (hS : w.heap[bs]? = some (.cells #[lp, .map (some bm), br] 106 (0, 0))) (hM : MapS w bm m) (hk : Rd 0 w A (bytesV key)) (hvl : ∀ v, getK m key = some v → v.length ≤ 140737488355328) :
    Calls Tryz.prog 17 #[.pointer (some ⟨bs, 0, none⟩), .slice A nk cap] w fun e w' => ∃ v, e = .returned (.tuple #[v, .bool (getK m key).isSome]) ∧ Bs 5 w' v ((getK m key).getD []) ∧ Below w.heap.size w w' := by
  obtain ⟨Ax, nx, cx, hbx, hnx, hlk⟩ := look_s hM key
  obtain ⟨fd, hfd⟩ : ∃ b, (getK m key).isSome = b := ⟨_, rfl⟩
  obtain ⟨vl, hvle⟩ : ∃ v, (getK m key).getD [] = v := ⟨_, rfl⟩
  have hvl2 : vl.length ≤ 140737488355328 := by
    cases hg : getK m key with
    | none => rw [hg] at hvle; subst hvle; simp
    | some v => rw [hg] at hvle; subst hvle; exact hvl v hg
  rw [hfd] at hlk
  rw [hvle] at hbx hnx
  rw [hfd, hvle]
  have HG := Lib.hid (show ∀ W, Below w.heap.size w W → W.cell? ⟨bs, 1, none⟩ = some (.map (some bm)) ∧ (convert 29 9 (.slice A nk cap)).run Tryz.prog W = .ok (.string ⟨key.toArray⟩) W ∧ (Instr.lookup 104 (.map (some bm)) (.string ⟨key.toArray⟩) true).run Tryz.prog W = .ok (.tuple #[.agg #[.slice Ax nx cx], .bool fd]) W from fun W hW =>
    ⟨by have := Joins.cell_of_block ((hW.block _ (heap_lt hS)).trans hS) 1; simpa using this, run_convert_rd 0 W A nk cap key hnk (hk.below hW), hlk W hW⟩)
  have HB := Lib.hid (And.intro hbx (And.intro hnx hvl2)); clear hbx hnx hlk hfd hvle hvl hvl2 hS hM hk hnk
  go_enter Tryz.func17, Tryz.ntmps17
  go_wp2_with fail
  have g0 := HG.out _ (Below.refl _ w).drew
  have g1 := HG.out _ (bnew w (.cells #[.slice none 0 0] 123)).drew
  obtain ⟨a0, a1, a2⟩ := g0
  obtain ⟨b0, b1, b2⟩ := g1
  go_region
  all_goals
    clear a0 a1 a2 b0 b1 b2
    obtain ⟨V2, hV2⟩ : ∃ V, V = (w.alloc (.cells #[.slice Ax nx cx] 123)).drew := ⟨_, rfl⟩
    rw [← hV2]
    have hB2 : Below w.heap.size w V2 := by rw [hV2]; exact (bnew _ _).drew
    have hx2 : V2.heap[w.heap.size]? = some (.cells #[.slice Ax nx cx] 123 (0, 0)) := by rw [hV2]; exact heap_alloc_new _ _
    clear hV2
    have c0 := Joins.cell_of_block hx2 0
    simp at c0
    have HC := Lib.hid (bclone_c Ax nx cx vl HB.out.2.1.symm V2 (by have := HB.out.2; omega) ((HB.out.1.below hB2).toR.rd))
    go_wp2_with (go_at_call 55; (refine HC.out.mono ?_); rintro e w3 ⟨v3, rfl, hown3, hb3⟩; rw [HB.out.2.1] at hown3; obtain ⟨A3, c3, rfl, -, -, -⟩ := own_slice hown3; have H3 := Lib.hid (And.intro hown3 hb3); clear hown3 hb3)
    go_ret2
    exact ⟨_, rfl, own_bs' H3.out.1 HB.out.2.1, bstep hB2 H3.out.2⟩
set_option maxRecDepth 100000 in
set_option maxHeartbeats 400000 in
theorem klen_c (bs bm : Nat) (m : KvM) (lp br : Value) (w : World) (hS : w.heap[bs]? = some (.cells #[lp, .map (some bm), br] 106 (0, 0))) (hM : MapS w bm m) :
    Calls Tryz.prog 20 #[.pointer (some ⟨bs, 0, none⟩)] w fun e w' => e = .returned (.int .i64 (m.length : Int)) ∧ w' = w := by
  obtain ⟨clock, xs, hX, rfl⟩ := hM
  have c1 := Joins.cell_of_block hS 1
  simp at c1
  have hl := run_len_map (P := Tryz.prog) und_kvm hX.at_ 3
  simp only [List.size_toArray, List.length_map] at hl
  rw [List.length_map]
  clear hX hS
  go_enter Tryz.func20, Tryz.ntmps20
  go_wp2
  go_ret
  exact ⟨rfl, rfl⟩
end Go.Proofs.YtnljhabpcoiihaaGreatDoor
