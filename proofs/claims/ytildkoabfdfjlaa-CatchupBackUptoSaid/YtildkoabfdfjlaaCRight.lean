/- rows of votes; chain's 'right' of a commit. -/
import Derived.Test.YtildkoabfdfjlaaAlive
set_option linter.all false
namespace Go.Proofs.Ytildkoabfdfjlaa
open Go.RowKit
open Rlp (It)

/-- a vote, of whatever numbers -/
structure VotI where
  kind : Int
  height : Int
  round : Int
  block : List UInt8
  by_ : Int
  sig : List UInt8
def VotI.cells (v : VotI) : List Value := votV v.kind v.height v.round v.block v.by_ v.sig
structure VotI.Ok (v : VotI) : Prop where
  b : v.block.length = 32
  s : v.sig.length = 64
  h0 : 0 ≤ v.height
  h1 : v.height ≤ 18446744073709551615
  k1 : v.kind ≤ 9223372036854775807
  r1 : v.round ≤ 9223372036854775807
  y1 : v.by_ ≤ 9223372036854775807
def VotI.small (v : VotI) : Bool := smalls [v.kind, v.round, v.by_]

theorem VotI.len {v : VotI} (h : v.Ok) : v.cells.length = 100 := by
  simp [VotI.cells, votV, bytesV_length, h.b, h.s]
theorem VotI.one (v : VotI) : ∀ u ∈ v.cells, u.oneCell' = true := by
  intro u hu
  simp only [VotI.cells, votV, List.mem_cons, List.mem_append] at hu
  rcases hu with rfl | rfl | rfl | hu | rfl | hu
  · rfl
  · rfl
  · rfl
  · exact bytesV_one _ u hu
  · rfl
  · exact bytesV_one _ u hu

def votsV (l : List VotI) : List Value := l.flatMap VotI.cells
theorem votsV_cons (v : VotI) (l : List VotI) : votsV (v :: l) = v.cells ++ votsV l := by simp [votsV]
theorem votsV_length : ∀ {l : List VotI}, (∀ v ∈ l, v.Ok) → (votsV l).length = l.length * 100
  | [], _ => rfl
  | v :: l, h => by
    rw [votsV_cons, List.length_append, VotI.len (h v (by simp)), votsV_length (l := l) (fun x hx => h x (by simp [hx])), List.length_cons]; omega
theorem votsV_get : ∀ {l : List VotI}, (∀ v ∈ l, v.Ok) → ∀ (i : Nat) (hi : i < l.length) (j : Nat), j < 100 → (votsV l)[i * 100 + j]? = l[i].cells[j]?
  | [], _, i, hi, _, _ => by simp at hi
  | v :: l, h, 0, _, j, hj => by
    rw [votsV_cons, Nat.zero_mul, Nat.zero_add, List.getElem?_append_left (by rw [VotI.len (h v (by simp))]; exact hj)]; rfl
  | v :: l, h, i + 1, hi, j, hj => by
    have hl := VotI.len (h v (by simp))
    rw [votsV_cons, List.getElem?_append_right (by omega), hl, show (i + 1) * 100 + j - 100 = i * 100 + j by omega]
    exact votsV_get (l := l) (fun x hx => h x (by simp [hx])) i (by simpa using hi) j hj
theorem votsV_range {w : World} {b o : Nat} {l : List VotI} (h : ∀ v ∈ l, v.Ok) (hr : ∀ k, k < (votsV l).length → w.cell? ⟨b, o + k, none⟩ = (votsV l)[k]?) (i : Nat) (v : VotI) (hv : l[i]? = some v) : w.rangeAt b (o + i * 100) v.cells := by
  obtain ⟨hi, rfl⟩ := List.getElem?_eq_some_iff.1 hv
  intro j u hj
  have hjl := (List.getElem?_eq_some_iff.1 hj).1
  rw [VotI.len (h _ (List.getElem_mem hi))] at hjl
  have hlen := votsV_length h
  rw [Nat.add_assoc, hr (i * 100 + j) (by rw [hlen]; omega), votsV_get h i hi j hjl]
  exact hj

theorem world_ext {a b : World} (h1 : a.heap = b.heap) (h2 : a.tape = b.tape) (h3 : a.drawn = b.drawn) (h4 : a.os = b.os) (h5 : a.output = b.output) : a = b := by
  cases a; cases b; simp_all
/-- a fresh block, all of whose cells are stored -/
theorem setCells_fresh (w : World) (z : Array Value) (t : TypeId) (l : List Value) (hz : z.size = l.length) :
    (w.alloc (.cells z t)).setCells w.heap.size 0 l = w.alloc (.cells l.toArray t) := by
  have key : ∀ (l : List Value) (o : Nat) (c : Array Value), o + l.length = c.size →
      (w.alloc (.cells c t)).setCells w.heap.size o l = w.alloc (.cells (c.toList.take o ++ l).toArray t) := by
    intro l
    induction l with
    | nil =>
      intro o c h
      simp only [World.setCells]
      rw [List.take_of_length_le (by simp at h ⊢; omega)]; simp
    | cons x l ih =>
      intro o c h
      have e : (w.alloc (.cells c t)).setCell ⟨w.heap.size, o, none⟩ x = w.alloc (.cells (c.setIfInBounds o x) t) := by
        refine world_ext (Array.ext_getElem? fun i => ?_) rfl rfl rfl rfl
        by_cases hi : i = w.heap.size
        · subst hi
          rw [heap_setCell_row (World.alloc_heap_new _ _), World.alloc_heap_new]
        · rw [heap_setCell_other _ (by exact hi)]
          show (w.heap.push _)[i]? = (w.heap.push _)[i]?
          rw [Array.getElem?_push, Array.getElem?_push, if_neg hi, if_neg hi]
      rw [World.setCells, e, ih (o + 1) (c.setIfInBounds o x) (by simp at h ⊢; omega)]
      have e2 : (c.toList.set o x).take (o + 1) = c.toList.take o ++ [x] := by
        have hlt : o < (c.toList.set o x).length := by rw [List.length_set, Array.length_toList]; simp only [List.length_cons] at h; omega
        rw [List.take_succ_eq_append_getElem hlt, List.getElem_set_self]
        congr 1
        apply List.ext_getElem?
        intro i
        rw [List.getElem?_take, List.getElem?_take]
        split
        · rw [List.getElem?_set_ne (by omega)]
        · rfl
      rw [Array.toList_setIfInBounds, e2]
      simp
  have := key l 0 z (by omega)
  simpa using this

theorem range_new (W : World) (l : List Value) (t : TypeId) : (W.alloc (.cells l.toArray t)).rangeAt W.heap.size 0 l := fun j u hj => by
  rw [Nat.zero_add]
  exact cell_of_heap (World.alloc_heap_new _ _) (by simpa using hj)
/-- a value stored into a fresh block of its own size -/
theorem wpList_store_fresh {P : Program} {ops : Array Oper} {rest : List Oper} {op : Oper} {a : Act} {W : World} {Q : Exit → Act → World → Prop} (hgd : op.guard = none) (ty : TypeId) (x y : Operand) (ho : op.op = .store ty x y)
    (z : Array Value) (t : TypeId) (cells : Array Value) (hx : a.eval x = .pointer (some ⟨W.heap.size, 0, none⟩)) (hy : a.eval y = .agg cells)
    (n : Nat) (hz : z.size = n) (hc : cells.size = n) (hi : (P.info? ty).map (·.size) = some n) (h1 : cells.all (·.oneCell') = true)
    (h : wpList P ops Q rest (a.put op.dst undef) (W.alloc (.cells cells t))) : wpList P ops Q (op :: rest) a (W.alloc (.cells z t)) := by
  subst hc
  have hW : (W.alloc (.cells z t)).heap[W.heap.size]? = some (.cells z t (0, 0)) := World.alloc_heap_new _ _
  refine wpList_store_mid hgd ty x y ho W.heap.size 0 cells hx hy (fun j hj => ?_) hi h1 ?_
  · rw [Nat.zero_add]
    exact ⟨by rw [cell_of_heap hW (Array.getElem?_eq_getElem (by omega))]; rfl, by unfold World.frozen?; rw [hW]; simp⟩
  · rw [setCells_fresh W z t cells.toList (by simpa using hz)]
    simpa using h

/-- a commit's cells -/
def comV (h r : Int) (b : List UInt8) (v : Value) : List Value := .int .u64 h :: .int .i64 r :: (bytesV b ++ [v])

set_option maxRecDepth 100000 in
set_option maxHeartbeats 400000 in
theorem cright_c (h r : Int) (b : List UInt8) (hb : b.length = 32) (vs : List VotI) (hv : ∀ v ∈ vs, v.Ok) (A : Option Addr) (cap : Nat) (hl : vs.length ≤ 2000000) (w : World) (hrd : Rd 0 w A (votsV vs)) :
    Calls Try.prog 83 #[.agg (comV h r b (.slice A vs.length cap)).toArray] w fun e w' => e = .returned (.int .i64 (if smalls [r] && vs.all VotI.small then 0 else 71)) ∧ Below w.heap.size w w' := by
  have HV := Lib.hid (And.intro hv hrd); clear hv hrd
  obtain ⟨n, hn⟩ : ∃ n, vs.length = n := ⟨_, rfl⟩
  rw [hn] at hl ⊢
  obtain ⟨cs, hcs⟩ : ∃ cs, (comV h r b (.slice A n cap)).toArray = cs := ⟨_, rfl⟩
  have h1 : cs[1]? = some (.int .i64 r) := by rw [← hcs]; rfl
  have h34 : cs[34]? = some (.slice A n cap) := by
    rw [← hcs]
    unfold comV
    rw [List.getElem?_toArray, List.getElem?_cons_succ, List.getElem?_cons_succ, List.getElem?_append_right (by rw [bytesV_length]; omega), bytesV_length, hb]; rfl
  rw [hcs]
  have HN := Lib.hid hn
  obtain ⟨res, hres⟩ : ∃ q : Int, (if smalls [r] && vs.all VotI.small then 0 else 71) = q := ⟨_, rfl⟩
  rw [hres]
  have HRES := Lib.hid hres
  clear hcs hn hres
  go_enter Try.func83, Try.ntmps83
  go_wp2_with fail
  refine (small_c (some ⟨w.heap.size + 1, 0, none⟩) 1 [r] (by simp) _ (Or.inr ⟨_, _, Nat.zero_le _, rfl, fun j hj => ?_⟩)).mono ?_
  · have h3 : j < 1 := by simpa [intsV] using hj
    match j, h3 with
    | 0, _ => simp [go_sem, intsV]
  rintro e w1 ⟨rfl, rfl⟩
  cases hsm : smalls [r] with
  | false =>
    go_wp2
    all_goals exact bodyPost_ret (v := .int .i64 71) (by simp [results, Try.results83]) rfl ⟨by rw [← HRES.out, hsm]; rfl, bnew2 _ _ _⟩
  | true =>
    have HSM := Lib.hid hsm; clear hsm
    have hW1 := bnew2 w (.cells cs 79) (.cells #[.int .i64 r] 3)
    obtain ⟨W1, hWe⟩ : ∃ W, (w.alloc (.cells cs 79)).alloc (.cells #[.int .i64 r] 3) = W := ⟨_, rfl⟩
    have y34 : W1.cell? ⟨w.heap.size, 34, none⟩ = some (.slice A n cap) := by rw [← hWe]; simp [go_sem, h34]
    rw [hWe] at hW1 ⊢
    clear hWe h1 h34
    go_wp2_with fail
    go_loopw [14] (fun i wr => ∃ k : Nat, i = .int .i64 k ∧ k ≤ n ∧ Below w.heap.size w wr ∧ (vs.take k).all VotI.small = true) (fun i _ => n - (intOf i).toNat)
    case atStart => exact ⟨0, rfl, by omega, hW1, by simp⟩
    case round =>
      obtain ⟨k, rfl, hk, hB, hs⟩ := hrel
      have HS := Lib.hid hs; clear hs
      have hn := HN.out
      by_cases hlt : k < n
      · obtain ⟨b, o, rfl, hc⟩ := HV.out.2.addr (by rw [votsV_length HV.out.1]; omega)
        obtain ⟨v, hvk⟩ : ∃ v, vs[k]? = some v := ⟨_, List.getElem?_eq_getElem (by omega)⟩
        have hrg := votsV_range HV.out.1 hc k v hvk
        have hvo := HV.out.1 v (List.mem_of_getElem? hvk)
        have hlv := VotI.len hvo
        have hrg2 : wr.rangeAt b (o + k * 100) v.cells := fun j u hj => (hB.cell (p := ⟨b, o + k * 100 + j, none⟩) (cell_lt (hrg j u hj))).trans (hrg j u hj)
        clear hc hrg
        have HVK := Lib.hid (And.intro hvk (And.intro hvo hlv)); clear hvk hvo hlv hn
        obtain ⟨q, hq⟩ : ∃ q : Int, (if v.small then 0 else 71) = q := ⟨_, rfl⟩
        have HVR : Hid (∀ W, Calls Try.prog 85 #[.agg v.cells.toArray] W fun e w' => e = .returned (.int .i64 q) ∧ Below W.heap.size W w') := by
          intro W
          have := vright_c v.kind v.height v.round v.by_ v.block v.sig HVK.out.2.1.b HVK.out.2.1.s W
          rw [← hq]
          exact this
        cases hvs : v.small with
        | false =>
          rw [hvs] at hq
          obtain rfl : q = 71 := by rw [← hq]; rfl
          have hall : (smalls [r] && vs.all VotI.small) = false := by
            rw [HSM.out, Bool.true_and, Bool.eq_false_iff]
            intro h
            rw [List.all_eq_true] at h
            rw [h v (List.mem_of_getElem? HVK.out.1)] at hvs
            cases hvs
          have HALL := Lib.hid hall
          clear hvs hall hq
          go_wp2_with (first
            | (refine wpList_load_mid rfl 94 _ rfl b (o + k * 100) rfl v.cells _ hrg2 Try.underlying94 rfl (by rw [HVK.out.2.2]; kernel_rfl) ?_)
            | (refine wpList_store_fresh rfl 94 _ _ rfl Try.zeroCells94 94 v.cells.toArray (by simp [Act.eval, Act.put]) (by simp [Act.eval, Act.put]) 100 (by kernel_rfl) (by rw [List.size_toArray, HVK.out.2.2]) (by kernel_rfl) (all_oneCell_toArray v.one) ?_)
            | (refine wpList_load_mid rfl 94 _ rfl wr.heap.size 0 rfl v.cells _ (range_new _ _ _) Try.underlying94 rfl (by rw [HVK.out.2.2]; kernel_rfl) ?_)
            | (go_at_call 85; refine (HVR.out _).mono ?_; rintro e w2 ⟨rfl, hB2⟩))
          exact bodyPost_ret (v := .int .i64 71) (by simp [results, Try.results83]) rfl ⟨by rw [← HRES.out, HALL.out]; rfl, bstep (bstep hB (bnew _ _)) hB2⟩
        | true =>
          rw [hvs] at hq
          obtain rfl : q = 0 := by rw [← hq]; rfl
          have HVS := Lib.hid hvs
          clear hvs hq
          have hkm : (k : Int) + 1 ≤ 9223372036854775807 := by omega
          go_wp2_with (first
            | (refine wpList_load_mid rfl 94 _ rfl b (o + k * 100) rfl v.cells _ hrg2 Try.underlying94 rfl (by rw [HVK.out.2.2]; kernel_rfl) ?_)
            | (refine wpList_store_fresh rfl 94 _ _ rfl Try.zeroCells94 94 v.cells.toArray (by simp [Act.eval, Act.put]) (by simp [Act.eval, Act.put]) 100 (by kernel_rfl) (by rw [List.size_toArray, HVK.out.2.2]) (by kernel_rfl) (all_oneCell_toArray v.one) ?_)
            | (refine wpList_load_mid rfl 94 _ rfl wr.heap.size 0 rfl v.cells _ (range_new _ _ _) Try.underlying94 rfl (by rw [HVK.out.2.2]; kernel_rfl) ?_)
            | (go_at_call 85; refine (HVR.out _).mono ?_; rintro e w2 ⟨rfl, hB2⟩))
          go_roundw
          case rel =>
            refine ⟨k + 1, by go_num, by omega, bstep (bstep hB (bnew _ _)) hB2, ?_⟩
            obtain ⟨hkl, hkv⟩ := List.getElem?_eq_some_iff.1 HVK.out.1
            rw [List.take_succ_eq_append_getElem hkl, List.all_append, HS.out, hkv]
            simp [HVS.out]
          case measure => simp [intOf]; omega
      · obtain rfl : k = n := by omega
        clear hlt hk
        go_wp2
        refine bodyPost_ret (v := .int .i64 0) (by simp [results, Try.results83]) rfl ⟨?_, hB⟩
        have h := HS.out
        rw [List.take_of_length_le (by omega)] at h
        rw [← HRES.out, HSM.out, h]; rfl
end Go.Proofs.Ytildkoabfdfjlaa
