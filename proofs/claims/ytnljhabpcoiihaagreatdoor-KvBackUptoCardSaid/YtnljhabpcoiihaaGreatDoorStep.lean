/- The names of files and logs, and a disk's step. A disk's step: the errors ahead of a call. -/
import Derived.Test.YtnljhabpcoiihaaGreatDoorDsk
import Derived.Test.YtnljhabpcoiihaaGreatDoorShelf
import Derived.LoopN
set_option linter.all false
namespace Go.Proofs.YtnljhabpcoiihaaGreatDoor
open Go.RowKit

theorem pred_odd (w : World) : PredAt Tryz.prog 102 #[] encR oddW w := fun W x _ => odd_c x W
theorem pred_dodd (w : World) : PredAt Tryz.prog 101 #[] encR oddD w := fun W x _ => dodd_c x W

theorem contains_odd (s : List UInt8) (w : World) :
    Calls Tryz.prog 100 #[.string ⟨s.toArray⟩, .func (.func 102) #[] #[]] w fun e w' => e = .returned (.bool (s.any fun b => oddW b.toNat)) ∧ Below w.heap.size w w' := by
  have h := Tryz.strings_ContainsFunc 102 #[] (enters_of Tryz.func102 (by kernel_rfl) rfl) oddW ⟨s.toArray⟩ w (pred_odd w)
  rw [idx_any _ oddW_great] at h
  exact h
theorem contains_dodd (s : List UInt8) (w : World) :
    Calls Tryz.prog 100 #[.string ⟨s.toArray⟩, .func (.func 101) #[] #[]] w fun e w' => e = .returned (.bool (s.any fun b => oddD b.toNat)) ∧ Below w.heap.size w w' := by
  have h := Tryz.strings_ContainsFunc 101 #[] (enters_of Tryz.func101 (by kernel_rfl) rfl) oddD ⟨s.toArray⟩ w (pred_dodd w)
  rw [idx_any _ oddD_great] at h
  exact h

set_option maxRecDepth 100000 in
set_option maxHeartbeats 400000 in
theorem name_c (s : List UInt8) (hm : s.length ≤ 4611686018427387904) (w : World) :
    Calls Tryz.prog 70 #[.string ⟨s.toArray⟩] w fun e w' => e = .returned (.bool (Wal.nameB s)) ∧ Below w.heap.size w w' := by
  rw [nameB_any]
  obtain ⟨a, ha⟩ : ∃ a, (s.any fun b => oddW b.toNat) = a := ⟨_, rfl⟩
  have hc := fun w => contains_odd s w
  rw [ha] at hc ⊢
  have HC := Lib.hid hc; clear hc
  clear ha
  go_enter Tryz.func70, Tryz.ntmps70
  go_wp2_with (go_at_call 100; refine (HC.out _).mono ?_; rintro e w1 ⟨rfl, hb1⟩)
  all_goals
    go_ret
    refine ⟨congrArg (fun b => Ending.returned (.bool b)) ?_, by first | exact hb1 | exact Below.refl _ _⟩
    first
      | (cases s <;> simp_all; done)
      | (cases s <;> simp_all; omega)
      | simp_all

set_option maxRecDepth 100000 in
set_option maxHeartbeats 400000 in
theorem dname_c (s : List UInt8) (hm : s.length ≤ 4611686018427387904) (w : World) :
    Calls Tryz.prog 67 #[.string ⟨s.toArray⟩] w fun e w' => e = .returned (.bool (dnameB s)) ∧ Below w.heap.size w w' := by
  unfold dnameB
  obtain ⟨a, ha⟩ : ∃ a, (s.any fun b => oddD b.toNat) = a := ⟨_, rfl⟩
  have hc := fun w => contains_dodd s w
  rw [ha] at hc ⊢
  have HC := Lib.hid hc; clear hc
  clear ha
  go_enter Tryz.func67, Tryz.ntmps67
  go_wp2_with (go_at_call 100; refine (HC.out _).mono ?_; rintro e w1 ⟨rfl, hb1⟩)
  all_goals
    go_ret
    refine ⟨congrArg (fun b => Ending.returned (.bool b)) ?_, by first | exact hb1 | exact Below.refl _ _⟩
    first
      | (cases s <;> simp_all; done)
      | (cases s <;> simp_all; omega)
      | simp_all

set_option maxRecDepth 100000 in
set_option maxHeartbeats 400000 in
theorem nok_c (s : List UInt8) (hm : s.length ≤ 4611686018427387904) (w : World) :
    Calls Tryz.prog 66 #[.string ⟨s.toArray⟩] w fun e w' => e = .returned (.bool (!dnameB s)) ∧ Below w.heap.size w w' := by
  go_enter Tryz.func66, Tryz.ntmps66
  go_wp2_with (go_at_call 67; refine (dname_c s hm _).mono ?_; rintro e w1 ⟨rfl, hb1⟩)
  go_ret
  exact ⟨rfl, hb1⟩

set_option maxRecDepth 100000 in
set_option maxHeartbeats 400000 in
theorem idxf_c (s : List UInt8) (hm : s.length ≤ 4611686018427387904) (b o c : Nat) (w : World) (hc : w.cell? ⟨b, o, none⟩ = some (.string ⟨s.toArray⟩)) :
    Calls Tryz.prog 99 #[.slice (some ⟨b, o, none⟩) 1 c, .func (.func 66) #[] #[]] w fun e w' => e = .returned (.int .i64 (if dnameB s then -1 else 0)) ∧ Below w.heap.size w w' := by
  go_enter Tryz.func99, Tryz.ntmps99
  go_wp2
  refine wp_loop_rounds 2 ?_
  rw [rounds_succ]
  go_wp2_with fail
  refine (nok_c s hm _).mono ?_
  cases hd : dnameB s with
  | true =>
    rintro e w1 ⟨rfl, hb1⟩
    go_wp2
    rw [rounds_succ]
    go_wp2
    go_ret
    exact ⟨rfl, hb1⟩
  | false =>
    rintro e w1 ⟨rfl, hb1⟩
    go_wp2
    all_goals
      go_ret
      exact ⟨rfl, hb1⟩

set_option maxRecDepth 100000 in
set_option maxHeartbeats 400000 in
theorem cf_c (s : List UInt8) (hm : s.length ≤ 4611686018427387904) (b o c : Nat) (w : World) (hc : w.cell? ⟨b, o, none⟩ = some (.string ⟨s.toArray⟩)) :
    Calls Tryz.prog 65 #[.slice (some ⟨b, o, none⟩) 1 c, .func (.func 66) #[] #[]] w fun e w' => e = .returned (.bool (!dnameB s)) ∧ Below w.heap.size w w' := by
  go_enter Tryz.func65, Tryz.ntmps65
  have hI := idxf_c s hm b o c w hc
  cases hd : dnameB s with
  | true =>
    rw [hd] at hI
    go_wp2_with (go_at_call 99; refine hI.mono ?_; rintro e w1 ⟨rfl, hb1⟩)
    go_ret
    exact ⟨rfl, hb1⟩
  | false =>
    rw [hd] at hI
    go_wp2_with (go_at_call 99; refine hI.mono ?_; rintro e w1 ⟨rfl, hb1⟩)
    go_ret
    exact ⟨rfl, hb1⟩
end Go.Proofs.YtnljhabpcoiihaaGreatDoor
set_option linter.all false
namespace Go.Proofs.YtnljhabpcoiihaaGreatDoor
open Go.RowKit

def DiskM.tick (D : DiskM) : DiskM := { D with steps := wrap64 (D.steps + 1) }
def DiskM.step (D : DiskM) (ok : Bool) : DiskM × Int :=
  if D.down then (D, 32) else if ok = false then (D, 1)
  else if planAt D.plan (wrap64 (D.steps + 1)) = 1 then (D.tick, 31)
  else if planAt D.plan (wrap64 (D.steps + 1)) = 2 then (D.tick, 30)
  else if planAt D.plan (wrap64 (D.steps + 1)) = 3 then ({ D.tick with down := true }, 32)
  else (D.tick, 0)

theorem step_mp (D : DiskM) (ok : Bool) : (D.step ok).1.mp = D.mp := by
  unfold DiskM.step
  (repeat' split) <;> rfl

theorem step_pm (D : DiskM) (ok : Bool) : (D.step ok).1.pm = D.pm := by
  unfold DiskM.step
  (repeat' split) <;> rfl

theorem und_plan : Tryz.prog.underlying 84 = some (.map 3 3) := by kernel_rfl
theorem und_int : Tryz.prog.underlying 3 = some (.int .i64) := by kernel_rfl
theorem zero_int (w : World) : (zeroValue 3).run Tryz.prog w = .ok (.int .i64 0) w := by kernel_rfl

theorem PlanR.look {n : Nat} {w : World} {v : Value} {l : List (Int × Int)} (h : PlanR n w v l) (k : Int) :
    (Instr.lookup 84 v (.int .i64 k) false).run Tryz.prog w = .ok (.int .i64 (planAt l k)) w := by
  rcases h with ⟨rfl, rfl⟩ | ⟨bp, es, clock, rfl, hn, hb, hl⟩
  · exact look_plan_nil und_plan und_int zero_int k
  · exact look_plan und_plan und_int zero_int hb l hl k

/-- one cell of a disk's block is written -/
theorem DiskX.write {n : Nat} {w : World} {bd bm clock : Nat} {pv : Value} {xs : List FEnt} {D D' : DiskM} (h : DiskX n w bd bm clock pv xs D) (i : Nat) (v : Value)
    (hv : (#[.int .i64 D.room, .map (some bm), pv, .int .i64 D.steps, .bool D.down] : Array Value).setIfInBounds i v = #[.int .i64 D'.room, .map (some bm), pv, .int .i64 D'.steps, .bool D'.down])
    (hp : D'.plan = D.plan) (hf : D'.files = D.files) (hr : D'.room = D.room) (hmp : D'.mp = D.mp) (hpm : D'.pm = D.pm) : DiskX n (w.setCell ⟨bd, i, none⟩ v) bd bm clock pv xs D' := by
  have hother : ∀ (b : Nat) (o : Obj), w.heap[b]? = some o → tagOf o ≠ some 86 → (w.setCell ⟨bd, i, none⟩ v).heap[b]? = some o := fun b o hb ht => by
    refine (Below.heap_setCell w ⟨bd, i, none⟩ v b ?_).trans hb
    rintro rfl
    rw [h.at_] at hb
    injection hb with hb
    subst hb
    exact ht rfl
  refine ⟨h.le, ?_, ?_, ?_, by rw [hf]; exact h.same, by
    unfold DiskM.Fits
    rw [hf, hr]
    exact h.fits, h.apart.1, hmp.trans h.apart.2.1, by rw [hpm]; exact h.apart.2.2⟩
  · rw [Joins.block_setCell h.at_ v, hv]
  · rw [hp]
    exact h.plan.keeps fun b o hb ht => hother b o hb (by rw [ht]; simp)
  · exact h.files.keeps (fun o ho => hother _ o ho (by have := h.files.at_; rw [ho] at this; injection this with this; subst this; simp [tagOf]))
      (fun x hx o ho => hother _ o ho (by obtain ⟨_, v, h2, _⟩ := h.files.each x hx; rw [ho] at h2; injection h2 with h2; subst h2; simp [tagOf]))
      (fun b o hb ht => hother b o hb (by rw [ht]; simp))
theorem DiskX.drew {n : Nat} {w : World} {bd bm clock : Nat} {pv : Value} {xs : List FEnt} {D : DiskM} (h : DiskX n w bd bm clock pv xs D) : DiskX n w.drew bd bm clock pv xs D :=
  h.keeps fun _ _ hb _ => hb
theorem DiskR.drew {n : Nat} {w : World} {bd : Nat} {D : DiskM} (h : DiskR n w bd D) : DiskR n w.drew bd D := h.keeps fun _ _ hb _ => hb

set_option maxRecDepth 100000 in
set_option maxHeartbeats 400000 in
theorem step_c (n bd : Nat) (D : DiskM) (s : List UInt8) (hm : s.length ≤ 4611686018427387904) (b o c : Nat) (w : World) (hD : DiskR n w bd D) (hc : w.cell? ⟨b, o, none⟩ = some (.string ⟨s.toArray⟩)) :
    Calls Tryz.prog 37 #[.pointer (some ⟨bd, 0, none⟩), .slice (some ⟨b, o, none⟩) 1 c] w fun e w' =>
      e = .returned (.int .i64 (D.step (dnameB s)).2) ∧ DiskR n w' bd (D.step (dnameB s)).1 ∧ Turn n [some 86] w w' := by
  obtain ⟨bm, clock, pv, xs, hX⟩ := hD
  have c4 := Joins.cell_of_block hX.at_ 4
  simp at c4
  have HCF := Lib.hid (cf_c s hm b o c w hc); clear hc
  have HX := Lib.hid hX; clear hX
  unfold DiskM.step
  cases hdn : D.down with
  | true =>
    rw [hdn] at c4
    go_enter Tryz.func37, Tryz.ntmps37
    go_wp2
    go_ret
    exact ⟨rfl, ⟨bm, clock, pv, xs, HX.out⟩, Turn.refl _ _ _⟩
  | false =>
    rw [hdn] at c4
    cases hn : dnameB s with
    | false =>
      have HCF' := HCF.out
      rw [hn] at HCF'
      have HC := Lib.hid HCF'; clear HCF' HCF
      go_enter Tryz.func37, Tryz.ntmps37
      go_wp2_with (go_at_call 65; refine HC.out.mono ?_; rintro e w1 ⟨rfl, hb1⟩)
      go_ret
      exact ⟨rfl, ⟨bm, clock, pv, xs, HX.out.keeps (Keeps8.of_below hb1)⟩, Turn.of_below hb1⟩
    | true =>
      obtain ⟨S, hS⟩ : ∃ S, wrap64 (D.steps + 1) = S := ⟨_, rfl⟩
      rw [hS]
      obtain ⟨K, hK⟩ : ∃ K, planAt D.plan S = K := ⟨_, rfl⟩
      rw [hK]
      have HS := Lib.hid (And.intro hS hK); clear hS hK
      have HCF' := HCF.out
      rw [hn] at HCF'
      have HC := Lib.hid HCF'; clear HCF' HCF
      go_enter Tryz.func37, Tryz.ntmps37
      go_wp2_with (go_at_call 65; refine HC.out.mono ?_; rintro e w1 ⟨rfl, hb1⟩; have hX1 := HX.out.keeps (Keeps8.of_below hb1); have c3 := Joins.cell_of_block hX1.at_ 3; have f3 := Joins.unfrozen_of_block hX1.at_ 3; simp at c3; have HX1 := Lib.hid hX1; clear hX1)
      have hX2 : DiskX n (w1.setCell ⟨bd, 3, none⟩ (.int .i64 (wrap64 (D.steps + 1)))) bd bm clock pv xs D.tick := HX1.out.write 3 _ (by simp [DiskM.tick]) rfl rfl rfl rfl rfl
      have hT2 : Turn n [some 86] w (w1.setCell ⟨bd, 3, none⟩ (.int .i64 (wrap64 (D.steps + 1)))) := (Turn.of_below hb1).setCell HX1.out.at_ HX1.out.le (by simp) _ _
      clear c3 f3 c4
      generalize w1.setCell ⟨bd, 3, none⟩ (.int .i64 (wrap64 (D.steps + 1))) = W2 at hX2 hT2 ⊢
      have hl := hX2.drew.plan.look S
      rw [show planAt D.tick.plan S = K from HS.out.2] at hl
      have c2 := Joins.cell_of_block hX2.at_ 2
      have c3 := Joins.cell_of_block hX2.at_ 3
      have f4 := Joins.unfrozen_of_block hX2.at_ 4
      have c4 := Joins.cell_of_block hX2.at_ 4
      simp [DiskM.tick, hdn, HS.out.1] at c2 c3 c4
      have HX2 := Lib.hid (And.intro hX2 hT2); clear hX2 hT2
      rw [HS.out.1]
      go_region
      by_cases h1 : K = 1
      · subst h1
        go_wp2
        go_ret
        exact ⟨rfl, ⟨bm, clock, pv, xs, HX2.out.1.drew⟩, HX2.out.2.drew⟩
      by_cases h2 : K = 2
      · subst h2
        go_wp2
        go_ret
        exact ⟨rfl, ⟨bm, clock, pv, xs, HX2.out.1.drew⟩, HX2.out.2.drew⟩
      by_cases h3 : K = 3
      · subst h3
        go_wp2
        go_ret
        refine ⟨rfl, ⟨bm, clock, pv, xs, HX2.out.1.drew.write 4 _ (by simp [DiskM.tick]) rfl rfl rfl rfl rfl⟩, HX2.out.2.drew.setCell HX2.out.1.drew.at_ HX2.out.1.le (by simp) _ _⟩
      · go_wp2
        go_ret
        exact ⟨rfl, ⟨bm, clock, pv, xs, HX2.out.1.drew⟩, HX2.out.2.drew⟩
end Go.Proofs.YtnljhabpcoiihaaGreatDoor
