/- 'stands' says yes to every item that reads as a tree. -/
import Derived.Test.YtildkoabfdfjlaaEncL
set_option linter.all false
namespace Go.Proofs.Ytildkoabfdfjlaa
open Go.RowKit
open Rlp (It)
/-- what 'stands' is said to do to one item -/
def StandsAt (x : It) : Prop := ∀ (c0 c1 c2 : Value) (w : World), ItemR 0 w x c0 c1 c2 →
  Calls Try.prog 25 #[.agg #[c0, c1, c2]] w fun e w' => e = .returned (.bool true) ∧ Below w.heap.size w w'

set_option maxRecDepth 100000 in
set_option maxHeartbeats 400000 in
theorem stands1_c (x : It) (hx : StandsAt x) (c0 c1 c2 : Value) (w : World) (h : ItemR 0 w x c0 c1 c2) :
    Calls Try.prog 49 #[.agg #[c0, c1, c2]] w fun e w' => e = .returned (.bool false) ∧ Below w.heap.size w w' := by
  obtain ⟨f, A1, k1, cp1, B1, m1, d1, rfl, rfl, rfl⟩ := h.shape
  have HI := Lib.hid h; clear h
  have HX := Lib.hid hx; clear hx
  go_enter Try.func49, Try.ntmps49
  go_wp2_with (go_at_call 25; refine (HX.out _ _ _ _ (ItemR.below (bnew _ _) _ _ _ _ HI.out)).mono ?_; rintro e w1 ⟨rfl, hB⟩)
  go_ret
  exact ⟨rfl, bstep (bnew w _) hB⟩

set_option maxRecDepth 100000 in
set_option maxHeartbeats 400000 in
theorem indexFunc_c (its : List It) (hx : Hid (∀ k (hk : k < its.length), StandsAt its[k])) (A : Option Addr) (cap : Nat) (cs : List Value) (w : World) (hr : Rd 0 w A cs) (hi : ItemsR 0 w its cs) (hlen : Hid (its.length ≤ 140737488355328)) :
    Calls Try.prog 56 #[.slice A its.length cap, .func (.func 49) #[] #[]] w fun e w' => e = .returned (.int .i64 (-1)) ∧ Below w.heap.size w w' := by
  have HR := Lib.hid (And.intro hr hi); clear hr hi
  have hl2 : (its.length : Int) ≤ 9223372036854775807 := by have := hlen.out; omega
  go_enter Try.func56, Try.ntmps56
  go_wp2_with fail
  go_loopw [8] (fun i wr => ∃ (k : Nat), k ≤ its.length ∧ i = .int .i64 k ∧ Below w.heap.size w wr) (fun i _ => its.length - (intOf i).toNat)
  case atStart => exact ⟨0, by omega, rfl, Below.refl _ _⟩
  case round =>
    obtain ⟨k, hk, rfl, hB⟩ := hrel
    by_cases hlt : k < its.length
    · obtain ⟨c0, c1, c2, e0, e1, e2, hitem⟩ := HR.out.2.at k hlt
      obtain ⟨b, o, hA, hcell⟩ := HR.out.1.addr (by rw [HR.out.2.length]; omega)
      have q0 := (hcell (k * 3) (by rw [HR.out.2.length]; omega)).trans e0
      have q1 := (hcell (k * 3 + 1) (by rw [HR.out.2.length]; omega)).trans e1
      have q2 := (hcell (k * 3 + 2) (by rw [HR.out.2.length]; omega)).trans e2
      clear hcell e0 e1 e2
      subst hA
      have hbw := cell_lt q0
      have r0 : wr.cell? ⟨b, o + k * 3, none⟩ = some c0 := (hB.cell (p := ⟨b, _, none⟩) hbw).trans q0
      have r1 : wr.cell? ⟨b, o + (k * 3 + 1), none⟩ = some c1 := (hB.cell (p := ⟨b, _, none⟩) hbw).trans q1
      have r2 : wr.cell? ⟨b, o + (k * 3 + 2), none⟩ = some c2 := (hB.cell (p := ⟨b, _, none⟩) hbw).trans q2
      clear q0 q1 q2
      rw [← Nat.add_assoc] at r1 r2
      have hitem := ItemR.below hB _ _ _ _ hitem
      obtain ⟨f, A1, k1, cp1, B1, m1, d1, rfl, rfl, rfl⟩ := hitem.shape
      have HI := Lib.hid hitem; clear hitem
      go_wp2_with (go_at_call 49; (with_reducible refine (stands1_c its[k] (hx.out k hlt) _ _ _ _ HI.out).mono ?_); rintro e w1 ⟨rfl, hB1⟩)
      go_roundw
      case rel => exact ⟨k + 1, by omega, by go_num, bstep hB hB1⟩
      case measure => simp [intOf]; omega
    · obtain rfl : k = its.length := by omega
      go_wp2_with fail
      go_ret
      exact ⟨rfl, hB⟩

set_option maxRecDepth 100000 in
set_option maxHeartbeats 400000 in
theorem containsFunc_c (its : List It) (hx : Hid (∀ k (hk : k < its.length), StandsAt its[k])) (A : Option Addr) (cap : Nat) (cs : List Value) (w : World) (hr : Hid (Rd 0 w A cs ∧ ItemsR 0 w its cs)) (hlen : Hid (its.length ≤ 140737488355328)) :
    Calls Try.prog 48 #[.slice A its.length cap, .func (.func 49) #[] #[]] w fun e w' => e = .returned (.bool false) ∧ Below w.heap.size w w' := by
  go_enter Try.func48, Try.ntmps48
  go_wp2_with (go_at_call 56; (with_reducible refine (indexFunc_c its hx A cap cs _ hr.out.1 hr.out.2 hlen).mono ?_); rintro e w1 ⟨rfl, hB1⟩)
  go_ret
  exact ⟨rfl, hB1⟩

set_option maxRecDepth 100000 in
set_option maxHeartbeats 400000 in
theorem stands_str (l : List UInt8) : StandsAt (.str l) := by
  intro c0 c1 c2 w h
  simp only [ItemR] at h
  obtain ⟨rfl, ⟨A, cap, rfl, hc, hr⟩, B, cap', rfl⟩ := h
  clear hr
  go_enter Try.func25, Try.ntmps25
  go_wp2_with fail
  go_ret
  exact ⟨rfl, bnew w _⟩

set_option maxRecDepth 100000 in
set_option maxHeartbeats 400000 in
theorem stands_list (its : List It) (hx : Hid (∀ k (hk : k < its.length), StandsAt its[k])) (hlen : Hid (its.length ≤ 140737488355328)) : StandsAt (.list its) := by
  intro c0 c1 c2 w h
  simp only [ItemR] at h
  obtain ⟨rfl, ⟨B, cp, rfl⟩, A, cap, cs, rfl, hc, hr, hi⟩ := h
  have HR := Lib.hid (And.intro hr hi); clear hr hi
  go_enter Try.func25, Try.ntmps25
  go_wp2_with (go_at_call 48; (with_reducible refine (containsFunc_c its hx A cap cs _ (Lib.hid (And.intro (HR.out.1.alloc _) (ItemsR.below (bnew _ _) _ _ HR.out.2))) hlen).mono ?_); rintro e w1 ⟨rfl, hB1⟩)
  go_ret
  exact ⟨rfl, bstep (bnew w _) hB1⟩

mutual
/-- every slice of items within a tree is one that memory bears -/
def FitsAll : It → Prop
  | .str _ => True
  | .list l => l.length ≤ 140737488355328 ∧ FitsAlls l
def FitsAlls : List It → Prop
  | [] => True
  | x :: l => FitsAll x ∧ FitsAlls l
end
theorem FitsAlls.mem : ∀ {l : List It}, FitsAlls l → ∀ x, x ∈ l → FitsAll x
  | [], _, x, hx => by simp at hx
  | y :: l, h, x, hx => by
    simp only [FitsAlls] at h
    rcases List.mem_cons.1 hx with rfl | hx
    · exact h.1
    · exact FitsAlls.mem h.2 x hx
theorem FitsAlls.of_mem : ∀ {l : List It}, (∀ x, x ∈ l → FitsAll x) → FitsAlls l
  | [], _ => trivial
  | y :: l, h => ⟨h y (by simp), FitsAlls.of_mem fun x hx => h x (by simp [hx])⟩
theorem FitsAll.fits : ∀ (d : Nat) (x : It), FitsAll x → Fits d x
  | _, .str _, _ => by simp [Fits]
  | 0, .list l, h => by simp only [FitsAll] at h; simp only [Fits]; exact h.1
  | d + 1, .list l, h => by
    simp only [FitsAll] at h; simp only [Fits]
    exact ⟨h.1, fun x hx => FitsAll.fits d x (h.2.mem x hx)⟩

theorem stands_c : ∀ (n : Nat) (x : It), wt x ≤ n → FitsAll x → StandsAt x := by
  intro n
  induction n with
  | zero => intro x hx; cases x <;> simp [wt] at hx
  | succ n ih =>
    intro x hx hf
    cases x with
    | str l => exact stands_str l
    | list l =>
      simp only [FitsAll] at hf
      refine stands_list l (fun k hk => ih _ ?_ (hf.2.mem _ (List.getElem_mem hk))) hf.1
      have := wt_at l k hk
      simp only [wt] at hx
      omega
end Go.Proofs.Ytildkoabfdfjlaa
