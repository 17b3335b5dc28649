/- The reference's numbers of files, plain. The reference's numbers of files: which. -/
import Derived.Test.YtjpcmgoajdjkgaaGreatDoorInv
import Derived.Test.YtjpcmgoajdjkgaaGreatDoorRPut
set_option linter.all false
namespace Go.Proofs.YtjpcmgoajdjkgaaGreatDoor
open Go.RowKit
open Wal (fileB)

theorem numOf_name (name : List UInt8) (j : Nat) (h : j < 1000000000) : numOf name (name ++ [46] ++ Go.Lib.decDigits j) = some (j : Int) := by
  have hl := digits_length j 8 (by omega)
  unfold numOf
  have e1 : (name ++ [46]).isPrefixOf (name ++ [46] ++ Go.Lib.decDigits j) = true := by
    rw [List.isPrefixOf_iff_prefix]
    exact List.prefix_append _ _
  have e2 : (name ++ [46] ++ Go.Lib.decDigits j).drop (name.length + 1) = Go.Lib.decDigits j := drp (by simp)
  rw [if_pos e1, e2, if_neg (by omega), atoi_digits j h]
  simp [fileB]
  omega
theorem numOf_some {name f : List UInt8} {v : Int} (h : numOf name f = some v) : ∃ j : Nat, j < 1000000000 ∧ v = (j : Int) ∧ f = name ++ [46] ++ Go.Lib.decDigits j := by
  unfold numOf at h
  split at h
  · rename_i hp
    split at h
    · cases h
    · split at h
      · split at h
        · rename_i v' hv hF
          cases h
          unfold fileB at hF
          split at hF
          · subst hF; simp at hp
          · rename_i hr
            exact ⟨v.toNat, by omega, by omega, hF.symm⟩
        · cases h
      · cases h
  · cases h

def isDig (c : UInt8) : Bool := decide (48 ≤ c.toNat) && decide (c.toNat ≤ 57)
def decVal (l : List UInt8) : Nat := l.foldl (fun n c => n * 10 + (c.toNat - 48)) 0
theorem decVal_append (l : List UInt8) (c : UInt8) : decVal (l ++ [c]) = decVal l * 10 + (c.toNat - 48) := by simp [decVal]
theorem decVal_digits : ∀ (u : Nat), decVal (Go.Lib.decDigits u) = u
  | u => by
    rw [Go.Lib.decDigits]
    split
    · rename_i h
      simp only [decVal, List.foldl_cons, List.foldl_nil, UInt8.toNat_ofNat']
      omega
    · rename_i h
      rw [decVal_append, decVal_digits (u / 10), UInt8.toNat_ofNat']
      omega
termination_by u => u
decreasing_by omega
theorem decFold_lt : ∀ (l : List UInt8) (n : Nat), (∀ c ∈ l, isDig c = true) → l.foldl (fun n c => n * 10 + (c.toNat - 48)) n < (n + 1) * 10 ^ l.length
  | [], n, _ => by simp
  | c :: r, n, hd => by
    have h1 := decFold_lt r (n * 10 + (c.toNat - 48)) fun x hx => hd x (by simp [hx])
    have h2 := hd c (by simp)
    simp only [isDig, Bool.and_eq_true, decide_eq_true_eq] at h2
    rw [List.foldl_cons, List.length_cons, Nat.pow_succ]
    refine Nat.lt_of_lt_of_le h1 ?_
    rw [Nat.mul_comm (10 ^ r.length) 10, ← Nat.mul_assoc]
    exact Nat.mul_le_mul_right _ (by omega)
theorem decVal_lt (l : List UInt8) (hd : ∀ c ∈ l, isDig c = true) : decVal l < 10 ^ l.length := by
  have := decFold_lt l 0 hd
  simpa [decVal] using this
theorem digs_all (u : Nat) : ∀ c ∈ Go.Lib.decDigits u, isDig c = true := by
  intro c hc
  have := digits_first u c hc
  simp only [isDig, Bool.and_eq_true, decide_eq_true_eq]
  omega

/-- what the reference asks of a file's name -/
def whichOk (name f : List UInt8) : Prop := name.length + 1 < f.length ∧ f.length ≤ name.length + 10 ∧ f.take (name.length + 1) = name ++ [46] ∧ ∀ c ∈ f.drop (name.length + 1), isDig c = true
theorem which_of {name f : List UInt8} {v : Int} (h : numOf name f = some v) : whichOk name f ∧ v = (decVal (f.drop (name.length + 1)) : Nat) := by
  obtain ⟨j, hj, rfl, rfl⟩ := numOf_some h
  have hl := digits_length j 8 (by omega)
  have hn := digits_ne j
  have hn1 : 1 ≤ (Go.Lib.decDigits j).length := by
    rcases Nat.lt_or_ge 0 (Go.Lib.decDigits j).length with h | h
    · exact h
    · exact absurd (List.eq_nil_of_length_eq_zero (by omega)) hn
  have e2 : (name ++ [46] ++ Go.Lib.decDigits j).drop (name.length + 1) = Go.Lib.decDigits j := drp (by simp)
  refine ⟨⟨by simp; omega, by simp; omega, ?_, by rw [e2]; exact digs_all j⟩, by rw [e2, decVal_digits]⟩
  rw [List.take_append_of_le_length (by simp), List.take_of_length_le (by simp)]
theorem which_none {name f : List UInt8} (h : ¬ whichOk name f) : numOf name f = none := by
  cases hn : numOf name f with
  | none => rfl
  | some v => exact absurd (which_of hn).1 h
theorem which_some {name f : List UInt8} (h : fileB name (decVal (f.drop (name.length + 1)) : Nat) = f) (hok : whichOk name f) : numOf name f = some (decVal (f.drop (name.length + 1)) : Nat) := by
  have h9 : decVal (f.drop (name.length + 1)) < 1000000000 := by
    have := decVal_lt _ hok.2.2.2
    have hl : (f.drop (name.length + 1)).length ≤ 9 := by rw [List.length_drop]; have := hok.2.1; omega
    have := Nat.pow_le_pow_right (n := 10) (by decide) hl
    omega
  generalize decVal (f.drop (name.length + 1)) = j at h h9 ⊢
  unfold fileB at h
  rw [if_neg (by omega)] at h
  rw [← h]
  exact numOf_name name j h9
theorem which_other {name f : List UInt8} (h : fileB name (decVal (f.drop (name.length + 1)) : Nat) ≠ f) : numOf name f = none := by
  cases hn : numOf name f with
  | none => rfl
  | some v =>
    obtain ⟨h1, h2⟩ := which_of hn
    obtain ⟨j, hj, h3, h4⟩ := numOf_some hn
    refine absurd ?_ h
    rw [← h2, h3]
    unfold fileB
    rw [if_neg (by omega)]
    exact h4.symm

/-- a number into a list that rises -/
theorem ins_int {l : List Int} {n : Int} {k : Nat} (hk : k ≤ l.length) (hs : l.Pairwise (fun a b => a ≤ b)) (h1 : ∀ i (h : i < l.length), k ≤ i → n < l[i]) (h2 : k = 0 ∨ ∃ h : k - 1 < l.length, l[k - 1] ≤ n) :
    (l.take k ++ [n] ++ l.drop k).Pairwise (fun a b => a ≤ b) ∧ (l.take k ++ [n] ++ l.drop k).Perm (l ++ [n]) := by
  constructor
  · have hle : ∀ x ∈ l.take k, x ≤ n := by
      intro x hx
      obtain ⟨i, hi, rfl⟩ := List.getElem_of_mem hx
      rw [List.getElem_take]
      rw [List.length_take] at hi
      rcases h2 with rfl | ⟨h, h2⟩
      · omega
      · rcases Nat.lt_or_ge i (k - 1) with hlt | hge
        · exact Int.le_trans (List.pairwise_iff_getElem.1 hs i (k - 1) (by omega) h hlt) h2
        · have : i = k - 1 := by omega
          subst this; exact h2
    have hgt : ∀ x ∈ l.drop k, n ≤ x := by
      intro x hx
      obtain ⟨i, hi, rfl⟩ := List.getElem_of_mem hx
      rw [List.getElem_drop]
      rw [List.length_drop] at hi
      exact Int.le_of_lt (h1 _ (by omega) (by omega))
    rw [List.append_assoc, List.pairwise_append]
    refine ⟨hs.take, ?_, ?_⟩
    · rw [List.singleton_append, List.pairwise_cons]
      exact ⟨hgt, hs.drop⟩
    · intro a ha b hb
      rw [List.singleton_append] at hb
      rcases List.mem_cons.1 hb with rfl | hb
      · exact hle a ha
      · exact Int.le_trans (hle a ha) (hgt b hb)
  · have e : l ++ [n] = (l.take k ++ l.drop k) ++ [n] := by rw [List.take_append_drop]
    rw [e, List.append_assoc, List.append_assoc]
    exact List.Perm.append_left _ List.perm_append_comm
theorem sorted_eq {l m : List Int} (hs : l.Pairwise (fun a b => a ≤ b)) (hp : l.Perm m) : l = m.mergeSort fun x y => decide (x ≤ y) := by
  have h2 := List.pairwise_mergeSort (le := fun x y : Int => decide (x ≤ y)) (fun a b c h h' => by simp only [decide_eq_true_eq] at *; omega) (fun a b => by simp only [Bool.or_eq_true, decide_eq_true_eq]; omega) m
  refine List.Perm.eq_of_pairwise (le := fun x y : Int => x ≤ y) (fun a b _ _ h h' => Int.le_antisymm h h') hs (h2.imp fun h => by simpa using h) (hp.trans (List.mergeSort_perm _ _).symm)
end Go.Proofs.YtjpcmgoajdjkgaaGreatDoor
set_option linter.all false
namespace Go.Proofs.YtjpcmgoajdjkgaaGreatDoor
open Go.RowKit
open Wal (fileB)

theorem ext_list (f : List UInt8) (k : Nat) : ((⟨f.toArray⟩ : ByteArray).extract 0 k).toList = f.take k := by
  rw [Lib.toList_data]
  simp
theorem dot_list (a : List UInt8) : ((⟨a.toArray⟩ : ByteArray) ++ (⟨#[46]⟩ : ByteArray)).toList = a ++ [46] := by
  rw [Lib.toList_data]
  simp
def WhPost (name f : List UInt8) (w : World) (e : Ending) (w' : World) : Prop :=
  (∃ (v : Int) (b : Bool), e = .returned (.tuple #[.int .i64 v, .bool b]) ∧ numOf name f = if b = true then some v else none) ∧ Below w.heap.size w w'

set_option maxRecDepth 100000 in
set_option maxHeartbeats 1000000 in
theorem rwhich_c (name f : List UInt8) (hn : name.length ≤ 1024) (hf : f.length ≤ 1024) (w : World) :
    Calls Tryz.prog 57 #[.string ⟨name.toArray⟩, .string ⟨f.toArray⟩] w (WhPost name f w) := by
  obtain ⟨F, hF⟩ : ∃ x, f.length = x := ⟨_, rfl⟩
  obtain ⟨K, hK⟩ : ∃ x, name.length = x := ⟨_, rfl⟩
  have hs1 : (⟨f.toArray⟩ : ByteArray).size = F := by simp [ByteArray.size, hF]
  have hs2 : (⟨name.toArray⟩ : ByteArray).size = K := by simp [ByteArray.size, hK]
  have HFK := Lib.hid (And.intro hF hK)
  rw [hF] at hf
  rw [hK] at hn
  clear hF hK
  have hw1 : wrap64 ((K : Int) + 1) = K + 1 := by unfold wrap64; omega
  have hw2 : wrap64 ((K : Int) + 1 + 9) = K + 1 + 9 := by unfold wrap64; omega
  by_cases h1 : F ≤ K + 1
  · have hno : numOf name f = none := which_none fun h => by have := h.1; rw [HFK.out.1, HFK.out.2] at this; omega
    have HNO := Lib.hid hno; clear hno
    go_enter Tryz.func57, Tryz.ntmps57
    go_wp2_with fail
    go_ret2
    exact ⟨⟨_, _, rfl, HNO.out⟩, Below.refl _ _⟩
  by_cases h2 : K + 10 < F
  · have hno : numOf name f = none := which_none fun h => by have := h.2.1; rw [HFK.out.1, HFK.out.2] at this; omega
    have HNO := Lib.hid hno; clear hno
    go_enter Tryz.func57, Tryz.ntmps57
    go_wp2_with fail
    go_ret2
    exact ⟨⟨_, _, rfl, HNO.out⟩, Below.refl _ _⟩
  have d1 : decide ((F : Int) ≤ (K : Int) + 1) = false := by simp; omega
  have d2 : decide ((K : Int) + 1 + 9 < (F : Int)) = false := by simp; omega
  have d3 : (((⟨f.toArray⟩ : ByteArray).extract 0 (K + 1)).toList == ((⟨name.toArray⟩ : ByteArray) ++ (⟨#[46]⟩ : ByteArray)).toList) = decide (f.take (K + 1) = name ++ [46]) := by
    rw [ext_list, dot_list]
    by_cases h : f.take (K + 1) = name ++ [46] <;> simp [h]
  by_cases h3 : f.take (K + 1) = name ++ [46]
  · rw [decide_eq_true h3] at d3
    have H3 := Lib.hid h3; clear h3
    go_enter Tryz.func57, Tryz.ntmps57
    go_wp2_with fail
    go_loopw [7, 8] (fun nv i W => ∃ (p : Nat), K + 1 ≤ p ∧ p ≤ F ∧ i = .int .i64 (p : Int) ∧ nv = .int .i64 (decVal ((f.drop (K + 1)).take (p - (K + 1))) : Nat) ∧ Hid (∀ c ∈ (f.drop (K + 1)).take (p - (K + 1)), isDig c = true) ∧ W = w) (fun _ i _ => F - (intOf i).toNat)
    case atStart => exact ⟨K + 1, Nat.le_refl _, by omega, rfl, by simp [decVal], Lib.hid (by simp), rfl⟩
    case round =>
      obtain ⟨p, hp1, hp2, rfl, rfl, HA, rfl⟩ := hrel
      obtain ⟨V, hV⟩ : ∃ V, decVal ((f.drop (K + 1)).take (p - (K + 1))) = V := ⟨_, rfl⟩
      have hVl : V < 1000000000 := by
        have h1 := decVal_lt _ HA.out
        rw [hV] at h1
        have h2 : ((f.drop (K + 1)).take (p - (K + 1))).length ≤ 9 := by rw [List.length_take, List.length_drop, HFK.out.1]; omega
        have := Nat.pow_le_pow_right (n := 10) (by decide) h2
        omega
      rw [hV]
      by_cases hlt : p < F
      · have hV8 : V < 100000000 := by
          have h1 := decVal_lt _ HA.out
          rw [hV] at h1
          have h2 : ((f.drop (K + 1)).take (p - (K + 1))).length ≤ 8 := by rw [List.length_take, List.length_drop, HFK.out.1]; omega
          have := Nat.pow_le_pow_right (n := 10) (by decide) h2
          omega
        have HV := Lib.hid hV; clear hV
        have hlf : p < f.length := by rw [HFK.out.1]; exact hlt
        obtain ⟨x, hx⟩ : ∃ x, f[p]'hlf = x := ⟨_, rfl⟩
        obtain ⟨c, hc⟩ : ∃ c : Nat, x.toNat = c := ⟨_, rfl⟩
        have hc255 : c < 256 := by rw [← hc]; exact UInt8.toNat_lt _
        have hg : ∀ h : p < (⟨f.toArray⟩ : ByteArray).size, ((⟨f.toArray⟩ : ByteArray)[p]'h).toNat = c := fun h => by rw [← hc, ← hx]; rfl
        have hdl : p - (K + 1) < (f.drop (K + 1)).length := by rw [List.length_drop]; omega
        have hdx : (f.drop (K + 1))[p - (K + 1)]'hdl = x := by rw [List.getElem_drop, ← hx]; congr 1; omega
        have hmem : x ∈ f.drop (K + 1) := by rw [← hdx]; exact List.getElem_mem _
        have htk : (f.drop (K + 1)).take (p + 1 - (K + 1)) = (f.drop (K + 1)).take (p - (K + 1)) ++ [x] := by
          rw [show p + 1 - (K + 1) = p - (K + 1) + 1 by omega, List.take_succ_eq_append_getElem hdl, hdx]
        have HC := Lib.hid (And.intro hc (And.intro hmem htk)); clear hc hmem htk hdx hdl hx hlf
        have hkF : decide ((p : Int) < (F : Int)) = true := by simp; omega
        by_cases hd : 48 ≤ c ∧ c ≤ 57
        · obtain ⟨hd1, hd2⟩ := hd
          have t1 : decide ((c : Int) < 48) = false := by simp; omega
          have t2 : decide ((57 : Int) < (c : Int)) = false := by simp; omega
          have t3 : IntKind.u8.wrap ((c : Int) - 48) = ((c - 48 : Nat) : Int) := by rw [IntWalk.u8_in _ (by omega)]; omega
          go_wp2_with fail
          refine ⟨⟨p + 1, by omega, by omega, rfl, ?_, Lib.hid ?_, trivial⟩, by simp [intOf]; omega⟩
          · rw [HC.out.2.2, decVal_append, HV.out, HC.out.1]
            exact congrArg _ (by omega)
          · rw [HC.out.2.2]
            intro y hy
            rcases List.mem_append.1 hy with hy | hy
            · exact HA.out y hy
            · rw [List.mem_singleton] at hy
              subst hy
              simp only [isDig, HC.out.1, Bool.and_eq_true, decide_eq_true_eq]
              exact ⟨hd1, hd2⟩
        · have hno : numOf name f = none := which_none fun h => hd (by
            have := h.2.2.2 x (by rw [HFK.out.2]; exact HC.out.2.1)
            simp only [isDig, HC.out.1, Bool.and_eq_true, decide_eq_true_eq] at this
            exact this)
          have HNO := Lib.hid hno; clear hno
          by_cases hd1 : c < 48
          · have t1 : decide ((c : Int) < 48) = true := by simp; omega
            go_wp2_with fail
            go_ret2
            exact ⟨⟨_, _, rfl, HNO.out⟩, Below.refl _ _⟩
          · have t1 : decide ((c : Int) < 48) = false := by simp; omega
            have t2 : decide ((57 : Int) < (c : Int)) = true := by simp; omega
            go_wp2_with fail
            go_ret2
            exact ⟨⟨_, _, rfl, HNO.out⟩, Below.refl _ _⟩
      · obtain rfl : p = F := by omega
        have hkF : decide ((p : Int) < (p : Int)) = false := by simp
        have hall : (f.drop (K + 1)).take (p - (K + 1)) = f.drop (K + 1) := List.take_of_length_le (by rw [List.length_drop, HFK.out.1]; omega)
        rw [hall] at hV HA
        have hok : whichOk name f := ⟨by rw [HFK.out.1, HFK.out.2]; omega, by rw [HFK.out.1, HFK.out.2]; omega, by rw [HFK.out.2]; exact H3.out, by rw [HFK.out.2]; exact HA.out⟩
        obtain ⟨fb, hfb⟩ : ∃ x, fileB name (V : Int) = x := ⟨_, rfl⟩
        have hres : numOf name f = if (fb == f) = true then some (V : Int) else none := by
          have e2 : name.length = K := HFK.out.2
          by_cases he : fb = f
          · rw [if_pos (by simpa using he)]
            have := which_some (name := name) (f := f) (by rw [e2, hV, hfb, he]) hok
            rw [e2, hV] at this
            exact this
          · rw [if_neg (by simpa using he)]
            exact which_other (by rw [e2, hV, hfb]; exact he)
        have hF := rfile_c name (by rw [HFK.out.2]; omega) (V : Int) (by omega) (by omega) wr
        rw [hfb] at hF
        have HR := Lib.hid (And.intro hF hres); clear hF hres hok hall hV hfb
        go_wp2_with (go_at_call 18; refine HR.out.1.mono ?_; rintro e w1 ⟨rfl, hb⟩; have HB := Lib.hid hb; clear hb)
        go_ret2
        exact ⟨⟨_, _, rfl, HR.out.2⟩, HB.out⟩
  · rw [decide_eq_false h3] at d3
    have hno : numOf name f = none := which_none fun h => h3 (by have := h.2.2.1; rw [HFK.out.2] at this; exact this)
    have HNO := Lib.hid hno; clear hno h3
    go_enter Tryz.func57, Tryz.ntmps57
    go_wp2_with fail
    go_ret2
    exact ⟨⟨_, _, rfl, HNO.out⟩, Below.refl _ _⟩
end Go.Proofs.YtjpcmgoajdjkgaaGreatDoor
