/- Rows of bytes: Clone, Equal, Grow, Concat. slices.Concat of rows of bytes. -/
import Derived.Test.YtnljhabpcoiihaaGreatDoorStep
import Derived.Test.YtnljhabpcoiihaaGreatDoorSum
import Derived.Test.YtnljhabpcoiihaaGreatDoorIter
import Derived.Laws.IdiomStrings
import Derived.Laws.BytesArg
set_option linter.all false
namespace Go.Proofs.YtnljhabpcoiihaaGreatDoor
open Go.RowKit

theorem wrap_id (x : Int) (h0 : 0 ≤ x) (h1 : x < 9223372036854775808) : wrap64 x = x := by unfold wrap64; omega

theorem info8 : ∃ i0, Tryz.prog.info? 5 = some i0 ∧ i0.zero = some (.int .u8 0) ∧ i0.size = 1 ∧ i0.bytes = 1 := info_parts info8_parts

theorem bclone_c (A : Option Addr) (n cap : Nat) (l : List UInt8) (hn : n = l.length) (w : World) (hl : n ≤ 140737488355328) (hr : Rd 0 w A (bytesV l)) :
    Calls Tryz.prog 55 #[.slice A n cap] w (fun e w' => ∃ v, e = .returned v ∧ w'.ownsRow w.heap.size 5 1 v l.length (bytesV l) ∧ Below w.heap.size w w') := by
  subst hn
  cases A with
  | none =>
    have : l = [] := by
      rcases hr with h | ⟨b, o, _, h, _⟩
      · simpa [bytesV] using h
      · cases h
    subst this
    refine (Tryz.bytes_Clone_nil _ _ w).mono ?_
    rintro e w' ⟨rfl, rfl⟩
    exact ⟨_, rfl, World.ownsRow_nil _ _ _ _, Below.refl _ _⟩
  | some a =>
    refine (Tryz.bytes_Clone_at a l.length cap (l.map fun x => (x.toNat : Int)) w (by simp) hl ?_).mono ?_
    · intro i hi
      obtain ⟨b, o, hA, hc⟩ := hr.addr (by rw [bytesV_length]; omega)
      injection hA with hA
      subst hA
      have := hc i (by rw [bytesV_length]; exact hi)
      rw [bytesV_get l i hi] at this
      have e : (l.map fun x => (x.toNat : Int)).getD i 0 = (l[i].toNat : Int) := by simp [List.getD_eq_getElem?_getD, List.getElem?_eq_getElem hi]
      rw [e, ← this]
      by_cases h0 : i = 0
      · subst h0; rfl
      · simp [Addr.add, h0]
    · rintro e w' ⟨v, rfl, hown, _, hB⟩
      refine ⟨v, rfl, ?_, hB⟩
      have : (l.map fun x => (x.toNat : Int)).map (Value.int .u8) = bytesV l := by simp [bytesV]
      rwa [this] at hown

set_option maxRecDepth 100000 in
set_option maxHeartbeats 400000 in
theorem clone_c (A : Option Addr) (n cap : Nat) (l : List UInt8) (hn : n = l.length) (w : World) (hl : n ≤ 140737488355328) (hr : Rd 0 w A (bytesV l)) :
    Calls Tryz.prog 130 #[.slice A n cap] w (fun e w' => ∃ v, e = .returned v ∧ w'.ownsRow w.heap.size 5 1 v l.length (bytesV l) ∧ Below w.heap.size w w') := by
  have HR := Lib.hid hr
  cases A with
  | none =>
    have : l = [] := by
      rcases hr with h | ⟨b, o, _, h, _⟩
      · simpa [bytesV] using h
      · cases h
    subst this
    obtain rfl : n = 0 := hn
    clear hr
    have q : ∀ (w : World) (a : Option Addr) (n c n' c' : Nat), (binOp .eql 29 (.slice a n c) (.slice none n' c')).run Tryz.prog w = .ok (.bool a.isNone) w := fun w a n c n' c' => Lib.run_eql_slice_nil w _ _ a n c n' c' Tryz.underlying29
    go_enter Tryz.func130, Tryz.ntmps130
    go_wp2
    go_ret
    exact ⟨_, rfl, World.ownsRow_nil _ _ _ _, Below.refl _ _⟩
  | some a =>
    clear hr
    obtain ⟨i0, hi0, hz0, hz1, hz2⟩ := info8
    have HN := Lib.hid hn; clear hn
    have q : ∀ (w : World) (a : Option Addr) (n c n' c' : Nat), (binOp .eql 29 (.slice a n c) (.slice none n' c')).run Tryz.prog w = .ok (.bool a.isNone) w := fun w a n c n' c' => Lib.run_eql_slice_nil w _ _ a n c n' c' Tryz.underlying29
    go_enter Tryz.func130, Tryz.ntmps130
    go_wp2_with (at_builtin; refine wpList_append_rd _ rfl _ _ 29 rfl w.heap.size 5 i0 _ 1 1 Tryz.underlying29 hi0 hz0 hz1 hz2 rfl (by decide) _ _ [] rfl (own_new w 5 #[] 0 rfl (by simp)) _ (some a) n cap (bytesV l) rfl (by rw [bytesV_length, HN.out]; omega) (HR.out.alloc _) (bytesV_one _) ?q1 ?q2 ?q3 ?q4 ?_)
    case q1 => unfold maxLen; omega
    case q2 => omega
    case q3 => simp
    case q4 => intro h; cases h
    intro v' w3 hown3 hgrow hblk
    have hown3 : w3.ownsRow w.heap.size 5 1 v' l.length (bytesV l) := by have h := hown3; rw [HN.out] at h; simpa using h
    obtain ⟨A3, cap3, rfl, hc3, _, _⟩ := own_slice hown3
    go_wp2
    go_ret
    exact ⟨_, rfl, hown3, (bnew w _).grown hgrow (by simp) (fun k hk => by simp [Value.ownBlock] at hk; omega)⟩

theorem run_convert_rd (b : Nat) (w : World) (A : Option Addr) (n cap : Nat) (l : List UInt8) (hn : n = l.length) (hr : Rd b w A (bytesV l)) :
    (convert 29 9 (.slice A n cap)).run Tryz.prog w = .ok (.string ⟨l.toArray⟩) w := by
  subst hn
  have u8_und : Tryz.prog.underlying 5 = some (.int .u8) := by kernel_rfl
  have string_und : Tryz.prog.underlying 9 = some .string := by kernel_rfl
  cases l with
  | nil =>
    rw [run_convert_bytes_string w _ _ _ _ _ cap Tryz.underlying29 u8_und string_und]
    cases A <;> simp [Conv.bytesToString, loadCells]
    all_goals rfl
  | cons x r =>
    obtain ⟨bb, o, rfl, hk⟩ := hr.addr (by simp [bytesV])
    refine run_convert_bytes_back w _ _ _ ⟨bb, o, none⟩ cap (x :: r) Tryz.underlying29 u8_und string_und ?_
    intro j hj
    have := hk j (by simpa [bytesV] using hj)
    rw [bytesV_get _ _ hj] at this
    rw [← this]
    have hadd : (⟨bb, o, none⟩ : Addr).add j = ⟨bb, o + j, none⟩ := by unfold Addr.add; split <;> simp_all
    rw [hadd]

set_option maxRecDepth 100000 in
set_option maxHeartbeats 400000 in
theorem equal_c (A B : Option Addr) (n m c d : Nat) (l k : List UInt8) (hn : n = l.length) (hm : m = k.length) (w : World) (hl : Rd 0 w A (bytesV l)) (hk : Rd 0 w B (bytesV k)) :
    Calls Tryz.prog 163 #[.slice A n c, .slice B m d] w fun e w' => e = .returned (.bool (l == k)) ∧ w' = w := by
  have h1 := run_convert_rd 0 w A n c l hn hl
  have h2 := run_convert_rd 0 w B m d k hm hk
  clear hl hk hn hm
  go_enter Tryz.func163, Tryz.ntmps163
  go_wp2
  go_ret
  exact ⟨rfl, rfl⟩
set_option maxRecDepth 100000 in
set_option maxHeartbeats 400000 in
theorem same_c (A B : Option Addr) (n m c d : Nat) (l k : List UInt8) (hn : n = l.length) (hm : m = k.length) (w : World) (hl : Rd 0 w A (bytesV l)) (hk : Rd 0 w B (bytesV k)) :
    Calls Tryz.prog 24 #[.slice A n c, .slice B m d] w fun e w' => e = .returned (.bool (l == k)) ∧ w' = w := by
  have h1 := run_convert_rd 0 w A n c l hn hl
  have h2 := run_convert_rd 0 w B m d k hm hk
  clear hl hk hn hm
  go_enter Tryz.func24, Tryz.ntmps24
  go_wp2
  go_ret
  exact ⟨rfl, rfl⟩

/-- slices.Grow of nil -/
theorem grow_c (n : Nat) (hn : n ≤ 140737488355328) (w : World) :
    Calls Tryz.prog 68 #[.slice none 0 0, .int .i64 n] w fun e w' => ∃ A c, e = .returned (.slice A 0 c) ∧ w'.ownsRow w.heap.size 5 1 (.slice A 0 c) 0 [] ∧ Below w.heap.size w w' := by
  obtain ⟨i0, hi0, hz0, hz1, hz2⟩ := info8
  by_cases h0 : n = 0
  · subst h0
    refine (Any8.slices_Grow_room Tryz.grow68 none 0 0 0 w (by omega) (by omega) (by omega) (by omega)).mono ?_
    rintro e w' ⟨rfl, rfl⟩
    exact ⟨_, _, rfl, World.ownsRow_nil _ _ _ _, Below.refl _ _⟩
  · refine (Any8.slices_Grow_grow Tryz.grow68 i0 _ hi0 hz0 (by omega) none 0 0 n [] w (by omega) (by omega) (by rw [hz2]; omega) (by omega) (by simp) (fun _ => rfl) (fun a h => by cases h)).mono ?_
    rintro e w' ⟨rfl, rfl⟩
    refine ⟨_, _, rfl, ⟨rfl, .inr ⟨w.heap.size, _, _, rfl, Nat.le_refl _, heap_alloc_new w.drew _, Nat.zero_le _, grownCap_le_maxLen w _ _ _ (by unfold maxLen; omega), ?_, rfl⟩⟩, ?_⟩
    · have := grownCap_ge w (0 + n) 0 (Tryz.grow68_ren.t 25)
      simp [Builtin.zeroCells, Value.cells] at this ⊢
      omega
    · exact (Below.drew (Below.refl _ w)).alloc (Nat.le_refl _) _
end Go.Proofs.YtnljhabpcoiihaaGreatDoor
set_option linter.all false
namespace Go.Proofs.YtnljhabpcoiihaaGreatDoor
open Go.RowKit

/-- slice values read as these rows of bytes -/
def Bsl (w : World) (vs : List Value) (ls : List (List UInt8)) : Prop := vs.length = ls.length ∧ ∀ (k : Nat) (v : Value) (l : List UInt8), vs[k]? = some v → ls[k]? = some l → BytesR 0 w v l
theorem Bsl.below {w w' : World} {vs : List Value} {ls : List (List UInt8)} (h : Bsl w vs ls) (hb : Below w.heap.size w w') : Bsl w' vs ls :=
  ⟨h.1, fun k v l h1 h2 => (h.2 k v l h1 h2).below hb⟩

def catTo (ls : List (List UInt8)) (k : Nat) : List UInt8 := (ls.take k).flatten
theorem catTo_zero (ls : List (List UInt8)) : catTo ls 0 = [] := rfl
theorem catTo_succ (ls : List (List UInt8)) (k : Nat) (l : List UInt8) (h : ls[k]? = some l) : catTo ls (k + 1) = catTo ls k ++ l := by
  unfold catTo
  obtain ⟨hk, rfl⟩ := List.getElem?_eq_some_iff.1 h
  rw [List.take_succ_eq_append_getElem hk, List.flatten_append]
  simp
theorem catTo_all (ls : List (List UInt8)) : catTo ls ls.length = ls.flatten := by simp [catTo]
theorem catTo_le (ls : List (List UInt8)) (k : Nat) : (catTo ls k).length ≤ ls.flatten.length := by
  have : ls.flatten = catTo ls k ++ (ls.drop k).flatten := by
    unfold catTo
    rw [← List.flatten_append, List.take_append_drop]
  rw [this, List.length_append]
  omega

set_option maxRecDepth 100000 in
set_option maxHeartbeats 400000 in
theorem concat_c (A : Option Addr) (n c : Nat) (vs : List Value) (ls : List (List UInt8)) (hn : n = ls.length) (hm : n ≤ 4611686018427387904) (hs : ls.flatten.length ≤ 140737488355328) (w : World) (hr : Rd 0 w A vs) (hb : Bsl w vs ls) :
    Calls Tryz.prog 38 #[.slice A n c] w fun e w' => ∃ v, e = .returned v ∧ w'.ownsRow w.heap.size 5 1 v ls.flatten.length (bytesV ls.flatten) ∧ Below w.heap.size w w' := by
  have HR := Lib.hid hr; clear hr
  have HB := Lib.hid hb; clear hb
  have HN := Lib.hid hn; clear hn
  have HS := Lib.hid hs; clear hs
  go_enter Tryz.func38, Tryz.ntmps38
  go_wp2
  go_loopw [3, 11] (fun s i wr => ∃ (k : Nat), k ≤ n ∧ i = .int .i64 k ∧ s = .int .i64 ((catTo ls k).length : Nat) ∧ w = wr) (fun _ i _ => n - (intOf i).toNat)
  case atStart => exact ⟨0, by omega, rfl, rfl, rfl⟩
  case round =>
    obtain ⟨k, hk, rfl, rfl, rfl⟩ := hrel
    by_cases hlt : k < n
    · have hk1 : k < vs.length := by rw [HB.out.1, ← HN.out]; exact hlt
      have hk2 : k < ls.length := by rw [← HN.out]; exact hlt
      obtain ⟨b, o, hA, hcell⟩ := HR.out.addr (by omega)
      have q0 := hcell k hk1
      clear hcell
      subst hA
      obtain ⟨v, hv⟩ : ∃ v, vs[k]? = some v := ⟨_, List.getElem?_eq_getElem hk1⟩
      obtain ⟨l, hl⟩ : ∃ l, ls[k]? = some l := ⟨_, List.getElem?_eq_getElem hk2⟩
      rw [hv] at q0
      obtain ⟨A1, c1, rfl, _, _⟩ := HB.out.2 k v l hv hl
      have e1 : (catTo ls (k + 1)).length = (catTo ls k).length + l.length := by rw [catTo_succ ls k l hl, List.length_append]
      have h1 := catTo_le ls (k + 1)
      have h2 := HS.out
      obtain ⟨m, hm'⟩ : ∃ m, (catTo ls k).length = m := ⟨_, rfl⟩
      obtain ⟨m2, hm2⟩ : ∃ m, l.length = m := ⟨_, rfl⟩
      rw [hm', hm2] at e1
      rw [e1] at h1
      have HE := Lib.hid (And.intro e1 (And.intro hm' hm2))
      have hb3 : m + m2 < 9223372036854775808 := by omega
      have hw : wrap64 ((m : Int) + (m2 : Int)) = (m : Int) + m2 := wrap_id _ (by omega) (by omega)
      have hlt0 : ¬ ((m : Int) + m2 < 0) := Int.not_lt.2 (Int.add_nonneg (Int.natCast_nonneg _) (Int.natCast_nonneg _))
      rw [hm']
      rw [hm2] at q0
      clear e1 hm' hm2 h1 h2 hb3
      go_wp2
      refine ⟨⟨k + 1, by omega, rfl, ?_, trivial⟩, by simp [intOf]; omega⟩
      rw [HE.out.1]
      simp
      exact hw
    · obtain rfl : k = n := by omega
      have e0 : catTo ls k = ls.flatten := by rw [HN.out]; exact catTo_all ls
      rw [e0]
      obtain ⟨F, hF⟩ : ∃ F, ls.flatten.length = F := ⟨_, rfl⟩
      have hgr := fun w => grow_c F (by rw [← hF]; exact HS.out) w
      rw [hF]
      have HF := Lib.hid (And.intro hF hgr); clear hF hgr
      go_wp2_with (go_at_call 68; refine (HF.out.2 _).mono ?_; rintro e w1 ⟨A1, c1, rfl, hown, hb1⟩; have HO := Lib.hid (And.intro hown hb1); clear hown hb1)
      have HO2 := HO.out
      clear HO
      generalize hgv : Value.slice A1 0 c1 = v0 at HO2 ⊢
      go_loopw [6, 27] (fun v i w2 => ∃ (j : Nat), j ≤ k ∧ i = .int .i64 j ∧ w2.ownsRow w.heap.size 5 1 v (catTo ls j).length (bytesV (catTo ls j)) ∧ Below w.heap.size w w2) (fun _ i _ => k - (intOf i).toNat)
      case atStart => exact ⟨0, by omega, rfl, HO2.1, HO2.2⟩
      case round =>
        obtain ⟨j, hj, rfl, hown, hB⟩ := hrel
        obtain ⟨A2, c2, rfl, _, _, _⟩ := own_slice hown
        have HO := Lib.hid (And.intro hown hB); clear hown hB HO2 hgv
        by_cases hl2 : j < k
        · have hk1 : j < vs.length := by rw [HB.out.1, ← HN.out]; exact hl2
          have hk2 : j < ls.length := by rw [← HN.out]; exact hl2
          obtain ⟨b, o, hA, hcell⟩ := (HR.out.below HO.out.2).addr (by omega)
          have q0 := hcell j hk1
          clear hcell
          subst hA
          obtain ⟨v, hv⟩ : ∃ v, vs[j]? = some v := ⟨_, List.getElem?_eq_getElem hk1⟩
          obtain ⟨l, hl⟩ : ∃ l, ls[j]? = some l := ⟨_, List.getElem?_eq_getElem hk2⟩
          rw [hv] at q0
          obtain ⟨A1, c1, rfl, _, hr1⟩ := (HB.out.below HO.out.2).2 j v l hv hl
          have e1 : catTo ls (j + 1) = catTo ls j ++ l := catTo_succ ls j l hl
          have h1 := catTo_le ls (j + 1)
          rw [e1, List.length_append] at h1
          have h2 := HS.out
          have HL := Lib.hid (And.intro e1 (And.intro hr1 (And.intro h1 h2))); clear e1 hr1 h1 h2
          obtain ⟨i0, hi0, hz0, hz1, hz2⟩ := info8
          go_wp2_with (at_builtin; refine wpList_append_rd _ rfl _ _ 29 rfl w.heap.size 5 i0 _ 1 1 Tryz.underlying29 hi0 hz0 hz1 hz2 rfl (by decide) _ _ _ rfl HO.out.1 _ A1 l.length c1 (bytesV l) rfl (by rw [bytesV_length]; omega) HL.out.2.1 (bytesV_one _) ?q1 ?q2 ?q3 ?q4 ?_)
          case q1 => have := HL.out.2.2; unfold maxLen; omega
          case q2 => have := HL.out.2.2; omega
          case q3 => exact HO.out.2.size
          case q4 => intro h; have := HL.out.2.1.none_len h; rw [← bytesV_length, this]; rfl
          intro v' w3 hown3 hgrow hblk
          have hown4 : w3.ownsRow w.heap.size 5 1 v' (catTo ls (j + 1)).length (bytesV (catTo ls (j + 1))) := by
            rw [HL.out.1, List.length_append, bytesV_append]
            exact hown3
          have hB4 : Below w.heap.size w w3 := HO.out.2.grown hgrow HO.out.2.size (fun k hk => by
            obtain ⟨_, _, _, _, _, h⟩ := own_slice HO.out.1
            rcases h with h | ⟨g, h, hg, _⟩
            · rw [h] at hk; cases hk
            · rw [h] at hk; cases hk; exact hg)
          have HQ := Lib.hid (And.intro hown4 hB4); clear hown3 hgrow hblk hown4 hB4
          go_wp2
          exact ⟨⟨j + 1, by omega, rfl, HQ.out.1, HQ.out.2⟩, by simp [intOf]; omega⟩
        · obtain rfl : j = k := by omega
          go_wp2
          go_ret
          have HO3 := HO.out
          rw [e0] at HO3
          have hl0 : (catTo ls j).length = ls.flatten.length := by rw [e0]
          rw [hl0]
          exact ⟨_, rfl, HO3.1, HO3.2⟩
end Go.Proofs.YtnljhabpcoiihaaGreatDoor
