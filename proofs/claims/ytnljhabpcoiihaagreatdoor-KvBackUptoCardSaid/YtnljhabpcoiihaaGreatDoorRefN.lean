/- The reference's names and files: the plain law's. -/
import Derived.Test.YtnljhabpcoiihaaGreatDoorSum
import Derived.Test.YtnljhabpcoiihaaGreatDoorNameP
import Derived.Lib.ItoaNum
import Derived.Laws.IdiomStrings
import Derived.Deep.RegionWith
set_option linter.all false
namespace Go.Proofs.YtnljhabpcoiihaaGreatDoor
open Go.RowKit

theorem rbappend (a b : List UInt8) : ((⟨a.toArray⟩ : ByteArray) ++ (⟨b.toArray⟩ : ByteArray)) = ⟨(a ++ b).toArray⟩ := by
  apply ByteArray.ext
  simp
theorem str_get (s : List UInt8) (k : Nat) (h : k < s.length) : (⟨s.toArray⟩ : ByteArray).get! k = s[k] := by
  simp [ByteArray.get!, h]

theorem all_take_succ {α : Type} (p : α → Bool) (l : List α) (k : Nat) (h : k < l.length) : (l.take (k + 1)).all p = ((l.take k).all p && p l[k]) := by
  rw [List.take_succ_eq_append_getElem h, List.all_append]; simp
theorem nameB_bad {s : List UInt8} {k : Nat} (h : k < s.length) (hp : Wal.plainB s[k].toNat = false) : Wal.nameB s = false := by
  unfold Wal.nameB
  have : (s.all fun c => Wal.plainB c.toNat) = false := by
    rw [List.all_eq_false]
    exact ⟨s[k], List.getElem_mem h, by simp [hp]⟩
  rw [this]; simp
theorem nameB_good {s : List UInt8} (h1 : ¬ s.length < 1) (h2 : ¬ 16 < s.length) (h : (s.take s.length).all fun c => Wal.plainB c.toNat) : Wal.nameB s = true := by
  unfold Wal.nameB
  rw [List.take_length] at h
  rw [h]
  simp
  omega

set_option maxRecDepth 100000 in
set_option maxHeartbeats 400000 in
theorem rname_c (s : List UInt8) (hm : s.length ≤ 4611686018427387904) (w : World) :
    Calls Tryz.prog 75 #[.string ⟨s.toArray⟩] w fun e w' => e = .returned (.bool (Wal.nameB s)) ∧ ∃ q, w' = w.drewN q := by
  obtain ⟨L, hL⟩ : ∃ L, s.length = L := ⟨_, rfl⟩
  have HL := Lib.hid hL
  have hsz : (⟨s.toArray⟩ : ByteArray).size = L := by simp [ByteArray.size, hL]
  rw [hL] at hm
  clear hL
  obtain ⟨NB, hNB⟩ : ∃ N, Wal.nameB s = N := ⟨_, rfl⟩
  rw [hNB]
  have HNB := Lib.hid hNB; clear hNB
  by_cases h1 : L < 1
  · obtain rfl : NB = false := by rw [← HNB.out, Wal.nameB, HL.out]; simp; omega
    go_enter Tryz.func75, Tryz.ntmps75
    go_wp2
    go_ret
    exact ⟨rfl, 0, rfl⟩
  by_cases h2 : 16 < L
  · obtain rfl : NB = false := by rw [← HNB.out, Wal.nameB, HL.out]; simp; omega
    go_enter Tryz.func75, Tryz.ntmps75
    go_wp2
    go_ret
    exact ⟨rfl, 0, rfl⟩
  go_enter Tryz.func75, Tryz.ntmps75
  go_wp2_with fail
  go_loopw [3] (fun i wr => ∃ (k : Nat), k ≤ L ∧ i = .int .i64 k ∧ Hid ((s.take k).all fun c => Wal.plainB c.toNat) ∧ wr = w) (fun i _ => L - (intOf i).toNat)
  case atStart => exact ⟨0, by omega, rfl, Lib.hid (by simp), rfl⟩
  case round =>
    obtain ⟨k, hk, rfl, HA, rfl⟩ := hrel
    by_cases hlt : k < L
    · obtain ⟨c, hc⟩ : ∃ c : Nat, (s[k]'(by rw [HL.out]; exact hlt)).toNat = c := ⟨_, rfl⟩
      have hg : ∀ h : k < (⟨s.toArray⟩ : ByteArray).size, ((⟨s.toArray⟩ : ByteArray)[k]'h).toNat = c := fun h => hc
      have HC := Lib.hid hc; clear hc
      go_wp2
      all_goals simp only [hg] at *
      all_goals first
        | (have hp : Wal.plainB c = true := by
             unfold Wal.plainB
             clear HL HNB HA HC hg hsz
             simp at *
             omega
           refine ⟨⟨k + 1, by omega, rfl, Lib.hid ?_, trivial⟩, by simp [intOf]; omega⟩
           have := all_take_succ (fun c => Wal.plainB c.toNat) s k (by rw [HL.out]; exact hlt)
           rw [this, HA.out]
           show (true && Wal.plainB _) = true
           rw [HC.out, hp]; rfl)
        | (have hp : Wal.plainB c = false := by
             rw [Bool.eq_false_iff]
             unfold Wal.plainB
             clear HL HNB HA HC hg hsz
             simp at *
             omega
           obtain rfl : NB = false := by rw [← HNB.out]; exact nameB_bad (by rw [HL.out]; exact hlt) (by rw [HC.out]; exact hp)
           go_ret
           exact ⟨rfl, 0, rfl⟩)
    · obtain rfl : k = L := by omega
      obtain rfl : NB = true := by
        rw [← HNB.out]
        have := HL.out
        exact nameB_good (by omega) (by omega) (by rw [this]; exact HA.out)
      go_wp2
      go_ret
      exact ⟨rfl, 0, rfl⟩

theorem run_string_rd (w : World) (A : Option Addr) (n cap : Nat) (l : List UInt8) (hn : n = l.length) (h : Rd 0 w A (bytesV l)) :
    (convert 29 9 (.slice A n cap)).run Tryz.prog w = .ok (.string ⟨l.toArray⟩) w := by
  subst hn
  match l, h with
  | [], _ =>
    show (convert 29 9 (.slice A 0 cap)).run Tryz.prog w = _
    rw [run_convert_bytes_string w 29 9 5 A 0 cap Tryz.underlying29 Tryz.underlying5 Tryz.underlying9]
    cases A <;> simp [Conv.bytesToString, Sem.run_pure, loadCells]
    all_goals rfl
  | x :: r, h =>
    obtain ⟨b, o, hA, hc⟩ := h.addr (by simp [bytesV])
    subst hA
    exact run_convert_bytes_back w 29 9 5 ⟨b, o, none⟩ cap (x :: r) Tryz.underlying29 Tryz.underlying5 Tryz.underlying9
      fun j hj => by
        have := (hc j (by rw [bytesV_length]; exact hj)).trans (bytesV_get _ _ hj)
        have e : (⟨b, o, none⟩ : Addr).add j = ⟨b, o + j, none⟩ := by
          cases j <;> simp [Addr.add]
        rw [e]
        exact this

theorem byte_conv (n : Nat) (hn : n < 10) (x : Int) (hx : x = 48 + n) : IntKind.u8.wrap x = ((UInt8.ofNat (48 + n)).toNat : Int) := by
  subst hx
  rw [UInt8.toNat_ofNat']
  have : (48 + n) % 256 = 48 + n := by omega
  rw [this]
  exact IntWalk.u8_in _ (by omega)
theorem rd_one (w : World) (x : UInt8) : Rd 0 (w.alloc (.cells #[.int .u8 (x.toNat : Int)] 5)) (some ⟨w.heap.size, 0, none⟩) (bytesV [x]) :=
  .inr ⟨_, 0, Nat.zero_le _, rfl, fun k hk => by
    obtain rfl : k = 0 := by simpa [bytesV] using hk
    rw [Joins.cell_of_block (heap_alloc_new w _)]
    rfl⟩
theorem drew_bel {w w' : World} (h : Below w.drew.heap.size w.drew w') : Below w.heap.size w w' := ⟨h.os, h.tape, h.output, h.size, h.block⟩
theorem rd_one' (w : World) (x : UInt8) : Rd 0 (w.alloc (.cells #[.int .u8 (x.toNat : Int)] 5)).drew (some ⟨w.heap.size, 0, none⟩) (bytesV [x]) := (rd_one w x).drew

theorem rdigits_length : ∀ (u k : Nat), u < 10 ^ (k + 1) → (Go.Lib.decDigits u).length ≤ k + 1
  | u, k, h => by
    rw [Go.Lib.decDigits]
    split
    · simp
    · rename_i hu
      match k with
      | 0 => omega
      | k + 1 =>
        have := rdigits_length (u / 10) k (by rw [Nat.pow_succ] at h; omega)
        simp
        omega
termination_by u => u
decreasing_by omega

set_option maxRecDepth 100000 in
set_option maxHeartbeats 400000 in
theorem digits_c : ∀ (n : Nat), n ≤ 9223372036854775807 → ∀ (w : World),
    Calls Tryz.prog 112 #[.int .i64 (n : Int)] w fun e w' => e = .returned (.string ⟨(Go.Lib.decDigits n).toArray⟩) ∧ Below w.heap.size w w' := by
  intro n
  induction n using Nat.strongRecOn with
  | _ n ih =>
  intro hm w
  rw [Go.Lib.decDigits]
  by_cases h : n < 10
  · rw [dif_pos h]
    have IH := Lib.hid ih; clear ih
    have e1 := byte_conv n h
    have e2 := run_string_rd _ _ 1 1 [UInt8.ofNat (48 + n)] rfl (rd_one w (UInt8.ofNat (48 + n)))
    generalize UInt8.ofNat (48 + n) = x at e1 e2 ⊢
    go_enter Tryz.func112, Tryz.ntmps112
    go_wp2
    go_ret
    exact ⟨rfl, bnew _ _⟩
  · rw [dif_neg h]
    have hd : n / 10 < n := Nat.div_lt_self (by omega) (by omega)
    have IH := Lib.hid (ih (n / 10) hd (by omega)); clear ih
    have hm10 : n % 10 < 10 := Nat.mod_lt _ (by omega)
    have e1 := byte_conv (n % 10) hm10
    have e2 := fun w => run_string_rd _ _ 1 1 [UInt8.ofNat (48 + n % 10)] rfl (rd_one w (UInt8.ofNat (48 + n % 10)))
    have e3 : (convert 29 9 (.slice (some ⟨w.heap.size, 0, none⟩) 1 1)).run Tryz.prog (w.alloc (.cells #[.int .u8 ((UInt8.ofNat (48 + n % 10)).toNat : Int)] 5)).drew = .ok (.string ⟨[UInt8.ofNat (48 + n % 10)].toArray⟩) (w.alloc (.cells #[.int .u8 ((UInt8.ofNat (48 + n % 10)).toNat : Int)] 5)).drew := e2 w.drew
    generalize UInt8.ofNat (48 + n % 10) = x at e1 e2 e3 ⊢
    obtain ⟨D, hD⟩ : ∃ D, Go.Lib.decDigits (n / 10) = D := ⟨_, rfl⟩
    have hdl := rdigits_length (n / 10) 18 (by omega)
    rw [hD] at IH hdl ⊢
    clear hD
    have q1 : (n : Int).tdiv 10 = ((n / 10 : Nat) : Int) := by rw [Int.tdiv_eq_ediv_of_nonneg (by omega)]; omega
    have q2 : (n : Int).tmod 10 = ((n % 10 : Nat) : Int) := by rw [Int.tmod_eq_emod_of_nonneg (by omega)]; omega
    have w1 : IntKind.i64.wrap ((n / 10 : Nat) : Int) = ((n / 10 : Nat) : Int) := IntWalk.i64_in _ (by omega)
    have w2 : IntKind.i64.wrap (48 + ((n % 10 : Nat) : Int)) = 48 + ((n % 10 : Nat) : Int) := IntWalk.i64_in _ (by omega)
    generalize n / 10 = d at *
    generalize n % 10 = r at *
    go_enter Tryz.func112, Tryz.ntmps112
    go_wp2_with fail
    go_region_with
      (first
        | (go_at_call 112; refine (IH.out _).mono ?_; rintro e w1 ⟨rfl, hb1⟩; (first | ((have hx : Rd 0 w1 (some ⟨w.heap.size, 0, none⟩) (bytesV [x]) := by with_reducible exact (rd_one' w x).below hb1); have e4 := run_string_rd w1 _ 1 1 [x] rfl hx; clear hx) | skip); have H1 := Lib.hid hb1; clear hb1))
    all_goals go_wp2
    all_goals go_ret
    all_goals refine ⟨congrArg (fun b => Ending.returned (.string b)) (rbappend D [x]), ?_⟩
    · exact (drew_bel H1.out).trans ((bnew w1 _).mono (drew_bel H1.out).size)
    · exact bstep (bnew w _) (drew_bel H1.out)
    · exact bstep (bnew w _) (drew_bel H1.out)

set_option maxRecDepth 100000 in
set_option maxHeartbeats 400000 in
theorem rfile_c (s : List UInt8) (hs : s.length ≤ 1073741824) (k : Int) (hk0 : -9223372036854775808 ≤ k) (hk1 : k ≤ 9223372036854775807) (w : World) :
    Calls Tryz.prog 79 #[.string ⟨s.toArray⟩, .int .i64 k] w fun e w' => e = .returned (.string ⟨(Wal.fileB s k).toArray⟩) ∧ Below w.heap.size w w' := by
  unfold Wal.fileB
  by_cases h0 : k < 0
  · rw [if_pos (.inl h0)]
    go_enter Tryz.func79, Tryz.ntmps79
    go_wp2
    go_ret
    exact ⟨rfl, Below.refl _ _⟩
  by_cases h1 : 1000000000 ≤ k
  · rw [if_pos (.inr h1)]
    go_enter Tryz.func79, Tryz.ntmps79
    go_wp2
    go_ret
    exact ⟨rfl, Below.refl _ _⟩
  rw [if_neg (by omega)]
  obtain ⟨m, rfl⟩ : ∃ m : Nat, k = (m : Int) := ⟨k.toNat, by omega⟩
  rw [show (m : Int).toNat = m from rfl]
  have hI := fun w => digits_c m (by omega) w
  have hdl := rdigits_length m 9 (by omega)
  obtain ⟨d, hdd⟩ : ∃ d, Go.Lib.decDigits m = d := ⟨_, rfl⟩
  rw [hdd] at hI hdl ⊢
  have HI := Lib.hid hI; clear hI hdd
  go_enter Tryz.func79, Tryz.ntmps79
  go_wp2_with (go_at_call 112; refine (HI.out _).mono ?_; rintro e w1 ⟨rfl, hb1⟩; have H1 := Lib.hid hb1; clear hb1)
  go_ret
  refine ⟨congrArg (fun b => Ending.returned (.string b)) ?_, H1.out⟩
  have h46 : ({ data := #[46] } : ByteArray) = ⟨([46] : List UInt8).toArray⟩ := rfl
  rw [h46, rbappend, rbappend]
end Go.Proofs.YtnljhabpcoiihaaGreatDoor
