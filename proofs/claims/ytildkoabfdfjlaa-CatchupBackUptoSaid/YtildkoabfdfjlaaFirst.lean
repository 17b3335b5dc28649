/- rlp's 'first' of bytes that begin no list. -/
import Derived.Test.YtildkoabfdfjlaaOpened
import Derived.Test.YtildkoabfdfjlaaRange
set_option linter.all false
namespace Go.Proofs.Ytildkoabfdfjlaa
open Go.RowKit
open Rlp (It)
/-- what 'first' is said to do -/
def FirstPost (w : World) (r : Except Int (It × Nat)) (e : Ending) (w' : World) : Prop :=
  match r with
  | .ok p => ∃ c0 c1 c2, e = .returned (.tuple #[.agg #[c0, c1, c2], .int .i64 (p.2 : Int)]) ∧ ItemR w.heap.size w' p.1 c0 c1 c2 ∧ Below w.heap.size w w'
  | .error k => e = .panicked (flt k) ∧ Below w.heap.size w w'
theorem FirstPost.no {w w' : World} {r : Except Int (It × Nat)} {k : Int} (hr : r = .error k) (hb : Below w.heap.size w w') : FirstPost w r (.panicked (flt k)) w' := by
  subst hr; exact ⟨rfl, hb⟩
theorem FirstPost.ok {w w' : World} {r : Except Int (It × Nat)} {x : It} {n : Nat} (hr : r = .ok (x, n)) {c0 c1 c2 : Value} (hi : ItemR w.heap.size w' x c0 c1 c2) (hb : Below w.heap.size w w') :
    FirstPost w r (.returned (.tuple #[.agg #[c0, c1, c2], .int .i64 (n : Int)])) w' := by
  subst hr; exact ⟨_, _, _, rfl, hi, hb⟩
/-- a function whose body is walked at the wide fence, with marks among its deferred calls -/
theorem calls_of_marks {P : Program} {f : FuncId} {fn : Func} {c : Code} {args : Array Value} {w : World} {R : Ending → World → Prop} (m : Nat)
    (hf : P.funcs[f]? = some fn) (hb : fn.body = some c)
    (h : c.wpIn Fence.wide m P (bodyPostM Fence.wide m P fn R) { tmps := args ++ Array.replicate (fn.ntmps - args.size) undef, defers := [] } w) : Calls P f args w R :=
  callsIn_wide.1 (callsIn_of_wp_marks (n := m) hf hb trivial h rfl)
theorem str_n (n : Nat) (A : Option Addr) (cap : Nat) (l : List UInt8) (hn : n = l.length) (w : World) (hl : l.length ≤ 140737488355328) (hr : Rd 0 w A (bytesV l)) :
    Calls Try.prog 19 #[.slice A n cap] w (GivesItem w (.str l)) := by
  subst hn; exact str_c A cap l w hl hr
set_option maxRecDepth 100000 in
set_option maxHeartbeats 400000 in
theorem first_nil (A : Option Addr) (cap : Nat) (deep : Int) (w : World) (r : Except Int (It × Nat)) (hr : Hid (r = .error 10)) :
    Calls Try.prog 55 #[.slice A 0 cap, .int .i64 deep] w (FirstPost w r) := by
  go_enter Try.func55, Try.ntmps55
  go_wp2_with (first
    | (go_at_call 28; first | ((with_reducible refine (ask_t _ _).mono ?_); rintro e w1 ⟨rfl, rfl⟩) | ((with_reducible refine (ask_f _ _).mono ?_); rintro e w1 ⟨rfl, rfl⟩))
    )
  exact ⟨rfl, FirstPost.no hr.out (bnew w _)⟩
set_option maxRecDepth 100000 in
set_option maxHeartbeats 400000 in
theorem first_one (b0 : UInt8) (n : Nat) (hb : b0 < 0x80) (A : Option Addr) (cap : Nat) (deep : Int) (w : World) (hn : 0 < n) (hcap : n ≤ cap) (r : Except Int (It × Nat)) (hr : Hid (r = .ok (.str [b0], 1))) (hrd : Rd 0 w A (bytesV [b0])) :
    Calls Try.prog 55 #[.slice A n cap, .int .i64 deep] w (FirstPost w r) := by
  have HRD := Lib.hid hrd
  obtain ⟨b, o, rfl, hk⟩ := hrd.addr (by simp [bytesV])
  have h0 := hk 0 (by simp [bytesV])
  clear hk hrd
  rw [bytesV_get _ _ (by simp)] at h0
  simp only [List.getElem_cons_zero, Nat.add_zero] at h0
  have hbl := cell_lt h0
  have hlt : (b0.toNat : Int) < 128 := by have := (UInt8.lt_iff_toNat_lt).1 hb; simp at this; omega
  have hd : decide ((0 : Int) < (n : Int)) = true := by rw [decide_eq_true_iff]; omega
  have hc1 : ¬ ((cap : Int) < 1) := by omega
  go_enter Try.func55, Try.ntmps55
  go_wp2_with (first
    | (go_at_call 28; first | ((with_reducible refine (ask_t _ _).mono ?_); rintro e w1 ⟨rfl, rfl⟩) | ((with_reducible refine (ask_f _ _).mono ?_); rintro e w1 ⟨rfl, rfl⟩))
    | (go_at_call 19; refine (str_n 1 _ _ [b0] rfl _ (by simp) (HRD.out.alloc _)).mono ?_; rintro e w2 ⟨c0, c1, c2, rfl, hI, hB2⟩; obtain ⟨hk1, hk2⟩ := keptCells hB2; obtain ⟨f, A1, k1, cp1, B1, m1, d1, rfl, rfl, rfl⟩ := hI.shape))
  obtain ⟨h1, h2⟩ := item_ret (w := w) w.heap.size (Nat.le_refl _) (by simpa using hI) (bstep (bnew w _) hB2)
  exact bodyPost_ret (v := .tuple #[.agg #[.bool f, .slice A1 k1 cp1, .slice B1 m1 d1], .int .i64 1]) (by simp [results, Try.results55, go_sem, hk1]) rfl (FirstPost.ok hr.out h1 h2)

theorem opened_n (n : Nat) (b0 : UInt8) (r : List UInt8) (hn : n = r.length + 1) (base : Nat) (hb : base ≤ b0.toNat) (hb2 : b0.toNat < base + 64) (A : Option Addr) (cap : Nat) (w : World) (hc : n ≤ cap) (hr : Rd 0 w A (bytesV (b0 :: r)))
    (res : Except Int (Nat × Nat)) (hres : Rlp.opened b0 r base = res) :
    Calls Try.prog 60 #[.slice A n cap, .int .u8 base] w (OpenedPost w res) := by
  subst hn hres; exact opened_c b0 r base hb hb2 A cap w hc hr
theorem opened_bd {b0 : UInt8} {r : List UInt8} {base h m : Nat} (ho : Rlp.opened b0 r base = .ok (h, m)) (hb2 : b0.toNat < base + 64) : 1 ≤ h ∧ h ≤ r.length + 1 ∧ h ≤ 9 ∧ m ≤ 65537 := by
  unfold Rlp.opened at ho
  split at ho
  · cases ho; omega
  · split at ho
    · cases ho
    · split at ho
      · cases ho
      · split at ho
        · cases ho
        · simp only [Except.ok.injEq, Prod.mk.injEq] at ho
          obtain ⟨rfl, rfl⟩ := ho
          refine ⟨by omega, by omega, by omega, ?_⟩
          split
          · unfold Rlp.MaxRlp; omega
          · rename_i h; unfold Rlp.MaxRlp at h; omega
set_option maxRecDepth 100000 in
set_option maxHeartbeats 400000 in
theorem first_s1 (b0 : UInt8) (r : List UInt8) (n : Nat) (hn : n = r.length + 1) (hlen : n ≤ 65536) (hb : 128 ≤ b0.toNat) (hb2 : b0.toNat < 128 + 64) (A : Option Addr) (cap : Nat) (deep : Nat) (w : World) (hcap : n ≤ cap) (hrd : Rd 0 w A (bytesV (b0 :: r)))
    (k : Int) (ho : Hid (Rlp.opened b0 r 128 = .error k)) (res : Except Int (It × Nat)) (hr : Hid (res = .error k)) :
    Calls Try.prog 55 #[.slice A n cap, .int .i64 deep] w (FirstPost w res) := by
  have HRD := Lib.hid hrd
  obtain ⟨b, o, rfl, hk⟩ := hrd.addr (by simp [bytesV])
  have h0 := hk 0 (by simp [bytesV])
  clear hk hrd
  rw [bytesV_get _ _ (by simp)] at h0
  simp only [List.getElem_cons_zero, Nat.add_zero] at h0
  have hbl := cell_lt h0
  have hd0 : 0 < n := by omega
  have hd1 : ¬ ((b0.toNat : Int) < 128) := by omega
  have hd6 : decide ((192 : Int) ≤ (b0.toNat : Int)) = false := by rw [decide_eq_false_iff_not]; omega
  have HN := Lib.hid hn; clear hn
  go_enter Try.func55, Try.ntmps55
  go_wp2_with (first
    | (go_at_call 28; first | ((with_reducible refine (ask_t _ _).mono ?_); rintro e w1 ⟨rfl, rfl⟩) | ((with_reducible refine (ask_f _ _).mono ?_); rintro e w1 ⟨rfl, rfl⟩))
    | (go_at_call 60; refine (opened_n n b0 r HN.out 128 hb hb2 _ cap _ hcap (HRD.out.alloc _) _ ho.out).mono ?_; rintro e w3 ⟨rfl, hB3⟩)
    )
  exact ⟨rfl, FirstPost.no hr.out (bstep (bnew w _) hB3)⟩
set_option maxRecDepth 100000 in
set_option maxHeartbeats 400000 in
theorem first_s2 (b0 : UInt8) (r : List UInt8) (n : Nat) (hn : n = r.length + 1) (hlen : n ≤ 65536) (hb : 128 ≤ b0.toNat) (hb2 : b0.toNat < 128 + 64) (A : Option Addr) (cap : Nat) (deep : Nat) (w : World) (hcap : n ≤ cap) (hrd : Rd 0 w A (bytesV (b0 :: r)))
    (h m : Nat) (ho : Hid (Rlp.opened b0 r 128 = .ok (h, m))) (hm : n - h < m) (res : Except Int (It × Nat)) (hr : Hid (res = .error 10)) :
    Calls Try.prog 55 #[.slice A n cap, .int .i64 deep] w (FirstPost w res) := by
  have HRD := Lib.hid hrd
  obtain ⟨b, o, rfl, hk⟩ := hrd.addr (by simp [bytesV])
  have h0 := hk 0 (by simp [bytesV])
  clear hk hrd
  rw [bytesV_get _ _ (by simp)] at h0
  simp only [List.getElem_cons_zero, Nat.add_zero] at h0
  have hbl := cell_lt h0
  have hd0 : 0 < n := by omega
  have hd1 : ¬ ((b0.toNat : Int) < 128) := by omega
  have hd6 : decide ((192 : Int) ≤ (b0.toNat : Int)) = false := by rw [decide_eq_false_iff_not]; omega
  have HN := Lib.hid hn; clear hn
  obtain ⟨hh1, hh2, hh3, hh4⟩ := opened_bd ho.out hb2
  have hd7 : decide ((m : Int) ≤ (n : Int) - (h : Int)) = false := by rw [decide_eq_false_iff_not]; have := HN.out; omega
  go_enter Try.func55, Try.ntmps55
  go_wp2_with (first
    | (go_at_call 28; first | ((with_reducible refine (ask_t _ _).mono ?_); rintro e w1 ⟨rfl, rfl⟩) | ((with_reducible refine (ask_f _ _).mono ?_); rintro e w1 ⟨rfl, rfl⟩))
    | (go_at_call 60; refine (opened_n n b0 r HN.out 128 hb hb2 _ cap _ hcap (HRD.out.alloc _) _ ho.out).mono ?_; rintro e w3 ⟨rfl, hB3⟩)
    )
  exact ⟨rfl, FirstPost.no hr.out (bstep (bnew w _) hB3)⟩
set_option maxRecDepth 100000 in
set_option maxHeartbeats 400000 in
theorem first_l1 (b0 : UInt8) (r : List UInt8) (n : Nat) (hn : n = r.length + 1) (hlen : n ≤ 65536) (hb : 192 ≤ b0.toNat) (hb2 : b0.toNat < 192 + 64) (A : Option Addr) (cap : Nat) (deep : Nat) (w : World) (hcap : n ≤ cap) (hrd : Rd 0 w A (bytesV (b0 :: r)))
    (k : Int) (ho : Hid (Rlp.opened b0 r 192 = .error k)) (res : Except Int (It × Nat)) (hr : Hid (res = .error k)) :
    Calls Try.prog 55 #[.slice A n cap, .int .i64 deep] w (FirstPost w res) := by
  have HRD := Lib.hid hrd
  obtain ⟨b, o, rfl, hk⟩ := hrd.addr (by simp [bytesV])
  have h0 := hk 0 (by simp [bytesV])
  clear hk hrd
  rw [bytesV_get _ _ (by simp)] at h0
  simp only [List.getElem_cons_zero, Nat.add_zero] at h0
  have hbl := cell_lt h0
  have hd0 : 0 < n := by omega
  have hd1 : ¬ ((b0.toNat : Int) < 128) := by omega
  have hd6 : decide ((192 : Int) ≤ (b0.toNat : Int)) = true := by rw [decide_eq_true_iff]; omega
  have HN := Lib.hid hn; clear hn
  go_enter Try.func55, Try.ntmps55
  go_wp2_with (first
    | (go_at_call 28; first | ((with_reducible refine (ask_t _ _).mono ?_); rintro e w1 ⟨rfl, rfl⟩) | ((with_reducible refine (ask_f _ _).mono ?_); rintro e w1 ⟨rfl, rfl⟩))
    | (go_at_call 60; refine (opened_n n b0 r HN.out 192 hb hb2 _ cap _ hcap (HRD.out.alloc _) _ ho.out).mono ?_; rintro e w3 ⟨rfl, hB3⟩)
    )
  exact ⟨rfl, FirstPost.no hr.out (bstep (bnew w _) hB3)⟩
set_option maxRecDepth 100000 in
set_option maxHeartbeats 400000 in
theorem first_l2 (b0 : UInt8) (r : List UInt8) (n : Nat) (hn : n = r.length + 1) (hlen : n ≤ 65536) (hb : 192 ≤ b0.toNat) (hb2 : b0.toNat < 192 + 64) (A : Option Addr) (cap : Nat) (deep : Nat) (w : World) (hcap : n ≤ cap) (hrd : Rd 0 w A (bytesV (b0 :: r)))
    (h m : Nat) (ho : Hid (Rlp.opened b0 r 192 = .ok (h, m))) (hm : n - h < m) (res : Except Int (It × Nat)) (hr : Hid (res = .error 10)) :
    Calls Try.prog 55 #[.slice A n cap, .int .i64 deep] w (FirstPost w res) := by
  have HRD := Lib.hid hrd
  obtain ⟨b, o, rfl, hk⟩ := hrd.addr (by simp [bytesV])
  have h0 := hk 0 (by simp [bytesV])
  clear hk hrd
  rw [bytesV_get _ _ (by simp)] at h0
  simp only [List.getElem_cons_zero, Nat.add_zero] at h0
  have hbl := cell_lt h0
  have hd0 : 0 < n := by omega
  have hd1 : ¬ ((b0.toNat : Int) < 128) := by omega
  have hd6 : decide ((192 : Int) ≤ (b0.toNat : Int)) = true := by rw [decide_eq_true_iff]; omega
  have HN := Lib.hid hn; clear hn
  obtain ⟨hh1, hh2, hh3, hh4⟩ := opened_bd ho.out hb2
  have hd7 : decide ((m : Int) ≤ (n : Int) - (h : Int)) = false := by rw [decide_eq_false_iff_not]; have := HN.out; omega
  go_enter Try.func55, Try.ntmps55
  go_wp2_with (first
    | (go_at_call 28; first | ((with_reducible refine (ask_t _ _).mono ?_); rintro e w1 ⟨rfl, rfl⟩) | ((with_reducible refine (ask_f _ _).mono ?_); rintro e w1 ⟨rfl, rfl⟩))
    | (go_at_call 60; refine (opened_n n b0 r HN.out 192 hb hb2 _ cap _ hcap (HRD.out.alloc _) _ ho.out).mono ?_; rintro e w3 ⟨rfl, hB3⟩)
    )
  exact ⟨rfl, FirstPost.no hr.out (bstep (bnew w _) hB3)⟩
set_option maxRecDepth 100000 in
set_option maxHeartbeats 400000 in
theorem first_s3 (b0 : UInt8) (r : List UInt8) (n : Nat) (hn : n = r.length + 1) (hlen : n ≤ 65536) (hb : 128 ≤ b0.toNat) (hb2 : b0.toNat < 128 + 64) (A : Option Addr) (cap : Nat) (deep : Nat) (w : World) (hcap : n ≤ cap) (hrd : Rd 0 w A (bytesV (b0 :: r)))
    (h m : Nat) (ho : Hid (Rlp.opened b0 r 128 = .ok (h, m))) (hm : m ≤ n - h) (hm1 : m = 1) (hx8 : (b0 :: r).getD h 0 < 0x80) (res : Except Int (It × Nat)) (hr : Hid (res = .error 11)) :
    Calls Try.prog 55 #[.slice A n cap, .int .i64 deep] w (FirstPost w res) := by
  have HRD := Lib.hid hrd
  obtain ⟨b, o, rfl, hk⟩ := hrd.addr (by simp [bytesV])
  have h0 := hk 0 (by simp [bytesV])
  clear hk hrd
  rw [bytesV_get _ _ (by simp)] at h0
  simp only [List.getElem_cons_zero, Nat.add_zero] at h0
  have hbl := cell_lt h0
  have hd0 : 0 < n := by omega
  have hd1 : ¬ ((b0.toNat : Int) < 128) := by omega
  have hd6 : decide ((192 : Int) ≤ (b0.toNat : Int)) = false := by rw [decide_eq_false_iff_not]; omega
  have HN := Lib.hid hn; clear hn
  obtain ⟨hh1, hh2, hh3, hh4⟩ := opened_bd ho.out hb2
  have hd7 : decide ((m : Int) ≤ (n : Int) - (h : Int)) = true := by rw [decide_eq_true_iff]; have := HN.out; omega
  have hmb : ((m : Int) != 1) = false := by simp [hm1]
  have hx : h < (b0 :: r).length := by have := HN.out; simp only [List.length_cons]; omega
  obtain ⟨x, hxx⟩ : ∃ x, x = (b0 :: r)[h] := ⟨_, rfl⟩
  have hxc : w.cell? ⟨b, o + h, none⟩ = some (.int .u8 (x.toNat : Int)) := by
    rcases HRD.out with h' | ⟨b', o', _, hA, hk⟩
    · simp [bytesV] at h'
    · cases hA
      rw [hk h (by rw [bytesV_length]; exact hx), bytesV_get _ h hx, hxx]
  have hxd : (b0 :: r).getD h 0 = x := by rw [hxx, List.getD_eq_getElem?_getD, List.getElem?_eq_getElem hx]; rfl
  rw [hxd] at hx8
  have hx9 : decide ((128 : Int) ≤ (x.toNat : Int)) = false := by rw [decide_eq_false_iff_not]; have := (UInt8.lt_iff_toNat_lt).1 hx8; simp at this; omega
  have hhn : h < n := by have := HN.out; omega
  clear hxx hxd hx hm1 hx8
  go_enter Try.func55, Try.ntmps55
  go_wp2_with (first
    | (go_at_call 28; first | ((with_reducible refine (ask_t _ _).mono ?_); rintro e w1 ⟨rfl, rfl⟩) | ((with_reducible refine (ask_f _ _).mono ?_); rintro e w1 ⟨rfl, rfl⟩))
    | (go_at_call 60; refine (opened_n n b0 r HN.out 128 hb hb2 _ cap _ hcap (HRD.out.alloc _) _ ho.out).mono ?_; rintro e w3 ⟨rfl, hB3⟩; obtain ⟨hk3, hk4⟩ := keptCells hB3)
    )
  exact ⟨rfl, FirstPost.no hr.out (bstep (bnew w _) hB3)⟩
set_option maxRecDepth 100000 in
set_option maxHeartbeats 400000 in
theorem first_s4 (b0 : UInt8) (r : List UInt8) (n : Nat) (hn : n = r.length + 1) (hlen : n ≤ 65536) (hb : 128 ≤ b0.toNat) (hb2 : b0.toNat < 128 + 64) (A : Option Addr) (cap : Nat) (deep : Nat) (w : World) (hcap : n ≤ cap) (hrd : Rd 0 w A (bytesV (b0 :: r)))
    (h m : Nat) (ho : Hid (Rlp.opened b0 r 128 = .ok (h, m))) (hm : m ≤ n - h) (hm1 : ¬ m = 1) (res : Except Int (It × Nat)) (hr : Hid (res = .ok (.str (((b0 :: r).drop h).take m), h + m))) :
    Calls Try.prog 55 #[.slice A n cap, .int .i64 deep] w (FirstPost w res) := by
  have HRD := Lib.hid hrd
  obtain ⟨b, o, rfl, hk⟩ := hrd.addr (by simp [bytesV])
  have h0 := hk 0 (by simp [bytesV])
  clear hk hrd
  rw [bytesV_get _ _ (by simp)] at h0
  simp only [List.getElem_cons_zero, Nat.add_zero] at h0
  have hbl := cell_lt h0
  have hd0 : 0 < n := by omega
  have hd1 : ¬ ((b0.toNat : Int) < 128) := by omega
  have hd6 : decide ((192 : Int) ≤ (b0.toNat : Int)) = false := by rw [decide_eq_false_iff_not]; omega
  have HN := Lib.hid hn; clear hn
  obtain ⟨hh1, hh2, hh3, hh4⟩ := opened_bd ho.out hb2
  have hd7 : decide ((m : Int) ≤ (n : Int) - (h : Int)) = true := by rw [decide_eq_true_iff]; have := HN.out; omega
  have hmb : ((m : Int) != 1) = true := by rw [bne_iff_ne]; omega
  obtain ⟨i0, hi0, hz0, hz1, hz2⟩ := info_parts u8_info
  obtain ⟨y, hy⟩ : ∃ y, y = ((b0 :: r).drop h).take m := ⟨_, rfl⟩
  have hyl : y.length = m := by have := HN.out; rw [hy, List.length_take, List.length_drop]; simp only [List.length_cons]; omega
  have hsl : ∀ w : World, (Instr.slice 31 (.slice (some ⟨b, o, none⟩) n cap) (some (.int .i64 (h : Int))) (some (.int .i64 ((h : Int) + (m : Int)))) none).run Try.prog w = .ok (.slice (fromAddr 1 (some ⟨b, o, none⟩) cap h) y.length (cap - h)) w := fun w => by
    have := run_slice_range w 31 5 i0 1 Try.underlying31 hi0 hz1 (some ⟨b, o, none⟩) n cap .i64 .i64 (h : Int) ((h : Int) + (m : Int)) h (h + m) (by omega) (by omega) (by omega) (by have := HN.out; omega)
    rw [hyl]
    rwa [show h + m - h = m by omega] at this
  have hrd : Rd 0 w (fromAddr 1 (some ⟨b, o, none⟩) cap h) (bytesV y) := by
    have := (HRD.out.from 1 cap h (by rw [bytesV_length]; have := HN.out; simp only [List.length_cons]; omega)).take m
    rw [hy]
    simpa [bytesV, List.map_take, List.map_drop] using this
  have hres := hr.out
  rw [← hy] at hres
  have HY := Lib.hid (And.intro hyl (And.intro hrd hres)); clear hyl hrd hy hi0 hz0 hz1 hz2 hres hr
  go_enter Try.func55, Try.ntmps55
  go_wp2_with (first
    | (go_at_call 28; first | ((with_reducible refine (ask_t _ _).mono ?_); rintro e w1 ⟨rfl, rfl⟩) | ((with_reducible refine (ask_f _ _).mono ?_); rintro e w1 ⟨rfl, rfl⟩))
    | (go_at_call 60; refine (opened_n n b0 r HN.out 128 hb hb2 _ cap _ hcap (HRD.out.alloc _) _ ho.out).mono ?_; rintro e w3 ⟨rfl, hB3⟩; obtain ⟨hk3, hk4⟩ := keptCells hB3)
    | (go_at_call 19; refine (str_n _ _ _ y rfl _ (by rw [HY.out.1]; omega) (((HY.out.2.1.alloc _)).below hB3)).mono ?_; rintro e w2 ⟨c0, c1, c2, rfl, hI, hB2⟩; obtain ⟨hk1, hk2⟩ := keptCells hB2; obtain ⟨f, A1, k1, cp1, B1, m1, d1, rfl, rfl, rfl⟩ := hI.shape; have hz : w.heap.size < w3.heap.size := by have := hB3.size; simp at this; omega)
    )
  obtain ⟨h1, h2⟩ := item_ret (w := w) w.heap.size (Nat.le_refl _) (ItemR.mono (n' := w.heap.size + 1) (Nat.succ_le_of_lt hz) _ _ _ _ hI) (bstep (bstep (bnew w _) hB3) hB2)
  exact bodyPost_ret (v := .tuple #[.agg #[.bool f, .slice A1 k1 cp1, .slice B1 m1 d1], .int .i64 ((h : Int) + (m : Int))]) (by simp [results, Try.results55, go_sem, hk1, hk3, hz]) rfl (by rw [← Int.natCast_add]; exact FirstPost.ok HY.out.2.2 h1 h2)
set_option maxRecDepth 100000 in
set_option maxHeartbeats 400000 in
theorem first_s5 (b0 : UInt8) (r : List UInt8) (n : Nat) (hn : n = r.length + 1) (hlen : n ≤ 65536) (hb : 128 ≤ b0.toNat) (hb2 : b0.toNat < 128 + 64) (A : Option Addr) (cap : Nat) (deep : Nat) (w : World) (hcap : n ≤ cap) (hrd : Rd 0 w A (bytesV (b0 :: r)))
    (h m : Nat) (ho : Hid (Rlp.opened b0 r 128 = .ok (h, m))) (hm : m ≤ n - h) (hm1 : m = 1) (hx8 : ¬ (b0 :: r).getD h 0 < 0x80) (res : Except Int (It × Nat)) (hr : Hid (res = .ok (.str (((b0 :: r).drop h).take m), h + m))) :
    Calls Try.prog 55 #[.slice A n cap, .int .i64 deep] w (FirstPost w res) := by
  have HRD := Lib.hid hrd
  obtain ⟨b, o, rfl, hk⟩ := hrd.addr (by simp [bytesV])
  have h0 := hk 0 (by simp [bytesV])
  clear hk hrd
  rw [bytesV_get _ _ (by simp)] at h0
  simp only [List.getElem_cons_zero, Nat.add_zero] at h0
  have hbl := cell_lt h0
  have hd0 : 0 < n := by omega
  have hd1 : ¬ ((b0.toNat : Int) < 128) := by omega
  have hd6 : decide ((192 : Int) ≤ (b0.toNat : Int)) = false := by rw [decide_eq_false_iff_not]; omega
  have HN := Lib.hid hn; clear hn
  obtain ⟨hh1, hh2, hh3, hh4⟩ := opened_bd ho.out hb2
  have hd7 : decide ((m : Int) ≤ (n : Int) - (h : Int)) = true := by rw [decide_eq_true_iff]; have := HN.out; omega
  have hmb : ((m : Int) != 1) = false := by simp [hm1]
  have hx : h < (b0 :: r).length := by have := HN.out; simp only [List.length_cons]; omega
  obtain ⟨x, hxx⟩ : ∃ x, x = (b0 :: r)[h] := ⟨_, rfl⟩
  have hxc : w.cell? ⟨b, o + h, none⟩ = some (.int .u8 (x.toNat : Int)) := by
    rcases HRD.out with h' | ⟨b', o', _, hA, hk⟩
    · simp [bytesV] at h'
    · cases hA
      rw [hk h (by rw [bytesV_length]; exact hx), bytesV_get _ h hx, hxx]
  have hxd : (b0 :: r).getD h 0 = x := by rw [hxx, List.getD_eq_getElem?_getD, List.getElem?_eq_getElem hx]; rfl
  rw [hxd] at hx8
  have hx9 : decide ((128 : Int) ≤ (x.toNat : Int)) = true := by rw [decide_eq_true_iff]; rw [UInt8.lt_iff_toNat_lt] at hx8; simp at hx8; omega
  have hhn : h < n := by have := HN.out; omega
  clear hxx hxd hx hx8
  obtain ⟨i0, hi0, hz0, hz1, hz2⟩ := info_parts u8_info
  obtain ⟨y, hy⟩ : ∃ y, y = ((b0 :: r).drop h).take m := ⟨_, rfl⟩
  have hyl : y.length = m := by have := HN.out; rw [hy, List.length_take, List.length_drop]; simp only [List.length_cons]; omega
  have hsl : ∀ w : World, (Instr.slice 31 (.slice (some ⟨b, o, none⟩) n cap) (some (.int .i64 (h : Int))) (some (.int .i64 ((h : Int) + (m : Int)))) none).run Try.prog w = .ok (.slice (fromAddr 1 (some ⟨b, o, none⟩) cap h) y.length (cap - h)) w := fun w => by
    have := run_slice_range w 31 5 i0 1 Try.underlying31 hi0 hz1 (some ⟨b, o, none⟩) n cap .i64 .i64 (h : Int) ((h : Int) + (m : Int)) h (h + m) (by omega) (by omega) (by omega) (by have := HN.out; omega)
    rw [hyl]
    rwa [show h + m - h = m by omega] at this
  have hrd : Rd 0 w (fromAddr 1 (some ⟨b, o, none⟩) cap h) (bytesV y) := by
    have := (HRD.out.from 1 cap h (by rw [bytesV_length]; have := HN.out; simp only [List.length_cons]; omega)).take m
    rw [hy]
    simpa [bytesV, List.map_take, List.map_drop] using this
  have hres := hr.out
  rw [← hy] at hres
  have HY := Lib.hid (And.intro hyl (And.intro hrd hres)); clear hyl hrd hy hi0 hz0 hz1 hz2 hres hr hm1
  go_enter Try.func55, Try.ntmps55
  go_wp2_with (first
    | (go_at_call 28; first | ((with_reducible refine (ask_t _ _).mono ?_); rintro e w1 ⟨rfl, rfl⟩) | ((with_reducible refine (ask_f _ _).mono ?_); rintro e w1 ⟨rfl, rfl⟩))
    | (go_at_call 60; refine (opened_n n b0 r HN.out 128 hb hb2 _ cap _ hcap (HRD.out.alloc _) _ ho.out).mono ?_; rintro e w3 ⟨rfl, hB3⟩; obtain ⟨hk3, hk4⟩ := keptCells hB3)
    | (go_at_call 19; refine (str_n _ _ _ y rfl _ (by rw [HY.out.1]; omega) (((HY.out.2.1.alloc _)).below hB3)).mono ?_; rintro e w2 ⟨c0, c1, c2, rfl, hI, hB2⟩; obtain ⟨hk1, hk2⟩ := keptCells hB2; obtain ⟨f, A1, k1, cp1, B1, m1, d1, rfl, rfl, rfl⟩ := hI.shape; have hz : w.heap.size < w3.heap.size := by have := hB3.size; simp at this; omega)
    )
  obtain ⟨h1, h2⟩ := item_ret (w := w) w.heap.size (Nat.le_refl _) (ItemR.mono (n' := w.heap.size + 1) (Nat.succ_le_of_lt hz) _ _ _ _ hI) (bstep (bstep (bnew w _) hB3) hB2)
  exact bodyPost_ret (v := .tuple #[.agg #[.bool f, .slice A1 k1 cp1, .slice B1 m1 d1], .int .i64 ((h : Int) + (m : Int))]) (by simp [results, Try.results55, go_sem, hk1, hk3, hz]) rfl (by rw [← Int.natCast_add]; exact FirstPost.ok HY.out.2.2 h1 h2)
set_option maxRecDepth 100000 in
set_option maxHeartbeats 400000 in
theorem first_l3 (b0 : UInt8) (r : List UInt8) (n : Nat) (hn : n = r.length + 1) (hlen : n ≤ 65536) (hb : 192 ≤ b0.toNat) (hb2 : b0.toNat < 192 + 64) (A : Option Addr) (cap : Nat)  (w : World) (hcap : n ≤ cap) (hrd : Rd 0 w A (bytesV (b0 :: r)))
    (h m : Nat) (ho : Hid (Rlp.opened b0 r 192 = .ok (h, m))) (hm : m ≤ n - h) (res : Except Int (It × Nat)) (hr : Hid (res = .error 3)) :
    Calls Try.prog 55 #[.slice A n cap, .int .i64 16] w (FirstPost w res) := by
  have HRD := Lib.hid hrd
  obtain ⟨b, o, rfl, hk⟩ := hrd.addr (by simp [bytesV])
  have h0 := hk 0 (by simp [bytesV])
  clear hk hrd
  rw [bytesV_get _ _ (by simp)] at h0
  simp only [List.getElem_cons_zero, Nat.add_zero] at h0
  have hbl := cell_lt h0
  have hd0 : 0 < n := by omega
  have hd1 : ¬ ((b0.toNat : Int) < 128) := by omega
  have hd6 : decide ((192 : Int) ≤ (b0.toNat : Int)) = true := by rw [decide_eq_true_iff]; omega
  have HN := Lib.hid hn; clear hn
  obtain ⟨hh1, hh2, hh3, hh4⟩ := opened_bd ho.out hb2
  have hd7 : decide ((m : Int) ≤ (n : Int) - (h : Int)) = true := by rw [decide_eq_true_iff]; have := HN.out; omega
  go_enter Try.func55, Try.ntmps55
  go_wp2_with (first
    | (go_at_call 28; first | ((with_reducible refine (ask_t _ _).mono ?_); rintro e w1 ⟨rfl, rfl⟩) | ((with_reducible refine (ask_f _ _).mono ?_); rintro e w1 ⟨rfl, rfl⟩))
    | (go_at_call 60; refine (opened_n n b0 r HN.out 192 hb hb2 _ cap _ hcap (HRD.out.alloc _) _ ho.out).mono ?_; rintro e w3 ⟨rfl, hB3⟩; obtain ⟨hk3, hk4⟩ := keptCells hB3)
    )
  exact ⟨rfl, FirstPost.no hr.out (bstep (bnew w _) hB3)⟩
end Go.Proofs.Ytildkoabfdfjlaa
