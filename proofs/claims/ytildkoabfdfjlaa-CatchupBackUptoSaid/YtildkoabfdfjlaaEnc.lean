/- What an item's 'encoded' returns: the bytes that Rlp.enc tells, or the panic with ErrBig. -/
import Derived.Test.YtildkoabfdfjlaaRlpA
set_option linter.all false
namespace Go.Proofs.Ytildkoabfdfjlaa
open Go.RowKit
open Rlp (It)
/-- what 'encoded' is said to do -/
def EncPost (w : World) (r : Option (List UInt8)) (e : Ending) (w' : World) : Prop :=
  match r with
  | some y => ∃ v, e = .returned v ∧ BytesR 0 w' v y ∧ Below w.heap.size w w'
  | none => e = .panicked (flt 3) ∧ Below w.heap.size w w'
theorem EncPost.ok {w w' : World} {r : Option (List UInt8)} {y : List UInt8} (hr : r = some y) {v : Value} (h : BytesR 0 w' v y) (hb : Below w.heap.size w w') : EncPost w r (.returned v) w' := by
  subst hr; exact ⟨v, rfl, h, hb⟩
theorem EncPost.no {w w' : World} {r : Option (List UInt8)} (hr : r = none) (hb : Below w.heap.size w w') : EncPost w r (.panicked (flt 3)) w' := by
  subst hr; exact ⟨rfl, hb⟩

theorem head_length_le (base n : Nat) (hn : n ≤ 65536) : (Rlp.head base n).length ≤ 4 := by
  unfold Rlp.head
  have := Rlp.short_length_le (n := n) (k := 3) (by omega)
  split <;> simp; omega
set_option maxRecDepth 100000 in
set_option maxHeartbeats 400000 in
/-- one byte below 0x80 stands for itself -/
theorem enc_str1 (a : UInt8) (ha : a < 0x80) (A : Option Addr) (cap : Nat) (B : Option Addr) (n2 cap2 : Nat) (deep : Int) (w : World) (hc : 1 ≤ cap) (hr : Rd 0 w A (bytesV [a])) (r : Option (List UInt8)) (hres : Hid (r = some [a])) :
    Calls Try.prog 27 #[.agg #[.bool false, .slice A 1 cap, .slice B n2 cap2], .int .i64 deep] w (EncPost w r) := by
  have HR := Lib.hid hr
  obtain ⟨b, o, rfl, hk⟩ := hr.addr (by simp [bytesV])
  have h0 := hk 0 (by simp [bytesV])
  clear hk hr
  rw [bytesV_get _ _ (by simp)] at h0
  simp only [List.getElem_cons_zero, Nat.add_zero] at h0
  have hbl := cell_lt h0
  have hlt : (a.toNat : Int) < 128 := by have := (UInt8.lt_iff_toNat_lt).1 ha; simp at this; omega
  go_enter Try.func27, Try.ntmps27
  go_wp2_with fail
  go_ret
  exact EncPost.ok hres.out ⟨_, _, rfl, hc, HR.out.alloc _⟩ (bnew w _)

set_option maxRecDepth 100000 in
set_option maxHeartbeats 400000 in
/-- longer bytes have a head -/
theorem enc_str2 (l : List UInt8) (hl : l.length ≤ 65536) (h1 : (l.length == 1) = false) (A : Option Addr) (cap : Nat) (B : Option Addr) (n2 cap2 : Nat) (deep : Int) (w : World) (hr : Rd 0 w A (bytesV l)) (r : Option (List UInt8)) (hres : Hid (r = some (Rlp.head 128 l.length ++ l))) :
    Calls Try.prog 27 #[.agg #[.bool false, .slice A l.length cap, .slice B n2 cap2], .int .i64 deep] w (EncPost w r) := by
  have HR := Lib.hid hr; clear hr
  obtain ⟨i0, hi0, hz0, hz1, hz2⟩ := info_parts u8_info
  have h1' : ((l.length : Int) == 1) = false := by simp at h1 ⊢; omega
  have h2' : decide ((l.length : Int) ≤ 65536) = true := by simp; omega
  go_enter Try.func27, Try.ntmps27
  go_wp2_with (first
    | (go_at_call 28; refine (ask_t _ _).mono ?_; rintro e w1 ⟨rfl, rfl⟩)
    | (go_at_call 50; refine (head_c 128 l.length hl (by omega) _).mono ?_; rintro e w2 ⟨v, rfl, hown, hB2⟩; obtain ⟨A2, cap2, rfl, _, _, _⟩ := own_slice hown)
    | (at_builtin; refine wpList_append_rd _ rfl _ _ 31 rfl _ 5 i0 _ 1 1 Try.underlying31 hi0 hz0 hz1 hz2 rfl (by decide) _ _ _ rfl hown _ A l.length cap (bytesV l) rfl (by rw [bytesV_length]; omega) ((HR.out.alloc _).below hB2) (bytesV_one _) ?q1 ?q2 ?q3 ?q4 ?_))
  case q1 => have := head_length_le 128 l.length hl; unfold maxLen; omega
  case q2 => have := head_length_le 128 l.length hl; omega
  case q3 => exact hB2.size
  case q4 => intro h; have := HR.out.none_len h; rw [← bytesV_length, this]; rfl
  intro v' w3 hown3 hgrow hblk
  obtain ⟨A3, cap3, rfl, hc3, _, _⟩ := own_slice hown3
  go_wp2
  go_ret
  have e : (Rlp.head 128 l.length).length + l.length = (Rlp.head 128 l.length ++ l).length := by simp
  refine EncPost.ok hres.out (y := Rlp.head 128 l.length ++ l) ?_ ?_
  · rw [← bytesV_append] at hown3
    exact (BytesR.of_own' e hown3).mono (Nat.zero_le _)
  · exact (bstep (bnew w _) hB2).grown hgrow (Nat.le_trans (bnew w _).size hB2.size) (by
      intro k hk
      obtain ⟨_, h⟩ := hown
      rcases h with ⟨h, _⟩ | ⟨g, c, cur, h, hg, _⟩
      · rw [h] at hk; simp [Value.ownBlock] at hk
      · rw [h] at hk; simp [Value.ownBlock] at hk; subst hk; simp at hg; omega)
set_option maxRecDepth 100000 in
set_option maxHeartbeats 400000 in
/-- one byte from 0x80 on has a head, too -/
theorem enc_str4 (x : UInt8) (hx : ¬ x < 0x80) (A : Option Addr) (cap : Nat) (B : Option Addr) (n2 cap2 : Nat) (deep : Int) (w : World) (hr : Rd 0 w A (bytesV [x])) (r : Option (List UInt8)) (hres : Hid (r = some (Rlp.head 128 1 ++ [x]))) :
    Calls Try.prog 27 #[.agg #[.bool false, .slice A 1 cap, .slice B n2 cap2], .int .i64 deep] w (EncPost w r) := by
  have HR := Lib.hid hr
  obtain ⟨b, o, rfl, hk⟩ := hr.addr (by simp [bytesV])
  have h0 := hk 0 (by simp [bytesV])
  clear hk hr
  rw [bytesV_get _ _ (by simp)] at h0
  simp only [List.getElem_cons_zero, Nat.add_zero] at h0
  have hbl := cell_lt h0
  have hlt : 128 ≤ (x.toNat : Int) := by rw [UInt8.lt_iff_toNat_lt] at hx; simp at hx; omega
  obtain ⟨i0, hi0, hz0, hz1, hz2⟩ := info_parts u8_info
  go_enter Try.func27, Try.ntmps27
  go_wp2_with (first
    | (go_at_call 28; refine (ask_t _ _).mono ?_; rintro e w1 ⟨rfl, rfl⟩)
    | (go_at_call 50; refine (head_c 128 1 (by omega) (by omega) _).mono ?_; rintro e w2 ⟨v, rfl, hown, hB2⟩; obtain ⟨A2, cap2, rfl, _, _, _⟩ := own_slice hown)
    | (at_builtin; refine wpList_append_rd _ rfl _ _ 31 rfl _ 5 i0 _ 1 1 Try.underlying31 hi0 hz0 hz1 hz2 rfl (by decide) _ _ _ rfl hown _ _ 1 cap (bytesV [x]) rfl (by rw [bytesV_length]; rfl) ((HR.out.alloc _).below hB2) (bytesV_one _) ?q1 ?q2 ?q3 ?q4 ?_))
  case q1 => have := head_length_le 128 1 (by omega); unfold maxLen; omega
  case q2 => have := head_length_le 128 1 (by omega); omega
  case q3 => exact hB2.size
  case q4 => intro h; cases h
  intro v' w3 hown3 hgrow hblk
  obtain ⟨A3, cap3, rfl, hc3, _, _⟩ := own_slice hown3
  go_wp2
  go_ret
  have e : (Rlp.head 128 1).length + 1 = (Rlp.head 128 1 ++ [x]).length := by simp
  refine EncPost.ok hres.out (y := Rlp.head 128 1 ++ [x]) ?_ ?_
  · rw [← bytesV_append] at hown3
    exact (BytesR.of_own' e hown3).mono (Nat.zero_le _)
  · exact (bstep (bnew w _) hB2).grown hgrow (Nat.le_trans (bnew w _).size hB2.size) (by
      intro k hk
      obtain ⟨_, h⟩ := hown
      rcases h with ⟨h, _⟩ | ⟨g, c, cur, h, hg, _⟩
      · rw [h] at hk; simp [Value.ownBlock] at hk
      · rw [h] at hk; simp [Value.ownBlock] at hk; subst hk; simp at hg; omega)
set_option maxRecDepth 100000 in
set_option maxHeartbeats 400000 in
/-- too long bytes have none -/
theorem enc_str3 (l : List UInt8) (hl : Hid (65536 < l.length)) (A : Option Addr) (cap : Nat) (B : Option Addr) (n2 cap2 : Nat) (deep : Int) (w : World) (r : Option (List UInt8)) (hres : Hid (r = none)) :
    Calls Try.prog 27 #[.agg #[.bool false, .slice A l.length cap, .slice B n2 cap2], .int .i64 deep] w (EncPost w r) := by
  have h1' : ((l.length : Int) == 1) = false := by have := hl.out; simp; omega
  have h2' : decide ((l.length : Int) ≤ 65536) = false := by have := hl.out; simp; omega
  go_enter Try.func27, Try.ntmps27
  go_wp2_with (go_at_call 28; refine (ask_f _ _).mono ?_; rintro e w1 ⟨rfl, rfl⟩)
  exact ⟨rfl, EncPost.no hres.out (bnew w _)⟩

/-- 'encoded' of bytes -/
theorem enc_str_c (l : List UInt8) (deep : Nat) (c0 c1 c2 : Value) (w : World) (h : ItemR 0 w (.str l) c0 c1 c2) :
    Calls Try.prog 27 #[.agg #[c0, c1, c2], .int .i64 deep] w (EncPost w (Rlp.enc (.str l) deep)) := by
  simp only [ItemR] at h
  obtain ⟨rfl, ⟨A, cap, rfl, hc, hr⟩, B, cap', rfl⟩ := h
  by_cases h1 : l.length = 1 ∧ l.headD 0 < 0x80
  · obtain ⟨h1, h2⟩ := h1
    obtain ⟨a, rfl⟩ : ∃ a, l = [a] := by
      match l, h1 with
      | [a], _ => exact ⟨a, rfl⟩
    exact enc_str1 a (by simpa using h2) A cap B 0 cap' deep w hc hr _ (by simp only [Hid, Rlp.enc]; rw [if_pos ⟨rfl, h2⟩])
  · by_cases h2 : l.length ≤ 65536
    · by_cases h3 : l.length = 1
      · obtain ⟨a, rfl⟩ : ∃ a, l = [a] := by
          match l, h3 with
          | [a], _ => exact ⟨a, rfl⟩
        exact enc_str4 a (fun hx => h1 ⟨h3, by simpa using hx⟩) A cap B 0 cap' deep w hr _ (by simp only [Hid, Rlp.enc]; rw [if_neg h1, if_pos (show [a].length ≤ Rlp.MaxRlp from h2)]; rfl)
      · exact enc_str2 l h2 (by simpa using h3) A cap B 0 cap' deep w hr _ (by simp only [Hid, Rlp.enc]; rw [if_neg h1, if_pos (show l.length ≤ Rlp.MaxRlp from h2)])
    · exact enc_str3 l (by simp only [Hid]; omega) A cap B 0 cap' deep w _ (by simp only [Hid, Rlp.enc]; rw [if_neg h1, if_neg (show ¬ l.length ≤ Rlp.MaxRlp from h2)])
end Go.Proofs.Ytildkoabfdfjlaa
