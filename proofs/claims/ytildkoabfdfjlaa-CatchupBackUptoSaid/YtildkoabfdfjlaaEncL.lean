/- What an item's 'encoded' returns, at every tree. -/
import Derived.Test.YtildkoabfdfjlaaEnc
set_option linter.all false
namespace Go.Proofs.Ytildkoabfdfjlaa
open Go.RowKit
open Rlp (It)
theorem ItemsR.at {n : Nat} {w : World} : ∀ {x : List It} {cs : List Value}, ItemsR n w x cs → ∀ k (hk : k < x.length),
    ∃ c0 c1 c2, cs[k * 3]? = some c0 ∧ cs[k * 3 + 1]? = some c1 ∧ cs[k * 3 + 2]? = some c2 ∧ ItemR n w x[k] c0 c1 c2
  | [], cs, h, k, hk => by simp at hk
  | x :: r, cs, h, k, hk => by
    simp only [ItemsR] at h
    obtain ⟨c0, c1, c2, cs', rfl, h2, h3⟩ := h
    cases k with
    | zero => exact ⟨c0, c1, c2, rfl, rfl, rfl, h2⟩
    | succ k =>
      obtain ⟨d0, d1, d2, e0, e1, e2, hd⟩ := ItemsR.at h3 k (by simpa using hk)
      refine ⟨d0, d1, d2, ?_, ?_, ?_, hd⟩
      · rw [show (k + 1) * 3 = k * 3 + 3 by omega]; exact e0
      · rw [show (k + 1) * 3 + 1 = k * 3 + 1 + 3 by omega]; exact e1
      · rw [show (k + 1) * 3 + 2 = k * 3 + 2 + 3 by omega]; exact e2

theorem enc_length_le {x : It} {deep : Nat} {y : List UInt8} (h : Rlp.enc x deep = some y) : y.length ≤ 65540 := by
  cases x with
  | str b =>
    simp only [Rlp.enc] at h
    split at h
    · rename_i hc; cases h; omega
    · split at h
      · rename_i hl; cases h; have := head_length_le 128 b.length hl; rw [List.length_append]; unfold Rlp.MaxRlp at hl; omega
      · cases h
  | list l =>
    simp only [Rlp.enc] at h
    split at h
    · split at h
      · split at h
        · rename_i all _ hl; cases h; have := head_length_le 192 all.length hl; rw [List.length_append]; unfold Rlp.MaxRlp at hl; omega
        · cases h
      · cases h
    · cases h
theorem encs_step (its : List It) (k : Nat) (hk : k < its.length) (deep : Nat) (acc : List UInt8) :
    Rlp.encs (its.drop k) deep acc = match Rlp.enc its[k] deep with
      | some b => if (acc ++ b).length ≤ 65536 then Rlp.encs (its.drop (k + 1)) deep (acc ++ b) else none
      | none => none := by
  rw [List.drop_eq_getElem_cons hk, Rlp.encs]; rfl

set_option maxRecDepth 100000 in
set_option maxHeartbeats 800000 in
theorem enc_list_c (its : List It) (deep : Nat) (hd : deep < 16) (A : Option Addr) (cap : Nat) (B : Option Addr) (n2 cap2 : Nat) (cs : List Value) (w : World) (hr : Rd 0 w A cs) (hi : ItemsR 0 w its cs)
    (hlen : Hid (its.length ≤ 140737488355328))
    (ih : Hid (∀ k (hk : k < its.length) (c0 c1 c2 : Value) (w : World), ItemR 0 w its[k] c0 c1 c2 → Calls Try.prog 27 #[.agg #[c0, c1, c2], .int .i64 ((deep : Int) + 1)] w (EncPost w (Rlp.enc its[k] (deep + 1))))) :
    Calls Try.prog 27 #[.agg #[.bool true, .slice B n2 cap2, .slice A its.length cap], .int .i64 deep] w (EncPost w (Rlp.enc (.list its) deep)) := by
  have HR := Lib.hid (And.intro hr hi); clear hr hi
  obtain ⟨i0, hi0, hz0, hz1, hz2⟩ := info_parts u8_info
  have hd' : decide ((deep : Int) < 16) = true := by simp; omega
  have hl2 : (its.length : Int) ≤ 9223372036854775807 := by have := hlen.out; omega
  go_enter Try.func27, Try.ntmps27
  go_wp2_with (go_at_call 28; (with_reducible refine (ask_t _ _).mono ?_); rintro e w1 ⟨rfl, rfl⟩)
  go_loopw [5, 17] (fun v i wr => ∃ (k : Nat) (acc : List UInt8), k ≤ its.length ∧ i = .int .i64 k ∧ acc.length ≤ 65536 ∧ wr.ownsRow (w.heap.size + 1) 5 1 v acc.length (bytesV acc) ∧ Below (w.heap.size + 1) (w.alloc (.cells #[.bool true, .slice B n2 cap2, .slice A its.length cap] 50)) wr ∧
      Rlp.encs its (deep + 1) [] = Rlp.encs (its.drop k) (deep + 1) acc) (fun _ i _ => its.length - (intOf i).toNat)
  case atStart => exact ⟨0, [], by omega, rfl, by simp, World.ownsRow_nil _ _ _ _, Below.refl _ _, by simp⟩
  case round =>
    obtain ⟨k, acc, hk, rfl, hacc, hown, hB, heq⟩ := hrel
    have HE := Lib.hid heq; clear heq
    by_cases hlt : k < its.length
    · obtain ⟨c0, c1, c2, e0, e1, e2, hitem⟩ := HR.out.2.at k hlt
      obtain ⟨b, o, hA, hcell⟩ := HR.out.1.addr (by rw [HR.out.2.length]; omega)
      have q0 := (hcell (k * 3) (by rw [HR.out.2.length]; omega)).trans e0
      have q1 := (hcell (k * 3 + 1) (by rw [HR.out.2.length]; omega)).trans e1
      have q2 := (hcell (k * 3 + 2) (by rw [HR.out.2.length]; omega)).trans e2
      clear hcell e0 e1 e2
      subst hA
      have hbw := cell_lt q0
      have r0 : wr.cell? ⟨b, o + k * 3, none⟩ = some c0 := (hB.cell (p := ⟨b, _, none⟩) (by simp; omega)).trans (Lib.cell?_alloc_some _ q0)
      have r1 : wr.cell? ⟨b, o + (k * 3 + 1), none⟩ = some c1 := (hB.cell (p := ⟨b, _, none⟩) (by simp; omega)).trans (Lib.cell?_alloc_some _ q1)
      have r2 : wr.cell? ⟨b, o + (k * 3 + 2), none⟩ = some c2 := (hB.cell (p := ⟨b, _, none⟩) (by simp; omega)).trans (Lib.cell?_alloc_some _ q2)
      clear q0 q1 q2
      have hBw : Below w.heap.size w wr := (bnew w _).trans (hB.mono (by omega))
      have hitem := ItemR.below hBw _ _ _ _ hitem
      obtain ⟨f, A1, k1, cp1, B1, m1, d1, rfl, rfl, rfl⟩ := hitem.shape
      obtain ⟨A', cap', rfl, hcap, _, _⟩ := own_slice hown
      have HI := Lib.hid hitem; clear hitem
      have hst := encs_step its k hlt (deep + 1) acc
      rw [← Nat.add_assoc] at r1 r2
      have IHk := fun W h => ih.out k hlt (.bool f) (.slice A1 k1 cp1) (.slice B1 m1 d1) W h
      cases hy : Rlp.enc its[k] (deep + 1) with
      | none =>
        rw [hy] at hst IHk
        simp only at hst
        have HS := Lib.hid (And.intro hst hy); clear hst hy
        have IHK := Lib.hid IHk; clear IHk
        go_wp2_with (first
          | (go_at_call 27; refine (IHK.out _ (ItemR.below (bnew _ _) _ _ _ _ HI.out)).mono ?_; rintro e w2 ⟨rfl, hB2⟩))
        refine ⟨rfl, EncPost.no ?_ (bstep (hBw.alloc hBw.size _) hB2)⟩
        simp only [Rlp.enc]
        rw [if_pos hd, HE.out, HS.out.1]
      | some y =>
        rw [hy] at hst IHk
        have hyl := enc_length_le hy
        simp only at hst
        have HS := Lib.hid (And.intro hst hy); clear hst hy
        have IHK := Lib.hid IHk; clear IHk
        by_cases hsz : acc.length + y.length ≤ 65536
        · have hsz' : decide ((acc.length : Int) + (y.length : Int) ≤ 65536) = true := by simp; omega
          go_wp2_with (first
            | (go_at_call 27; refine (IHK.out _ (ItemR.below (bnew _ _) _ _ _ _ HI.out)).mono ?_; rintro e w2 ⟨v2, rfl, ⟨A2, cp2, rfl, hc2, hr2⟩, hB2⟩; have HR2 := Lib.hid hr2; clear hr2)
            | (at_builtin; refine wpList_append_rd _ rfl _ _ 31 rfl (w.heap.size + 1) 5 i0 _ 1 1 Try.underlying31 hi0 hz0 hz1 hz2 rfl (by decide) _ _ _ rfl (own_below hown (bstep (bnew wr _) hB2)) _ A2 y.length cp2 (bytesV y) rfl (by rw [bytesV_length]; omega) HR2.out (bytesV_one _) (by unfold maxLen; omega) (by omega) (by have h1 := hB.size; have h2 := (bstep (bnew wr _) hB2).size; simp at h1; omega) (fun h => by rw [← bytesV_length, HR2.out.none_len h]; rfl) ?_
               intro v3 w3 hown3 hgrow3 hblk3; obtain ⟨A3, cp3, rfl, hc3, _, _⟩ := own_slice hown3)
            | (go_at_call 28; (with_reducible refine (ask_t _ _).mono ?_); rintro e w1 ⟨rfl, rfl⟩))
          have hB3 : Below (w.heap.size + 1) (w.alloc (.cells #[.bool true, .slice B n2 cap2, .slice (some ⟨b, o, none⟩) its.length cap] 50)) w3 :=
            (hB.trans ((bstep (bnew wr _) hB2).mono (by have := hB.size; simp at this; omega))).grown hgrow3 (by have h1 := hB.size; have h2 := (bstep (bnew wr _) hB2).size; simp at h1; omega) (fun k' hk' => by have := (hown.lt k' hk').1; omega)
          go_roundw
          case rel =>
            refine ⟨k + 1, acc ++ y, by omega, by go_num, by simp; omega, ?_, hB3, ?_⟩
            · rw [bytesV_append, List.length_append]; exact hown3
            · rw [HE.out, HS.out.1, if_pos (by rw [List.length_append]; omega)]
          case measure => simp [intOf]; omega
        · have hsz' : decide ((acc.length : Int) + (y.length : Int) ≤ 65536) = false := by simp; omega
          go_wp2_with (first
            | (go_at_call 27; refine (IHK.out _ (ItemR.below (bnew _ _) _ _ _ _ HI.out)).mono ?_; rintro e w2 ⟨v2, rfl, ⟨A2, cp2, rfl, hc2, hr2⟩, hB2⟩; have HR2 := Lib.hid hr2; clear hr2)
            | (at_builtin; refine wpList_append_rd _ rfl _ _ 31 rfl (w.heap.size + 1) 5 i0 _ 1 1 Try.underlying31 hi0 hz0 hz1 hz2 rfl (by decide) _ _ _ rfl (own_below hown (bstep (bnew wr _) hB2)) _ A2 y.length cp2 (bytesV y) rfl (by rw [bytesV_length]; omega) HR2.out (bytesV_one _) (by unfold maxLen; omega) (by omega) (by have h1 := hB.size; have h2 := (bstep (bnew wr _) hB2).size; simp at h1; omega) (fun h => by rw [← bytesV_length, HR2.out.none_len h]; rfl) ?_
               intro v3 w3 hown3 hgrow3 hblk3; obtain ⟨A3, cp3, rfl, hc3, _, _⟩ := own_slice hown3)
            | (go_at_call 28; (with_reducible refine (ask_f _ _).mono ?_); rintro e w1 ⟨rfl, rfl⟩))
          refine ⟨rfl, EncPost.no ?_ ?_⟩
          · simp only [Rlp.enc]
            rw [if_pos hd, HE.out, HS.out.1, if_neg (by rw [List.length_append]; omega)]
          · exact (bstep (hBw.alloc hBw.size _) hB2).grown hgrow3 (bstep (hBw.alloc hBw.size _) hB2).size (fun k' hk' => by have := (hown.lt k' hk').1; omega)
    · obtain rfl : k = its.length := by omega
      have hacc' : decide ((acc.length : Int) ≤ 65536) = true := by simp; omega
      obtain ⟨A', cap', rfl, hcap, _, _⟩ := own_slice hown
      have hlt' : decide ((its.length : Int) < (its.length : Int)) = false := by simp
      have hBw : Below w.heap.size w wr := (bnew w _).trans (hB.mono (by omega))
      go_wp2_with (first
        | (go_at_call 28; (with_reducible refine (ask_t _ _).mono ?_); rintro e w1 ⟨rfl, rfl⟩)
        | (go_at_call 50; refine (head_c 192 acc.length hacc (by omega) _).mono ?_; rintro e w2 ⟨v, rfl, hown2, hB2⟩; obtain ⟨A2, cap2, rfl, _, _, _⟩ := own_slice hown2)
        | (at_builtin; refine wpList_append_rd _ rfl _ _ 31 rfl _ 5 i0 _ 1 1 Try.underlying31 hi0 hz0 hz1 hz2 rfl (by decide) _ _ _ rfl hown2 _ A' acc.length cap' (bytesV acc) rfl (by rw [bytesV_length]; omega) ((Rd.of_own hown).below hB2) (bytesV_one _) (by have := head_length_le 192 acc.length hacc; unfold maxLen; omega) (by have := head_length_le 192 acc.length hacc; omega) hB2.size (fun h => by rw [← bytesV_length, (Rd.of_own hown).none_len h]; rfl) ?_
           intro v3 w3 hown3 hgrow3 hblk3; obtain ⟨A3, cp3, rfl, hc3, _, _⟩ := own_slice hown3))
      go_ret
      have e : (Rlp.head 192 acc.length).length + acc.length = (Rlp.head 192 acc.length ++ acc).length := by simp
      refine EncPost.ok (y := Rlp.head 192 acc.length ++ acc) ?_ ?_ ?_
      · simp only [Rlp.enc]
        rw [if_pos hd, HE.out, List.drop_length, Rlp.encs]
        simp only
        rw [if_pos (show acc.length ≤ Rlp.MaxRlp from hacc)]
      · rw [← bytesV_append] at hown3
        exact (BytesR.of_own' e hown3).mono (Nat.zero_le _)
      · exact (bstep hBw hB2).grown hgrow3 (Nat.le_trans hBw.size hB2.size) (fun k' hk' => by have h1 := (hown2.lt k' hk').1; have := hBw.size; omega)

set_option maxRecDepth 100000 in
set_option maxHeartbeats 800000 in
/-- a list within too many lists is none -/
theorem enc_deep_c (its : List It) (A : Option Addr) (cap n : Nat) (B : Option Addr) (n2 cap2 : Nat) (w : World) :
    Calls Try.prog 27 #[.agg #[.bool true, .slice B n2 cap2, .slice A n cap], .int .i64 16] w (EncPost w (Rlp.enc (.list its) 16)) := by
  go_enter Try.func27, Try.ntmps27
  go_wp2_with (go_at_call 28; (with_reducible refine (ask_f _ _).mono ?_); rintro e w1 ⟨rfl, rfl⟩)
  exact ⟨rfl, EncPost.no (by simp [Rlp.enc]) (bnew w _)⟩

mutual
/-- how many items a tree has, all told -/
def wt : It → Nat
  | .str _ => 1
  | .list l => wts l + 1
def wts : List It → Nat
  | [] => 0
  | x :: l => wt x + wts l + 1
end
theorem wt_at : ∀ (l : List It) (k : Nat) (hk : k < l.length), wt l[k] ≤ wts l
  | [], k, hk => by simp at hk
  | x :: l, 0, _ => by simp only [wts, List.getElem_cons_zero]; omega
  | x :: l, k + 1, hk => by
    have := wt_at l k (by simpa using hk)
    simp only [wts, List.getElem_cons_succ]; omega

/-- no slice of items is longer than memory bears -/
def Fits : Nat → It → Prop
  | _, .str _ => True
  | 0, .list l => l.length ≤ 140737488355328
  | d + 1, .list l => l.length ≤ 140737488355328 ∧ ∀ x ∈ l, Fits d x

/-- 'encoded' does what Rlp.enc tells -/
theorem enc_c : ∀ (d deep : Nat), deep + d = 16 → ∀ (x : It) (c0 c1 c2 : Value) (w : World), Fits d x → ItemR 0 w x c0 c1 c2 →
    Calls Try.prog 27 #[.agg #[c0, c1, c2], .int .i64 deep] w (EncPost w (Rlp.enc x deep)) := by
  intro d
  induction d with
  | zero =>
    intro deep hd x c0 c1 c2 w hf h
    obtain rfl : deep = 16 := by omega
    cases x with
    | str l => exact enc_str_c l 16 c0 c1 c2 w h
    | list l =>
      simp only [ItemR] at h
      obtain ⟨rfl, ⟨B, cp, rfl⟩, A, cap, cs, rfl, hc, hr, hi⟩ := h
      exact enc_deep_c l A cap _ B 0 cp w
  | succ d ih =>
    intro deep hd x c0 c1 c2 w hf h
    cases x with
    | str l => exact enc_str_c l deep c0 c1 c2 w h
    | list l =>
      simp only [ItemR] at h
      obtain ⟨rfl, ⟨B, cp, rfl⟩, A, cap, cs, rfl, hc, hr, hi⟩ := h
      simp only [Fits] at hf
      exact enc_list_c l deep (by omega) A cap B 0 cp cs w hr hi hf.1 (fun k hk c0 c1 c2 w h => by
        have := ih (deep + 1) (by omega) l[k] c0 c1 c2 w (hf.2 _ (List.getElem_mem hk)) h
        simpa using this)
end Go.Proofs.Ytildkoabfdfjlaa
