/- Items in memory, and what the makers of items return. -/
import Derived.Test.YtildkoabfdfjlaaNum
set_option linter.all false
namespace Go.Proofs.Ytildkoabfdfjlaa
open Go.RowKit
open Rlp (It)
mutual
/-- the three cells of an item read as this tree -/
def ItemR (n : Nat) (w : World) : It → Value → Value → Value → Prop
  | .str l, c0, c1, c2 => c0 = .bool false ∧ BytesR n w c1 l ∧ ∃ A cap, c2 = .slice A 0 cap
  | .list its, c0, c1, c2 => c0 = .bool true ∧ (∃ A cap, c1 = .slice A 0 cap) ∧ ∃ A cap cs, c2 = .slice A its.length cap ∧ its.length ≤ cap ∧ Rd n w A cs ∧ ItemsR n w its cs
def ItemsR (n : Nat) (w : World) : List It → List Value → Prop
  | [], cs => cs = []
  | x :: r, cs => ∃ c0 c1 c2 cs', cs = c0 :: c1 :: c2 :: cs' ∧ ItemR n w x c0 c1 c2 ∧ ItemsR n w r cs'
end
mutual
theorem ItemR.below {n : Nat} {w w' : World} (hb : Below w.heap.size w w') : ∀ (x : It) (c0 c1 c2 : Value), ItemR n w x c0 c1 c2 → ItemR n w' x c0 c1 c2
  | .str l, c0, c1, c2, h => by
    simp only [ItemR] at h ⊢
    exact ⟨h.1, h.2.1.below hb, h.2.2⟩
  | .list its, c0, c1, c2, h => by
    simp only [ItemR] at h ⊢
    obtain ⟨h1, h2, A, cap, cs, h3, h4, h5, h6⟩ := h
    exact ⟨h1, h2, A, cap, cs, h3, h4, h5.below hb, ItemsR.below hb its cs h6⟩
theorem ItemsR.below {n : Nat} {w w' : World} (hb : Below w.heap.size w w') : ∀ (x : List It) (cs : List Value), ItemsR n w x cs → ItemsR n w' x cs
  | [], cs, h => by simpa only [ItemsR] using h
  | x :: r, cs, h => by
    simp only [ItemsR] at h ⊢
    obtain ⟨c0, c1, c2, cs', h1, h2, h3⟩ := h
    exact ⟨c0, c1, c2, cs', h1, ItemR.below hb x _ _ _ h2, ItemsR.below hb r cs' h3⟩
end
theorem ItemsR.length {n : Nat} {w : World} : ∀ {x : List It} {cs : List Value}, ItemsR n w x cs → cs.length = x.length * 3
  | [], cs, h => by simp only [ItemsR] at h; subst h; rfl
  | x :: r, cs, h => by
    simp only [ItemsR] at h
    obtain ⟨c0, c1, c2, cs', rfl, h2, h3⟩ := h
    have := ItemsR.length h3
    simp only [List.length_cons]; omega
theorem ItemsR.append {n : Nat} {w : World} : ∀ {x y : List It} {cs ds : List Value}, ItemsR n w x cs → ItemsR n w y ds → ItemsR n w (x ++ y) (cs ++ ds)
  | [], y, cs, ds, h, h' => by simp only [ItemsR] at h; subst h; simpa using h'
  | x :: r, y, cs, ds, h, h' => by
    simp only [ItemsR] at h
    obtain ⟨c0, c1, c2, cs', rfl, h2, h3⟩ := h
    simp only [List.cons_append, ItemsR]
    exact ⟨c0, c1, c2, cs' ++ ds, rfl, h2, ItemsR.append h3 h'⟩
theorem ItemR.oneCell {n : Nat} {w : World} {x : It} {c0 c1 c2 : Value} (h : ItemR n w x c0 c1 c2) : c0.oneCell' = true ∧ c1.oneCell' = true ∧ c2.oneCell' = true := by
  cases x with
  | str l =>
    simp only [ItemR] at h
    obtain ⟨rfl, ⟨A, cap, rfl, _, _⟩, B, cap', rfl⟩ := h
    exact ⟨rfl, rfl, rfl⟩
  | list its =>
    simp only [ItemR] at h
    obtain ⟨rfl, ⟨A, cap, rfl⟩, B, cap', cs, rfl, _⟩ := h
    exact ⟨rfl, rfl, rfl⟩
theorem ItemR.shape {n : Nat} {w : World} {x : It} {c0 c1 c2 : Value} (h : ItemR n w x c0 c1 c2) : ∃ f A k c B m d, c0 = .bool f ∧ c1 = .slice A k c ∧ c2 = .slice B m d := by
  cases x with
  | str l =>
    simp only [ItemR] at h
    obtain ⟨rfl, ⟨A, cap, rfl, _, _⟩, B, cap', rfl⟩ := h
    exact ⟨_, _, _, _, _, _, _, rfl, rfl, rfl⟩
  | list its =>
    simp only [ItemR] at h
    obtain ⟨rfl, ⟨A, cap, rfl⟩, B, cap', cs, rfl, _⟩ := h
    exact ⟨_, _, _, _, _, _, _, rfl, rfl, rfl⟩
theorem ItemsR.oneCell {n : Nat} {w : World} : ∀ {x : List It} {cs : List Value}, ItemsR n w x cs → ∀ u ∈ cs, u.oneCell' = true
  | [], cs, h => by simp only [ItemsR] at h; subst h; simp
  | x :: r, cs, h => by
    simp only [ItemsR] at h
    obtain ⟨c0, c1, c2, cs', rfl, h2, h3⟩ := h
    obtain ⟨o0, o1, o2⟩ := h2.oneCell
    intro u hu
    simp only [List.mem_cons] at hu
    rcases hu with rfl | rfl | rfl | hu
    · exact o0
    · exact o1
    · exact o2
    · exact ItemsR.oneCell h3 u hu

theorem ItemR.mk_str {n : Nat} {w : World} {c1 : Value} {l : List UInt8} (h : BytesR n w c1 l) (A : Option Addr) (cap : Nat) : ItemR n w (.str l) (.bool false) c1 (.slice A 0 cap) := by
  unfold ItemR; exact ⟨rfl, h, _, _, rfl⟩
theorem ItemR.mk_list {n : Nat} {w : World} {A : Option Addr} {cap : Nat} {its : List It} {cs : List Value} (hc : its.length ≤ cap) (h : Rd n w A cs) (hi : ItemsR n w its cs) (B : Option Addr) (cap' : Nat) :
    ItemR n w (.list its) (.bool true) (.slice B 0 cap') (.slice A its.length cap) := by
  unfold ItemR; exact ⟨rfl, ⟨_, _, rfl⟩, _, _, _, rfl, hc, h, hi⟩

mutual
theorem ItemR.mono {n n' : Nat} {w : World} (hn : n' ≤ n) : ∀ (x : It) (c0 c1 c2 : Value), ItemR n w x c0 c1 c2 → ItemR n' w x c0 c1 c2
  | .str l, c0, c1, c2, h => by
    simp only [ItemR] at h ⊢
    exact ⟨h.1, h.2.1.mono hn, h.2.2⟩
  | .list its, c0, c1, c2, h => by
    simp only [ItemR] at h ⊢
    obtain ⟨h1, h2, A, cap, cs, h3, h4, h5, h6⟩ := h
    exact ⟨h1, h2, A, cap, cs, h3, h4, h5.mono hn, ItemsR.mono hn its cs h6⟩
theorem ItemsR.mono {n n' : Nat} {w : World} (hn : n' ≤ n) : ∀ (x : List It) (cs : List Value), ItemsR n w x cs → ItemsR n' w x cs
  | [], cs, h => by simpa only [ItemsR] using h
  | x :: r, cs, h => by
    simp only [ItemsR] at h ⊢
    obtain ⟨c0, c1, c2, cs', h1, h2, h3⟩ := h
    exact ⟨c0, c1, c2, cs', h1, ItemR.mono hn x _ _ _ h2, ItemsR.mono hn r cs' h3⟩
end
mutual
theorem ItemR.setCell {n : Nat} {w : World} {p : Addr} (hp : p.block < n) (v : Value) : ∀ (x : It) (c0 c1 c2 : Value), ItemR n w x c0 c1 c2 → ItemR n (w.setCell p v) x c0 c1 c2
  | .str l, c0, c1, c2, h => by
    simp only [ItemR] at h ⊢
    exact ⟨h.1, h.2.1.setCell hp v, h.2.2⟩
  | .list its, c0, c1, c2, h => by
    simp only [ItemR] at h ⊢
    obtain ⟨h1, h2, A, cap, cs, h3, h4, h5, h6⟩ := h
    exact ⟨h1, h2, A, cap, cs, h3, h4, h5.setCell hp v, ItemsR.setCell hp v its cs h6⟩
theorem ItemsR.setCell {n : Nat} {w : World} {p : Addr} (hp : p.block < n) (v : Value) : ∀ (x : List It) (cs : List Value), ItemsR n w x cs → ItemsR n (w.setCell p v) x cs
  | [], cs, h => by simpa only [ItemsR] using h
  | x :: r, cs, h => by
    simp only [ItemsR] at h ⊢
    obtain ⟨c0, c1, c2, cs', h1, h2, h3⟩ := h
    exact ⟨c0, c1, c2, cs', h1, ItemR.setCell hp v x _ _ _ h2, ItemsR.setCell hp v r cs' h3⟩
end

/-- a call returned these bytes, and turned nothing that was there -/
def GivesBytes (w : World) (l : List UInt8) (e : Ending) (w' : World) : Prop := ∃ v, e = .returned v ∧ BytesR w.heap.size w' v l ∧ Below w.heap.size w w'
/-- a call returned this item -/
def GivesItem (w : World) (x : It) (e : Ending) (w' : World) : Prop := ∃ c0 c1 c2, e = .returned (.agg #[c0, c1, c2]) ∧ ItemR w.heap.size w' x c0 c1 c2 ∧ Below w.heap.size w w'

theorem short_c (a b c d : Int) (ha : 0 ≤ a) (hb : 0 ≤ b) (hc : 0 ≤ c) (hd : 0 ≤ d) (hle : Hid (∀ k, limb a b c d k ≤ 18446744073709551615)) (w : World) :
    Calls Try.prog 51 #[.agg #[.int .u64 a, .int .u64 b, .int .u64 c, .int .u64 d]] w (GivesBytes w (Rlp.short (wnum a b c d))) := by
  have h0 := limb_nonneg ha hb hc hd
  have hl := lenOf_short a b c d hle.out h0
  have hbd := lenOf_bd a b c d
  have hn : (Rlp.short (wnum a b c d)).length ≤ 32 := by omega
  refine (short_n (Rlp.short (wnum a b c d)).length hn a b c d hl ha hb hc hd hle w).mono ?_
  rintro e w' ⟨g, rfl, hg, hgn, hB⟩
  refine ⟨_, rfl, ⟨_, _, rfl, Nat.le_refl _, ?_⟩, hB⟩
  by_cases hz : (Rlp.short (wnum a b c d)).length = 0
  · left; exact List.eq_nil_of_length_eq_zero (by rw [bytesV_length]; exact hz)
  · right
    refine ⟨g, 32 - (Rlp.short (wnum a b c d)).length, hgn, ?_, fun k hk => ?_⟩
    · unfold fromAddr
      rw [if_neg (by omega)]
      simp only [Option.map_some, Addr.add, Nat.mul_one, Nat.zero_add]
      split
      · rename_i h; rw [h]
      · rfl
    · rw [bytesV_length] at hk
      have hs := short_get (wnum a b c d) ((Rlp.short (wnum a b c d)).length - 1 - k) (by omega)
      rw [show (Rlp.short (wnum a b c d)).length - 1 - ((Rlp.short (wnum a b c d)).length - 1 - k) = k by omega] at hs
      have hc := hg ((Rlp.short (wnum a b c d)).length - 1 - k) (by omega)
      rw [show 31 - ((Rlp.short (wnum a b c d)).length - 1 - k) = 32 - (Rlp.short (wnum a b c d)).length + k by omega, wbyte_num a b c d hle.out h0 _ (by omega)] at hc
      rw [hc, bytesV, List.getElem?_map, hs]
      simp

theorem of_limbs (n : Int) (h1 : n ≤ 18446744073709551615) : Hid (∀ k, limb n 0 0 0 k ≤ 18446744073709551615) := by
  intro k; unfold limb; split <;> omega
theorem of_num (n : Int) : wnum n 0 0 0 = n.toNat := by simp [wnum]

theorem clone_c (A : Option Addr) (cap : Nat) (l : List UInt8) (w : World) (hl : l.length ≤ 140737488355328) (hr : Rd 0 w A (bytesV l)) :
    Calls Try.prog 29 #[.slice A l.length cap] w (fun e w' => ∃ v, e = .returned v ∧ w'.ownsRow w.heap.size 5 1 v l.length (bytesV l) ∧ Below w.heap.size w w') := by
  cases A with
  | none =>
    have : l = [] := by
      rcases hr with h | ⟨b, o, _, h, _⟩
      · simpa [bytesV] using h
      · cases h
    subst this
    refine (Try.bytes_Clone_nil _ _ w).mono ?_
    rintro e w' ⟨rfl, rfl⟩
    exact ⟨_, rfl, World.ownsRow_nil _ _ _ _, Below.refl _ _⟩
  | some a =>
    refine (Try.bytes_Clone_at a l.length cap (l.map fun x => (x.toNat : Int)) w (by simp) hl ?_).mono ?_
    · intro i hi
      obtain ⟨b, o, hA, hc⟩ := hr.addr (by rw [bytesV_length]; omega)
      injection hA with hA
      subst hA
      have := hc i (by rw [bytesV_length]; exact hi)
      rw [bytesV_get l i hi] at this
      have e : (l.map fun x => (x.toNat : Int)).getD i 0 = (l[i].toNat : Int) := by simp [List.getD_eq_getElem?_getD, List.getElem?_eq_getElem hi]
      rw [e, ← this]
      by_cases h0 : i = 0
      · subst h0; rfl
      · simp [Addr.add, h0]
    · rintro e w' ⟨v, rfl, hown, _, hB⟩
      refine ⟨v, rfl, ?_, hB⟩
      have : (l.map fun x => (x.toNat : Int)).map (Value.int .u8) = bytesV l := by simp [bytesV]
      rwa [this] at hown

theorem str_c (A : Option Addr) (cap : Nat) (l : List UInt8) (w : World) (hl : Hid (l.length ≤ 140737488355328)) (hr : Rd 0 w A (bytesV l)) :
    Calls Try.prog 19 #[.slice A l.length cap] w (GivesItem w (.str l)) := by
  have HR := Lib.hid hr; clear hr
  go_enter Try.func19, Try.ntmps19
  go_wp2_with (go_at_call 29; refine (clone_c A cap l _ hl.out (HR.out.alloc _)).mono ?_; rintro e w1 ⟨v, rfl, hown, hB⟩; obtain ⟨hk1, hk2⟩ := keptCells hB; obtain ⟨A', cap', rfl, hcap, _, _⟩ := own_slice hown)
  have hR := (((BytesR.of_own hown).setCell (p := ⟨w.heap.size, 0, none⟩) (by simp) (.bool false)).setCell (p := ⟨w.heap.size, 1, none⟩) (by simp) (.slice A' l.length cap')).setCell (p := ⟨w.heap.size, 2, none⟩) (by simp) (.slice none 0 0)
  refine bodyPost_ret (v := .agg #[.bool false, .slice A' l.length cap', .slice none 0 0]) (by simp [results, Try.results19, go_sem, hk1]) rfl ⟨_, _, _, rfl, ItemR.mk_str (hR.mono (by simp)) _ _, ?_⟩
  exact (((bstep (bnew w _) hB).setCell (p := ⟨w.heap.size, 0, none⟩) (Nat.le_refl _) _).setCell (p := ⟨w.heap.size, 1, none⟩) (Nat.le_refl _) _).setCell (p := ⟨w.heap.size, 2, none⟩) (Nat.le_refl _) _

theorem item_ret {w w1 : World} (B : Nat) (hB0 : w.heap.size ≤ B) {c0 c1 c2 : Value} {x : It} (hI : ItemR (B + 1) w1 x c0 c1 c2) (hb : Below w.heap.size w w1) :
    ItemR w.heap.size (((w1.setCell ⟨B, 0, none⟩ c0).setCell ⟨B, 1, none⟩ c1).setCell ⟨B, 2, none⟩ c2) x c0 c1 c2 ∧ Below w.heap.size w (((w1.setCell ⟨B, 0, none⟩ c0).setCell ⟨B, 1, none⟩ c1).setCell ⟨B, 2, none⟩ c2) :=
  ⟨ItemR.mono (by omega) _ _ _ _ (ItemR.setCell (p := ⟨B, 2, none⟩) (by simp) _ _ _ _ _ (ItemR.setCell (p := ⟨B, 1, none⟩) (by simp) _ _ _ _ _ (ItemR.setCell (p := ⟨B, 0, none⟩) (by simp) _ _ _ _ _ hI))),
    ((hb.setCell (p := ⟨B, 0, none⟩) hB0 _).setCell (p := ⟨B, 1, none⟩) hB0 _).setCell (p := ⟨B, 2, none⟩) hB0 _⟩

theorem of_eq (n : Int) (w : World) (K : Ending → World → Prop) (h : ∀ w', Below w.heap.size w w' → K (.returned (.agg #[.int .u64 n, .int .u64 0, .int .u64 0, .int .u64 0])) w') :
    Calls Try.prog 32 #[.int .u64 n] w K := (of_c n w).mono fun _ w' ⟨he, hb⟩ => he ▸ h w' hb

theorem big_c (a b c d : Int) (ha : 0 ≤ a) (hb : 0 ≤ b) (hc : 0 ≤ c) (hd : 0 ≤ d) (hle : Hid (∀ k, limb a b c d k ≤ 18446744073709551615)) (w : World) :
    Calls Try.prog 31 #[.agg #[.int .u64 a, .int .u64 b, .int .u64 c, .int .u64 d]] w (GivesItem w (.str (Rlp.short (wnum a b c d)))) := by
  go_enter Try.func31, Try.ntmps31
  go_wp2_with (go_at_call 51; refine (short_c a b c d ha hb hc hd hle _).mono ?_; rintro e w1 ⟨v, rfl, ⟨A', cap', rfl, hcap, hrd⟩, hB⟩; obtain ⟨hk1, hk2⟩ := keptCells hB; have HR := Lib.hid hrd; clear hrd)
  obtain ⟨h1, h2⟩ := item_ret (w := w) (w.heap.size + 1) (by omega) (ItemR.mk_str (n := w.heap.size + 1 + 1) ⟨A', cap', rfl, hcap, by simpa using HR.out⟩ none 0) (bstep (bnew2 w _ _) hB)
  exact bodyPost_ret (v := .agg #[.bool false, .slice A' (Rlp.short (wnum a b c d)).length cap', .slice none 0 0]) (by simp [results, Try.results31, go_sem, hk1]) rfl ⟨_, _, _, rfl, h1, h2⟩

theorem num_c (n : Int) (h0 : 0 ≤ n) (h1 : Hid (n ≤ 18446744073709551615)) (w : World) :
    Calls Try.prog 16 #[.int .u64 n] w (GivesItem w (.str (Rlp.short n.toNat))) := by
  go_enter Try.func16, Try.ntmps16
  go_wp2_with (first
    | (go_at_call 32; refine (of_c n _).mono ?_; rintro e w1 ⟨rfl, hB⟩; obtain ⟨hk1, hk2⟩ := keptCells hB; have hz : w.heap.size < w1.heap.size := by have := hB.size; rw [World.size_alloc] at this; omega)
    | (go_at_call 31; refine (big_c n 0 0 0 h0 (by omega) (by omega) (by omega) (of_limbs n h1.out) _).mono ?_; rintro e w2 ⟨c0, c1, c2, rfl, hI, hB2⟩; obtain ⟨hk3, hk4⟩ := keptCells hB2; rw [of_num] at hI; obtain ⟨f, A, k, c, B, m, d, rfl, rfl, rfl⟩ := hI.shape))
  obtain ⟨h1, h2⟩ := item_ret (w := w) w.heap.size (by omega) (ItemR.mono (Nat.succ_le_of_lt hz) _ _ _ _ hI) (bstep (bstep (bnew w _) hB) hB2)
  exact bodyPost_ret (v := .agg #[.bool f, .slice A k c, .slice B m d]) (by simp [results, Try.results16, go_sem, hk1, hk3, hz]) rfl ⟨_, _, _, rfl, h1, h2⟩

theorem item_info : (Try.prog.info? 50).map (fun i => (i.zero, i.size, i.bytes)) = some (some (.agg #[.bool false, .slice none 0 0, .slice none 0 0]), 3, 56) := by kernel_rfl
set_option maxRecDepth 100000 in
set_option maxHeartbeats 400000 in
theorem clone_items_c (A : Option Addr) (cap : Nat) (l : List It) (cs : List Value) (w : World) (hl : Hid (l.length * 56 ≤ 140737488355328)) (hr : Hid (Rd 0 w A cs ∧ ItemsR 0 w l cs)) (hA : A = none → l.length = 0) :
    Calls Try.prog 30 #[.slice A l.length cap] w (fun e w' => ∃ v, e = .returned v ∧ w'.ownsRow w.heap.size 50 3 v l.length cs ∧ Below w.heap.size w w') := by
  obtain ⟨i0, hi0, hz0, hz1, hz2⟩ := info_parts item_info
  have q : ∀ (w : World) (a : Option Addr) (n c n' c' : Nat), (binOp .eql 45 (.slice a n c) (.slice none n' c')).run Try.prog w = .ok (.bool a.isNone) w := fun w a n c n' c' => Lib.run_eql_slice_nil w _ _ a n c n' c' Try.underlying45
  cases A with
  | none =>
    have h0 := hA rfl
    have hc : cs = [] := List.eq_nil_of_length_eq_zero (by rw [hr.out.2.length, h0])
    have HC := Lib.hid hc; clear hc hA
    go_enter Try.func30, Try.ntmps30
    go_wp2
    go_ret
    exact ⟨_, rfl, by rw [HC.out]; simpa [h0] using World.ownsRow_nil _ _ _ _, Below.refl _ _⟩
  | some a =>
    clear hA
    go_enter Try.func30, Try.ntmps30
    go_wp2_with (at_builtin; refine wpList_append_rd _ rfl _ _ 45 rfl w.heap.size 50 i0 _ 3 56 Try.underlying45 hi0 hz0 hz1 hz2 rfl (by decide) _ 0 [] rfl (World.ownsRow_made w #[] 0 (Nat.le_refl _) (Nat.zero_le _) rfl) 0 (some a) l.length cap cs rfl hr.out.2.length (hr.out.1.alloc _) hr.out.2.oneCell ?qc1 ?qc2 ?qc3 ?qc4 ?_)
    case qc1 => have := hl.out; unfold maxLen; omega
    case qc2 => have := hl.out; omega
    case qc3 => simp
    case qc4 => intro h; cases h
    intro v' w1 hown hgrow hblk
    go_wp2
    go_ret
    refine ⟨v', rfl, by simpa using hown, ?_⟩
    exact (bnew w _).grown hgrow (by simp) (by intro k hk; simp [Value.ownBlock] at hk; omega)
end Go.Proofs.Ytildkoabfdfjlaa
