/- RLP as plain Lean: the encoder and decoder of the program, and that they are inverse to each other. -/
set_option linter.all false
namespace Go.Proofs.Ytildkoabfdfjlaa.Rlp

inductive It where
  | str (b : List UInt8)
  | list (l : List It)

def MaxRlp : Nat := 65536
def eEnd : Int := 10
def eRlp : Int := 11
def eBig : Int := 3

/-- big-endian bytes without leading zeros -/
def short (n : Nat) : List UInt8 :=
  if _h : n = 0 then [] else short (n / 256) ++ [UInt8.ofNat (n % 256)]
termination_by n
decreasing_by omega

def readBE (l : List UInt8) : Nat := l.foldl (fun a b => a * 256 + b.toNat) 0

def head (base : Nat) (n : Nat) : List UInt8 :=
  if n < 56 then [UInt8.ofNat (base + n)]
  else UInt8.ofNat (base + 55 + (short n).length) :: short n

mutual
def enc : It → Nat → Option (List UInt8)
  | .str b, _ =>
    if b.length = 1 ∧ b.headD 0 < 0x80 then some b
    else if b.length ≤ MaxRlp then some (head 0x80 b.length ++ b) else none
  | .list l, deep =>
    if deep < 16 then
      match encs l (deep + 1) [] with
      | some all => if all.length ≤ MaxRlp then some (head 0xc0 all.length ++ all) else none
      | none => none
    else none
def encs : List It → Nat → List UInt8 → Option (List UInt8)
  | [], _, acc => some acc
  | y :: l, deep, acc =>
    match enc y deep with
    | some b => if (acc ++ b).length ≤ MaxRlp then encs l deep (acc ++ b) else none
    | none => none
end

def encode (x : It) : Option (List UInt8) :=
  match enc x 0 with
  | some b => if b.length ≤ MaxRlp then some b else none
  | none => none

def opened (b0 : UInt8) (r : List UInt8) (base : Nat) : Except Int (Nat × Nat) :=
  if b0.toNat - base < 56 then .ok (1, b0.toNat - base)
  else if r.length + 1 ≤ b0.toNat - base - 55 then .error eEnd
  else if r.headD 0 = 0 then .error eRlp
  else if readBE (r.take (b0.toNat - base - 55)) < 56 then .error eRlp
  else .ok (1 + (b0.toNat - base - 55), if readBE (r.take (b0.toNat - base - 55)) > MaxRlp then MaxRlp + 1 else readBE (r.take (b0.toNat - base - 55)))

/-- the items that stand one behind the other in the first n bytes of b, each read by f -/
def parts (f : List UInt8 → Except Int (It × Nat)) (b : List UInt8) (n : Nat) : Nat → Nat → List It → Except Int (List It)
  | 0, _, acc => .ok acc
  | fuel + 1, at_, acc =>
    if at_ < n then
      match f (b.drop at_) with
      | .error e => .error e
      | .ok (x, k) => if at_ + k ≤ n then parts f b n fuel (at_ + k) (acc ++ [x]) else .error eRlp
    else .ok acc

def firstBody (lst : List UInt8 → Nat → Except Int (List It)) : List UInt8 → Except Int (It × Nat)
  | [] => .error eEnd
  | b0 :: r =>
    if b0 < 0x80 then .ok (.str [b0], 1)
    else if b0 ≥ 0xc0 then
      match opened b0 r 0xc0 with
      | .error e => .error e
      | .ok (h, n) =>
        if (b0 :: r).length - h < n then .error eEnd
        else
          match lst ((b0 :: r).drop h) n with
          | .error e => .error e
          | .ok l => .ok (.list l, h + n)
    else
      match opened b0 r 0x80 with
      | .error e => .error e
      | .ok (h, n) =>
        if (b0 :: r).length - h < n then .error eEnd
        else if n = 1 ∧ (b0 :: r).getD h 0 < 0x80 then .error eRlp
        else .ok (.str (((b0 :: r).drop h).take n), h + n)

/-- d: how many list levels are left (16 - deep) -/
def first : Nat → List UInt8 → Except Int (It × Nat)
  | 0, b => firstBody (fun _ _ => .error eBig) b
  | d + 1, b => firstBody (fun b n => parts (first d) b n (n + 1) 0 []) b

def decode (b : List UInt8) : Except Int It :=
  if b.length ≤ MaxRlp then
    match first 16 b with
    | .error e => .error e
    | .ok (x, n) => if n = b.length then .ok x else .error eRlp
  else .error eBig
end Go.Proofs.Ytildkoabfdfjlaa.Rlp
namespace Go.Proofs.Ytildkoabfdfjlaa.Rlp
theorem readBE_append (l : List UInt8) (b : UInt8) : readBE (l ++ [b]) = readBE l * 256 + b.toNat := by
  simp [readBE, List.foldl_append]

theorem short_zero : short 0 = [] := by rw [short]; simp

theorem short_pos {n : Nat} (h : n ≠ 0) : short n = short (n / 256) ++ [UInt8.ofNat (n % 256)] := by
  rw [short]; simp [h]

theorem readBE_short (n : Nat) : readBE (short n) = n := by
  induction n using Nat.strongRecOn with
  | _ n ih =>
    by_cases h : n = 0
    · subst h; rw [short_zero]; rfl
    · rw [short_pos h, readBE_append, ih (n / 256) (by omega)]
      simp [UInt8.toNat_ofNat']; omega

theorem short_eq_nil {n : Nat} : short n = [] ↔ n = 0 := by
  constructor
  · intro h
    by_cases h0 : n = 0
    · exact h0
    · rw [short_pos h0] at h; simp at h
  · rintro rfl; exact short_zero

theorem short_head (n : Nat) (h : n ≠ 0) : (short n).headD 0 ≠ 0 := by
  induction n using Nat.strongRecOn with
  | _ n ih =>
    rw [short_pos h]
    by_cases h2 : n / 256 = 0
    · rw [h2, short_zero]
      simp only [List.nil_append, List.headD_cons]
      intro hc
      have := congrArg UInt8.toNat hc
      simp [UInt8.toNat_ofNat'] at this
      omega
    · have := ih (n / 256) (by omega) h2
      cases hs : short (n / 256) with
      | nil => exact absurd (short_eq_nil.1 hs) h2
      | cons a l => rw [hs] at this; simpa using this

theorem short_length_le {n k : Nat} (h : n < 256 ^ k) : (short n).length ≤ k := by
  induction k generalizing n with
  | zero => simp at h; subst h; simp [short_zero]
  | succ k ih =>
    by_cases h0 : n = 0
    · subst h0; simp [short_zero]
    · rw [short_pos h0]
      have : n / 256 < 256 ^ k := by
        rw [Nat.pow_succ] at h
        exact Nat.div_lt_of_lt_mul (by rw [Nat.mul_comm]; exact h)
      have := ih this
      simp; omega

theorem short_length_ge {n k : Nat} (h : 256 ^ k ≤ n) : k + 1 ≤ (short n).length := by
  induction k generalizing n with
  | zero =>
    have h0 : n ≠ 0 := by simp at h; omega
    rw [short_pos h0]; simp
  | succ k ih =>
    have h0 : n ≠ 0 := by have := Nat.pow_pos (n := k+1) (show 0 < 256 by decide); omega
    rw [short_pos h0]
    have : 256 ^ k ≤ n / 256 := by
      rw [Nat.pow_succ] at h
      exact (Nat.le_div_iff_mul_le (by decide)).2 h
    have := ih this
    simp; omega

theorem readBE_lt (l : List UInt8) : readBE l < 256 ^ l.length := by
  rw [← List.reverse_reverse l]
  induction l.reverse with
  | nil => simp [readBE]
  | cons a l ih =>
    rw [List.reverse_cons, readBE_append]
    have := a.toNat_lt
    simp only [List.length_append, List.length_reverse, List.length_cons, List.length_nil, Nat.pow_succ, Nat.zero_add] at *
    omega

theorem short_readBE_aux (r : List UInt8) : r.reverse.headD 1 ≠ 0 → short (readBE r.reverse) = r.reverse := by
  induction r with
  | nil => intro _; simp [readBE, short_zero]
  | cons a r ih =>
    intro h
    rw [List.reverse_cons, readBE_append]
    have ha := a.toNat_lt
    by_cases hr : r = []
    · subst hr
      simp [readBE] at h ⊢
      have h0 : a.toNat ≠ 0 := fun hc => h (UInt8.toNat_inj.1 (by simpa using hc))
      rw [short_pos h0, show a.toNat / 256 = 0 by omega, short_zero]
      simp [Nat.mod_eq_of_lt ha]
    · have h1 : r.reverse.headD 1 ≠ 0 := by
        cases hrr : r.reverse with
        | nil => simp at hrr; exact absurd hrr hr
        | cons x y => rw [List.reverse_cons, hrr] at h; simpa using h
      have ih' := ih h1
      have hne : readBE r.reverse ≠ 0 := by
        intro hc
        rw [hc, short_zero] at ih'
        have : r.reverse = [] := ih'.symm
        simp at this; exact hr this
      rw [short_pos (by omega), show (readBE r.reverse * 256 + a.toNat) / 256 = readBE r.reverse by omega, ih',
        show (readBE r.reverse * 256 + a.toNat) % 256 = a.toNat by omega]
      simp

theorem short_readBE (l : List UInt8) (h : l.headD 1 ≠ 0) : short (readBE l) = l := by
  have := short_readBE_aux l.reverse
  rw [List.reverse_reverse] at this
  exact this h

theorem head_length_pos (base n : Nat) : 0 < (head base n).length := by
  unfold head; split <;> simp

theorem take_append_len (a b : List UInt8) : (a ++ b).take a.length = a := by simp

/-- reading a head that was written -/
theorem opened_head {base n : Nat} (hb : base = 0x80 ∨ base = 0xc0) (hn : n ≤ MaxRlp) (tl : List UInt8) :
    ∃ b0 r, head base n ++ tl = b0 :: r ∧ base ≤ b0.toNat ∧ b0.toNat < base + 64 ∧ opened b0 r base = .ok ((head base n).length, n) := by
  unfold MaxRlp at hn
  unfold head
  by_cases h : n < 56
  · simp only [h, if_true, List.cons_append, List.nil_append]
    refine ⟨_, _, rfl, by simp [UInt8.toNat_ofNat']; omega, by simp [UInt8.toNat_ofNat']; omega, ?_⟩
    have e : (UInt8.ofNat (base + n)).toNat - base = n := by simp [UInt8.toNat_ofNat']; omega
    unfold opened
    rw [e, if_pos h]; rfl
  · have hl : (short n).length ≤ 3 := short_length_le (by omega)
    have hl1 : 1 ≤ (short n).length := short_length_ge (k := 0) (by simp; omega)
    have h0 := short_head n (by omega)
    simp only [h, if_false, List.cons_append]
    refine ⟨_, _, rfl, by simp [UInt8.toNat_ofNat']; omega, by simp [UInt8.toNat_ofNat']; omega, ?_⟩
    have e : (UInt8.ofNat (base + 55 + (short n).length)).toNat - base = 55 + (short n).length := by simp [UInt8.toNat_ofNat']; omega
    have hh : (short n ++ tl).headD 0 = (short n).headD 0 := by
      cases hs : short n with
      | nil => rw [hs] at hl1; simp at hl1
      | cons a s => rfl
    unfold opened
    rw [e, show 55 + (short n).length - 55 = (short n).length by omega, if_neg (by omega), if_neg (by simp only [List.length_append]; omega), hh, if_neg h0, take_append_len, readBE_short,
      if_neg h, if_neg (by unfold MaxRlp; omega)]
    simp; omega

theorem enc_length_pos {x : It} {deep : Nat} {y : List UInt8} (h : enc x deep = some y) : 0 < y.length := by
  cases x with
  | str b =>
    simp only [enc] at h
    split at h
    · rename_i hc; cases h; omega
    · split at h
      · cases h; have := head_length_pos 0x80 b.length; simp; omega
      · cases h
  | list l =>
    simp only [enc] at h
    split at h
    · split at h
      · split at h
        · cases h; rename_i all _ _; have := head_length_pos 0xc0 all.length; simp; omega
        · cases h
      · cases h
    · cases h

theorem encs_prefix : ∀ (l : List It) (deep : Nat) (acc all : List UInt8), encs l deep acc = some all → ∃ t, all = acc ++ t := by
  intro l
  induction l with
  | nil => intro deep acc all h; simp [encs] at h; exact ⟨[], by simp [h]⟩
  | cons y l ih =>
    intro deep acc all h
    simp only [encs] at h
    split at h
    · rename_i b hb
      split at h
      · obtain ⟨t, ht⟩ := ih deep (acc ++ b) all h
        exact ⟨b ++ t, by rw [ht]; simp⟩
      · cases h
    · cases h

theorem lt80 (b : UInt8) : b < 0x80 ↔ b.toNat < 128 := UInt8.lt_iff_toNat_lt
theorem gec0 (b : UInt8) : b ≥ 0xc0 ↔ 192 ≤ b.toNat := UInt8.le_iff_toNat_le

mutual
theorem first_enc : ∀ (x : It) (d deep : Nat) (y : List UInt8), deep + d = 16 → enc x deep = some y → y.length ≤ MaxRlp + 16 → ∀ tl, first d (y ++ tl) = .ok (x, y.length)
  | .str b, d, deep, y, hd, h, hy, tl => by
    simp only [enc] at h
    split at h
    · rename_i hc
      cases h
      obtain ⟨h1, h2⟩ := hc
      obtain ⟨a, rfl⟩ : ∃ a, b = [a] := by
        match b, h1 with
        | [a], _ => exact ⟨a, rfl⟩
      simp only [List.headD_cons] at h2
      cases d <;> (rw [List.singleton_append, first, firstBody, if_pos h2]; rfl)
    · rename_i hc
      split at h
      · rename_i hl
        cases h
        obtain ⟨b0, r, hb0, hlo, hhi, ho⟩ := opened_head (base := 0x80) (.inl rfl) hl (b ++ tl)
        have hL : (b0 :: r).length = (head 128 b.length).length + b.length + tl.length := by rw [← hb0]; simp; omega
        have hdr : (b0 :: r).drop (head 128 b.length).length = b ++ tl := by rw [← hb0]; simp
        have hg : (b0 :: r).getD (head 128 b.length).length 0 = (b ++ tl).headD 0 := by
          rw [← hb0, List.getD_eq_getElem?_getD, List.getElem?_append_right (Nat.le_refl _), Nat.sub_self, List.headD_eq_head?_getD, List.head?_eq_getElem?]
        have n1 : ¬ b0 < 0x80 := by rw [lt80]; omega
        have n2 : ¬ b0 ≥ 0xc0 := by rw [gec0]; omega
        have hno : ¬ (b.length = 1 ∧ (b ++ tl).headD 0 < 0x80) := by
          rintro ⟨q1, q2⟩
          apply hc
          refine ⟨q1, ?_⟩
          match b, q1 with
          | [a], _ => simpa using q2
        cases d <;> (
          rw [List.append_assoc, hb0, first, firstBody, if_neg n1, if_neg n2, ho]
          simp only
          rw [if_neg (by omega), hg, if_neg hno, hdr]
          simp)
      · cases h
  | .list l, d, deep, y, hd, h, hy, tl => by
    simp only [enc] at h
    split at h
    · rename_i hdp
      split at h
      · rename_i all hall
        split at h
        · rename_i hl
          cases h
          obtain ⟨b0, r, hb0, hlo, hhi, ho⟩ := opened_head (base := 0xc0) (.inr rfl) hl (all ++ tl)
          have hL : (b0 :: r).length = (head 192 all.length).length + all.length + tl.length := by rw [← hb0]; simp; omega
          have hdr : (b0 :: r).drop (head 192 all.length).length = all ++ tl := by rw [← hb0]; simp
          have n1 : ¬ b0 < 0x80 := by rw [lt80]; omega
          have n2 : b0 ≥ 0xc0 := by rw [gec0]; omega
          obtain ⟨d', rfl⟩ : ∃ d', d = d' + 1 := ⟨d - 1, by omega⟩
          have := parts_encs l d' (deep + 1) [] all [] (by omega) hall hl tl (all.length + 1) (by simp) (by simp)
          simp only [List.length_nil, List.nil_append] at this
          rw [List.append_assoc, hb0, first, firstBody, if_neg n1, if_pos n2, ho]
          simp only
          rw [if_neg (by omega), hdr]
          simp only [this]
          simp
        · cases h
      · cases h
    · cases h
theorem parts_encs : ∀ (l : List It) (d deep : Nat) (acc all : List UInt8) (its : List It), deep + d = 16 → encs l deep acc = some all → all.length ≤ MaxRlp →
    ∀ (tl : List UInt8) (fuel : Nat), all.length < fuel + acc.length → 0 < fuel → parts (first d) (all ++ tl) all.length fuel acc.length its = .ok (its ++ l)
  | [], d, deep, acc, all, its, hd, h, hl, tl, fuel, hf, hf0 => by
    simp only [encs, Option.some.injEq] at h
    subst h
    obtain ⟨f, rfl⟩ : ∃ f, fuel = f + 1 := ⟨fuel - 1, by omega⟩
    rw [parts]; simp
  | x :: l, d, deep, acc, all, its, hd, h, hl, tl, fuel, hf, hf0 => by
    simp only [encs] at h
    split at h
    · rename_i b hb
      split at h
      · rename_i hle
        obtain ⟨t, ht⟩ := encs_prefix _ _ _ _ h
        have hbp := enc_length_pos hb
        obtain ⟨f, rfl⟩ : ∃ f, fuel = f + 1 := ⟨fuel - 1, by omega⟩
        have hlen : all.length = acc.length + b.length + t.length := by rw [ht]; simp; omega
        rw [parts, if_pos (by omega)]
        have hdr : (all ++ tl).drop acc.length = b ++ (t ++ tl) := by rw [ht]; simp
        rw [hdr, first_enc x d deep b hd hb (by rw [List.length_append] at hle; omega) (t ++ tl)]
        simp only
        rw [if_pos (by omega)]
        have := parts_encs l d deep (acc ++ b) all (its ++ [x]) hd h hl tl f (by rw [List.length_append]; omega) (by omega)
        rw [show acc.length + b.length = (acc ++ b).length by simp, this]
        simp
      · cases h
    · cases h
end

theorem decode_encode {x : It} {y : List UInt8} (h : encode x = some y) : decode y = .ok x := by
  unfold encode at h
  split at h
  · rename_i b hb
    split at h
    · rename_i hl
      cases h
      unfold decode
      have := first_enc x 16 0 y rfl hb (by omega) []
      rw [List.append_nil] at this
      simp [hl, this]
    · cases h
  · cases h

/-- a head that was read is the one that is written -/
theorem head_opened {b0 : UInt8} {r : List UInt8} {base h n : Nat} (hb : base = 0x80 ∨ base = 0xc0) (hlo : base ≤ b0.toNat)
    (ho : opened b0 r base = .ok (h, n)) (hn : n ≤ MaxRlp) : (b0 :: r).take h = head base n ∧ h ≤ (b0 :: r).length ∧ h = (head base n).length := by
  have h256 := b0.toNat_lt
  unfold opened at ho
  by_cases hs : b0.toNat - base < 56
  · rw [if_pos hs] at ho
    cases ho
    unfold head
    rw [if_pos hs]
    refine ⟨?_, by simp, by simp⟩
    simp only [List.take_succ_cons, List.take_zero, List.cons.injEq, and_true]
    apply UInt8.toNat_inj.1
    simp [UInt8.toNat_ofNat']; omega
  · rw [if_neg hs] at ho
    obtain ⟨k, hkd⟩ : ∃ k, b0.toNat - base = 55 + k := ⟨b0.toNat - base - 55, by omega⟩
    rw [hkd, show 55 + k - 55 = k by omega] at ho
    by_cases hk : r.length + 1 ≤ k
    · rw [if_pos hk] at ho; cases ho
    · rw [if_neg hk] at ho
      by_cases hz : r.headD 0 = 0
      · rw [if_pos hz] at ho; cases ho
      · rw [if_neg hz] at ho
        by_cases hm : readBE (r.take k) < 56
        · rw [if_pos hm] at ho; cases ho
        · rw [if_neg hm] at ho
          by_cases hbig : readBE (r.take k) > MaxRlp
          · rw [if_pos hbig] at ho; cases ho; omega
          · rw [if_neg hbig] at ho
            cases ho
            have hkp : k ≠ 0 := by intro hc; subst hc; simp [readBE] at hm
            have hsr : short (readBE (r.take k)) = r.take k := by
              apply short_readBE
              cases r with
              | nil => simp at hz
              | cons c r =>
                obtain ⟨k', rfl⟩ : ∃ k', k = k' + 1 := ⟨k - 1, by omega⟩
                simpa using hz
            unfold head
            rw [if_neg hm, hsr]
            have hlk : (r.take k).length = k := by simp; omega
            refine ⟨?_, by simp; omega, by simp; omega⟩
            rw [show 1 + k = k + 1 by omega, List.take_succ_cons, hlk]
            congr 1
            apply UInt8.toNat_inj.1
            simp [UInt8.toNat_ofNat']; omega

theorem take_add' (l : List UInt8) (a b : Nat) : l.take (a + b) = l.take a ++ (l.drop a).take b := List.take_add

theorem encs_parts (d deep : Nat) (hd : deep + d = 16)
    (ih : ∀ (b : List UInt8) (x : It) (n : Nat), b.length ≤ MaxRlp → first d b = .ok (x, n) → n ≤ b.length ∧ 0 < n ∧ enc x deep = some (b.take n))
    (b : List UInt8) (n : Nat) (hb : b.length ≤ MaxRlp) (hn : n ≤ b.length) :
    ∀ (fuel at_ : Nat) (acc res : List It) (pre : List UInt8), parts (first d) b n fuel at_ acc = .ok res → at_ ≤ n → n < fuel + at_ →
      ∃ l', res = acc ++ l' ∧ (pre.length + (n - at_) ≤ MaxRlp → encs l' deep pre = some (pre ++ (b.drop at_).take (n - at_))) := by
  intro fuel
  induction fuel with
  | zero => intro at_ acc res pre h ha hf; omega
  | succ fuel ihf =>
    intro at_ acc res pre h ha hf
    rw [parts] at h
    by_cases hlt : at_ < n
    · rw [if_pos hlt] at h
      cases hx : first d (b.drop at_) with
      | error e => rw [hx] at h; cases h
      | ok p =>
        obtain ⟨x, k⟩ := p
        rw [hx] at h
        simp only at h
        by_cases hk : at_ + k ≤ n
        · rw [if_pos hk] at h
          obtain ⟨q1, q2, q3⟩ := ih (b.drop at_) x k (by rw [List.length_drop]; omega) hx
          rw [List.length_drop] at q1
          obtain ⟨l', rfl, hl'⟩ := ihf (at_ + k) (acc ++ [x]) res (pre ++ (b.drop at_).take k) h hk (by omega)
          refine ⟨x :: l', by simp, fun hpre => ?_⟩
          simp only [encs, q3]
          have hkl : (pre ++ (b.drop at_).take k).length = pre.length + k := by rw [List.length_append, List.length_take, List.length_drop]; omega
          rw [if_pos (by omega), hl' (by rw [hkl]; omega), List.append_assoc]
          congr 2
          rw [show n - at_ = k + (n - (at_ + k)) by omega, take_add', List.drop_drop]
        · rw [if_neg hk] at h; cases h
    · rw [if_neg hlt] at h
      cases h
      refine ⟨[], by simp, fun _ => ?_⟩
      simp [encs, show n - at_ = 0 by omega]

theorem enc_firstBody (deep : Nat) (hdeep : deep ≤ 16) (lst : List UInt8 → Nat → Except Int (List It))
    (hlst : ∀ (b : List UInt8) (n : Nat) (l : List It), b.length ≤ MaxRlp → n ≤ b.length → lst b n = .ok l → deep < 16 ∧ encs l (deep + 1) [] = some (b.take n))
    (b : List UInt8) (x : It) (n : Nat) (hb : b.length ≤ MaxRlp) (h : firstBody lst b = .ok (x, n)) : n ≤ b.length ∧ 0 < n ∧ enc x deep = some (b.take n) := by
  match b, hb, h with
  | [], _, h => rw [firstBody] at h; cases h
  | b0 :: r, hb, h =>
    rw [firstBody] at h
    by_cases hlt : b0 < 0x80
    · rw [if_pos hlt] at h
      cases h
      refine ⟨by simp, by omega, ?_⟩
      simp [enc, hlt]
    · rw [if_neg hlt] at h
      rw [lt80] at hlt
      by_cases hls : b0 ≥ 0xc0
      · rw [if_pos hls] at h
        rw [gec0] at hls
        cases ho : opened b0 r 0xc0 with
        | error e => rw [ho] at h; cases h
        | ok p =>
          obtain ⟨h', n'⟩ := p
          rw [ho] at h
          simp only at h
          by_cases hnn : (b0 :: r).length - h' < n'
          · rw [if_pos hnn] at h; cases h
          · rw [if_neg hnn] at h
            cases hl : lst ((b0 :: r).drop h') n' with
            | error e => rw [hl] at h; cases h
            | ok l =>
              rw [hl] at h
              cases h
              obtain ⟨t1, t2, t3⟩ := head_opened (.inr rfl) hls ho (by omega)
              have hpos := head_length_pos 0xc0 n'
              refine ⟨by omega, by omega, ?_⟩
              have hlen : (((b0 :: r).drop h').take n').length = n' := by rw [List.length_take, List.length_drop]; omega
              obtain ⟨hd, hp⟩ := hlst _ _ _ (by rw [List.length_drop]; omega) (by rw [List.length_drop]; omega) hl
              simp only [enc]
              rw [if_pos hd, hp]
              simp only [hlen]
              rw [if_pos (by omega), take_add', t1]
      · rw [if_neg hls] at h
        cases ho : opened b0 r 0x80 with
        | error e => rw [ho] at h; cases h
        | ok p =>
          obtain ⟨h', n'⟩ := p
          rw [ho] at h
          simp only at h
          by_cases hnn : (b0 :: r).length - h' < n'
          · rw [if_pos hnn] at h; cases h
          · rw [if_neg hnn] at h
            by_cases hno : n' = 1 ∧ (b0 :: r).getD h' 0 < 0x80
            · rw [if_pos hno] at h; cases h
            · rw [if_neg hno] at h
              cases h
              obtain ⟨t1, t2, t3⟩ := head_opened (.inl rfl) (by omega) ho (by omega)
              have hpos := head_length_pos 0x80 n'
              refine ⟨by omega, by omega, ?_⟩
              have hlen : (((b0 :: r).drop h').take n').length = n' := by rw [List.length_take, List.length_drop]; omega
              simp only [enc, hlen]
              rw [if_neg, if_pos (by omega), take_add', t1]
              rintro ⟨q1, q2⟩
              apply hno
              refine ⟨q1, ?_⟩
              subst q1
              have : (((b0 :: r).drop h').take 1).headD 0 = (b0 :: r).getD h' 0 := by
                rw [List.headD_eq_head?_getD, List.head?_take, List.head?_drop, List.getD_eq_getElem?_getD]; simp
              rw [← this]; exact q2

theorem enc_first : ∀ (d deep : Nat), deep + d = 16 → ∀ (b : List UInt8) (x : It) (n : Nat), b.length ≤ MaxRlp → first d b = .ok (x, n) → n ≤ b.length ∧ 0 < n ∧ enc x deep = some (b.take n) := by
  intro d
  induction d with
  | zero =>
    intro deep hd b x n hb h
    rw [first] at h
    exact enc_firstBody deep (by omega) _ (fun b n l _ _ h => by cases h) b x n hb h
  | succ d ih =>
    intro deep hd b x n hb h
    rw [first] at h
    refine enc_firstBody deep (by omega) _ (fun b n l hb hn h => ?_) b x n hb h
    obtain ⟨l', rfl, hp⟩ := encs_parts d (deep + 1) (by omega) (ih (deep + 1) (by omega)) b n hb hn (n + 1) 0 [] l [] h (by omega) (by omega)
    have hp := hp (by simp; omega)
    simp only [List.drop_zero, Nat.sub_zero, List.nil_append] at hp
    exact ⟨by omega, hp⟩

theorem encode_decode {x : It} {y : List UInt8} (h : decode y = .ok x) : encode x = some y := by
  unfold decode at h
  split at h
  · rename_i hl
    split at h
    · cases h
    · rename_i x' n hf
      split at h
      · rename_i hn
        cases h
        obtain ⟨q1, q2, q3⟩ := enc_first 16 0 rfl y _ n hl hf
        unfold encode
        rw [q3, hn, List.take_length]
        simp [hl]
      · cases h
  · cases h
end Go.Proofs.Ytildkoabfdfjlaa.Rlp
