/- first at every depth. -/
import Derived.Test.YtildkoabfdfjlaaFirstL
set_option linter.all false
namespace Go.Proofs.Ytildkoabfdfjlaa
open Go.RowKit
open Rlp (It)

/-- the cases that do not hang on the depth -/
theorem first_body (lst : List UInt8 → Nat → Except Int (List It)) (l : List UInt8) (n : Nat) (A : Option Addr) (cap : Nat) (deep : Nat) (w : World) (hn : n = l.length) (hlen : n ≤ 65536) (hcap : n ≤ cap) (hrd : Rd 0 w A (bytesV l))
    (hl : ∀ (b0 : UInt8) (r : List UInt8), l = b0 :: r → 192 ≤ b0.toNat → ∀ h m, Rlp.opened b0 r 192 = .ok (h, m) → m ≤ n - h →
      Calls Try.prog 55 #[.slice A n cap, .int .i64 deep] w (FirstPost w (match lst ((b0 :: r).drop h) m with | .error e => .error e | .ok its => .ok (.list its, h + m)))) :
    Calls Try.prog 55 #[.slice A n cap, .int .i64 deep] w (FirstPost w (Rlp.firstBody lst l)) := by
  cases l with
  | nil =>
    subst hn
    exact first_nil A cap deep w _ (Lib.hid rfl)
  | cons b0 r =>
    have hn' : n = r.length + 1 := by simpa using hn
    have hb256 := b0.toNat_lt
    by_cases h1 : b0 < 0x80
    · refine first_one b0 n h1 A cap deep w (by omega) hcap _ (Lib.hid (by rw [Rlp.firstBody, if_pos h1])) ?_
      have := hrd.take 1
      simpa [bytesV] using this
    · have hb : 128 ≤ b0.toNat := by
        have := mt UInt8.lt_iff_toNat_lt.2 h1
        simp at this; omega
      by_cases h2 : b0 ≥ 0xc0
      · have hb2 : 192 ≤ b0.toNat := by have := UInt8.le_iff_toNat_le.1 h2; simpa using this
        have he : Rlp.firstBody lst (b0 :: r) = match Rlp.opened b0 r 192 with
          | .error e => .error e
          | .ok (h, n) => if (b0 :: r).length - h < n then .error 10 else match lst ((b0 :: r).drop h) n with | .error e => .error e | .ok l => .ok (.list l, h + n) := by
          rw [Rlp.firstBody, if_neg h1, if_pos h2]; simp only [Rlp.eEnd]; rcases Rlp.opened b0 r 192 with e | ⟨h, n⟩ <;> rfl
        cases ho : Rlp.opened b0 r 192 with
        | error k =>
          rw [ho] at he
          exact first_l1 b0 r n hn' hlen hb2 (by omega) A cap deep w hcap hrd k (Lib.hid ho) _ (Lib.hid he)
        | ok p =>
          obtain ⟨h, m⟩ := p
          rw [ho] at he
          simp only [← hn] at he
          by_cases hm : n - h < m
          · rw [if_pos hm] at he
            exact first_l2 b0 r n hn' hlen hb2 (by omega) A cap deep w hcap hrd h m (Lib.hid ho) hm _ (Lib.hid he)
          · rw [if_neg hm] at he
            rw [he]
            exact hl b0 r rfl hb2 h m ho (by omega)
      · have hb2 : b0.toNat < 128 + 64 := by
          have := mt UInt8.le_iff_toNat_le.2 h2
          simp at this; omega
        have he : Rlp.firstBody lst (b0 :: r) = match Rlp.opened b0 r 128 with
          | .error e => .error e
          | .ok (h, n) => if (b0 :: r).length - h < n then .error 10 else if n = 1 ∧ (b0 :: r).getD h 0 < 0x80 then .error 11 else .ok (.str (((b0 :: r).drop h).take n), h + n) := by
          rw [Rlp.firstBody, if_neg h1, if_neg h2]; simp only [Rlp.eEnd, Rlp.eRlp]; rcases Rlp.opened b0 r 128 with e | ⟨h, n⟩ <;> rfl
        cases ho : Rlp.opened b0 r 128 with
        | error k =>
          rw [ho] at he
          exact first_s1 b0 r n hn' hlen hb hb2 A cap deep w hcap hrd k (Lib.hid ho) _ (Lib.hid he)
        | ok p =>
          obtain ⟨h, m⟩ := p
          rw [ho] at he
          simp only [← hn] at he
          by_cases hm : n - h < m
          · rw [if_pos hm] at he
            exact first_s2 b0 r n hn' hlen hb hb2 A cap deep w hcap hrd h m (Lib.hid ho) hm _ (Lib.hid he)
          · rw [if_neg hm] at he
            by_cases hm1 : m = 1
            · by_cases hx : (b0 :: r).getD h 0 < 0x80
              · rw [if_pos ⟨hm1, hx⟩] at he
                exact first_s3 b0 r n hn' hlen hb hb2 A cap deep w hcap hrd h m (Lib.hid ho) (by omega) hm1 hx _ (Lib.hid he)
              · rw [if_neg (fun hc => hx hc.2)] at he
                exact first_s5 b0 r n hn' hlen hb hb2 A cap deep w hcap hrd h m (Lib.hid ho) (by omega) hm1 hx _ (Lib.hid he)
            · rw [if_neg (fun hc => hm1 hc.1)] at he
              exact first_s4 b0 r n hn' hlen hb hb2 A cap deep w hcap hrd h m (Lib.hid ho) (by omega) hm1 _ (Lib.hid he)

theorem first_c : ∀ d deep, deep + d = 16 → FirstAt d deep
  | 0, deep, hd => by
    obtain rfl : deep = 16 := by omega
    intro l n A cap w hn hlen hcap hrd
    refine first_body _ l n A cap 16 w hn hlen hcap hrd ?_
    rintro b0 r rfl hb2 h m ho hm
    have hn' : n = r.length + 1 := by simpa using hn
    have hb256 := b0.toNat_lt
    exact first_l3 b0 r n hn' hlen hb2 (by omega) A cap w hcap hrd h m (Lib.hid ho) hm _ (Lib.hid rfl)
  | d + 1, deep, hd => by
    intro l n A cap w hn hlen hcap hrd
    refine first_body _ l n A cap deep w hn hlen hcap hrd ?_
    rintro b0 r rfl hb2 h m ho hm
    have hn' : n = r.length + 1 := by simpa using hn
    have hb256 := b0.toNat_lt
    exact first_l4 d deep (by omega) (Lib.hid (first_c d (deep + 1) (by omega))) b0 r n hn' hlen hb2 (by omega) A cap w hcap hrd h m (Lib.hid ho) hm _ (Lib.hid rfl)
end Go.Proofs.Ytildkoabfdfjlaa
