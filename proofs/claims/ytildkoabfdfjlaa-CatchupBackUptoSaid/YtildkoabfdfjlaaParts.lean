/- rlp's 'parts' and the iterator that it makes. -/
import Derived.Test.YtildkoabfdfjlaaFirst
set_option linter.all false
namespace Go.Proofs.Ytildkoabfdfjlaa
open Go.RowKit
open Rlp (It)
theorem parts_c (A : Option Addr) (m cap : Nat) (n dp : Int) (w : World) :
    Calls Try.prog 61 #[.slice A m cap, .int .i64 n, .int .i64 dp] w fun e w' =>
      e = .returned (.func (.func 64) #[] #[.pointer (some ⟨w.heap.size + 1, 0, none⟩), .pointer (some ⟨w.heap.size, 0, none⟩), .pointer (some ⟨w.heap.size + 2, 0, none⟩)]) ∧
      w' = ((w.alloc (.cells #[.slice A m cap] 31)).alloc (.cells #[.int .i64 n] 3)).alloc (.cells #[.int .i64 dp] 3) := by
  have hmf : ∀ (fn : Fn) (first cap : Array Value) (w : World), (Instr.makeFunc fn first cap).run Try.prog w = .ok (.func fn first cap) w := fun _ _ _ _ => rfl
  go_enter Try.func61, Try.ntmps61
  go_wp2
  go_ret
  exact ⟨rfl, rfl⟩

/-- an item and its three cells -/
abbrev Cit := It × Value × Value × Value
def encC (x : Cit) : Array Value := #[.agg #[x.2.1, x.2.2.1, x.2.2.2]]
def PxC (x : Cit) (W0 W : World) : Prop := ItemR W0.heap.size W x.1 x.2.1 x.2.2.1 x.2.2.2
def KpS (S : Nat → Prop) (W W' : World) : Prop := ∀ k, S k → W'.heap[k]? = W.heap[k]?
def FinC (d : Nat) (l : List UInt8) (n : Nat) (xs : List Cit) : Prop := Rlp.parts (Rlp.first d) l n (n + 1) 0 [] = .ok (xs.map (·.1))
def ErrC (d : Nat) (l : List UInt8) (n : Nat) (ch : List PanicEntry) : Prop := ∃ k, ch = flt k ∧ Rlp.parts (Rlp.first d) l n (n + 1) 0 [] = .error k

/-- what 'first' is said to do at a depth -/
def FirstAt (d deep : Nat) : Prop := ∀ (l : List UInt8) (n : Nat) (A : Option Addr) (cap : Nat) (w : World), n = l.length → n ≤ 65536 → n ≤ cap → Rd 0 w A (bytesV l) →
  Calls Try.prog 55 #[.slice A n cap, .int .i64 deep] w (FirstPost w (Rlp.first d l))

/-- behind the fetch of one item: it lies in a variable of its own, at T -/
def FetchPost (w0 wr : World) (lp Bn Bb Bd at_ k n : Nat) (x : It) (e : Exit) (a' : Act) (W3 : World) : Prop :=
  e = Exit.normal ∧ ∃ (T : Nat) (f : Bool) (A1 : Option Addr) (k1 cp1 : Nat) (B1 : Option Addr) (m1 d1 : Nat) (v11 v12 v13 v14 v15 v16 v17 v18 v19 v20 v21 v22 v23 v24 v25 v26 v27 v28 v29 v30 v31 : Value),
            a' = { tmps := #[.func (.yield lp) #[] #[], .pointer (some ⟨Bn, 0, none⟩), .pointer (some ⟨Bb, 0, none⟩), .pointer (some ⟨Bd, 0, none⟩), undef, .int .i64 (at_ : Int), .pointer (some ⟨T, 0, none⟩), .int .i64 (k : Int), .int .i64 (at_ : Int), .int .i64 (n : Int), .bool true, v11, v12, v13, v14, v15, v16, v17, v18, v19, v20, v21, v22, v23, v24, v25, v26, v27, v28, v29, v30, v31], defers := [] } ∧
            Below wr.heap.size wr W3 ∧ wr.heap.size ≤ T ∧ W3.cell? ⟨T, 0, none⟩ = some (.bool f) ∧ W3.cell? ⟨T, 1, none⟩ = some (.slice A1 k1 cp1) ∧ W3.cell? ⟨T, 2, none⟩ = some (.slice B1 m1 d1) ∧ ItemR wr.heap.size W3 x (.bool f) (.slice A1 k1 cp1) (.slice B1 m1 d1)

set_option maxRecDepth 100000 in
set_option maxHeartbeats 800000 in
theorem parts_iter (d deep : Nat) (hdd : deep + d = 16) (hf : Hid (FirstAt d deep)) (m : Nat) (w0 : World) (Bn Bb Bd : Nat) (A : Option Addr) (cap : Nat) (l : List UInt8) (n : Nat) (hn : n ≤ l.length) (hl : l.length ≤ 65536) (hcap : l.length ≤ cap)
    (cn : w0.cell? ⟨Bn, 0, none⟩ = some (.int .i64 (n : Int))) (cb : w0.cell? ⟨Bb, 0, none⟩ = some (.slice A l.length cap)) (cd : w0.cell? ⟨Bd, 0, none⟩ = some (.int .i64 (deep : Int))) (hr : Rd 0 w0 A (bytesV l))
    (S : Nat → Prop) (hSn : S Bn) (hSb : S Bb) (hSd : S Bd) (hSA : ∀ b o, A = some ⟨b, o, none⟩ → S b) (hSlt : ∀ k, S k → k < w0.heap.size) :
    Iterates Try.prog m w0 64 #[.pointer (some ⟨Bn, 0, none⟩), .pointer (some ⟨Bb, 0, none⟩), .pointer (some ⟨Bd, 0, none⟩)] encC n PxC (KpS S) (FinC d l n) (ErrC d l n) := by
  intro lp J W hBW hsz hJB hY hJ0
  have HR := Lib.hid (And.intro hr (And.intro hSA hSlt)); clear hr hSA hSlt
  have HJB := Lib.hid hJB; clear hJB
  have HY := Lib.hid hY; clear hY
  obtain ⟨i0, hi0, hz0, hz1, hz2⟩ := info_parts u8_info
  refine callsIn_of_wp Try.func64 rfl trivial ?_ rfl
  simp only [Try.ntmps64, List.size_toArray, List.length_cons, List.length_nil, Nat.reduceAdd, Nat.reduceSub, Array.replicate_succ, Array.replicate_zero, List.push_toArray, List.append_toArray, List.nil_append, List.cons_append]
  gi_wp2
  go_outline
  gi_loopw [5] (fun i wr => ∃ (at_ fuel : Nat) (acc : List Cit), i = .int .i64 at_ ∧ at_ ≤ n ∧ n < fuel + at_ ∧ KpS S w0 wr ∧ w0.heap.size + 2 ≤ wr.heap.size ∧ J acc wr ∧ acc.length ≤ at_ ∧
      Rlp.parts (Rlp.first d) l n (n + 1) 0 [] = Rlp.parts (Rlp.first d) l n fuel at_ (acc.map (·.1))) (fun i _ => n - (intOf i).toNat)
  case atStart => exact ⟨0, n + 1, [], rfl, by omega, by omega, fun k hk => hBW.block k (HR.out.2.2 k hk), hsz, hJ0, Nat.le_refl _, rfl⟩
  case round =>
    obtain ⟨at_, fuel, acc, rfl, hat, hfu, hKp, hsz2, hJ, hal, heq⟩ := hrel
    have HE := Lib.hid heq; clear heq
    have dn : wr.cell? ⟨Bn, 0, none⟩ = some (.int .i64 (n : Int)) := (World.cell?_of_block (hKp _ hSn)).trans cn
    have db : wr.cell? ⟨Bb, 0, none⟩ = some (.slice A l.length cap) := (World.cell?_of_block (hKp _ hSb)).trans cb
    have dd : wr.cell? ⟨Bd, 0, none⟩ = some (.int .i64 (deep : Int)) := (World.cell?_of_block (hKp _ hSd)).trans cd
    by_cases hlt : at_ < n
    · have hsl : ∀ w : World, (Instr.slice 31 (.slice A l.length cap) (some (.int .i64 (at_ : Int))) none none).run Try.prog w = .ok (.slice (fromAddr 1 A cap at_) (l.length - at_) (cap - at_)) w := fun w => run_slice_from w 31 5 i0 1 Try.underlying31 hi0 hz1 A l.length cap .i64 (at_ : Int) at_ rfl (by omega)
      have hln : (l.drop at_).length = l.length - at_ := List.length_drop
      have hrA : Rd 0 wr (fromAddr 1 A cap at_) (bytesV (l.drop at_)) := by
        have h1 : Rd 0 wr A (bytesV l) := by
          rcases HR.out.1 with h | ⟨b, o, h0, hA, hk⟩
          · exact .inl h
          · refine .inr ⟨b, o, h0, hA, fun k hlt => ?_⟩
            rw [← hk k hlt]
            exact World.cell?_of_block (hKp _ (HR.out.2.1 b o hA))
        have := h1.from 1 cap at_ (by rw [bytesV_length]; omega)
        simpa [bytesV, List.map_drop] using this
      have HA := Lib.hid (And.intro hln hrA); clear hln hrA
      have hbn := cell_lt dn
      have hbb := cell_lt db
      have hbd := cell_lt dd
      have hcall := fun W h1 => hf.out (l.drop at_) (l.length - at_) (fromAddr 1 A cap at_) (cap - at_) W HA.out.1.symm (by omega) (by omega) h1
      have hstep : Rlp.parts (Rlp.first d) l n fuel at_ (acc.map (·.1)) = match Rlp.first d (l.drop at_) with
          | .error e => .error e
          | .ok (x, k) => if at_ + k ≤ n then Rlp.parts (Rlp.first d) l n (fuel - 1) (at_ + k) (acc.map (·.1) ++ [x]) else .error 11 := by
        obtain ⟨f, rfl⟩ : ∃ f, fuel = f + 1 := ⟨fuel - 1, by omega⟩
        rw [Rlp.parts, if_pos hlt]; rfl
      cases hfr : Rlp.first d (l.drop at_) with
      | error k =>
        rw [hfr] at hcall hstep
        have hcall2 : ∀ W, Rd 0 W (fromAddr 1 A cap at_) (bytesV (l.drop at_)) → Calls Try.prog 55 #[.slice (fromAddr 1 A cap at_) (l.length - at_) (cap - at_), .int .i64 deep] W (fun e w' =>
            (e = .panicked (flt k) ∧ Below W.heap.size W w') ∨ (Hid False ∧ e = .returned (.tuple #[.agg #[.bool true, .slice none 0 0, .slice none 0 0], .int .i64 0]) ∧ Below W.heap.size W w')) :=
          fun W h => (hcall W h).mono fun e w' h => Or.inl h
        have HC := Lib.hid hcall2; clear hcall hcall2
        have HS := Lib.hid (HE.out.trans hstep); clear hstep hfr
        gi_wp2
        refine wpIn_wide.2 ?_
        go_region_held (fun w' => w'.cell? ⟨Bn, 0, none⟩ = some (.int .i64 (n : Int)) ∧ w'.cell? ⟨Bb, 0, none⟩ = some (.slice A l.length cap) ∧ w'.cell? ⟨Bd, 0, none⟩ = some (.int .i64 (deep : Int)))
          (first | go_keep | exact hff.out.elim)
          (first
            | (go_at_call 55; refine (HC.out _ (by first | exact HA.out.2.drew | exact (HA.out.2.alloc _).drew)).mono ?_; rintro e w2 (⟨rfl, hB2⟩ | ⟨hff, rfl, hB2⟩); exact ⟨rfl, Or.inr ⟨_, acc, rfl, ⟨k, rfl, HS.out⟩, HJB.out acc wr w2 hJ (by first | exact bstep ((Below.refl _ wr).drew) hB2 | exact bstep ((bnew wr _).drew) hB2)⟩⟩; obtain ⟨hk1, hk2⟩ := keptCells hB2))
        all_goals exact hff.out.elim
      | ok p =>
        obtain ⟨x, k⟩ := p
        rw [hfr] at hcall hstep
        have HC := Lib.hid hcall; clear hcall
        have hkb := (Rlp.enc_first d deep hdd (l.drop at_) x k (by rw [List.length_drop]; unfold Rlp.MaxRlp; omega) hfr).1
        have hk0 := (Rlp.enc_first d deep hdd (l.drop at_) x k (by rw [List.length_drop]; unfold Rlp.MaxRlp; omega) hfr).2.1
        rw [HA.out.1] at hkb
        have HS := Lib.hid (HE.out.trans hstep); clear hstep hfr
        gi_wp2
        refine wpIn_wide.2 ?_
        refine wp_mono (Q := FetchPost w0 wr lp Bn Bb Bd at_ k n x) ?_ ?_
        · go_region_held3 (fun w' => w'.cell? ⟨Bn, 0, none⟩ = some (.int .i64 (n : Int)) ∧ w'.cell? ⟨Bb, 0, none⟩ = some (.slice A l.length cap) ∧ w'.cell? ⟨Bd, 0, none⟩ = some (.int .i64 (deep : Int)))
            (first
              | go_keep
              | (go_split_ands; refine ⟨?_, ?_, ?_⟩ <;> (rw [hk1 _ _ (by simp; omega)]; assumption))
              | (refine ⟨(Below.cell (w := wr) (B := wr.heap.size) ?_ (p := ⟨Bn, 0, none⟩) hbn).trans dn, (Below.cell (w := wr) (B := wr.heap.size) ?_ (p := ⟨Bb, 0, none⟩) hbb).trans db, (Below.cell (w := wr) (B := wr.heap.size) ?_ (p := ⟨Bd, 0, none⟩) hbd).trans dd⟩ <;> (repeat (first | exact hbw | exact Below.refl _ _ | refine Below.setCell ?_ (by first | exact Nat.le_refl _ | exact hz3 | omega | (simp; omega)) _ | refine Below.alloc ?_ (by first | exact Nat.le_refl _ | exact hz3 | omega | (simp; omega)) _ | refine Below.drew ?_))))
            (first
              | (go_at_call 55; refine (HC.out _ (by first | exact HA.out.2.drew | exact (HA.out.2.alloc _).drew)).mono ?_; rintro e w2 ⟨c0, c1, c2, rfl, hI, hB2⟩; obtain ⟨hk1, hk2⟩ := keptCells hB2; obtain ⟨f, A1, k1, cp1, B1, m1, d1, rfl, rfl, rfl⟩ := hI.shape; have hz2 := hB2.size; have hbw : Below wr.heap.size wr w2 := by first | exact bstep ((Below.refl _ wr).drew) hB2 | exact bstep ((bnew wr _).drew) hB2
                 have hz3 : wr.heap.size ≤ w2.heap.size := hbw.size))
          all_goals first
            | exact ⟨rfl, w2.heap.size, f, A1, k1, cp1, B1, m1, d1, _, _, _, _, _, _, _, _, _, _, _, _, _, _, _, _, _, _, _, _, _, rfl, hbw.alloc hz3 _, hz3, Joins.cell_alloc_mark_at _ _ _ _ _ _ rfl, Joins.cell_alloc_mark_at _ _ _ _ _ _ rfl, Joins.cell_alloc_mark_at _ _ _ _ _ _ rfl,
                ItemR.below (bnew w2 _) _ _ _ _ (ItemR.mono (by simp) _ _ _ _ hI)⟩
            | (have hI' : ItemR (wr.heap.size + 1) w2 x (.bool f) (.slice A1 k1 cp1) (.slice B1 m1 d1) := by simpa using hI
               obtain ⟨h1, h2⟩ := item_ret (w := wr) wr.heap.size (Nat.le_refl _) hI' hbw
               exact ⟨rfl, wr.heap.size, f, A1, k1, cp1, B1, m1, d1, _, _, _, _, _, _, _, _, _, _, _, _, _, _, _, _, _, _, _, _, _, rfl, h2, Nat.le_refl _, by simp [go_sem, hk1], by simp [go_sem, hk1], by simp [go_sem, hk1], ItemR.mono (by simp) _ _ _ _ h1⟩)
        · rintro e a' W3 ⟨rfl, T, f, A1, k1, cp1, B1, m1, d1, v11, v12, v13, v14, v15, v16, v17, v18, v19, v20, v21, v22, v23, v24, v25, v26, v27, v28, v29, v30, v31, rfl, hbW, hT, t0, t1, t2, hI3⟩
          clear HC
          have hJ3 := HJB.out _ _ _ hJ hbW
          have hsz3 : w0.heap.size + 2 ≤ W3.heap.size := Nat.le_trans hsz2 hbW.size
          have dn3 : W3.cell? ⟨Bn, 0, none⟩ = some (.int .i64 (n : Int)) := (hbW.cell (p := ⟨Bn, 0, none⟩) hbn).trans dn
          clear dn db dd hsl
          have HT := Lib.hid (And.intro hbW hKp); clear hbW hKp
          by_cases hle : at_ + k ≤ n
          · have hd1 : decide ((at_ : Int) + (k : Int) ≤ (n : Int)) = true := by rw [decide_eq_true_iff]; omega
            obtain ⟨fn, tmps, assign, body, hy, hRnd⟩ := HY.out acc (x, .bool f, .slice A1 k1 cp1, .slice B1 m1 d1) wr W3 (by omega) hJ HT.out.1 hsz2 hI3
            dsimp only [encC] at hy
            gi_wp2_with fail
            refine ⟨trivial, (fun h => by cases h), ?_⟩
            refine (callsIn_wide.2 (ask_t _ _)).mono ?_
            rintro e w1 ⟨rfl, rfl⟩
            gi_wp2
            refine ⟨(fun h => by cases h), ?_⟩
            refine hRnd.mono ?_
            rintro e W4 ⟨rfl, hJ4, hKp4, hsz4⟩
            gi_wp2
            go_roundw
            case rel =>
              refine ⟨at_ + k, fuel - 1, acc ++ [(x, .bool f, .slice A1 k1 cp1, .slice B1 m1 d1)], by go_num, hle, by omega, ?_, by omega, hJ4, (by rw [List.length_append]; simp; omega), ?_⟩
              · intro q hq
                rw [hKp4 q hq, HT.out.1.block q (Nat.lt_of_lt_of_le (HR.out.2.2 q hq) (by omega)), HT.out.2 q hq]
              · rw [HS.out]; first | (rw [if_pos hle, List.map_append]; rfl) | (simp only; rw [if_pos hle, List.map_append]; rfl)
            case measure => simp [intOf]; omega
          · have hd1 : decide ((at_ : Int) + (k : Int) ≤ (n : Int)) = false := by rw [decide_eq_false_iff_not]; omega
            gi_wp2_with fail
            refine ⟨trivial, (fun h => by cases h), ?_⟩
            refine (callsIn_wide.2 (ask_f _ _)).mono ?_
            rintro e w1 ⟨rfl, rfl⟩
            refine ⟨rfl, Or.inr ⟨_, acc, rfl, ⟨11, rfl, ?_⟩, hJ3⟩⟩
            exact HS.out.trans (if_neg hle)
    · obtain rfl : at_ = n := by omega
      gi_wp2
      go_end0
      refine Or.inl ⟨_, acc, rfl, ?_, hJ⟩
      unfold FinC
      rw [HE.out]
      obtain ⟨f, rfl⟩ : ∃ f, fuel = f + 1 := ⟨fuel - 1, by omega⟩
      rw [Rlp.parts, if_neg (by omega)]
end Go.Proofs.Ytildkoabfdfjlaa
