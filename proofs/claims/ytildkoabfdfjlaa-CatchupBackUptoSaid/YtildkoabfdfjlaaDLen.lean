/- How long the parts of an encoded item are; zero blocks and commits; the end of a function that defers chain's caught. -/
import Derived.Test.YtildkoabfdfjlaaEncA
set_option linter.all false
namespace Go.Proofs.Ytildkoabfdfjlaa
open Go.RowKit
open Rlp (It)

theorem enc_str_len {t : List UInt8} {d : Nat} {y : List UInt8} (h : Rlp.enc (.str t) d = some y) : t.length ≤ y.length := by
  simp only [Rlp.enc] at h
  split at h
  · cases h; exact Nat.le_refl _
  · split at h
    · cases h; simp
    · cases h
theorem encs_len : ∀ {l : List It} {d : Nat} {acc all : List UInt8}, Rlp.encs l d acc = some all → acc.length + l.length ≤ all.length
  | [], d, acc, all, h => by simp only [Rlp.encs, Option.some.injEq] at h; subst h; simp
  | x :: l, d, acc, all, h => by
    simp only [Rlp.encs] at h
    split at h
    · rename_i b hb
      split at h
      · have := encs_len h
        have := Rlp.enc_length_pos hb
        simp only [List.length_append, List.length_cons] at *
        omega
      · cases h
    · cases h
theorem encs_mem : ∀ {l : List It} {d : Nat} {acc all : List UInt8}, Rlp.encs l d acc = some all → ∀ x ∈ l, ∃ y, Rlp.enc x d = some y ∧ y.length ≤ all.length
  | [], d, acc, all, h, x, hx => by simp at hx
  | z :: l, d, acc, all, h, x, hx => by
    simp only [Rlp.encs] at h
    split at h
    · rename_i b hb
      split at h
      · rcases List.mem_cons.1 hx with rfl | hx
        · have := encs_len h
          refine ⟨b, hb, ?_⟩
          simp only [List.length_append] at this
          omega
        · exact encs_mem h x hx
      · cases h
    · cases h
theorem enc_list_len {l : List It} {d : Nat} {y : List UInt8} (h : Rlp.enc (.list l) d = some y) : l.length ≤ y.length ∧ ∀ x ∈ l, ∃ z, Rlp.enc x (d + 1) = some z ∧ z.length ≤ y.length := by
  simp only [Rlp.enc] at h
  split at h
  · split at h
    · rename_i all hall
      split at h
      · cases h
        have h1 := encs_len hall
        refine ⟨by simp at h1 ⊢; omega, fun x hx => ?_⟩
        obtain ⟨z, h2, h3⟩ := encs_mem hall x hx
        exact ⟨z, h2, by simp; omega⟩
      · cases h
    · cases h
  · cases h
theorem encode_enc {x : It} {y : List UInt8} (h : Rlp.encode x = some y) : Rlp.enc x 0 = some y ∧ y.length ≤ 65536 := by
  unfold Rlp.encode at h
  split at h
  · split at h
    · cases h; exact ⟨by assumption, by assumption⟩
    · cases h
  · cases h
/-- lists within the list that bytes are -/
theorem opn_big {l : List UInt8} {its : List It} (h : opn l = .ok its) : ∀ x ∈ its, ∀ tl, x = It.list tl → tl.length ≤ 1000000 := by
  intro x hx tl hxt
  subst hxt
  obtain ⟨h1, h2⟩ := encode_enc (Rlp.encode_decode (opn_inv h))
  obtain ⟨_, h4⟩ := enc_list_len h1
  obtain ⟨z, h5, h6⟩ := h4 _ hx
  have := (enc_list_len h5).1
  omega
theorem rdBlk_ok {l : List UInt8} {its : List It} {d : Blk} (ho : opn l = .ok its) (hr : rdBlock its = some d) : d.toI.Ok := by
  obtain ⟨e1, e2, e3, e4, e5, e6⟩ := rdBlock_inv hr
  have hd := Rlp.encode_decode (opn_inv ho)
  rw [e1] at hd
  obtain ⟨h1, h2⟩ := encode_enc hd
  unfold blkIt at h1
  obtain ⟨_, h4⟩ := enc_list_len h1
  obtain ⟨z, h5, h6⟩ := h4 (.list (d.toI.txs.map It.str)) (by simp)
  obtain ⟨h7, h8⟩ := enc_list_len h5
  refine ⟨e2, e3, by simp [Blk.toI], by simp only [Blk.toI]; omega, by simp only [Blk.toI]; omega, by simp only [Blk.toI]; omega, by rw [List.length_map] at h7; omega, fun t ht => ?_⟩
  obtain ⟨y, h9, h10⟩ := h8 (.str t) (List.mem_map.2 ⟨t, ht, rfl⟩)
  have := enc_str_len h9
  omega
theorem decBlk_ok {l : List UInt8} {b : Blk} (h : decBlk l = .ok b) : b.toI.Ok := by
  unfold decBlk at h
  cases ho : opn l with
  | error k => simp [ho] at h
  | ok its =>
    simp only [ho] at h
    cases hr : rdBlock its with
    | none => simp [hr] at h
    | some d =>
      simp only [hr] at h
      by_cases hR : rightB d.toI = true
      · rw [if_pos hR] at h
        cases h
        exact rdBlk_ok ho hr
      · rw [if_neg hR] at h; cases h
theorem decCom_ok {l : List UInt8} {c : ComN} (h : decCom l = .ok c) : c.toI.Ok := by
  unfold decCom at h
  cases ho : opn l with
  | error k => simp [ho] at h
  | ok its =>
    simp only [ho] at h
    cases hr : rdCom its with
    | none => simp [hr] at h
    | some d =>
      simp only [hr, Except.ok.injEq] at h
      subst h
      obtain ⟨e1, e2, e3, e4, e5, e6⟩ := rdCom_inv hr
      have hd := Rlp.encode_decode (opn_inv ho)
      rw [e1] at hd
      obtain ⟨h1, h2⟩ := encode_enc hd
      unfold comIt at h1
      obtain ⟨_, h4⟩ := enc_list_len h1
      obtain ⟨z, h5, h6⟩ := h4 (.list (d.toI.votes.map votIt)) (by simp)
      obtain ⟨h7, h8⟩ := enc_list_len h5
      refine ⟨e3, by simp [ComN.toI], by simp only [ComN.toI]; omega, by simp only [ComN.toI]; omega, fun v hv => ?_, by rw [List.length_map] at h7; omega⟩
      simp only [ComN.toI, List.mem_map] at hv
      obtain ⟨u, hu, rfl⟩ := hv
      exact e4 u hu

def zeroB : BlkI := ⟨0, List.replicate 32 0, List.replicate 32 0, 0, 0, []⟩
def zeroC : ComI := ⟨0, 0, List.replicate 32 0, []⟩
theorem zeroB_ok : zeroB.Ok := ⟨rfl, rfl, by decide, by decide, by decide, by decide, by decide, by simp [zeroB]⟩
theorem zeroC_ok : zeroC.Ok := ⟨rfl, by decide, by decide, by decide, by simp [zeroC], by decide⟩
def blkOf : Except Int Blk → BlkI
  | .ok b => b.toI
  | .error _ => zeroB
def comOf : Except Int ComN → ComI
  | .ok c => c.toI
  | .error _ => zeroC
def errOf {α : Type} : Except Int α → Int
  | .ok _ => 0
  | .error k => k
theorem blkOf_ok (l : List UInt8) : (blkOf (decBlk l)).Ok := by
  cases h : decBlk l with
  | error k => exact zeroB_ok
  | ok b => exact decBlk_ok h
theorem comOf_ok (l : List UInt8) : (comOf (decCom l)).Ok := by
  cases h : decCom l with
  | error k => exact zeroC_ok
  | ok c => exact decCom_ok h
theorem zeroB_cells : (blkV zeroB (.slice none 0 0)).toArray = Try.zeroCells27 := by kernel_rfl

theorem heap_setRow_size {w : World} {g : Nat} {cs : Array Value} : (w.setRow g cs).heap.size = w.heap.size := by simp [World.setRow]
/-- all of a block's cells are stored -/
theorem setCells_row {W : World} {b : Nat} {cur : Array Value} {t : TypeId} {f : Nat × Nat} {l : List Value} (h : W.heap[b]? = some (.cells cur t f)) (hl : cur.size = l.length) : W.setCells b 0 l = W.setRow b l.toArray := by
  have key : ∀ (l : List Value) (o : Nat) (c : Array Value), o + l.length = c.size → c.size = cur.size →
      (W.setRow b c).setCells b o l = W.setRow b (c.toList.take o ++ l).toArray := by
    intro l
    induction l with
    | nil =>
      intro o c h _
      simp only [World.setCells]
      rw [List.take_of_length_le (by simp at h ⊢; omega)]; simp
    | cons x l ih =>
      intro o c h0 hc
      have e : (W.setRow b c).setCell ⟨b, o, none⟩ x = W.setRow b (c.setIfInBounds o x) := by
        refine world_ext (Array.ext_getElem? fun i => ?_) rfl rfl rfl rfl
        by_cases hi : i = b
        · subst hi
          rw [heap_setCell_row (heap_setRow_same h), heap_setRow_same h]
        · rw [heap_setCell_other _ (by exact hi), heap_setRow_other _ hi, heap_setRow_other _ hi]
      rw [World.setCells, e, ih (o + 1) (c.setIfInBounds o x) (by simp at h0 ⊢; omega) (by simpa using hc)]
      have e2 : (c.toList.set o x).take (o + 1) = c.toList.take o ++ [x] := by
        have hlt : o < (c.toList.set o x).length := by rw [List.length_set, Array.length_toList]; simp only [List.length_cons] at h0; omega
        rw [List.take_succ_eq_append_getElem hlt, List.getElem_set_self]
        congr 1
        apply List.ext_getElem?
        intro i
        rw [List.getElem?_take, List.getElem?_take]
        split
        · rw [List.getElem?_set_ne (by omega)]
        · rfl
      rw [Array.toList_setIfInBounds, e2]
      simp
  have hs : W.setRow b cur = W := by
    refine world_ext (Array.ext_getElem? fun i => ?_) rfl rfl rfl rfl
    by_cases hi : i = b
    · subst hi; rw [heap_setRow_same h, h]
    · rw [heap_setRow_other _ hi]
  have := key l 0 cur (by omega) rfl
  rw [hs] at this
  simpa using this
theorem below_setRow {n : Nat} {w W : World} {b : Nat} (cs : Array Value) (h : Below n w W) (hb : n ≤ b) : Below n w (W.setRow b cs) :=
  ⟨h.os, h.tape, h.output, by rw [heap_setRow_size]; exact h.size, fun k hk => (heap_setRow_other _ (by omega)).trans (h.block k hk)⟩

theorem fin_caught {fn : Func} {tmps : Array Value} {R : Ending → World → Prop} {p : Addr} {k x : Int} {w : World} {v : Value} (hc : w.cell? p = some (.int .i64 x)) (hz : w.frozen? p = false)
    (hres : (results fn tmps).run Try.prog (w.setCell p (.int .i64 k)) = .ok v (w.setCell p (.int .i64 k))) (hR : R (.returned v) (w.setCell p (.int .i64 k))) :
    Leaves Try.prog fn tmps R [{ target := .fn (.func 35) #[], args := #[.pointer (some p)] }] (.panicking (wrg k)) w := by
  refine leaves_cons (f := 35) (args := #[.pointer (some p)]) (by simp) (by simp [go_sem]) ?_
  refine (wcaught_panicking p x k w hc hz).mono ?_
  rintro e u' w'' ⟨rfl, rfl, rfl⟩
  exact ⟨v, hres, hR⟩
theorem fin_idle {fn : Func} {tmps : Array Value} {R : Ending → World → Prop} {p : Addr} {w : World} {v : Value}
    (hres : (results fn tmps).run Try.prog w = .ok v w) (hR : R (.returned v) w) :
    Leaves Try.prog fn tmps R [{ target := .fn (.func 35) #[], args := #[.pointer (some p)] }] .returning w := by
  refine leaves_cons (f := 35) (args := #[.pointer (some p)]) (by simp) (by simp [go_sem]) ?_
  refine (wcaught_idle p w).mono ?_
  rintro e u' w'' ⟨rfl, rfl, rfl⟩
  exact ⟨v, hres, hR⟩
theorem results_2cells {P : Program} {fn : Func} {tmps : Array Value} {w : World} {a a2 : Tmp} {t t2 : TypeId} {p p2 : Addr} {v v2 : Value} (hr : fn.results = #[.cell a t, .cell a2 t2]) (ha : tmps.getD a undef = .pointer (some p)) (ha2 : tmps.getD a2 undef = .pointer (some p2))
    (hl : (loadVar t p).run P w = .ok v w) (hl2 : (loadVar t2 p2).run P w = .ok v2 w) :
    (results fn tmps).run P w = .ok (.tuple #[v, v2]) w := by
  unfold results
  rw [hr]
  simp only [List.mapM_toArray, List.mapM_cons, List.mapM_nil, ha, ha2]
  simp [asAddr, hl, hl2]
theorem load_errno (w : World) (p : Addr) (k : Int) (h : w.cell? p = some (.int .i64 k)) : (loadVar 32 p).run Try.prog w = .ok (.int .i64 k) w := by
  simp [loadVar, isAgg, run_underlying Try.underlying32, load, Sem.run, h]
end Go.Proofs.Ytildkoabfdfjlaa
