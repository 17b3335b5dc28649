/- A log's load: what its loop keeps (LdI), and what 'frames' hands on (scanS). -/
import Derived.Test.YtnljhabpcoiihaaGreatDoorLog
import Derived.Test.YtnljhabpcoiihaaGreatDoorTrunc
import Derived.Test.YtnljhabpcoiihaaGreatDoorFrs
import Derived.RangeFuncLeaves
import Derived.RangeFuncRecord
set_option linter.all false
namespace Go.Proofs.YtnljhabpcoiihaaGreatDoor
open Go.RowKit
open Wal (nextB)

/-- append, in a fence, where its run is known -/
theorem stepIn_append_run {F : Fence} {n : Nat} {P : Program} {ops : Array Oper} {o : Oper} {a : Act} {w : World} {K : Act → World → Prop} {Q : Exit → Act → World → Prop} {E : Prop} (hgd : o.guard = none) (s x : Operand) (t : TypeId)
    (ho : o.op = .call { callee := .builtin .append, args := #[s, x], argTypes := #[t, t] }) (v u : Value) (hs : a.eval s = v) (hx : a.eval x = u) {v' : Value} {w' : World}
    (hr : (Builtin.append_ #[t, t] o.type #[v, u]).run P w = .ok v' w') (h : K (a.put o.dst v') w') : if Region.wanted o (yielded ops a.tmps) = true then Oper.wpIn F n P o a w K Q else E := by
  rw [if_pos (by simp [Region.wanted, hgd])]
  refine ⟨fun f hf => ?_, ?_⟩
  · unfold Oper.about at hf
    simp [ho, resolve, Target.leads] at hf
  · rw [Oper.semAt_eq F.round a.eval o (fun c hc => by rw [ho] at hc; cases hc)]
    unfold execOp
    simp only [ho, resolve, invoke, builtin, Sem.run_bind, Sem.run_pure, Result.andThen_ok, List.map_toArray, List.map_cons, List.map_nil, hs, hx, hr]
    exact h

theorem wp_append_run {P : Program} {o : Oper} {a : Act} {w : World} {K : Act → World → Prop} {Q : Exit → Act → World → Prop} (s x : Operand) (t : TypeId)
    (ho : o.op = .call { callee := .builtin .append, args := #[s, x], argTypes := #[t, t] }) (v u : Value) (hs : a.eval s = v) (hx : a.eval x = u) {v' : Value} {w' : World}
    (hr : (Builtin.append_ #[t, t] o.type #[v, u]).run P w = .ok v' w') (h : K (a.put o.dst v') w') : o.wp P a w K Q := by
  unfold Oper.wp execOp
  simp only [ho, resolve, invoke, builtin, Sem.run_bind, Sem.run_pure, Result.andThen_ok, List.map_toArray, List.map_cons, List.map_nil, hs, hx, hr]
  exact h

theorem wrap_le {x : Int} (k : Nat) (hx : x = (k : Int)) (h : k ≤ 4000000000000000000) : wrap64 x = x := by
  subst hx
  refine wrap_id _ (Int.natCast_nonneg _) ?_
  exact Int.lt_of_le_of_lt (Int.ofNat_le.2 h) (by decide)

theorem info_part : ∃ i0, Tryz.prog.info? 159 = some i0 ∧ i0.zero = some (.agg #[.int .i64 0, .int .i64 0, .int .i64 0]) ∧ i0.size = 3 ∧ i0.bytes = 24 :=
  info_parts (show (Tryz.prog.info? 159).map (fun i => (i.zero, i.size, i.bytes)) = some (some (.agg #[.int .i64 0, .int .i64 0, .int .i64 0]), 3, 24) by kernel_rfl)
theorem rd_new3 (w : World) (T : TypeId) (a b c : Value) : Rd 0 (w.alloc (.cells #[a, b, c] T)) (some ⟨w.heap.size, 0, none⟩) [a, b, c] :=
  Or.inr ⟨_, _, Nat.zero_le _, rfl, fun k hk => by
    have h3 : k < 3 := by simpa using hk
    match k, h3 with
    | 0, _ => simp [go_sem]
    | 1, _ => simp [go_sem]
    | 2, _ => simp [go_sem]⟩
/-- a block behind an append elsewhere -/
theorem grown_at {W W2 W' : World} {row : Option Nat} {b : Nat} {o : Obj} (hg : W'.grownBy W2 row) (hr : row ≠ some b) (hb : W.heap[b]? = some o) (hw : ∀ k, k < W.heap.size → W'.heap[k]? = W.heap[k]?) : W2.heap[b]? = some o := by
  have h1 := (hw b (heap_lt hb)).trans hb
  exact (hg.block b (heap_lt h1) (Ne.symm hr)).trans h1
theorem info_bytes : ∃ i0, Tryz.prog.info? 29 = some i0 ∧ i0.zero = some (.slice none 0 0) ∧ i0.size = 1 ∧ i0.bytes = 24 :=
  info_parts (show (Tryz.prog.info? 29).map (fun i => (i.zero, i.size, i.bytes)) = some (some (.slice none 0 0), 1, 24) by kernel_rfl)

/-- the records of what 'frames' hands on, and how many bytes they have; none: it can't be -/
def scanS (last : Bool) : List (List UInt8 × Nat × Nat) → Option (List (List UInt8) × Nat)
  | [] => some ([], 0)
  | (x, k, e) :: r => if e = 0 then match scanS last r with
      | some (xs, m) => some (x :: xs, k + m)
      | none => none
    else if e = 10 ∧ last = true then some ([], 0) else none

theorem scanS_pre (last : Bool) (pre r : List (List UInt8 × Nat × Nat)) (h : ∀ x ∈ pre, x.2.2 = 0) :
    scanS last (pre ++ r) = match scanS last r with
      | some (xs, m) => some (pre.map (·.1) ++ xs, (pre.map (·.2.1)).sum + m)
      | none => none := by
  induction pre with
  | nil => rw [List.nil_append]; cases scanS last r <;> simp
  | cons a pre ih =>
    obtain ⟨x, k, e⟩ := a
    have he : e = 0 := h _ (List.mem_cons_self ..)
    subst he
    have := ih fun x hx => h x (List.mem_cons_of_mem _ hx)
    rw [List.cons_append, scanS, if_pos rfl, this]
    cases scanS last r with
    | none => rfl
    | some p => simp; omega

theorem seqF_size (f : Nat) (l : List UInt8) : ∀ x ∈ seqF f l, x.2.2 = 0 → x.2.1 = 12 + x.1.length := by
  induction f generalizing l with
  | zero => intro x hx; simp [seqF] at hx
  | succ f ih =>
    intro x hx he
    unfold seqF at hx
    split at hx
    · simp at hx
    split at hx
    · rename_i h0
      rcases List.mem_cons.1 hx with rfl | hx
      · exact (next_ok h0).2.2
      · exact ih _ x hx he
    · rename_i h0
      rcases List.mem_cons.1 hx with rfl | hx
      · exact absurd he h0
      · simp at hx

def sizeSum (acc : List FrI) : Nat := (acc.map fun x => 12 + x.1.length).sum
theorem sizeSum_le (acc : List FrI) (h : ∀ y ∈ acc, y.2.2.1 = 0 ∧ y.1.length ≤ 1073741824) : sizeSum acc ≤ acc.length * 1073741836 := by
  induction acc with
  | nil => simp [sizeSum]
  | cons a r ih =>
    have h1 := ih fun y hy => h y (List.mem_cons_of_mem _ hy)
    have h2 := (h a (List.mem_cons_self ..)).2
    simp only [sizeSum, List.map_cons, List.sum_cons, List.length_cons] at h1 ⊢
    omega
theorem sizeSum_append (acc : List FrI) (x : FrI) : sizeSum (acc ++ [x]) = sizeSum acc + (12 + x.1.length) := by simp [sizeSum]

/-- all has come, each whole -/
theorem scan_all {last : Bool} {l : List UInt8} {xs : List FrI} (h : FinF l xs) (h0 : ∀ x ∈ xs, x.2.2.1 = 0) :
    scanS last (seqF (l.length + 1) l) = some (xs.map (·.1), sizeSum xs) := by
  have hs := seqF_size (l.length + 1) l
  unfold FinF at h
  rw [← h] at hs ⊢
  have := scanS_pre last (xs.map frKey) [] (by intro x hx; obtain ⟨y, hy, rfl⟩ := List.mem_map.1 hx; exact h0 y hy)
  rw [List.append_nil] at this
  rw [this]
  simp only [scanS, List.append_nil, Nat.add_zero, List.map_map]
  congr 2
  unfold sizeSum
  congr 1
  apply List.map_congr_left
  intro x hx
  exact hs (frKey x) (List.mem_map_of_mem hx) (h0 x hx)

/-- a round has left -/
theorem scan_left {last : Bool} {l : List UInt8} {pre : List FrI} {x : FrI} (h : FinXF l (pre ++ [x])) (h0 : ∀ x ∈ pre, x.2.2.1 = 0) (hx : x.2.2.1 ≠ 0) :
    scanS last (seqF (l.length + 1) l) = if x.2.2.1 = 10 ∧ last = true then some (pre.map (·.1), sizeSum pre) else none := by
  have hs := seqF_size (l.length + 1) l
  obtain ⟨r, hr⟩ := h
  rw [← hr] at hs ⊢
  rw [List.map_append, List.append_assoc]
  rw [scanS_pre last (pre.map frKey) _ (by intro x hx; obtain ⟨y, hy, rfl⟩ := List.mem_map.1 hx; exact h0 y hy)]
  simp only [List.map_cons, List.map_nil, List.cons_append, List.nil_append]
  have e1 : frKey x = (x.1, x.2.1, x.2.2.1) := rfl
  rw [e1, scanS, if_neg hx]
  by_cases hc : x.2.2.1 = 10 ∧ last = true
  · rw [if_pos hc, if_pos hc]
    simp only [List.append_nil, Nat.add_zero, List.map_map]
    congr 2
    unfold sizeSum
    congr 1
    apply List.map_congr_left
    intro y hy
    exact hs (frKey y) (List.mem_append_left _ (List.mem_map_of_mem (List.mem_append_left _ hy))) (h0 y hy)
  · rw [if_neg hc, if_neg hc]

/-- what does not touch the loop's blocks -/
structure Kp2 (sz Bb : Nat) (W W' : World) : Prop where
  os : W'.os = W.os
  tape : W'.tape = W.tape
  output : W'.output = W.output
  size : W.heap.size ≤ W'.heap.size
  tag : ∀ o, W.heap[Bb]? = some o → ∃ o', W'.heap[Bb]? = some o' ∧ tagOf o' = tagOf o
  block : ∀ (b : Nat) (o : Obj), W.heap[b]? = some o → b ≠ Bb → (b < sz ∨ o.isCells = true) → W'.heap[b]? = some o

/-- load's blocks: the bound, the log, the part, the error's cell, the iterator's, the disk's; at the loop's start -/
structure LdC (n : Nat) (V0 : World) (bl z e6 Bb : Nat) : Prop where
  n0 : n ≤ bl ∧ n ≤ z ∧ n ≤ e6 ∧ n ≤ Bb
  bl : ∃ c, V0.heap[bl]? = some (.cells c 143 (0, 0))
  z : ∃ c, V0.heap[z]? = some (.cells c 159 (0, 0))
  e6 : ∃ c, V0.heap[e6]? = some (.cells c 24 (0, 0))
  Bb : ∃ c, V0.heap[Bb]? = some (.cells c 29 (0, 0))
theorem LdC.ne {n : Nat} {V0 : World} {bl z e6 Bb : Nat} (h : LdC n V0 bl z e6 Bb) : bl ≠ z ∧ bl ≠ e6 ∧ bl ≠ Bb ∧ z ≠ e6 ∧ z ≠ Bb ∧ e6 ≠ Bb := by
  obtain ⟨_, ⟨_, h1⟩, ⟨_, h2⟩, ⟨_, h3⟩, ⟨_, h4⟩⟩ := h
  refine ⟨?_, ?_, ?_, ?_, ?_, ?_⟩ <;> (rintro rfl; simp_all)
theorem LdC.lt {n : Nat} {V0 : World} {bl z e6 Bb : Nat} (h : LdC n V0 bl z e6 Bb) : bl < V0.heap.size ∧ z < V0.heap.size ∧ e6 < V0.heap.size ∧ Bb < V0.heap.size := by
  obtain ⟨_, ⟨_, h1⟩, ⟨_, h2⟩, ⟨_, h3⟩, ⟨_, h4⟩⟩ := h
  exact ⟨heap_lt h1, heap_lt h2, heap_lt h3, heap_lt h4⟩

structure LdI (n : Nat) (V0 : World) (bl z e6 Bb bd : Nat) (pv : Value) (G : LogM) (k er : Int) (acc : List FrI) (W : World) : Prop where
  os : W.os = V0.os
  tape : W.tape = V0.tape
  output : W.output = V0.output
  size : V0.heap.size ≤ W.heap.size
  fr : ∀ (b : Nat) (o : Obj), V0.heap[b]? = some o → b ≠ bl → b ≠ z → b ≠ e6 → (b < n ∨ tagOf o ≠ some 29) → W.heap[b]? = some o
  log : ∃ rv vs, W.heap[bl]? = some (.cells #[.pointer (some ⟨bd, 0, none⟩), .string ⟨G.name.toArray⟩, .int .i64 G.most, pv, rv, .int .i64 G.first, .bool G.dirty] 143 (0, 0)) ∧
    W.ownsRow n 29 1 rv (G.recs.length + acc.length) vs ∧ rv.ownBlock ≠ some Bb ∧
    ∀ (j : Nat) (v : Value) (l : List UInt8), vs[j]? = some v → (G.recs ++ acc.map (·.1))[j]? = some l → Bs 5 W v l
  part : W.heap[z]? = some (.cells #[.int .i64 k, .int .i64 (acc.length : Int), .int .i64 (sizeSum acc : Int)] 159 (0, 0))
  bb : ∃ o, W.heap[Bb]? = some o ∧ tagOf o = some 29
  err : W.heap[e6]? = some (.cells #[.int .i64 er] 24 (0, 0))

theorem DiskR.put {n : Nat} {w : World} {bd x : Nat} {D : DiskM} {d : Option (List Deferred)} {o' : Obj} (h : DiskR n w bd D) (hx : w.heap[x]? = some (.deferred d)) : DiskR n (w.putObj x o') bd D := by
  obtain ⟨bm, clock, pv, xs, h⟩ := h
  have hk : ∀ (b : Nat) (o : Obj), w.heap[b]? = some o → (∀ d, o ≠ .deferred d) → (w.putObj x o').heap[b]? = some o := fun b o hb hd => (World.putObj_heap_other (by rintro rfl; rw [hx] at hb; cases hb; exact hd _ rfl)).trans hb
  refine ⟨bm, clock, pv, xs, h.le, hk _ _ h.at_ (by simp), ?_, h.files.keeps (fun o ho => ?_) (fun y hy o ho => ?_) (fun b o hb ht => hk b o hb (by rintro d rfl; simp [tagOf] at ht)), h.same, h.fits, h.apart⟩
  · rcases h.plan with h | ⟨bp, es, clock, rfl, hn, hb, hl⟩
    · exact .inl h
    · exact .inr ⟨bp, es, clock, rfl, hn, hk _ _ hb (by simp), hl⟩
  · have := h.files.at_; rw [ho] at this; injection this with this; subst this; exact hk _ _ ho (by simp)
  · obtain ⟨_, v, h2, _⟩ := h.files.each y hy; rw [ho] at h2; injection h2 with h2; subst h2; exact hk _ _ ho (by simp)
theorem LogR.put {n : Nat} {w : World} {bl bd x : Nat} {G : LogM} {d : Option (List Deferred)} {o' : Obj} (h : LogR n w bl bd G) (hx : w.heap[x]? = some (.deferred d)) : LogR n (w.putObj x o') bl bd G :=
  h.keeps fun b o hb ht => (World.putObj_heap_other (by rintro rfl; rw [hx] at hb; cases hb; simp [tagOf] at ht)).trans hb
/-- what an opening may turn: of the blocks from n on the disk's, of the blocks from m on the log's -/
structure Turn2 (n m : Nat) (T U : List (Option TypeId)) (w w' : World) : Prop where
  os : w'.os = w.os
  tape : w'.tape = w.tape
  output : w'.output = w.output
  size : w.heap.size ≤ w'.heap.size
  block : ∀ b o, w.heap[b]? = some o → ((b < n ∨ tagOf o ∉ T) ∧ (b < m ∨ tagOf o ∉ U)) → w'.heap[b]? = some o
section
variable {n m : Nat} {T U : List (Option TypeId)} {a w w' : World}
theorem Turn2.refl (n m : Nat) (T U : List (Option TypeId)) (w : World) : Turn2 n m T U w w := ⟨rfl, rfl, rfl, Nat.le_refl _, fun _ _ h _ => h⟩
theorem Turn2.trans (h : Turn2 n m T U a w) (k : Turn2 n m T U w w') : Turn2 n m T U a w' :=
  ⟨k.os.trans h.os, k.tape.trans h.tape, k.output.trans h.output, Nat.le_trans h.size k.size, fun b o hb hc => k.block b o (h.block b o hb hc) hc⟩
theorem Turn2.of_turn (h : Turn n T w w') : Turn2 n m T U w w' := ⟨h.os, h.tape, h.output, h.size, fun b o hb hc => h.block b o hb hc.1⟩
theorem Turn2.of_log (h : Turn m U w w') : Turn2 n m T U w w' := ⟨h.os, h.tape, h.output, h.size, fun b o hb hc => h.block b o hb hc.2⟩
theorem Turn2.of_below (h : Below w.heap.size w w') : Turn2 n m T U w w' := Turn2.of_turn (Turn.of_below h)
theorem Turn2.turn (h : Turn2 n m T U w w') (hn : n ≤ m) : Turn n (T ++ U) w w' :=
  ⟨h.os, h.tape, h.output, h.size, fun b o hb hc => h.block b o hb (by
    rcases hc with hc | hc
    · exact ⟨.inl hc, .inl (by omega)⟩
    · exact ⟨.inr fun e => hc (List.mem_append_left _ e), .inr fun e => hc (List.mem_append_right _ e)⟩)⟩
theorem Turn2.below (h : Turn2 n m T U w w') (hn : n ≤ m) (hw : n ≤ w.heap.size) : Below n w w' := (h.turn hn).below hw
theorem Turn2.setCell (h : Turn2 n m T U a w) {b : Nat} {c : Array Value} {e : TypeId} {f : Nat × Nat} (hb : w.heap[b]? = some (.cells c e f)) (hn : m ≤ b) (hT : some e ∈ U) (o : Nat) (v : Value) :
    Turn2 n m T U a (w.setCell ⟨b, o, none⟩ v) := h.trans (Turn2.of_log ((Turn.refl m U w).setCell hb hn hT o v))
end

/-- load's end: the error is set, the loop's block of deferred calls is shut -/
theorem load_end {n m : Nat} {w E : World} {bl bd e6 x : Nat} {c : Array Value} {f : Nat × Nat} {D : DiskM} {G : LogM} {d : Option (List Deferred)} {o' : Obj} {T U : List (Option TypeId)} (v : Value) (he : E.heap[e6]? = some (.cells c 24 f)) (hx : E.heap[x]? = some (.deferred d)) (hD : DiskR n E bd D) (hT : Turn2 n m T U w E) (h6 : w.heap.size ≤ e6) (h7 : w.heap.size ≤ x) :
    DiskR n ((E.setCell ⟨e6, 0, none⟩ v).putObj x o') bd D ∧ (LogR m E bl bd G → LogR m ((E.setCell ⟨e6, 0, none⟩ v).putObj x o') bl bd G) ∧ Turn2 n m T U w ((E.setCell ⟨e6, 0, none⟩ v).putObj x o') ∧ (E.setCell ⟨e6, 0, none⟩ v).heap[x]? = some (.deferred d) := by
  have hk : ∀ (b : Nat) (o : Obj), E.heap[b]? = some o → tagOf o ≠ some 24 → (E.setCell ⟨e6, 0, none⟩ v).heap[b]? = some o := fun b o hb ht => heap_setCell_ne' hb (by rintro rfl; rw [he] at hb; cases hb; exact ht rfl)
  have hx' := hk _ _ hx (by simp [tagOf])
  refine ⟨(hD.keeps fun b o hb ht => hk b o hb (by rcases ht with ht | ht | ht | ht <;> rw [ht] <;> simp)).put hx', fun hL => (hL.keeps fun b o hb ht => hk b o hb (by rcases ht with ht | ht | ht | ht <;> rw [ht] <;> simp)).put hx', ?_, hx'⟩
  exact ⟨hT.os, hT.tape, hT.output, Nat.le_trans hT.size (by simp [World.setCell]), fun b o hb hc => (World.putObj_heap_other (by have := heap_lt hb; omega)).trans (heap_setCell_ne' (hT.block b o hb hc) (by have := heap_lt hb; omega))⟩

theorem read_len {n : Nat} {w : World} {bd : Nat} {D : DiskM} (h : DiskR n w bd D) (s : List UInt8) : (D.read s).2.1.length ≤ 1073741824 := by
  obtain ⟨_, _, _, _, hX⟩ := h
  have hf := hX.fits
  unfold DiskM.read
  split
  · simp
  · split
    · simp
    · rename_i f hf'
      have h1 := le_sumLen (fileAt_mem hf').1
      have h2 := hf.2.1
      have h3 := hf.2.2.1
      simp only
      omega

section
variable {n : Nat} {V0 : World} {bl z e6 Bb bd : Nat} {pv : Value} {G : LogM} {k er : Int} {acc : List FrI} {W W' : World}

theorem own_keep {base m : Nat} {e : TypeId} {size : Nat} {v : Value} {xs : List Value} (h : W.ownsRow base e size v m xs) (hk : ∀ (b : Nat) (o : Obj), W.heap[b]? = some o → v.ownBlock = some b → o.isCells = true → W'.heap[b]? = some o) : W'.ownsRow base e size v m xs := by
  obtain ⟨hl, h | ⟨g, cap, cur, hv, hg, hh, r⟩⟩ := h
  · exact ⟨hl, .inl h⟩
  · exact ⟨hl, .inr ⟨g, cap, cur, hv, hg, hk g _ hh (by rw [hv]; rfl) rfl, r⟩⟩

theorem LdI.step (h : LdI n V0 bl z e6 Bb bd pv G k er acc W) (hc : LdC n V0 bl z e6 Bb) (hk : Kp2 V0.heap.size Bb W W') : LdI n V0 bl z e6 Bb bd pv G k er acc W' := by
  have ne := hc.ne
  have lt := hc.lt
  refine ⟨hk.os.trans h.os, hk.tape.trans h.tape, hk.output.trans h.output, Nat.le_trans h.size hk.size, fun b o hb h1 h2 h3 h4 => ?_, ?_, ?_, ?_, ?_⟩
  · refine hk.block b o (h.fr b o hb h1 h2 h3 h4) ?_ (.inl (heap_lt hb))
    rintro rfl
    obtain ⟨c, hB⟩ := hc.Bb
    rw [hB] at hb; cases hb
    rcases h4 with h4 | h4
    · have := hc.n0; omega
    · exact h4 rfl
  · obtain ⟨rv, vs, h1, h2, h3, h4⟩ := h.log
    refine ⟨rv, vs, hk.block _ _ h1 ne.2.2.1 (.inr rfl), own_keep h2 (fun b o hb hv hc => hk.block b o hb (fun e => h3 (by rw [hv, e])) (.inr hc)), h3, fun j v l hv hl => ?_⟩
    have := h4 j v l hv hl
    obtain ⟨A, cap, rfl, hc1, hm, hl1 | ⟨b, o, c, f, rfl, hb, hk'⟩⟩ := this
    · exact ⟨A, cap, rfl, hc1, hm, .inl hl1⟩
    · refine ⟨_, cap, rfl, hc1, hm, .inr ⟨b, o, c, f, rfl, ?_, hk'⟩⟩
      by_cases hbB : b = Bb
      · subst hbB
        obtain ⟨o', h5, h6⟩ := h.bb
        rw [hb] at h5; cases h5
        simp [tagOf] at h6
      · exact hk.block b _ hb hbB (.inr rfl)
  · exact hk.block _ _ h.part ne.2.2.2.2.1 (.inl lt.2.1)
  · obtain ⟨o, h1, h2⟩ := h.bb
    obtain ⟨o', h3, h4⟩ := hk.tag o h1
    exact ⟨o', h3, h4.trans h2⟩
  · exact hk.block _ _ h.err ne.2.2.2.2.2 (.inl lt.2.2.1)

theorem Kp2.of_ab {sz : Nat} (h : AbF Bb W W') : Kp2 sz Bb W W' :=
  ⟨h.1.os, h.1.tape, h.1.output, h.1.size, h.2, fun b o hb hne _ => (h.1.block b (heap_lt hb) (by simpa using hne)).trans hb⟩
theorem Kp2.of_put {sz x : Nat} {o o' : Obj} (hx : W.heap[x]? = some o) (hn : o.isCells = false) (h : sz ≤ x) (hB : Bb < sz) : Kp2 sz Bb W (W.putObj x o') :=
  ⟨rfl, rfl, rfl, by simp, fun o ho => ⟨o, (World.putObj_heap_other (by omega)).trans ho, rfl⟩, fun b o'' hb _ hc => by
    refine (World.putObj_heap_other ?_).trans hb
    rintro rfl
    rw [hx] at hb; cases hb
    rcases hc with hc | hc
    · omega
    · rw [hn] at hc; cases hc⟩

theorem LdI.init {rv : Value} {vs : List Value} (hX : LogX n V0 bl bd pv rv vs G) (hc : LdC n V0 bl z e6 Bb) (hrv : rv.ownBlock ≠ some Bb)
    (hz : V0.heap[z]? = some (.cells #[.int .i64 k, .int .i64 0, .int .i64 0] 159 (0, 0))) (he : V0.heap[e6]? = some (.cells #[.int .i64 er] 24 (0, 0))) :
    LdI n V0 bl z e6 Bb bd pv G k er [] V0 :=
  ⟨rfl, rfl, rfl, Nat.le_refl _, fun b o hb _ _ _ _ => hb, ⟨rv, vs, hX.at_, hX.recs, hrv, by simpa using hX.each⟩, hz, by obtain ⟨c, h⟩ := hc.Bb; exact ⟨_, h, rfl⟩, he⟩

theorem LdI.more {rv v' : Value} {vs : List Value} {x : FrI} {q : Nat} {W1 : World} (h : LdI n V0 bl z e6 Bb bd pv G k er acc W) (hc : LdC n V0 bl z e6 Bb) (hn : n ≤ W.heap.size)
    (hat : W.heap[bl]? = some (.cells #[.pointer (some ⟨bd, 0, none⟩), .string ⟨G.name.toArray⟩, .int .i64 G.most, pv, rv, .int .i64 G.first, .bool G.dirty] 143 (0, 0)))
    (hown : W.ownsRow n 29 1 rv (G.recs.length + acc.length) vs) (hrv : rv.ownBlock ≠ some Bb)
    (heach : ∀ (j : Nat) (v : Value) (l : List UInt8), vs[j]? = some v → (G.recs ++ acc.map (·.1))[j]? = some l → Bs 5 W v l) (hx : Bs 5 W x.2.2.2 x.1)
    (hown' : W1.ownsRow n 29 1 v' (G.recs.length + acc.length + 1) (vs ++ [x.2.2.2])) (hg : ((W.drewN q).alloc (.cells #[x.2.2.2] 29)).grownBy W1 rv.ownBlock) (hv' : v'.ownBlock = rv.ownBlock ∨ v'.ownBlock = some (W.heap.size + 1)) :
    LdI n V0 bl z e6 Bb bd pv G k er (acc ++ [x]) (((W1.setCell ⟨bl, 4, none⟩ v').setCell ⟨z, 1, none⟩ (.int .i64 ((acc.length : Int) + 1))).setCell ⟨z, 2, none⟩ (.int .i64 ((sizeSum acc : Int) + (12 + (x.1.length : Int))))) ∧
      ∀ (b : Nat) (o : Obj), W.heap[b]? = some o → b ≠ bl → b ≠ z → rv.ownBlock ≠ some b → (((W1.setCell ⟨bl, 4, none⟩ v').setCell ⟨z, 1, none⟩ (.int .i64 ((acc.length : Int) + 1))).setCell ⟨z, 2, none⟩ (.int .i64 ((sizeSum acc : Int) + (12 + (x.1.length : Int))))).heap[b]? = some o := by
  obtain ⟨E, hE⟩ : ∃ E, (((W1.setCell ⟨bl, 4, none⟩ v').setCell ⟨z, 1, none⟩ (.int .i64 ((acc.length : Int) + 1))).setCell ⟨z, 2, none⟩ (.int .i64 ((sizeSum acc : Int) + (12 + (x.1.length : Int))))) = E := ⟨_, rfl⟩
  have ne := hc.ne
  have lt := hc.lt
  have hsz := h.size
  have hown1 : rv.ownBlock ≠ some bl ∧ rv.ownBlock ≠ some z ∧ rv.ownBlock ≠ some e6 := by
    rcases hown.2 with ⟨rfl, _⟩ | ⟨g, cap, cur, rfl, _, hh, _⟩
    · simp [Value.ownBlock]
    · refine ⟨?_, ?_, ?_⟩ <;> (intro he; simp only [Value.ownBlock, Option.some.injEq] at he)
      · subst he; rw [hat] at hh; simp at hh
      · subst he; rw [h.part] at hh; simp at hh
      · subst he; rw [h.err] at hh; simp at hh
  have hk1 : ∀ (b : Nat) (o : Obj), W.heap[b]? = some o → rv.ownBlock ≠ some b → W1.heap[b]? = some o := fun b o hb hne =>
    (hg.block b (by have := heap_lt hb; simp [World.drewN]; omega) (Ne.symm hne)).trans ((Below.heap_alloc _ _ _ (heap_lt hb)).trans hb)
  have hkE : ∀ (b : Nat) (o : Obj), W1.heap[b]? = some o → b ≠ bl → b ≠ z → E.heap[b]? = some o := fun b o hb h1 h2 => by
    rw [← hE]; exact heap_setCell_ne' (heap_setCell_ne' (heap_setCell_ne' hb h1) h2) h2
  have hk : ∀ (b : Nat) (o : Obj), W.heap[b]? = some o → b ≠ bl → b ≠ z → rv.ownBlock ≠ some b → E.heap[b]? = some o := fun b o hb h1 h2 h3 => hkE b o (hk1 b o hb h3) h1 h2
  rw [hE]
  refine ⟨?_, hk⟩
  have hbs : ∀ {v : Value} {l : List UInt8}, Bs 5 W v l → Bs 5 E v l := by
    intro v l hb
    refine hb.keeps fun b o hb ht => hk b o hb ?_ ?_ ?_
    · rintro rfl; rw [hat] at hb; cases hb; simp [tagOf] at ht
    · rintro rfl; rw [h.part] at hb; cases hb; simp [tagOf] at ht
    · intro he
      rcases hown.2 with ⟨rfl, _⟩ | ⟨g, cap, cur, rfl, _, hh, _⟩
      · simp [Value.ownBlock] at he
      · have he : g = b := by simpa [Value.ownBlock] using he
        subst he; rw [hb] at hh; cases hh; simp [tagOf] at ht
  have hsE : E.heap.size = W1.heap.size := by rw [← hE]; simp [World.setCell]
  have hs1 := hg.size
  have hs2 : W.heap.size + 1 ≤ W1.heap.size := by simpa [World.drewN] using hs1
  have hat1 := hk1 _ _ hat hown1.1
  have hz1 := hk1 _ _ h.part hown1.2.1
  refine ⟨?_, ?_, ?_, by omega, fun b o hb h1 h2 h3 h4 => ?_, ?_, ?_, ?_, ?_⟩
  · rw [← hE]; exact (hg.os).trans h.os
  · rw [← hE]; exact (hg.tape).trans h.tape
  · rw [← hE]; exact (hg.output).trans h.output
  · refine hk b o (h.fr b o hb h1 h2 h3 h4) h1 h2 ?_
    intro he
    rcases hown.2 with ⟨rfl, _⟩ | ⟨g, cap, cur, rfl, hng, hh, _⟩
    · simp [Value.ownBlock] at he
    · have he : g = b := by simpa [Value.ownBlock] using he
      subst he
      have := h.fr g o hb h1 h2 h3 h4
      rw [this] at hh; cases hh
      rcases h4 with h4 | h4
      · omega
      · exact h4 rfl
  · refine ⟨v', vs ++ [x.2.2.2], ?_, ?_, ?_, ?_⟩
    · rw [← hE]
      refine heap_setCell_ne' (heap_setCell_ne' ?_ ne.1) ne.1
      rw [Joins.block_setCell hat1]; rfl
    · rw [List.length_append, List.length_singleton, ← Nat.add_assoc]
      refine own_keep hown' fun b o hb hv _ => hkE b o hb ?_ ?_
      · rintro rfl
        rcases hv' with hv' | hv'
        · exact hown1.1 (hv'.symm.trans hv)
        · rw [hv] at hv'; cases hv'; have := lt.1; omega
      · rintro rfl
        rcases hv' with hv' | hv'
        · exact hown1.2.1 (hv'.symm.trans hv)
        · rw [hv] at hv'; cases hv'; have := lt.2.1; omega
    · rcases hv' with hv' | hv'
      · rw [hv']; exact hrv
      · rw [hv']; intro he; cases he; have := lt.2.2.2; omega
    · intro j v l hv hl
      have hvl : vs.length = G.recs.length + acc.length := by have := hown.1; omega
      have hxs : (G.recs ++ acc.map (·.1)).length = vs.length := by simp [hvl]
      rw [List.map_append, ← List.append_assoc] at hl
      by_cases hj : j < vs.length
      · rw [List.getElem?_append_left hj] at hv
        rw [List.getElem?_append_left (by omega)] at hl
        exact hbs (heach j v l hv hl)
      · rw [List.getElem?_append_right (by omega)] at hv hl
        rw [hxs] at hl
        obtain ⟨t, ht⟩ : ∃ t, j - vs.length = t := ⟨_, rfl⟩
        rw [ht] at hv hl
        cases t with
        | zero => simp at hv hl; subst hv hl; exact hbs hx
        | succ t => simp at hv
  · rw [← hE]
    have h1 : (W1.setCell ⟨bl, 4, none⟩ v').heap[z]? = some (.cells #[.int .i64 k, .int .i64 (acc.length : Int), .int .i64 (sizeSum acc : Int)] 159 (0, 0)) := heap_setCell_ne' hz1 ne.1.symm
    have h2 : ((W1.setCell ⟨bl, 4, none⟩ v').setCell ⟨z, 1, none⟩ (.int .i64 ((acc.length : Int) + 1))).heap[z]? = some (.cells #[.int .i64 k, .int .i64 ((acc.length : Int) + 1), .int .i64 (sizeSum acc : Int)] 159 (0, 0)) := by
      rw [Joins.block_setCell h1]; rfl
    rw [Joins.block_setCell h2, sizeSum_append, List.length_append]
    simp
  · obtain ⟨o, h1, h2⟩ := h.bb
    exact ⟨o, hk Bb o h1 (fun e => ne.2.2.1 e.symm) (fun e => ne.2.2.2.2.1 e.symm) hrv, h2⟩
  · exact hk _ _ h.err (fun e => ne.2.1 e.symm) (fun e => ne.2.2.2.1 e.symm) hown1.2.2

/-- the error's cell is set -/
theorem LdI.fail (h : LdI n V0 bl z e6 Bb bd pv G k er acc W) (hc : LdC n V0 bl z e6 Bb) (e : Int) : LdI n V0 bl z e6 Bb bd pv G k e acc (W.setCell ⟨e6, 0, none⟩ (.int .i64 e)) := by
  have ne := hc.ne
  have hk : ∀ (b : Nat) (o : Obj), W.heap[b]? = some o → b ≠ e6 → (W.setCell ⟨e6, 0, none⟩ (.int .i64 e)).heap[b]? = some o := fun b o hb h => heap_setCell_ne' hb h
  refine ⟨h.os, h.tape, h.output, by simpa [World.setCell] using h.size, fun b o hb h1 h2 h3 h4 => hk b o (h.fr b o hb h1 h2 h3 h4) h3, ?_, hk _ _ h.part ne.2.2.2.1, ?_, ?_⟩
  · obtain ⟨rv, vs, h1, h2, h3, h4⟩ := h.log
    refine ⟨rv, vs, hk _ _ h1 ne.2.1, own_keep h2 (fun b o hb hv hcc => hk b o hb ?_), h3, fun j v l hv hl => (h4 j v l hv hl).keeps fun b o hb ht => hk b o hb ?_⟩
    · rintro rfl
      rcases h2.2 with ⟨rfl, _⟩ | ⟨g, cap, cur, rfl, _, hh, _⟩
      · simp [Value.ownBlock] at hv
      · have he : g = b := by simpa [Value.ownBlock] using hv
        subst he; rw [h.err] at hh; simp at hh
    · rintro rfl; rw [h.err] at hb; cases hb; simp [tagOf] at ht
  · obtain ⟨o, h1, h2⟩ := h.bb
    exact ⟨o, hk Bb o h1 (fun e => ne.2.2.2.2.2 e.symm), h2⟩
  · rw [Joins.block_setCell h.err]; rfl

/-- the part is laid to the parts -/
theorem LdI.finish {rv0 pv' : Value} {vs0 : List Value} {q : Nat} {W2 : World} (h : LdI n V0 bl z e6 Bb bd pv G k er acc W) (hc : LdC n V0 bl z e6 Bb) (hX : LogX n V0 bl bd pv rv0 vs0 G) (hpz : pv.ownBlock ≠ some z)
    (hown' : W2.ownsRow n 159 3 pv' (G.parts.length + 1) (partCells G.parts ++ [.int .i64 k, .int .i64 (acc.length : Int), .int .i64 (sizeSum acc : Int)]))
    (hg : ((W.drewN q).alloc (.cells #[.int .i64 k, .int .i64 (acc.length : Int), .int .i64 (sizeSum acc : Int)] 159)).grownBy W2 pv.ownBlock) (hv' : pv'.ownBlock = pv.ownBlock ∨ pv'.ownBlock = some (W.heap.size + 1))
    (hfew : G.recs.length + acc.length ≤ 1099511627776 ∧ G.parts.length + 1 ≤ 1099511627776) :
    LogR n (W2.setCell ⟨bl, 3, none⟩ pv') bl bd { G with recs := G.recs ++ acc.map (·.1), parts := G.parts ++ [⟨k, acc.length, sizeSum acc⟩] } ∧
      (∀ (b : Nat) (o : Obj), W.heap[b]? = some o → b ≠ bl → pv.ownBlock ≠ some b → (W2.setCell ⟨bl, 3, none⟩ pv').heap[b]? = some o) ∧
      (∀ (b : Nat) (o : Obj), W.heap[b]? = some o → tagOf o ≠ some 143 → tagOf o ≠ some 159 → (W2.setCell ⟨bl, 3, none⟩ pv').heap[b]? = some o) := by
  obtain ⟨rv, vs, hat, hown, hrv, heach⟩ := h.log
  have hpv : ∀ (b : Nat) (o : Obj), W.heap[b]? = some o → tagOf o ≠ some 159 → pv.ownBlock ≠ some b := by
    intro b o hb ht he
    rcases hX.parts.2 with ⟨rfl, _⟩ | ⟨g, cap, cur, rfl, _, hh, _⟩
    · simp [Value.ownBlock] at he
    · simp only [Value.ownBlock, Option.some.injEq] at he
      subst he
      have := h.fr g _ hh (by rintro rfl; rw [hX.at_] at hh; simp at hh) (by rintro rfl; exact hpz rfl) (by rintro rfl; obtain ⟨c, h6⟩ := hc.e6; rw [h6] at hh; simp at hh) (.inr (by simp [tagOf]))
      rw [hb] at this; cases this; exact ht rfl
  have hk1 : ∀ (b : Nat) (o : Obj), W.heap[b]? = some o → pv.ownBlock ≠ some b → W2.heap[b]? = some o := fun b o hb hne =>
    (hg.block b (by have := heap_lt hb; simp [World.drewN]; omega) (Ne.symm hne)).trans ((Below.heap_alloc _ _ _ (heap_lt hb)).trans hb)
  have hk : ∀ (b : Nat) (o : Obj), W.heap[b]? = some o → b ≠ bl → pv.ownBlock ≠ some b → (W2.setCell ⟨bl, 3, none⟩ pv').heap[b]? = some o := fun b o hb h1 h2 => heap_setCell_ne' (hk1 b o hb h2) h1
  have hbl := heap_lt hat
  refine ⟨⟨pv', rv, vs, ⟨hX.le, ?_, ?_, ?_, ?_, ?_, hX.fst, hX.nm⟩⟩, hk, fun b o hb h1 h2 => hk b o hb (by rintro rfl; rw [hat] at hb; cases hb; exact h1 rfl) (hpv b o hb h2)⟩
  · rw [Joins.block_setCell (hk1 _ _ hat (hpv _ _ hat (by simp [tagOf])))]; rfl
  · simp only [List.length_append, List.length_singleton]
    rw [show partCells (G.parts ++ [⟨k, acc.length, sizeSum acc⟩]) = partCells G.parts ++ [.int .i64 k, .int .i64 (acc.length : Int), .int .i64 (sizeSum acc : Int)] from by rw [partCells_append]; simp [partCells, PartM.cells]]
    refine own_keep hown' fun b o hb hv _ => heap_setCell_ne' hb ?_
    rintro rfl
    rcases hv' with hv' | hv'
    · exact hpv _ _ hat (by simp [tagOf]) (hv'.symm.trans hv)
    · rw [hv] at hv'; cases hv'; omega
  · simp only [List.length_append, List.length_map]
    refine own_keep hown fun b o hb hv _ => hk b o hb ?_ (hpv b o hb ?_)
    · rintro rfl
      rcases hown.2 with ⟨rfl, _⟩ | ⟨g, cap, cur, rfl, _, hh, _⟩
      · simp [Value.ownBlock] at hv
      · simp only [Value.ownBlock, Option.some.injEq] at hv
        subst hv; rw [hat] at hh; simp at hh
    · rcases hown.2 with ⟨rfl, _⟩ | ⟨g, cap, cur, rfl, _, hh, _⟩
      · simp [Value.ownBlock] at hv
      · simp only [Value.ownBlock, Option.some.injEq] at hv
        subst hv; rw [hb] at hh; cases hh; simp [tagOf]
  · intro j v l hv hl
    refine (heach j v l hv hl).keeps fun b o hb ht => hk b o hb ?_ (hpv b o hb (by rw [ht]; simp))
    rintro rfl; rw [hat] at hb; cases hb; simp [tagOf] at ht
  · simp only [List.length_append, List.length_map, List.length_singleton]; exact hfew

/-- a function whose body is walked plain, with marks among its deferred calls -/
theorem calls_of_marks_p {P : Program} {f : FuncId} {fn : Func} {c : Code} {args : Array Value} {w : World} {R : Ending → World → Prop} (m : Nat)
    (hf : P.funcs[f]? = some fn) (hb : fn.body = some c)
    (h : c.wp P (bodyPostM Fence.wide m P fn R) { tmps := args ++ Array.replicate (fn.ntmps - args.size) undef, defers := [] } w) : Calls P f args w R :=
  callsIn_wide.1 (callsIn_of_wp_marks (n := m) hf hb trivial (wpIn_wide.2 h) rfl)
theorem marks_ret0 {m : Nat} {P : Program} {fn : Func} {R : Ending → World → Prop} {a : Act} {w : World} {v : Value} (hr : (results fn a.tmps).run P w = .ok v w) (hd : a.defers = []) (h : R (.returned v) w) : bodyPostM Fence.wide m P fn R .ret a w := by
  show LeavesInM Fence.wide m P fn a.tmps R a.defers .returning w
  rw [hd]
  exact ⟨v, hr, h⟩
theorem marks_ret1 {m b : Nat} {P : Program} {fn : Func} {R : Ending → World → Prop} {a : Act} {w : World} {v : Value} {ar : Array Value} (hK : w.heap[b]? = some (.deferred (some []))) (hr : (results fn a.tmps).run P (w.putObj b (.deferred none)) = .ok v (w.putObj b (.deferred none)))
    (hd : a.defers = [{ target := .collected b, args := ar }]) (h : R (.returned v) (w.putObj b (.deferred none))) : bodyPostM Fence.wide m P fn R .ret a w := by
  show LeavesInM Fence.wide m P fn a.tmps R a.defers .returning w
  rw [hd]
  exact ⟨by simp, .inl ⟨_, _, rfl, run_takeDeferred hK, v, hr, h⟩⟩

def LdIn (n : Nat) (V0 : World) (bl z e6 Bb bd : Nat) (pv : Value) (G : LogM) (k : Int) (acc : List FrI) (W : World) : Prop :=
  LdI n V0 bl z e6 Bb bd pv G k 0 acc W ∧ ∀ y ∈ acc, y.2.2.1 = 0 ∧ y.1.length ≤ 1073741824
def LdIx (n : Nat) (V0 : World) (bl z e6 Bb bd : Nat) (pv : Value) (G : LogM) (k : Int) (last : Bool) : Code → List FrI → World → Prop
  | .exit 0, acc, W => ∃ pre x, acc = pre ++ [x] ∧ LdI n V0 bl z e6 Bb bd pv G k 0 pre W ∧ (∀ y ∈ pre, y.2.2.1 = 0 ∧ y.1.length ≤ 1073741824) ∧ x.2.2.1 = 10 ∧ last = true
  | .ret, acc, W => ∃ pre x, acc = pre ++ [x] ∧ LdI n V0 bl z e6 Bb bd pv G k 34 pre W ∧ (∀ y ∈ pre, y.2.2.1 = 0 ∧ y.1.length ≤ 1073741824) ∧ x.2.2.1 ≠ 0 ∧ ¬(x.2.2.1 = 10 ∧ last = true)
  | _, _, _ => False
theorem LdIx.step {last : Bool} (hc : LdC n V0 bl z e6 Bb) (hk : Kp2 V0.heap.size Bb W W') (c : Code) (h : LdIx n V0 bl z e6 Bb bd pv G k last c acc W) : LdIx n V0 bl z e6 Bb bd pv G k last c acc W' := by
  unfold LdIx at h ⊢
  split at h
  · obtain ⟨pre, x, rfl, h1, h2⟩ := h
    exact ⟨pre, x, rfl, h1.step hc hk, h2⟩
  · obtain ⟨pre, x, rfl, h1, h2⟩ := h
    exact ⟨pre, x, rfl, h1.step hc hk, h2⟩
  · exact h.elim

/-- load's loop -/
theorem load_loop {m : Nat} {g : Operand} {ps : Array Tmp} {assign body : Code} {Q : Exit → Act → World → Prop} {a : Act} {last : Bool} {A : Option Addr} {cap : Nat} {l : List UInt8}
    (hg : a.eval g = .func (.func 131) #[] #[.pointer (some ⟨Bb, 0, none⟩)]) (hps : ps.size = 2)
    (hc : LdC n V0 bl z e6 Bb) (hB : V0.heap[Bb]? = some (.cells #[.slice A l.length cap] 29 (0, 0))) (hr : Bs 5 V0 (.slice A l.length cap) l) (hl : l.length ≤ 1073741824)
    (h0 : LdI n V0 bl z e6 Bb bd pv G k 0 [] V0)
    (hround : ∀ (rec : Loop) (pre : List FrI) (x : FrI) (W : World), pre.length ≤ l.length → W.heap[V0.heap.size + 1]? = some (.loop rec) → W.heap[V0.heap.size]? = some (.deferred (some [])) →
      LdI n V0 bl z e6 Bb bd pv G k 0 pre W → (∀ y ∈ pre, y.2.2.1 = 0 ∧ y.1.length ≤ 1073741824) → Bs 5 W x.2.2.2 x.1 → x.1.length ≤ 1073741824 →
      assign.wpIn (Fence.wide.inRound (V0.heap.size + 1)) (m - 1 - 1) Tryz.prog (Exit.then (fun a₁ W1 => W1.heap[V0.heap.size + 1]? = some (.loop rec) ∧
          body.wpIn (Fence.wide.inRound (V0.heap.size + 1)) (m - 1 - 1) Tryz.prog (RoundPost V0 rec (LdIn n V0 bl z e6 Bb bd pv G k) (LdIx n V0 bl z e6 Bb bd pv G k last) (KpF Bb) (pre ++ [x]) W) a₁ (W1.putObj (V0.heap.size + 1) (.loop { rec with state := .busy }))) (fun _ _ _ => False))
        { tmps := (ps.zip (encF x)).foldl (fun t (p, v) => t.setIfInBounds p v) a.tmps, defers := [] } W)
    (hend : ∀ (e : Exit) (acc : List FrI) (W : World), (e = .normal ∨ e = .exit 0) → LdI n V0 bl z e6 Bb bd pv G k 0 acc W → (∀ y ∈ acc, y.1.length ≤ 1073741824) → acc.length ≤ l.length + 1 → scanS last (seqF (l.length + 1) l) = some (acc.map (·.1), sizeSum acc) →
      W.heap[V0.heap.size]? = some (.deferred (some [])) → Q e { a with defers := { target := .collected V0.heap.size, args := #[] } :: a.defers } W)
    (hret : ∀ (acc : List FrI) (W : World), LdI n V0 bl z e6 Bb bd pv G k 34 acc W → scanS last (seqF (l.length + 1) l) = none →
      W.heap[V0.heap.size]? = some (.deferred (some [])) → Q .ret { a with defers := { target := .collected V0.heap.size, args := #[] } :: a.defers } W) :
    (Code.rangeFunc g ps assign body).wpIn Fence.wide m Tryz.prog Q a V0 := by
  have lt := hc.lt
  have seqlen : ∀ (f : Nat) (l : List UInt8), (seqF f l).length ≤ f := by
    intro f
    induction f with
    | zero => intro l; simp [seqF]
    | succ f ih =>
      intro l
      unfold seqF
      split
      · simp
      split
      · have := ih (l.drop (nextB l).2.1); simp only [List.length_cons]; omega
      · simp
  refine range_stops hg (enters_of Tryz.func131 (by kernel_rfl) rfl) (enc := encF) (fun x => by rw [hps]; rfl) (frames_iter _ V0 Bb A cap l hB hr hl)
    (fun W hb => ⟨⟨hb.os, hb.tape, hb.output, hb.size, fun q hq _ => hb.block q hq⟩, fun o ho => ⟨o, (hb.block _ (heap_lt ho)).trans ho, rfl⟩⟩)
    (fun W1 W2 q o hA hq _ ho _ => (hA.1.block q (heap_lt ho) (by simp; omega)).trans ho)
    (fun W1 W2 hA => hA.1.size) (fun {X Y Z} h1 h2 q o ho hq => ?_) (fun W q o o' hq hq2 ho hoc b o'' hb hb2 => ?_)
    (LdIn n V0 bl z e6 Bb bd pv G k) (LdIx n V0 bl z e6 Bb bd pv G k last) ⟨h0, by simp⟩
    (fun acc W1 W2 h hA => ⟨h.1.step hc (Kp2.of_ab hA), h.2⟩) (fun c acc W1 W2 h hA => LdIx.step hc (Kp2.of_ab hA) c h)
    (fun acc W q o o' h h1 h2 ho hoc => ⟨h.1.step hc (Kp2.of_put ho hoc h1 lt.2.2.2), h.2⟩) (fun c acc W q o o' h h1 h2 ho hoc => LdIx.step hc (Kp2.of_put ho hoc h1 lt.2.2.2) c h) ?_ ?_ ?_
  · exact h2 q o (h1 q o ho hq) hq
  · refine (World.putObj_heap_other ?_).trans hb
    rintro rfl
    rw [ho] at hb; cases hb
    rcases hb2 with hb2 | hb2
    · have := lt.2.2.2; omega
    · cases o <;> simp [tagOf, Obj.isCells] at hb2 hoc
  · intro rec pre x W0 W hpl hlp hdf hI hA hs hp
    exact hround rec pre x W (by omega) hlp hdf (hI.1.step hc (Kp2.of_ab hA)) hI.2 hp.1 hp.2
  · intro xs W hF hI hd
    refine hend .normal xs W (.inl rfl) hI.1 (fun y hy => (hI.2 y hy).2) ?_ (scan_all hF fun y hy => (hI.2 y hy).1) hd
    have := seqlen (l.length + 1) l
    unfold FinF at hF
    rw [← hF, List.length_map] at this
    exact this
  · intro c xs W hF hI hd
    unfold LdIx at hI
    split at hI
    · obtain ⟨pre, x, rfl, h1, h2, h3, h4⟩ := hI
      refine wpIn_exit ?_
      refine hend (.exit 0) pre W (.inr rfl) h1 (fun y hy => (h2 y hy).2) ?_ ?_ hd
      · have := seqlen (l.length + 1) l
        have h5 := hF.length_le
        rw [List.length_map, List.length_append] at h5
        omega
      · rw [scan_left hF (fun y hy => (h2 y hy).1) (by omega), if_pos ⟨h3, h4⟩]
    · obtain ⟨pre, x, rfl, h1, h2, h3, h4⟩ := hI
      refine wpIn_ret ?_
      exact hret pre W h1 (by rw [scan_left hF (fun y hy => (h2 y hy).1) h3, if_neg h4]) hd
    · exact hI.elim
end
end Go.Proofs.YtnljhabpcoiihaaGreatDoor
