/- The reference's Open. -/
import Derived.Test.YtjpcmgoajdjkgaaGreatDoorROpP
import Derived.Test.YtjpcmgoajdjkgaaGreatDoorRWhW
import Derived.Test.YtjpcmgoajdjkgaaGreatDoorRDsk
import Derived.Test.YtjpcmgoajdjkgaaGreatDoorRRead
import Derived.Test.YtjpcmgoajdjkgaaGreatDoorRTru
import Derived.Test.YtjpcmgoajdjkgaaGreatDoorRApp
set_option linter.all false
namespace Go.Proofs.YtjpcmgoajdjkgaaGreatDoor
open Go.RowKit
open Wal (nextB fileB)

abbrev TRf : List (Option TypeId) := [some 81, some 89]
theorem Turn.low {n : Nat} {T : List (Option TypeId)} {a w w' : World} (h : Turn n T a w) (k : Below a.heap.size w w') : Turn n T a w' :=
  ⟨k.os.trans h.os, k.tape.trans h.tape, k.output.trans h.output, Nat.le_trans h.size k.size, fun b o hb hc => (k.block b (heap_lt hb)).trans (h.block b o hb hc)⟩

/-- the reference's log, written out -/
structure RLogX (m : Nat) (w : World) (g rd : Nat) (lv bv : Value) (ns : Nat) (xs vs : List Value) (name : List UInt8) (most : Int) (G : LogM) : Prop where
  le : m ≤ g
  at_ : w.heap[g]? = some (.cells #[.pointer (some ⟨rd, 0, none⟩), .string ⟨name.toArray⟩, .int .i64 most, lv, bv, .int .i64 G.first, .bool false] 100 (0, 0))
  segs : w.ownsRow m 103 3 lv ns xs
  row : w.ownsRow m 22 1 bv G.recs.length vs
  each : ∀ (k : Nat) (v : Value) (l : List UInt8), vs[k]? = some v → G.recs[k]? = some l → Bs 5 w v l
def RLogR (m : Nat) (w : World) (g : Nat) (G : LogM) : Prop := ∃ rd lv bv ns xs vs name most, RLogX m w g rd lv bv ns xs vs name most G
theorem RLogX.keeps {m : Nat} {w w' : World} {g rd : Nat} {lv bv : Value} {ns : Nat} {xs vs : List Value} {name : List UInt8} {most : Int} {G : LogM} (h : RLogX m w g rd lv bv ns xs vs name most G)
    (hk : ∀ (b : Nat) (o : Obj), w.heap[b]? = some o → (tagOf o = some 100 ∨ tagOf o = some 103 ∨ tagOf o = some 22 ∨ tagOf o = some 5) → w'.heap[b]? = some o) : RLogX m w' g rd lv bv ns xs vs name most G :=
  ⟨h.le, hk _ _ h.at_ (.inl rfl), own_keeps h.segs fun b o hb ht => hk b o hb (.inr (.inl ht)), own_keeps h.row fun b o hb ht => hk b o hb (.inr (.inr (.inl ht))),
    fun k v l hv hl => (h.each k v l hv hl).keeps fun b o hb ht => hk b o hb (.inr (.inr (.inr ht)))⟩
theorem RLogX.turn {m : Nat} {w w' : World} {g rd : Nat} {lv bv : Value} {ns : Nat} {xs vs : List Value} {name : List UInt8} {most : Int} {G : LogM} (h : RLogX m w g rd lv bv ns xs vs name most G) {n : Nat} (ht : Turn n TRf w w') : RLogX m w' g rd lv bv ns xs vs name most G :=
  h.keeps fun b o hb hc => ht.block b o hb (.inr (by rcases hc with hc | hc | hc | hc <;> rw [hc] <;> simp [TRf]))
theorem RLogX.below {m : Nat} {w w' : World} {g rd : Nat} {lv bv : Value} {ns : Nat} {xs vs : List Value} {name : List UInt8} {most : Int} {G : LogM} (h : RLogX m w g rd lv bv ns xs vs name most G) (hb : Below w.heap.size w w') : RLogX m w' g rd lv bv ns xs vs name most G :=
  h.keeps fun b o h1 _ => (hb.block b (heap_lt h1)).trans h1

def intsV (l : List Int) : List Value := l.map (Value.int .i64)
theorem app_ints (W : World) (base : Nat) (v : Value) (xs : List Int) (n : Nat) (hn : n = xs.length) (hown : W.ownsRow base 3 1 v n (intsV xs)) (hb : base ≤ W.heap.size) (A : Option Addr) (m c : Nat) (ys : List Int) (hm : m = ys.length)
    (hr : Rd 0 W A (intsV ys)) (h1 : xs.length ≤ 1048576) (h2 : ys.length ≤ 1048576) :
    ∃ v' W2, (Builtin.append_ #[34, 34] 34 #[v, .slice A m c]).run Tryz.prog W = .ok v' W2 ∧ W2.ownsRow base 3 1 v' (xs ++ ys).length (intsV (xs ++ ys)) ∧ W.grownBy W2 v.ownBlock ∧ Below base W W2 := by
  obtain ⟨iI, hiI, hz0, hz1, hz2⟩ := info_int
  subst hm hn
  obtain ⟨v', W2, happ, hown', hgrow', hblk'⟩ := run_append_rd (P := Tryz.prog) W base 34 34 3 iI _ 1 8 Tryz.underlying34 hiI hz0 hz1 hz2 rfl (by decide) v xs.length (intsV xs)
    hown 0 A ys.length c (intsV ys) (by simp [intsV]) hr (by intro u hu; obtain ⟨x, _, rfl⟩ := List.mem_map.1 hu; rfl) (by unfold maxLen; omega) (by omega) hb (by
      intro h; have := hr.none_len h
      simpa [intsV] using this)
  refine ⟨v', W2, happ, ?_, hgrow', own_belw hown hgrow' (Nat.le_refl _) hb⟩
  rw [List.length_append, show intsV (xs ++ ys) = intsV xs ++ intsV ys by simp [intsV]]
  exact hown'
theorem wp_app_ints {o : Oper} {a : Act} {W : World} {K : Act → World → Prop} {Q : Exit → Act → World → Prop} (s x : Operand)
    (ho : o.op = .call { callee := .builtin .append, args := #[s, x], argTypes := #[34, 34] }) (hty : o.type = 34) (base : Nat) (v : Value) (xs : List Int) (n : Nat) (hn : n = xs.length) (hs : a.eval s = v)
    (hown : W.ownsRow base 3 1 v n (intsV xs)) (hb : base ≤ W.heap.size) (A : Option Addr) (m c : Nat) (ys : List Int) (hm : m = ys.length) (hx : a.eval x = .slice A m c)
    (hr : Rd 0 W A (intsV ys)) (h1 : xs.length ≤ 1048576) (h2 : ys.length ≤ 1048576)
    (h : ∀ v' W2, W2.ownsRow base 3 1 v' (xs ++ ys).length (intsV (xs ++ ys)) → W.grownBy W2 v.ownBlock → Below base W W2 → K (a.put o.dst v') W2) : o.wp Tryz.prog a W K Q := by
  obtain ⟨v', W2, happ, k1, k2, k3⟩ := app_ints W base v xs n hn hown hb A m c ys hm hr h1 h2
  exact wp_append_run s x _ ho _ _ hs hx (by rw [hty]; exact happ) (h v' W2 k1 k2 k3)
theorem alloc_at (w : World) (o : Obj) : (w.alloc o).drew.heap[w.heap.size]? = some o := heap_alloc_new w o
theorem alloc_at0 (w : World) (o o2 : Obj) : ((w.alloc o).alloc o2).drew.heap[w.heap.size]? = some o := (Below.heap_alloc (w.alloc o) o2 _ (by simp)).trans (heap_alloc_new w o)
theorem alloc_at1 (w : World) (o o2 : Obj) : ((w.alloc o).alloc o2).drew.heap[w.heap.size + 1]? = some o2 := by
  have := heap_alloc_new (w.alloc o) o2
  rw [World.size_alloc] at this
  exact this
theorem own_zero {W : World} {base blk : Nat} (h : W.heap[blk]? = some (.cells #[] 3 (0, 0))) (hb : base ≤ blk) : W.ownsRow base 3 1 (.slice (some ⟨blk, 0, none⟩) 0 0) 0 (intsV []) :=
  ⟨rfl, .inr ⟨blk, 0, #[], rfl, hb, h, Nat.le_refl _, by simp [maxLen], by simp, by simp [intsV]⟩⟩
theorem rd_at {W : World} {blk : Nat} {x : Value} {T : TypeId} (h : W.heap[blk]? = some (.cells #[x] T (0, 0))) : Rd 0 W (some ⟨blk, 0, none⟩) [x] :=
  .inr ⟨blk, 0, Nat.zero_le _, rfl, fun k hk => by
    obtain rfl : k = 0 := by simpa using hk
    rw [Joins.cell_of_block h]; rfl⟩

abbrev TRl : List (Option TypeId) := [some 100, some 103, some 22]
theorem own_turned {W W' : World} {m n : Nat} {e : TypeId} {size : Nat} {v : Value} {xs : List Value} (h : W.ownsRow m e size v n xs) (hg : W.grownBy W' v.ownBlock) : Turn m [some e] W W' :=
  (Turn.refl m _ W).grown hg fun r hr => by
    obtain ⟨_, ⟨h1, _⟩ | ⟨g, cap, cur, hv, hgm, hh, _⟩⟩ := h
    · subst h1; cases hr
    · subst hv; cases hr
      exact ⟨hgm, fun o ho => by rw [hh] at ho; cases ho; simp [tagOf]⟩
section
variable {m : Nat} {W W2 : World} {g rd : Nat} {lv bv : Value} {ns : Nat} {xs vs : List Value} {name : List UInt8} {most : Int} {G : LogM}
theorem RLogX.other (h : RLogX m W g rd lv bv ns xs vs name most G) {w' : World} (hw : w'.heap[g]? = W.heap[g]?) {u : Value} {i : Nat} {b : Nat} {o : Obj} (hb : w'.heap[b]? = some o) (ht : tagOf o ≠ some 100) : (w'.setCell ⟨g, i, none⟩ u).heap[b]? = some o :=
  heap_setCell_ne hb (by rintro rfl; rw [hw, h.at_] at hb; cases hb; exact ht rfl)
theorem RLogX.setFrom (h : RLogX m W g rd lv bv ns xs vs name most G) (k : Int) :
    RLogX m (W.setCell ⟨g, 5, none⟩ (.int .i64 k)) g rd lv bv ns xs vs name most { G with first := k } ∧ Turn m TRl W (W.setCell ⟨g, 5, none⟩ (.int .i64 k)) := by
  have ho : ∀ (b : Nat) (o : Obj), W.heap[b]? = some o → tagOf o ≠ some 100 → (W.setCell ⟨g, 5, none⟩ (.int .i64 k)).heap[b]? = some o := fun b o hb ht => h.other rfl hb ht
  exact ⟨⟨h.le, by rw [Joins.block_setCell h.at_]; rfl, own_keeps h.segs fun b o hb ht => ho b o hb (by rw [ht]; simp), own_keeps h.row fun b o hb ht => ho b o hb (by rw [ht]; simp),
    fun k v l hv hl => (h.each k v l hv hl).keeps fun b o hb ht => ho b o hb (by rw [ht]; simp)⟩, (Turn.refl _ _ _).setCell h.at_ h.le (by simp) 5 _⟩
theorem RLogX.addRec (h : RLogX m W g rd lv bv ns xs vs name most G) (hT : Turn m [some 22] W W2) {bv' v : Value} {l : List UInt8} (hrow : W2.ownsRow m 22 1 bv' (G.recs.length + 1) (vs ++ [v])) (hb : Bs 5 W2 v l) :
    RLogX m (W2.setCell ⟨g, 4, none⟩ bv') g rd lv bv' ns xs (vs ++ [v]) name most { G with recs := G.recs ++ [l] } ∧ Turn m TRl W (W2.setCell ⟨g, 4, none⟩ bv') := by
  have hat : W2.heap[g]? = some (.cells #[.pointer (some ⟨rd, 0, none⟩), .string ⟨name.toArray⟩, .int .i64 most, lv, bv, .int .i64 G.first, .bool false] 100 (0, 0)) := hT.block g _ h.at_ (.inr (by simp [tagOf]))
  have ho : ∀ (b : Nat) (o : Obj), W2.heap[b]? = some o → tagOf o ≠ some 100 → (W2.setCell ⟨g, 4, none⟩ bv').heap[b]? = some o := fun b o hb ht => h.other (by rw [hat, h.at_]) hb ht
  have hlen : vs.length = G.recs.length := by have := h.row.1; omega
  refine ⟨⟨h.le, by rw [Joins.block_setCell hat]; rfl, own_keeps h.segs fun b o hb ht => ho b o (hT.block b o hb (.inr (by rw [ht]; simp))) (by rw [ht]; simp), ?_, fun k u r hu hr => ?_⟩, (hT.mono (Nat.le_refl _) (by simp)).setCell hat h.le (by simp) 4 _⟩
  · rw [show ({ G with recs := G.recs ++ [l] } : LogM).recs.length = G.recs.length + 1 by simp]
    exact own_keeps hrow fun b o hb ht => ho b o hb (by rw [ht]; simp)
  · have key : Bs 5 W2 u r := by
      rcases Nat.lt_or_ge k vs.length with hk | hk
      · rw [List.getElem?_append_left hk] at hu
        rw [List.getElem?_append_left (by omega)] at hr
        exact (h.each k u r hu hr).turn hT (by simp)
      · rw [List.getElem?_append_right hk] at hu
        rw [List.getElem?_append_right (by omega)] at hr
        have hk0 : k - vs.length = 0 := by
          rcases Nat.eq_zero_or_pos (k - vs.length) with h0 | h0
          · exact h0
          · rw [List.getElem?_eq_none (by simp; omega)] at hu; cases hu
        rw [hk0] at hu
        rw [show k - G.recs.length = 0 by omega] at hr
        simp at hu hr
        subst hu hr
        exact hb
    exact key.keeps fun b o hb ht => ho b o hb (by rw [ht]; simp)
theorem RLogX.addSeg (h : RLogX m W g rd lv bv ns xs vs name most G) (hT : Turn m [some 103] W W2) {lv' : Value} {ns' : Nat} {xs' : List Value} (hrow : W2.ownsRow m 103 3 lv' ns' xs') (P : List PartM) :
    RLogX m (W2.setCell ⟨g, 3, none⟩ lv') g rd lv' bv ns' xs' vs name most { G with parts := P } ∧ Turn m TRl W (W2.setCell ⟨g, 3, none⟩ lv') := by
  have hat : W2.heap[g]? = some (.cells #[.pointer (some ⟨rd, 0, none⟩), .string ⟨name.toArray⟩, .int .i64 most, lv, bv, .int .i64 G.first, .bool false] 100 (0, 0)) := hT.block g _ h.at_ (.inr (by simp [tagOf]))
  have ho : ∀ (b : Nat) (o : Obj), W2.heap[b]? = some o → tagOf o ≠ some 100 → (W2.setCell ⟨g, 3, none⟩ lv').heap[b]? = some o := fun b o hb ht => h.other (by rw [hat, h.at_]) hb ht
  exact ⟨⟨h.le, by rw [Joins.block_setCell hat]; rfl, own_keeps hrow fun b o hb ht => ho b o hb (by rw [ht]; simp), own_keeps h.row fun b o hb ht => ho b o (hT.block b o hb (.inr (by rw [ht]; simp))) (by rw [ht]; simp),
    fun k v l hv hl => ((h.each k v l hv hl).turn hT (by simp)).keeps fun b o hb ht => ho b o hb (by rw [ht]; simp)⟩, (hT.mono (Nat.le_refl _) (by simp)).setCell hat h.le (by simp) 3 _⟩
end
theorem RLogX.setZ {m : Nat} {W : World} {g rd : Nat} {lv bv : Value} {ns : Nat} {xs vs : List Value} {name : List UInt8} {most : Int} {G : LogM} (h : RLogX m W g rd lv bv ns xs vs name most G) {z : Nat} {c : Array Value} {f : Nat × Nat} (hz : W.heap[z]? = some (.cells c 103 f)) (hs : lv.ownBlock ≠ some z) (i : Nat) (u : Value) :
    RLogX m (W.setCell ⟨z, i, none⟩ u) g rd lv bv ns xs vs name most G := by
  have ho : ∀ (b : Nat) (o : Obj), W.heap[b]? = some o → tagOf o ≠ some 103 → (W.setCell ⟨z, i, none⟩ u).heap[b]? = some o := fun b o hb ht => heap_setCell_ne hb (by rintro rfl; rw [hz] at hb; cases hb; exact ht rfl)
  refine ⟨h.le, ho _ _ h.at_ (by simp [tagOf]), ?_, own_keeps h.row fun b o hb ht => ho b o hb (by rw [ht]; simp), fun k v l hv hl => (h.each k v l hv hl).keeps fun b o hb ht => ho b o hb (by rw [ht]; simp)⟩
  obtain ⟨hl, h1 | ⟨g', cap, cur, hv, hg, hh, r⟩⟩ := h.segs
  · exact ⟨hl, .inl h1⟩
  · refine ⟨hl, .inr ⟨g', cap, cur, hv, hg, heap_setCell_ne hh (by rintro rfl; rw [hv] at hs; exact hs rfl), r⟩⟩
theorem RdX.turnL {n m : Nat} {w w' : World} {rd : Nat} {room N : Int} {lv : Value} {es : List (FileM × Value)} (h : RdX n w rd room N lv es) (ht : Turn m TRl w w') : RdX n w' rd room N lv es :=
  h.keeps fun b o hb hc => ht.block b o hb (.inr (by rcases hc with hc | hc | hc <;> rw [hc] <;> simp [TRl]))

theorem at0_name (G : LogM) (k : Nat) (x : Int) : (G.at0 k x).name = G.name := by unfold LogM.at0; split <;> rfl
theorem at0_recs (G : LogM) (k : Nat) (x : Int) : (G.at0 k x).recs = G.recs := by unfold LogM.at0; split <;> rfl
def ROpenPost (n rd : Nat) (room : Int) (w : World) (R : DiskM × Option LogM × Int) (e : Ending) (w' : World) : Prop :=
  (match R.2.1 with
    | some G => ∃ g, e = .returned (.tuple #[.pointer (some ⟨g, 0, none⟩), .int .i64 0]) ∧ RLogR w.heap.size w' g G
    | none => e = .returned (.tuple #[.pointer none, .int .i64 R.2.2])) ∧
  (∃ N' lv' es', RdX n w' rd room N' lv' es' ∧ es'.length ≤ 16 ∧ Agree R.1 (es'.map (·.1))) ∧ Turn n TRf w w'
theorem post_err {n rd : Nat} {room : Int} {w W : World} {R : DiskM × Option LogM × Int} {D2 : DiskM} {c : Int} {N : Int} {lv : Value} {es : List (FileM × Value)} (hR : R = (D2, none, c)) (hX : RdX n W rd room N lv es) (he : es.length ≤ 16) (hA : Agree D2 (es.map (·.1))) (hT : Turn n TRf w W) :
    ROpenPost n rd room w R (.returned (.tuple #[.pointer none, .int .i64 c])) W := by
  subst hR
  exact ⟨rfl, ⟨_, _, _, hX, he, hA⟩, hT⟩
theorem step_bad {k : Int} {r : List Int} {i : Nat} {D D' : DiskM} {G G' : LogM} {c : Int} {R : DiskM × Option LogM × Int} {l : List Int} (hrest : openAll l i D G = R) (hl : l = k :: r) (h : LogM.load D (G.at0 i k) k r.isEmpty = (D', G', c)) (hc : c ≠ 0) : R = (D', none, c) := by
  rw [← hrest, hl, openAll_bad h hc]

/-- Open's second loop -/
structure RopI (n m rd g : Nat) (room : Int) (name : List UInt8) (most : Int) (R : DiskM × Option LogM × Int) (zs : List Int) (zv : Value) (w0 : World) (k : Nat) (N : Int) (lv : Value) (es : List (FileM × Value)) (D : DiskM) (G : LogM) (slv bv : Value) (ns : Nat) (xs vs : List Value) (W : World) : Prop where
  disk : RdX n W rd room N lv es
  few : es.length ≤ 16
  good : GoodD D
  agree : Agree D (es.map (·.1))
  log : RLogX m W g rd slv bv ns xs vs name most G
  nm : G.name = name
  none : k = 0 → G.recs = []
  many : G.recs.length ≤ manyR k ∧ ns ≤ k
  fst : 0 ≤ G.first ∧ G.first ≤ 1000000000
  rest : openAll (zs.drop k) k D G = R
  ints : W.ownsRow m 3 1 zv zs.length (intsV zs)
  turn : Turn n TRf w0 W
  size : m ≤ W.heap.size
  base : w0.heap.size = m

theorem step_plainly {P : Program} {ops : Array Oper} {o : Oper} {a : Act} {w : World} {K : Act → World → Prop} {Q : Exit → Act → World → Prop} {E : Prop} (hgd : o.guard = none) (h : Oper.wp P o a w K Q) : if Region.wanted o (yielded ops a.tmps) = true then Oper.wp P o a w K Q else E := by
  rw [if_pos (by simp [Region.wanted, hgd])]; exact h
theorem info_seg : ∃ i0, Tryz.prog.info? 103 = some i0 ∧ i0.zero = some (.agg #[.int .i64 0, .int .i64 0, .int .i64 0]) ∧ i0.size = 3 ∧ i0.bytes = 24 :=
  info_parts (show (Tryz.prog.info? 103).map (fun i => (i.zero, i.size, i.bytes)) = some (some (.agg #[.int .i64 0, .int .i64 0, .int .i64 0]), 3, 24) by kernel_rfl)
theorem FirstAt.uniq {es : List (FileM × Value)} {s : List UInt8} {i j : Nat} (h : FirstAt es s i) (k : FirstAt es s j) : i = j := by
  obtain ⟨h1, h2, h3⟩ := h
  obtain ⟨k1, k2, k3⟩ := k
  rcases Nat.lt_trichotomy i j with h | h | h
  · exact absurd h2 (k3 i h)
  · exact h
  · exact absurd k2 (h3 j h)
def segSz (W : World) (z : Nat) : Nat := match W.cell? ⟨z, 2, none⟩ with | some (.int _ v) => v.toNat | _ => 0
/-- Open's inmost loop -/
structure RinI (m rd g z : Nat) (name : List UInt8) (most : Int) (slv : Value) (ns : Nat) (xs : List Value) (last : Bool) (kz : Int) (b : List UInt8) (v : Value) (G : LogM) (w7 : World) (acc : List (List UInt8)) (sz : Nat) (bv : Value) (vs : List Value) (W : World) : Prop where
  seg : W.heap[z]? = some (.cells #[.int .i64 kz, .int .i64 (acc.length : Int), .int .i64 (sz : Int)] 103 (0, 0))
  log : RLogX m W g rd slv bv ns xs vs name most { G with recs := G.recs ++ acc }
  scan : scanI last b acc sz
  bs : Bs 5 W v b
  turn : Turn m TRl w7 W
  le : m ≤ z
  sep : slv.ownBlock ≠ some z
theorem segSz_eq {m rd g z : Nat} {name : List UInt8} {most : Int} {slv : Value} {ns : Nat} {xs : List Value} {last : Bool} {kz : Int} {b : List UInt8} {v : Value} {G : LogM} {w7 : World} {acc : List (List UInt8)} {sz : Nat} {bv : Value} {vs : List Value} {W : World}
    (h : RinI m rd g z name most slv ns xs last kz b v G w7 acc sz bv vs W) : segSz W z = sz := by
  unfold segSz
  rw [Joins.cell_of_block h.seg]
  simp
end Go.Proofs.YtjpcmgoajdjkgaaGreatDoor
