/- Words for memory that this claim's walks share: a slice that reads as a list of cells, bytes, and an append onto a row of the call's own. -/
import Derived.WalkKit
import Derived.LoopTactic
import Derived.Below
import Derived.Laws.OwnMore
import Derived.Laws.NewBlocks
import Derived.Deep.AppendLies
import Derived.Deep.Draws
import Derived.Maps.AppendAt
import Derived.OwnWalk
import Derived.Lib.SliceRun
import Derived.Lib.SmallJoins
import Derived.Lib.Hide
import Derived.Deep.QuietTactic
import Derived.BigQuiet
import Derived.StillTailTactics
import Derived.Deep.RegionHeld3
import Derived.WalkLawsBesides
import Derived.WalkSpells
import Derived.Recover
import Derived.Defers
import Derived.IntWalk
import Derived.Laws.Rows
import Derived.Lib.SlBytesConst
import Derived.Laws.CopyOwn
import Derived.Deep.DeepFit
set_option linter.all false
namespace Go.Proofs.YtnljhabpcoiihaaGreatDoor
open Go.RowKit

/-- the slice that starts at A reads, in w, as these cells, and they lie in blocks from n on (nothing is asked of the address of an empty one) -/
def Rd (n : Nat) (w : World) (A : Option Addr) (xs : List Value) : Prop :=
  xs = [] ∨ ∃ b o, n ≤ b ∧ A = some ⟨b, o, none⟩ ∧ ∀ k, k < xs.length → w.cell? ⟨b, o + k, none⟩ = xs[k]?

theorem cell_lt {w : World} {b o : Nat} {s : Option Nat} {v : Value} (h : w.cell? ⟨b, o, s⟩ = some v) : b < w.heap.size := by
  rcases Nat.lt_or_ge b w.heap.size with hlt | hge
  · exact hlt
  · simp [World.cell?, Array.getElem?_eq_none hge] at h

theorem Rd.nil (n : Nat) (w : World) (A : Option Addr) : Rd n w A [] := .inl rfl

theorem Rd.keep {n : Nat} {w w' : World} {A : Option Addr} {xs : List Value} (h : Rd n w A xs)
    (hk : ∀ b o v, n ≤ b → w.cell? ⟨b, o, none⟩ = some v → w'.cell? ⟨b, o, none⟩ = some v) : Rd n w' A xs := by
  rcases h with h | ⟨b, o, hn, rfl, h⟩
  · exact .inl h
  · refine .inr ⟨b, o, hn, rfl, fun k hlt => ?_⟩
    have := h k hlt
    rw [List.getElem?_eq_getElem hlt] at this ⊢
    exact hk _ _ _ hn this

theorem Rd.below {n : Nat} {w w' : World} {A : Option Addr} {xs : List Value} (h : Rd n w A xs) (hb : Below w.heap.size w w') : Rd n w' A xs :=
  h.keep fun b o _ _ hv => (hb.cell (p := ⟨b, o, none⟩) (cell_lt hv)).trans hv

theorem Rd.mono {n n' : Nat} {w : World} {A : Option Addr} {xs : List Value} (h : Rd n w A xs) (hn : n' ≤ n) : Rd n' w A xs := by
  rcases h with h | ⟨b, o, hb, r⟩
  · exact .inl h
  · exact .inr ⟨b, o, Nat.le_trans hn hb, r⟩

theorem Rd.alloc {n : Nat} {w : World} {A : Option Addr} {xs : List Value} (h : Rd n w A xs) (o : Obj) : Rd n (w.alloc o) A xs :=
  h.below ((Below.refl _ _).alloc (Nat.le_refl _) _)

theorem Rd.drew {n : Nat} {w : World} {A : Option Addr} {xs : List Value} (h : Rd n w A xs) : Rd n w.drew A xs := h
theorem Rd.drewN {n : Nat} {w : World} {A : Option Addr} {xs : List Value} (h : Rd n w A xs) (k : Nat) : Rd n (w.drewN k) A xs := h

theorem Rd.setCell {n : Nat} {w : World} {A : Option Addr} {xs : List Value} (h : Rd n w A xs) {p : Addr} (hp : p.block < n) (v : Value) : Rd n (w.setCell p v) A xs :=
  h.keep fun b o u hn hu => (World.cell?_setCell_other w p ⟨b, o, none⟩ v (fun e => by subst e; exact absurd hp (by simp; omega))).trans hu

theorem Rd.addr {n : Nat} {w : World} {A : Option Addr} {xs : List Value} (h : Rd n w A xs) (hne : 0 < xs.length) :
    ∃ b o, A = some ⟨b, o, none⟩ ∧ ∀ k, k < xs.length → w.cell? ⟨b, o + k, none⟩ = xs[k]? := by
  rcases h with rfl | ⟨b, o, _, h⟩
  · simp at hne
  · exact ⟨b, o, h⟩

theorem Rd.none_len {n : Nat} {w : World} {A : Option Addr} {xs : List Value} (h : Rd n w A xs) (hA : A = none) : xs = [] := by
  rcases h with h | ⟨b, o, _, hs, _⟩
  · exact h
  · rw [hA] at hs; cases hs

theorem Rd.of_own {w : World} {base n c : Nat} {e : TypeId} {size : Nat} {A : Option Addr} {xs : List Value} (h : w.ownsRow base e size (.slice A n c) n xs) : Rd base w A xs := by
  obtain ⟨hl, h | ⟨g, cap, cur, hv, hg, hh, hn, hc, hs, ht⟩⟩ := h
  · left; obtain ⟨_, rfl⟩ := h; exact List.eq_nil_of_length_eq_zero (by simpa using hl)
  · right
    injection hv with hA _ _
    refine ⟨g, 0, hg, hA, fun k hk => ?_⟩
    have hk' : k < n * size := by omega
    rw [Nat.zero_add]
    simp only [World.cell?, hh]
    rw [← ht, List.getElem?_take]
    simp [hk']

theorem own_slice {w : World} {base n : Nat} {e : TypeId} {size : Nat} {v : Value} {xs : List Value} (h : w.ownsRow base e size v n xs) :
    ∃ A cap, v = .slice A n cap ∧ n ≤ cap ∧ cap ≤ maxLen ∧ (v.ownBlock = none ∨ ∃ g, v.ownBlock = some g ∧ base ≤ g ∧ g < w.heap.size) := by
  obtain ⟨hl, ⟨rfl, rfl⟩ | ⟨g, cap, cur, rfl, hg, hh, hn, hc, hs, ht⟩⟩ := h
  · exact ⟨none, 0, rfl, Nat.le_refl _, by simp [maxLen], .inl rfl⟩
  · refine ⟨_, cap, rfl, hn, hc, .inr ⟨g, rfl, hg, ?_⟩⟩
    exact (Array.getElem?_eq_some_iff.1 hh).1

theorem own_below {w w' : World} {base n : Nat} {e : TypeId} {size : Nat} {v : Value} {xs : List Value} (h : w.ownsRow base e size v n xs) (hb : Below w.heap.size w w') :
    w'.ownsRow base e size v n xs := by
  refine h.kept (row := none) ⟨hb.os, hb.tape, hb.output, hb.size, fun k hk _ => hb.block k hk⟩ ?_
  cases h' : v.ownBlock <;> simp

theorem own_base {w : World} {base base' n : Nat} {e : TypeId} {size : Nat} {v : Value} {xs : List Value} (h : w.ownsRow base e size v n xs) (hb : base' ≤ base) :
    w.ownsRow base' e size v n xs := by
  obtain ⟨hl, h | ⟨g, cap, cur, hv, hg, r⟩⟩ := h
  · exact ⟨hl, .inl h⟩
  · exact ⟨hl, .inr ⟨g, cap, cur, hv, Nat.le_trans hb hg, r⟩⟩

theorem bstep {w w1 w2 : World} (h : Below w.heap.size w w1) (k : Below w1.heap.size w1 w2) : Below w.heap.size w w2 := h.trans (k.mono h.size)
theorem bnew (w : World) (o : Obj) : Below w.heap.size w (w.alloc o) := (Below.refl _ w).alloc (Nat.le_refl _) _
theorem bnew2 (w : World) (o o' : Obj) : Below w.heap.size w ((w.alloc o).alloc o') := (bnew w o).alloc (by simp) _

/-- behind a call that keeps all that was there, old cells and marks read as before -/
theorem keptCells {W w1 : World} (hb : Below W.heap.size W w1) :
    (∀ b o, b < W.heap.size → w1.cell? ⟨b, o, none⟩ = W.cell? ⟨b, o, none⟩) ∧ (∀ b o, b < W.heap.size → w1.frozen? ⟨b, o, none⟩ = W.frozen? ⟨b, o, none⟩) :=
  ⟨fun b o h => hb.cell (p := ⟨b, o, none⟩) h, fun b o h => hb.frozen (p := ⟨b, o, none⟩) h⟩

/-- bytes as cells -/
def bytesV (l : List UInt8) : List Value := l.map fun x => .int .u8 (x.toNat : Int)
theorem bytesV_length (l : List UInt8) : (bytesV l).length = l.length := by simp [bytesV]
theorem bytesV_get (l : List UInt8) (k : Nat) (h : k < l.length) : (bytesV l)[k]? = some (.int .u8 (l[k].toNat : Int)) := by
  simp [bytesV, List.getElem?_eq_getElem h]
theorem bytesV_one (l : List UInt8) : ∀ u ∈ bytesV l, u.oneCell' = true := by
  intro u hu; simp only [bytesV, List.mem_map] at hu; obtain ⟨x, _, rfl⟩ := hu; rfl
theorem bytesV_append (a b : List UInt8) : bytesV (a ++ b) = bytesV a ++ bytesV b := by simp [bytesV]

/-- a slice value reads as these bytes, which lie in blocks from n on -/
def BytesR (n : Nat) (w : World) (v : Value) (l : List UInt8) : Prop := ∃ A cap, v = .slice A l.length cap ∧ l.length ≤ cap ∧ Rd n w A (bytesV l)

theorem BytesR.below {n : Nat} {w w' : World} {v : Value} {l : List UInt8} (h : BytesR n w v l) (hb : Below w.heap.size w w') : BytesR n w' v l := by
  obtain ⟨A, cap, rfl, hc, hr⟩ := h
  exact ⟨A, cap, rfl, hc, hr.below hb⟩
theorem BytesR.mono {n n' : Nat} {w : World} {v : Value} {l : List UInt8} (h : BytesR n w v l) (hn : n' ≤ n) : BytesR n' w v l := by
  obtain ⟨A, cap, rfl, hc, hr⟩ := h
  exact ⟨A, cap, rfl, hc, hr.mono hn⟩
theorem BytesR.setCell {n : Nat} {w : World} {v : Value} {l : List UInt8} (h : BytesR n w v l) {p : Addr} (hp : p.block < n) (u : Value) : BytesR n (w.setCell p u) v l := by
  obtain ⟨A, cap, rfl, hc, hr⟩ := h
  exact ⟨A, cap, rfl, hc, hr.setCell hp u⟩

theorem BytesR.nil (n : Nat) (w : World) : BytesR n w (.slice none 0 0) [] := ⟨none, 0, rfl, Nat.le_refl _, Rd.nil _ _ _⟩

theorem BytesR.of_own {w : World} {base : Nat} {e : TypeId} {v : Value} {l : List UInt8} (h : w.ownsRow base e 1 v l.length (bytesV l)) : BytesR base w v l := by
  obtain ⟨A, cap, rfl, hc, _, _⟩ := own_slice h
  exact ⟨A, cap, rfl, hc, Rd.of_own h⟩

theorem BytesR.of_own' {w : World} {base n : Nat} {e : TypeId} {v : Value} {l : List UInt8} (hn : n = l.length) (h : w.ownsRow base e 1 v n (bytesV l)) : BytesR base w v l := by
  subst hn; exact BytesR.of_own h

/-- where 's[i:]' starts: with no capacity left the address stays -/
def fromAddr (size : Nat) (A : Option Addr) (cap i : Nat) : Option Addr := if cap = i then A else A.map (·.add (i * size))

theorem Rd.from {n : Nat} {w : World} {A : Option Addr} {xs : List Value} (h : Rd n w A xs) (size cap i : Nat) (hc : xs.length ≤ cap * size) : Rd n w (fromAddr size A cap i) (xs.drop (i * size)) := by
  rcases h with rfl | ⟨b, o, hn, rfl, hk⟩
  · left; simp
  · by_cases hd : xs.length ≤ i * size
    · left; exact List.drop_eq_nil_of_le hd
    · right
      refine ⟨b, o + i * size, hn, ?_, fun k hlt => ?_⟩
      · unfold fromAddr
        rw [if_neg (by intro e; subst e; omega)]
        unfold Addr.add
        by_cases h0 : i * size = 0 <;> simp [h0]
      · rw [List.length_drop] at hlt
        rw [List.getElem?_drop, ← hk (i * size + k) (by omega), Nat.add_assoc]

theorem Rd.take {n : Nat} {w : World} {A : Option Addr} {xs : List Value} (h : Rd n w A xs) (m : Nat) : Rd n w A (xs.take m) := by
  rcases h with rfl | ⟨b, o, hn, rfl, h⟩
  · left; simp
  · right
    refine ⟨b, o, hn, rfl, fun k hk => ?_⟩
    rw [List.length_take] at hk
    rw [List.getElem?_take, if_pos (by omega)]
    exact h k (by omega)

theorem run_slice_from {P : Program} (w : World) (t e : TypeId) (i : TypeInfo) (size : Nat) (ht : P.underlying t = some (.slice e)) (hi : P.info? e = some i) (hs : i.size = size)
    (A : Option Addr) (len cap : Nat) (k : IntKind) (x : Int) (n : Nat) (hx : x = n) (h : n ≤ len) :
    (Instr.slice t (.slice A len cap) (some (.int k x)) none none).run P w = .ok (.slice (fromAddr size A cap n) (len - n) (cap - n)) w := by
  subst hx hs
  simp [Instr.slice, run_underlying ht, Instr.sliceBounds, Instr.sliceBound, asIntOf, sizeOf, typeInfo, hi, h, fromAddr]

theorem run_slice_range {P : Program} (w : World) (t e : TypeId) (i : TypeInfo) (size : Nat) (ht : P.underlying t = some (.slice e)) (hi : P.info? e = some i) (hs : i.size = size)
    (A : Option Addr) (len cap : Nat) (k k2 : IntKind) (x y : Int) (n m : Nat) (hx : x = n) (hy : y = m) (h : n ≤ m) (hm : m ≤ cap) :
    (Instr.slice t (.slice A len cap) (some (.int k x)) (some (.int k2 y)) none).run P w = .ok (.slice (fromAddr size A cap n) (m - n) (cap - n)) w := by
  subst hx hy hs
  simp [Instr.slice, run_underlying ht, Instr.sliceBounds, Instr.sliceBound, asIntOf, sizeOf, typeInfo, hi, h, hm, fromAddr]

section
variable {P : Program} (w : World)

theorem run_append_of_nil (base : Nat) (t ty e : TypeId) (i : TypeInfo) (size : Nat) (ht : P.underlying t = some (.slice e)) (hi : P.info? e = some i)
    (v : Value) (n : Nat) (xs : List Value) (hown : w.ownsRow base e size v n xs) (c : Nat) : (Builtin.append_ #[t, t] ty #[v, .slice none 0 c]).run P w = .ok v w := by
  rcases hown.2 with ⟨rfl, rfl⟩ | ⟨g, cap, cur, rfl, _, _, hnc, _⟩
  · simp [Builtin.append_, run_underlying ht, sizeOf, typeInfo, hi, Builtin.lenOf, Builtin.firstCells]
  · simp [Builtin.append_, run_underlying ht, sizeOf, typeInfo, hi, Builtin.lenOf, Builtin.firstCells, hnc, storeCells]

/-- an append onto a row of the call's own, of whatever slice reads as these cells -/
theorem run_append_rd (base : Nat) (t ty e : TypeId) (i : TypeInfo) (z : Value) (size bytes : Nat) (ht : P.underlying t = some (.slice e)) (hi : P.info? e = some i) (hz : i.zero = some z)
    (hsize : i.size = size) (hby : i.bytes = bytes) (hzs : z.cells.size = size) (hsz : 0 < size)
    (v : Value) (n : Nat) (xs : List Value) (hown : w.ownsRow base e size v n xs)
    (B : Nat) (A : Option Addr) (m c : Nat) (news : List Value) (hl : news.length = m * size) (hr : Rd B w A news) (h1 : ∀ u ∈ news, u.oneCell' = true)
    (h63 : n + m ≤ maxLen) (hbytes : (n + m) * bytes ≤ 140737488355328) (hbase : base ≤ w.heap.size) (hA : A = none → m = 0) :
    ∃ v' w', (Builtin.append_ #[t, t] ty #[v, .slice A m c]).run P w = .ok v' w' ∧ w'.ownsRow base e size v' (n + m) (xs ++ news) ∧ w.grownBy w' v.ownBlock ∧
      (v'.ownBlock = v.ownBlock ∨ v'.ownBlock = some w.heap.size) := by
  rcases A with _ | ad
  · have hm : m = 0 := hA rfl
    subst hm
    have hn : news = [] := List.eq_nil_of_length_eq_zero (by simpa using hl)
    subst hn
    exact ⟨v, w, run_append_of_nil w base t ty e i size ht hi v n xs hown c, by simpa using hown, World.grownBy.refl w _, .inl rfl⟩
  · have hcells : ∀ j u, news[j]? = some u → w.cell? (ad.add j) = some u := by
      intro j u hu
      have hj := (List.getElem?_eq_some_iff.1 hu).1
      obtain ⟨b, o, hA, hc⟩ := hr.addr (by omega)
      injection hA with hA
      subst hA
      have := hc j hj
      rw [hu] at this
      rw [← this]
      by_cases h0 : j = 0
      · subst h0; rfl
      · simp [Addr.add, h0]
    obtain ⟨v', w', hrun, h2, h3, _, h5⟩ := run_append_own_at (P := P) w base t ty e i z size bytes ht hi hz hsize hby hzs hsz v n xs hown ad m c news hl hcells h1 h63 hbytes hbase
    exact ⟨v', w', hrun, h2, h3, h5⟩

theorem wp_append_rd {o : Oper} {a : Act} {K : Act → World → Prop} {Q : Exit → Act → World → Prop} (s x : Operand) (t : TypeId)
    (ho : o.op = .call { callee := .builtin .append, args := #[s, x], argTypes := #[t, t] })
    (base : Nat) (e : TypeId) (i : TypeInfo) (z : Value) (size bytes : Nat) (ht : P.underlying t = some (.slice e)) (hi : P.info? e = some i) (hz : i.zero = some z)
    (hsize : i.size = size) (hby : i.bytes = bytes) (hzs : z.cells.size = size) (hsz : 0 < size)
    (v : Value) (n : Nat) (xs : List Value) (hs : a.eval s = v) (hown : w.ownsRow base e size v n xs)
    (B : Nat) (A : Option Addr) (m c : Nat) (news : List Value) (hx : a.eval x = .slice A m c) (hl : news.length = m * size) (hr : Rd B w A news) (h1 : ∀ u ∈ news, u.oneCell' = true)
    (h63 : n + m ≤ maxLen) (hbytes : (n + m) * bytes ≤ 140737488355328) (hbase : base ≤ w.heap.size) (hA : A = none → m = 0)
    (h : ∀ v' w', w'.ownsRow base e size v' (n + m) (xs ++ news) → w.grownBy w' v.ownBlock → (v'.ownBlock = v.ownBlock ∨ v'.ownBlock = some w.heap.size) → K (a.put o.dst v') w') : o.wp P a w K Q := by
  obtain ⟨v', w', hrun, h2, h3, h4⟩ := run_append_rd (P := P) w base t o.type e i z size bytes ht hi hz hsize hby hzs hsz v n xs hown B A m c news hl hr h1 h63 hbytes hbase hA
  unfold Oper.wp execOp
  simp only [ho, resolve, invoke, builtin, Sem.run_bind, Sem.run_pure, Result.andThen_ok, List.map_toArray, List.map_cons, List.map_nil, hs, hx, hrun]
  exact h v' w' h2 h3 h4

theorem wpList_append_rd {ops : Array Oper} {rest : List Oper} {o : Oper} {a : Act} {Q : Exit → Act → World → Prop} (hgd : o.guard = none) (s x : Operand) (t : TypeId)
    (ho : o.op = .call { callee := .builtin .append, args := #[s, x], argTypes := #[t, t] })
    (base : Nat) (e : TypeId) (i : TypeInfo) (z : Value) (size bytes : Nat) (ht : P.underlying t = some (.slice e)) (hi : P.info? e = some i) (hz : i.zero = some z)
    (hsize : i.size = size) (hby : i.bytes = bytes) (hzs : z.cells.size = size) (hsz : 0 < size)
    (v : Value) (n : Nat) (xs : List Value) (hs : a.eval s = v) (hown : w.ownsRow base e size v n xs)
    (B : Nat) (A : Option Addr) (m c : Nat) (news : List Value) (hx : a.eval x = .slice A m c) (hl : news.length = m * size) (hr : Rd B w A news) (h1 : ∀ u ∈ news, u.oneCell' = true)
    (h63 : n + m ≤ maxLen) (hbytes : (n + m) * bytes ≤ 140737488355328) (hbase : base ≤ w.heap.size) (hA : A = none → m = 0)
    (h : ∀ v' w', w'.ownsRow base e size v' (n + m) (xs ++ news) → w.grownBy w' v.ownBlock → (v'.ownBlock = v.ownBlock ∨ v'.ownBlock = some w.heap.size) → wpList P ops Q rest (a.put o.dst v') w') : wpList P ops Q (o :: rest) a w :=
  wpList_plain hgd fun _ hK => wp_append_rd w s x t ho base e i z size bytes ht hi hz hsize hby hzs hsz v n xs hs hown B A m c news hx hl hr h1 h63 hbytes hbase hA fun v' w' h2 h3 h4 => hK _ _ (h v' w' h2 h3 h4)
end
end Go.Proofs.YtnljhabpcoiihaaGreatDoor
