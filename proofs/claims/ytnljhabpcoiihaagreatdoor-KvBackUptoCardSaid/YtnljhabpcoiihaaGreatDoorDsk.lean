/- The program's disk: what it is (DiskR), what each step does (plain), and New, Down, step, there. -/
import Derived.Test.YtnljhabpcoiihaaGreatDoorMapL
import Derived.Test.YtnljhabpcoiihaaGreatDoorOdd
set_option linter.all false
namespace Go.Proofs.YtnljhabpcoiihaaGreatDoor
open Go.RowKit

structure DiskM where
  room : Int
  files : List FileM
  plan : List (Int × Int)
  steps : Int
  down : Bool
  /-- the block of its map of files -/
  mp : Nat := 0
  /-- the block of its plan -/
  pm : Option Nat := none
  deriving DecidableEq

def sumLen (l : List FileM) : Nat := (l.map fun f => f.b.length).sum
def DiskM.Fits (D : DiskM) : Prop := 0 ≤ D.room ∧ D.room ≤ 1073741824 ∧ (sumLen D.files : Int) ≤ D.room ∧ D.files.length ≤ 16 ∧ (D.files.map (·.name)).Nodup ∧ ∀ f ∈ D.files, f.safe ≤ f.b.length ∧ f.name.length ≤ 32

/-- the files of a disk: the map bm, the entries xs -/
structure FilesR (n : Nat) (w : World) (bm clock : Nat) (xs : List FEnt) : Prop where
  at_ : w.heap[bm]? = some (.map (xs.map FEnt.ent).toArray clock)
  le : n ≤ bm
  born : ∀ x ∈ xs, x.born < clock
  nb : (xs.map (·.born)).Nodup
  nk : (xs.map (·.blk)).Nodup
  each : ∀ x ∈ xs, n ≤ x.blk ∧ ∃ v, w.heap[x.blk]? = some (.cells #[v, .int .i64 (x.f.safe : Int)] 91 (0, 0)) ∧ Bs 5 w v x.f.b

/-- a plan -/
def PlanR (n : Nat) (w : World) (v : Value) (l : List (Int × Int)) : Prop :=
  (v = .map none ∧ l = []) ∨ ∃ bp es clock, v = .map (some bp) ∧ n ≤ bp ∧ w.heap[bp]? = some (.map es clock) ∧ es.toList.map (fun x => (x.key, x.val)) = l.map (fun p => (Value.int .i64 p.1, Value.int .i64 p.2))

/-- a disk, written out: its block, its map, its plan, its files -/
structure DiskX (n : Nat) (w : World) (bd bm clock : Nat) (pv : Value) (xs : List FEnt) (D : DiskM) : Prop where
  le : n ≤ bd
  at_ : w.heap[bd]? = some (.cells #[.int .i64 D.room, .map (some bm), pv, .int .i64 D.steps, .bool D.down] 86 (0, 0))
  plan : PlanR n w pv D.plan
  files : FilesR n w bm clock xs
  same : xs.map (·.f) = D.files
  fits : D.Fits
  apart : (∀ bp, pv = .map (some bp) → bp ≠ bm) ∧ D.mp = bm ∧ pv = .map D.pm

def DiskR (n : Nat) (w : World) (bd : Nat) (D : DiskM) : Prop := ∃ bm clock pv xs, DiskX n w bd bm clock pv xs D

/-- the blocks that a disk lies in, and the bytes, are as they were -/
def Keeps8 (w w' : World) : Prop := ∀ (b : Nat) (o : Obj), w.heap[b]? = some o → (tagOf o = none ∨ tagOf o = some 86 ∨ tagOf o = some 91 ∨ tagOf o = some 5) → w'.heap[b]? = some o

theorem Bs.keeps {w w' : World} {v : Value} {l : List UInt8} (h : Bs 5 w v l) (hk : ∀ (b : Nat) (o : Obj), w.heap[b]? = some o → tagOf o = some 5 → w'.heap[b]? = some o) : Bs 5 w' v l := by
  obtain ⟨A, cap, rfl, hc, hm, hl | ⟨b, o, c, f, rfl, hb, hk'⟩⟩ := h
  · exact ⟨A, cap, rfl, hc, hm, .inl hl⟩
  · exact ⟨_, cap, rfl, hc, hm, .inr ⟨b, o, c, f, rfl, hk b _ hb rfl, hk'⟩⟩
theorem FilesR.keeps {n : Nat} {w w' : World} {bm clock : Nat} {xs : List FEnt} (h : FilesR n w bm clock xs) (hm : ∀ (o : Obj), w.heap[bm]? = some o → w'.heap[bm]? = some o)
    (hf : ∀ x ∈ xs, ∀ (o : Obj), w.heap[x.blk]? = some o → w'.heap[x.blk]? = some o) (h8 : ∀ (b : Nat) (o : Obj), w.heap[b]? = some o → tagOf o = some 5 → w'.heap[b]? = some o) : FilesR n w' bm clock xs :=
  ⟨hm _ h.at_, h.le, h.born, h.nb, h.nk, fun x hx => by
    obtain ⟨h1, v, h2, h3⟩ := h.each x hx
    exact ⟨h1, v, hf x hx _ h2, h3.keeps h8⟩⟩
theorem PlanR.keeps {n : Nat} {w w' : World} {v : Value} {l : List (Int × Int)} (h : PlanR n w v l) (hk : ∀ (b : Nat) (o : Obj), w.heap[b]? = some o → tagOf o = none → w'.heap[b]? = some o) : PlanR n w' v l := by
  rcases h with h | ⟨bp, es, clock, rfl, hn, hb, hl⟩
  · exact .inl h
  · exact .inr ⟨bp, es, clock, rfl, hn, hk _ _ hb rfl, hl⟩
theorem DiskX.keeps {n : Nat} {w w' : World} {bd bm clock : Nat} {pv : Value} {xs : List FEnt} {D : DiskM} (h : DiskX n w bd bm clock pv xs D) (hk : Keeps8 w w') : DiskX n w' bd bm clock pv xs D :=
  ⟨h.le, hk _ _ h.at_ (.inr (.inl rfl)), h.plan.keeps (fun b o hb ht => hk b o hb (.inl ht)),
    h.files.keeps (fun o ho => by have := h.files.at_; rw [ho] at this; injection this with this; subst this; exact hk _ _ ho (.inl rfl))
      (fun x hx o ho => by obtain ⟨_, v, h2, _⟩ := h.files.each x hx; rw [ho] at h2; injection h2 with h2; subst h2; exact hk _ _ ho (.inr (.inr (.inl rfl))))
      (fun b o hb ht => hk b o hb (.inr (.inr (.inr ht)))), h.same, h.fits, h.apart⟩
theorem DiskR.keeps {n : Nat} {w w' : World} {bd : Nat} {D : DiskM} (h : DiskR n w bd D) (hk : Keeps8 w w') : DiskR n w' bd D := by
  obtain ⟨bm, clock, pv, xs, h⟩ := h
  exact ⟨bm, clock, pv, xs, h.keeps hk⟩
theorem Keeps8.of_turn {n : Nat} {T : List (Option TypeId)} {w w' : World} (h : Turn n T w w') (h0 : none ∉ T) (h1 : some 86 ∉ T) (h2 : some 91 ∉ T) (h3 : some 5 ∉ T) : Keeps8 w w' :=
  fun b o hb ht => h.block b o hb (.inr (by rcases ht with ht | ht | ht | ht <;> rw [ht] <;> assumption))
theorem Keeps8.of_below {w w' : World} (h : Below w.heap.size w w') : Keeps8 w w' := fun b o hb _ => (h.block b (heap_lt hb)).trans hb
theorem DiskR.below {n : Nat} {w w' : World} {bd : Nat} {D : DiskM} (h : DiskR n w bd D) (hb : Below w.heap.size w w') : DiskR n w' bd D := h.keeps (Keeps8.of_below hb)
/-- what is done before a bound below the disk -/
theorem DiskR.under {n m : Nat} {w w' : World} {bd : Nat} {D : DiskM} (h : DiskR n w bd D) (hb : Below m w w') (hm : w.heap.size ≤ m) : DiskR n w' bd D := h.below (hb.mono hm)
theorem DiskR.mono {n n' : Nat} {w : World} {bd : Nat} {D : DiskM} (h : DiskR n w bd D) (hn : n' ≤ n) : DiskR n' w bd D := by
  obtain ⟨bm, clock, pv, xs, h⟩ := h
  refine ⟨bm, clock, pv, xs, Nat.le_trans hn h.le, h.at_, ?_, ⟨h.files.at_, Nat.le_trans hn h.files.le, h.files.born, h.files.nb, h.files.nk, fun x hx => ?_⟩, h.same, h.fits, h.apart⟩
  · rcases h.plan with h | ⟨bp, es, clock, rfl, h1, h2⟩
    · exact .inl h
    · exact .inr ⟨bp, es, clock, rfl, Nat.le_trans hn h1, h2⟩
  · obtain ⟨h1, h2⟩ := h.files.each x hx
    exact ⟨Nat.le_trans hn h1, h2⟩

/-- a new disk -/
def DiskM.new (room : Int) (mp : Nat := 0) : DiskM := { room := room, files := [], plan := [], steps := 0, down := false, mp := mp }

set_option maxRecDepth 100000 in
set_option maxHeartbeats 400000 in
theorem new_c (room : Int) (h0 : 0 ≤ room) (h1 : room ≤ 1073741824) (w : World) :
    Calls Tryz.prog 7 #[.int .i64 room] w fun e w' => ∃ bd, e = .returned (.tuple #[.pointer (some ⟨bd, 0, none⟩), .int .i64 0]) ∧ w.heap.size ≤ bd ∧ DiskR w.heap.size w' bd (DiskM.new room w.heap.size) ∧ Below w.heap.size w w' := by
  have hmm := @run_makeMap Tryz.prog
  have hn0 : ¬ room < 0 := by omega
  have hn1 : ¬ 1073741824 < room := by omega
  go_enter Tryz.func7, Tryz.ntmps7
  go_wp2
  go_ret2
  refine ⟨w.heap.size + 1, rfl, by omega, ⟨w.heap.size, 0, .map none, [], by omega, ?_, .inl ⟨rfl, rfl⟩, ⟨?_, Nat.le_refl _, by simp, by simp, by simp, by simp⟩, rfl, ⟨h0, h1, by simpa [sumLen, DiskM.new] using h0, by simp [DiskM.new], by simp [DiskM.new], by simp [DiskM.new]⟩, ⟨(fun bp h => by cases h), rfl, rfl⟩⟩, bnew2 _ _ _⟩
  · have := heap_alloc_new (w.alloc (.map #[] 0)) (.cells #[.int .i64 room, .map (some w.heap.size), .map none, .int .i64 0, .bool false] 86)
    rwa [World.size_alloc] at this
  · exact (Below.heap_alloc _ _ _ (by simp)).trans (heap_alloc_new w _)

set_option maxRecDepth 100000 in
set_option maxHeartbeats 400000 in
theorem down_c (n bd : Nat) (D : DiskM) (w : World) (hD : DiskR n w bd D) :
    Calls Tryz.prog 71 #[.pointer (some ⟨bd, 0, none⟩)] w fun e w' => e = .returned (.bool D.down) ∧ w' = w := by
  obtain ⟨bm, clock, pv, xs, hX⟩ := hD
  have c4 := Joins.cell_of_block hX.at_ 4
  have HX := Lib.hid hX; clear hX
  simp at c4
  go_enter Tryz.func71, Tryz.ntmps71
  go_wp2
  go_ret
  exact ⟨rfl, rfl⟩
end Go.Proofs.YtnljhabpcoiihaaGreatDoor
