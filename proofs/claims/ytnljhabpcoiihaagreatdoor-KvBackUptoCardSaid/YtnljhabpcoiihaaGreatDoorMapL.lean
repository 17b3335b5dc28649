/- Laws of maps at the operations, the entries written out: plans (numbers to numbers) and files (texts to pointers). -/
import Derived.Test.YtnljhabpcoiihaaGreatDoorTurn
import Derived.Test.YtnljhabpcoiihaaGreatDoorProg
import Derived.MapKept
import Derived.Laws.IdiomRangeMap
set_option linter.all false
namespace Go.Proofs.YtnljhabpcoiihaaGreatDoor
open Go.RowKit
open Go.MapKept (IsKey Stamped run_checkKey run_findKey)

/-- a plan: what stands at a step; 0: nothing -/
def planAt : List (Int × Int) → Int → Int
  | [], _ => 0
  | (a, b) :: r, k => if a = k then b else planAt r k

theorem find_plan (k : Int) : ∀ (es : List MapEntry) (l : List (Int × Int)) (i : Nat), es.map (fun x => (x.key, x.val)) = l.map (fun p => (Value.int .i64 p.1, Value.int .i64 p.2)) →
    ∃ r, Instr.findNow (.int .i64) (.int .i64 k) es i = some r ∧ (match r with | some (_, v) => v | none => Value.int .i64 0) = .int .i64 (planAt l k)
  | [], [], i, _ => ⟨none, rfl, rfl⟩
  | [], _ :: _, i, h => by simp at h
  | _ :: _, [], i, h => by simp at h
  | e :: es, (a, b) :: l, i, h => by
    simp only [List.map_cons, List.cons.injEq, Prod.mk.injEq] at h
    obtain ⟨⟨h1, h2⟩, h3⟩ := h
    by_cases hk : a = k
    · subst hk
      exact ⟨some (i, e.val), by simp [Instr.findNow, Instr.sameNow, h1], by simp [planAt, h2]⟩
    · obtain ⟨r, hr, hv⟩ := find_plan k es l (i + 1) h3
      refine ⟨r, ?_, by rw [planAt, if_neg hk]; exact hv⟩
      have : (k == a) = false := by simp; omega
      simp only [Instr.findNow, Instr.sameNow, h1, if_true, this]
      exact hr

/-- a file of the program's disk -/
structure FileM where
  name : List UInt8
  b : List UInt8
  safe : Nat
  deriving DecidableEq

/-- .. where it lies, when it was laid -/
structure FEnt where
  f : FileM
  blk : Nat
  born : Nat

def FEnt.ent (x : FEnt) : MapEntry := { key := .string ⟨x.f.name.toArray⟩, val := .pointer (some ⟨x.blk, 0, none⟩), born := x.born }
def entAt : List FEnt → List UInt8 → Option FEnt
  | [], _ => none
  | x :: r, s => if x.f.name = s then some x else entAt r s

theorem bytes_ext {a b : List UInt8} : ((⟨a.toArray⟩ : ByteArray) == ⟨b.toArray⟩) = decide (a = b) := by
  rw [Bool.eq_iff_iff, Go.MapKept.bytes_beq, decide_eq_true_iff]
  constructor
  · intro h
    have := congrArg (fun x => x.data.toList) h
    simpa using this
  · rintro rfl; rfl

theorem find_file (s : List UInt8) : ∀ (xs : List FEnt) (i : Nat),
    ∃ r, Instr.findNow .string (.string ⟨s.toArray⟩) (xs.map FEnt.ent) i = some r ∧ (match r with | some (_, v) => v | none => Value.pointer none) = .pointer ((entAt xs s).map fun x => ⟨x.blk, 0, none⟩) ∧ (r = none ↔ entAt xs s = none)
  | [], i => ⟨none, rfl, rfl, by simp [entAt]⟩
  | x :: xs, i => by
    by_cases hk : x.f.name = s
    · refine ⟨some (i, x.ent.val), ?_, by simp [entAt, hk, FEnt.ent], by simp [entAt, hk]⟩
      simp [Instr.findNow, Instr.sameNow, FEnt.ent, bytes_ext, hk]
    · obtain ⟨r, hr, hv, hn⟩ := find_file s xs (i + 1)
      refine ⟨r, ?_, by rw [entAt, if_neg hk]; exact hv, by rw [entAt, if_neg hk]; exact hn⟩
      have : decide (s = x.f.name) = false := by simp; exact fun h => hk h.symm
      simp only [List.map_cons, Instr.findNow, Instr.sameNow, FEnt.ent, bytes_ext, this]
      exact hr

section
variable {P : Program} {mt kt et : TypeId} {w : World} {bm : Nat}

/-- a look-up of a number -/
theorem look_plan (hm : P.underlying mt = some (.map kt et)) (hd : P.underlying kt = some (.int .i64)) (hz : ∀ w, (zeroValue et).run P w = .ok (.int .i64 0) w) {es : Array MapEntry} {clock : Nat}
    (hb : w.heap[bm]? = some (.map es clock)) (l : List (Int × Int)) (hl : es.toList.map (fun x => (x.key, x.val)) = l.map (fun p => (Value.int .i64 p.1, Value.int .i64 p.2))) (k : Int) :
    (Instr.lookup mt (.map (some bm)) (.int .i64 k) false).run P w = .ok (.int .i64 (planAt l k)) w := by
  obtain ⟨r, hr, hv⟩ := find_plan k es.toList l 0 hl
  cases r with
  | none => simp [Instr.lookup, run_underlying hm, Go.MapKept.run_getObj_map hb, run_checkKey (d := .int .i64) (k := .int .i64 k) hd rfl, run_findKey hd hr, hz, Result.andThen, ← hv]
  | some p => simp [Instr.lookup, run_underlying hm, Go.MapKept.run_getObj_map hb, run_checkKey (d := .int .i64) (k := .int .i64 k) hd rfl, run_findKey hd hr, Result.andThen, ← hv]
theorem look_plan_nil (hm : P.underlying mt = some (.map kt et)) (hd : P.underlying kt = some (.int .i64)) (hz : ∀ w, (zeroValue et).run P w = .ok (.int .i64 0) w) (k : Int) :
    (Instr.lookup mt (.map none) (.int .i64 k) false).run P w = .ok (.int .i64 (planAt [] k)) w := by
  have hr : Instr.findNow (.int .i64) (.int .i64 k) ([] : List MapEntry) 0 = some none := rfl
  simp [Instr.lookup, run_underlying hm, run_checkKey (d := .int .i64) (k := .int .i64 k) hd rfl, run_findKey hd hr, hz, Result.andThen, planAt]

/-- a look-up of a file -/
theorem look_file (hm : P.underlying mt = some (.map kt et)) (hd : P.underlying kt = some .string) (hz : ∀ w, (zeroValue et).run P w = .ok (.pointer none) w) {clock : Nat} (xs : List FEnt)
    (hb : w.heap[bm]? = some (.map (xs.map FEnt.ent).toArray clock)) (s : List UInt8) :
    (Instr.lookup mt (.map (some bm)) (.string ⟨s.toArray⟩) false).run P w = .ok (.pointer ((entAt xs s).map fun x => ⟨x.blk, 0, none⟩)) w := by
  obtain ⟨r, hr, hv, _⟩ := find_file s xs 0
  have hr' : Instr.findNow .string (.string ⟨s.toArray⟩) ((xs.map FEnt.ent).toArray).toList 0 = some r := hr
  cases r with
  | none => simp [Instr.lookup, run_underlying hm, Go.MapKept.run_getObj_map hb, run_checkKey (d := .string) (k := .string ⟨s.toArray⟩) hd trivial, run_findKey hd hr, hz, Result.andThen, ← hv]
  | some p => simp [Instr.lookup, run_underlying hm, Go.MapKept.run_getObj_map hb, run_checkKey (d := .string) (k := .string ⟨s.toArray⟩) hd trivial, run_findKey hd hr, Result.andThen, ← hv]

/-- a file that was not there is laid -/
theorem lay_file (hm : P.underlying mt = some (.map kt et)) (hd : P.underlying kt = some .string) {clock : Nat} (xs : List FEnt)
    (hb : w.heap[bm]? = some (.map (xs.map FEnt.ent).toArray clock)) (s : List UInt8) (hs : entAt xs s = none) (b : Nat) (f : FileM) (hf : f.name = s) :
    (Instr.mapUpdate mt (.map (some bm)) (.string ⟨s.toArray⟩) (.pointer (some ⟨b, 0, none⟩))).run P w =
      .ok () (Go.ChangeMaps.setBlock w bm (.map ((xs ++ [({ f := f, blk := b, born := clock } : FEnt)]).map FEnt.ent).toArray (clock + 1))) := by
  obtain ⟨r, hr, _, hn⟩ := find_file s xs 0
  obtain rfl := hn.2 hs
  simp [Instr.mapUpdate, run_underlying hm, Go.MapKept.run_getObj_map hb, run_checkKey (d := .string) (k := .string ⟨s.toArray⟩) hd trivial, run_findKey hd hr, Go.MapKept.run_setObj_map _ hb, Result.andThen, Go.ChangeMaps.setBlock, FEnt.ent, hf]
end
end Go.Proofs.YtnljhabpcoiihaaGreatDoor
