/- What the row's list of the library's variables gives. A witness for a row that lists variables: the world in which each holds what its datum says. -/
import Derived.Test.YtnljhabpcoiihaaGreatDoorFile
import Derived.Test.YtnljhabpcoiihaaGreatDoorRows
import Derived.LaidLaws
import Derived.LaidSub
import Derived.Deep.DeepHandedRow
import Derived.Lay
import Derived.Stop.Joined
set_option linter.all false
namespace Go.Proofs.YtnljhabpcoiihaaGreatDoor
open Go.RowKit

theorem laid_mem {P : Program} {w : World} {n : String} {d : DataW Unit} : ∀ {l : List (String × DataW Unit)} {ps : List MemPlace}, DataW.LaidVars P w l ps → (n, d) ∈ l →
    ∃ g t cs fuel p, P.globalNamed n = some g ∧ (P.globals[g]?).map (·.type) = some t ∧ w.var? P n = some cs ∧ DataW.trod (fun _ => ()) P w 0 (fun _ => true) false fuel t cs.toList = some (d, p)
  | [], _, _, h => by cases h
  | (m, e) :: r, ps, h, hm => by
    obtain ⟨g, t, cs, fuel, p, q, h1, h2, h3, h4, hr, _⟩ := h
    cases hm with
    | head => exact ⟨g, t, cs, fuel, p, h1, h2, h3, h4⟩
    | tail _ hm => exact laid_mem hr hm

theorem var_keep {P : Program} {W W' : World} {n : String} {cs : Array Value} (h : ∀ k, k < W.heap.size → W'.heap[k]? = W.heap[k]?) (hv : W.var? P n = some cs) : W'.var? P n = some cs := by
  unfold World.var? at hv ⊢
  cases hg : P.globalNamed n with
  | none => simp [hg] at hv
  | some g =>
    simp only [hg, Option.bind_some] at hv ⊢
    have hlt : g < W.heap.size := by
      rcases Nat.lt_or_ge g W.heap.size with h | h
      · exact h
      · rw [Array.getElem?_eq_none h] at hv; cases hv
    rw [h g hlt]
    exact hv

theorem cells_u64 : Tryz.prog.cellsOf 156 = 1 := by kernel_rfl
theorem cells_pow : Tryz.prog.cellsOf 250 = 20 := by kernel_rfl

theorem err_laid {W : World} {n : String} {nm : String} {d : DataW Unit} {g : Nat} {ps : List MemPlace} {l : List (String × DataW Unit)} (hl : DataW.LaidVars Tryz.prog W l ps) (hm : (n, DataW.iface nm d) ∈ l)
    (hg : Tryz.prog.globalNamed n = some g) (hty : (Tryz.prog.globals[g]?).map (·.type) = some 174) : ∃ tp p, W.var? Tryz.prog n = some #[.iface tp p] := by
  obtain ⟨g', t', cs, fuel, p, h1, h2, h3, h4⟩ := laid_mem hl hm
  obtain rfl := Option.some.inj (hg.symm.trans h1)
  obtain rfl := Option.some.inj (hty.symm.trans h2)
  obtain ⟨_, u, v, hc, _⟩ := iface_of_trod Tryz.underlying174 h4
  refine ⟨u, v, ?_⟩
  rw [h3]
  congr 1
  exact Array.toList_inj.1 hc

theorem glob_of_laid {W : World} (h : laidMetH Tryz.prog Rows.kvBackUptoRow.laid W) : Glob W.heap.size W := by
  obtain ⟨ps, hl, _⟩ := (laidMetH_iff.1 h).1
  have e1 : Go.Lib.TabIs Tryz.prog W "internal/strconv.uint64pow10" .u64 Go.Lib.pow10Tab := by
    obtain ⟨g', t', cs, fuel, p, h1, h2, h3, h4⟩ := laid_mem (n := "internal/strconv.uint64pow10") (d := Go.Lib.tabData .u64 Go.Lib.pow10Tab) hl (List.mem_filter.2 ⟨.tail _ (.tail _ (.head _)), rfl⟩)
    obtain rfl := Option.some.inj ((show Tryz.prog.globalNamed "internal/strconv.uint64pow10" = some 3 by kernel_rfl).symm.trans h1)
    obtain rfl := Option.some.inj ((show (Tryz.prog.globals[3]?).map (·.type) = some 250 by kernel_rfl).symm.trans h2)
    unfold Go.Lib.TabIs
    rw [h3, ← Go.Lib.cells_of_tab Tryz.underlying250 Tryz.underlying156 cells_u64 cells_pow h4]
  have e2 : ∃ tp p, W.var? Tryz.prog "strconv.ErrSyntax" = some #[.iface tp p] :=
    err_laid hl (List.mem_filter.2 ⟨.tail _ (.tail _ (.tail _ (.tail _ (.head _)))), rfl⟩) (show Tryz.prog.globalNamed "strconv.ErrSyntax" = some 1 by kernel_rfl) (by kernel_rfl)
  have e3 : ∃ tp p, W.var? Tryz.prog "strconv.ErrRange" = some #[.iface tp p] :=
    err_laid hl (List.mem_filter.2 ⟨.tail _ (.tail _ (.tail _ (.head _))), rfl⟩) (show Tryz.prog.globalNamed "strconv.ErrRange" = some 2 by kernel_rfl) (by kernel_rfl)
  intro W' hW
  obtain ⟨t2, p2, h2⟩ := e2
  obtain ⟨t3, p3, h3⟩ := e3
  exact ⟨var_keep hW e1, ⟨t2, p2, var_keep hW h2⟩, ⟨t3, p3, var_keep hW h3⟩⟩
end Go.Proofs.YtnljhabpcoiihaaGreatDoor
set_option linter.all false
namespace Go.Proofs.YtnljhabpcoiihaaGreatDoor
section
variable {H : Type} {enc : TypeId × Value → H}
theorem witness_row_zip {C : Checked} {os : Os} {f : FuncId} {fn : Func} {s : OpenSpec} {conds : List PathCond} {apart : Bool} {laid : List (String × DataW Unit)} (modest : Bool) (w0 : World) (args : Array Value) (hos : w0.os = os)
    (hv : (w0.forCall (fun _ _ => 0) ⟨#[], args, []⟩).variablesZipB C.prog = true)
    (hr : ((w0.forCall (fun _ _ => 0) ⟨#[], args, []⟩).heap.toList.drop C.prog.globals.size).take ((begin C.prog (fun _ _ => 0) default).world.heap.size - C.prog.globals.size) =
      (begin C.prog (fun _ _ => 0) default).world.heap.toList.drop C.prog.globals.size)
    (hok : Input.okWideB C.prog (w0.forCall (fun _ _ => 0) ⟨#[], args, []⟩) f ⟨#[], args, []⟩ = true)
    (hrow : s.preRow enc C.prog fn conds apart laid (w0.forCall (fun _ _ => 0) ⟨#[], args, []⟩).memory args) :
    ∃ (w : World) (tape : Tape) (i : Input), w.os = os ∧ (w.forCall tape i).Shaped C.prog ∧ i.vars = [] ∧ Input.okWide C.prog (w.forCall tape i) .any w.heap.size f i ∧
      s.preRow enc C.prog fn conds apart laid (w.forCall tape i).memory i.args ∧ ({ modest := modest } : Assume).holds C.prog (lone (Frame.enter C.prog f i.args .normal) [] (w.forCall tape i)) :=
  ⟨w0, fun _ _ => 0, ⟨#[], args, []⟩, hos, World.shaped_of_ZipB hv hr, (Input.okWide_of_okWideB (base := 0) hok).1, (Input.okWide_of_okWideB hok).2, hrow, by
    simp only [Assume.holds]
    exact ⟨by simp, by simp, fun _ => Modest.zero, by simp, by simp⟩⟩
end
end Go.Proofs.YtnljhabpcoiihaaGreatDoor
