/- What the row's list of the library's variables gives. -/
import Derived.Test.YtjpcmgoajdjkgaaGreatDoorFile
import Derived.Test.YtjpcmgoajdjkgaaGreatDoorRows
import Derived.LaidLaws
import Derived.LaidSub
set_option linter.all false
namespace Go.Proofs.YtjpcmgoajdjkgaaGreatDoor
open Go.RowKit

theorem laid_mem {P : Program} {w : World} {n : String} {d : DataW Unit} : ∀ {l : List (String × DataW Unit)} {ps : List MemPlace}, DataW.LaidVars P w l ps → (n, d) ∈ l →
    ∃ g t cs fuel p, P.globalNamed n = some g ∧ (P.globals[g]?).map (·.type) = some t ∧ w.var? P n = some cs ∧ DataW.trod (fun _ => ()) P w 0 (fun _ => true) false fuel t cs.toList = some (d, p)
  | [], _, _, h => by cases h
  | (m, e) :: r, ps, h, hm => by
    obtain ⟨g, t, cs, fuel, p, q, h1, h2, h3, h4, hr, _⟩ := h
    cases hm with
    | head => exact ⟨g, t, cs, fuel, p, h1, h2, h3, h4⟩
    | tail _ hm => exact laid_mem hr hm

theorem var_keep {P : Program} {W W' : World} {n : String} {cs : Array Value} (h : ∀ k, k < W.heap.size → W'.heap[k]? = W.heap[k]?) (hv : W.var? P n = some cs) : W'.var? P n = some cs := by
  unfold World.var? at hv ⊢
  cases hg : P.globalNamed n with
  | none => simp [hg] at hv
  | some g =>
    simp only [hg, Option.bind_some] at hv ⊢
    have hlt : g < W.heap.size := by
      rcases Nat.lt_or_ge g W.heap.size with h | h
      · exact h
      · rw [Array.getElem?_eq_none h] at hv; cases hv
    rw [h g hlt]
    exact hv

theorem cells_u64 : Tryz.prog.cellsOf 145 = 1 := by kernel_rfl
theorem cells_pow : Tryz.prog.cellsOf 170 = 20 := by kernel_rfl

theorem err_laid {W : World} {n : String} {nm : String} {d : DataW Unit} {g : Nat} {ps : List MemPlace} {l : List (String × DataW Unit)} (hl : DataW.LaidVars Tryz.prog W l ps) (hm : (n, DataW.iface nm d) ∈ l)
    (hg : Tryz.prog.globalNamed n = some g) (hty : (Tryz.prog.globals[g]?).map (·.type) = some 122) : ∃ tp p, W.var? Tryz.prog n = some #[.iface tp p] := by
  obtain ⟨g', t', cs, fuel, p, h1, h2, h3, h4⟩ := laid_mem hl hm
  obtain rfl := Option.some.inj (hg.symm.trans h1)
  obtain rfl := Option.some.inj (hty.symm.trans h2)
  obtain ⟨_, u, v, hc, _⟩ := iface_of_trod Tryz.underlying122 h4
  refine ⟨u, v, ?_⟩
  rw [h3]
  congr 1
  exact Array.toList_inj.1 hc

theorem glob_of_laid {W : World} (h : laidMetH Tryz.prog Rows.walNilsRow.laid W) : Glob W.heap.size W := by
  obtain ⟨ps, hl, _⟩ := (laidMetH_iff.1 h).1
  have e1 : Go.Lib.TabIs Tryz.prog W "internal/strconv.uint64pow10" .u64 Go.Lib.pow10Tab := by
    obtain ⟨g', t', cs, fuel, p, h1, h2, h3, h4⟩ := laid_mem (n := "internal/strconv.uint64pow10") (d := Go.Lib.tabData .u64 Go.Lib.pow10Tab) hl (List.mem_filter.2 ⟨.tail _ (.tail _ (.head _)), rfl⟩)
    obtain rfl := Option.some.inj ((show Tryz.prog.globalNamed "internal/strconv.uint64pow10" = some 0 by kernel_rfl).symm.trans h1)
    obtain rfl := Option.some.inj ((show (Tryz.prog.globals[0]?).map (·.type) = some 170 by kernel_rfl).symm.trans h2)
    unfold Go.Lib.TabIs
    rw [h3, ← Go.Lib.cells_of_tab Tryz.underlying170 Tryz.underlying145 cells_u64 cells_pow h4]
  have e2 : ∃ tp p, W.var? Tryz.prog "strconv.ErrSyntax" = some #[.iface tp p] :=
    err_laid hl (List.mem_filter.2 ⟨.tail _ (.tail _ (.tail _ (.tail _ (.head _)))), rfl⟩) (show Tryz.prog.globalNamed "strconv.ErrSyntax" = some 1 by kernel_rfl) (by kernel_rfl)
  have e3 : ∃ tp p, W.var? Tryz.prog "strconv.ErrRange" = some #[.iface tp p] :=
    err_laid hl (List.mem_filter.2 ⟨.tail _ (.tail _ (.tail _ (.head _))), rfl⟩) (show Tryz.prog.globalNamed "strconv.ErrRange" = some 2 by kernel_rfl) (by kernel_rfl)
  intro W' hW
  obtain ⟨t2, p2, h2⟩ := e2
  obtain ⟨t3, p3, h3⟩ := e3
  exact ⟨var_keep hW e1, ⟨t2, p2, var_keep hW h2⟩, ⟨t3, p3, var_keep hW h3⟩⟩
end Go.Proofs.YtjpcmgoajdjkgaaGreatDoor
