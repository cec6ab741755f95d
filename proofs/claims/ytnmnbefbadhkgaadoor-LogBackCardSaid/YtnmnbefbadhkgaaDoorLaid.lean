/-
  WHAT THE ROWS' LISTS OF PACKAGE-LEVEL VARIABLES GIVE THE WALKS: the table of the powers of ten.
-/
import Derived.Test.YtnmnbefbadhkgaaDoorRows
import Derived.Test.YtnmnbefbadhkgaaDoorShow
import Derived.MakeChecks
import Derived.LaidMore
import Derived.Deep.DeepWitnessRowRef
namespace Go.Proofs.YtnmnbefbadhkgaaDoor
open Go

theorem own : ownKnob Tryd.prog.godebug = none := by kernel_rfl
theorem laidVars_tail {P : Program} {W : World} {x : String × DataW Unit} {l : List (String × DataW Unit)} {ps : List MemPlace} (h : DataW.LaidVars P W (x :: l) ps) : ∃ qs, DataW.LaidVars P W l qs := by
  obtain ⟨n, d⟩ := x
  obtain ⟨g, t, cs, fuel, p, q, _, _, _, _, h, _⟩ := h
  exact ⟨q, h⟩
theorem tab_type : (Tryd.prog.globals[3]?).map (·.type) = some 150 := by kernel_rfl
theorem tab_cells : Tryd.prog.cellsOf 150 = 20 := by kernel_rfl
theorem u64_cells : Tryd.prog.cellsOf 131 = 1 := by kernel_rfl
/-- The third variable on each list is the table of the powers of ten. -/
theorem tab_of_laid {W : World} {x y : String × DataW Unit} {l : List (String × DataW Unit)} (h : laidMet Tryd.prog (x :: y :: ("internal/strconv.uint64pow10", Lib.tabData .u64 Lib.pow10Tab) :: l) W) : Tab W := by
  obtain ⟨ps, h, _⟩ := h
  obtain ⟨q1, h⟩ := laidVars_tail h
  obtain ⟨q2, h⟩ := laidVars_tail h
  obtain ⟨g', t', cs, fuel, p, q, hg', ht', hvar, hd, _, _⟩ := h
  obtain rfl := Option.some.inj (gTab.symm.trans hg')
  obtain rfl := Option.some.inj (tab_type.symm.trans ht')
  show W.var? _ _ = _
  rw [hvar, ← Lib.cells_of_tab Tryd.underlying150 Tryd.underlying131 u64_cells tab_cells hd]
end Go.Proofs.YtnmnbefbadhkgaaDoor
