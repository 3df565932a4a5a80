/- From the laid variable to the table that the walks ask for. Conditions: none. -/
import Derived.Test.YthehhlamhkhlpaaDoorRows
import Derived.Test.YthehhlamhkhlpaaDoorNoteA
import Derived.Lib.LaidTab
import Derived.FnData
namespace Go.Proofs.YthehhlamhkhlpaaDoor
set_option linter.unusedVariables false

theorem of_laid {W : World} (h : laidMet Tryd.prog [("loop.example/g03203/impl.romanValues", Rows.laid_loop_example_g03203_impl_romanValues)] W) : Tab W := by
  have hg : Tryd.prog.globalNamed "loop.example/g03203/impl.romanValues" = some 0 := by kernel_rfl
  have ht := Lib.tabIs_of_head (k := .i64) (zs := vtab) (n := 7) hg (t := 36) (e := 3) (by kernel_rfl) Tryd.underlying36 Tryd.underlying3 (by kernel_rfl) (by kernel_rfl) h
  intro k x hx
  rw [World.var?_cell hg ht k]
  simp [hx]

end Go.Proofs.YthehhlamhkhlpaaDoor
