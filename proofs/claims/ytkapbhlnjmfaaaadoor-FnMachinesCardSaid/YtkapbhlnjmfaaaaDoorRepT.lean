/- From the laid variables to the table of powers of ten that the walks ask for. Conditions: none. -/
import Derived.Test.YtkapbhlnjmfaaaaDoorRows
import Derived.Test.YtkapbhlnjmfaaaaDoorRepA
import Derived.Lib.LaidTab
import Derived.Stop.LaidErr
import Derived.FnData
namespace Go.Proofs.YtkapbhlnjmfaaaaDoor
set_option linter.unusedVariables false

theorem of_laid {W : World} {r : List (String × DataW Unit)} (h : laidMet Tryd.prog (("math/bits.deBruijn32tab", Rows.laid_math_bits_deBruijn32tab) :: ("math/bits.deBruijn64tab", Rows.laid_math_bits_deBruijn64tab) :: ("internal/strconv.uint64pow10", Rows.laid_internal_strconv_uint64pow10) :: r) W) : Tab W := by
  have hg2 : Tryd.prog.globalNamed "internal/strconv.uint64pow10" = some 0 := by kernel_rfl
  exact Lib.tabIs_of_head (k := .u64) (zs := Lib.pow10Tab) (n := 20) hg2 (t := 96) (e := 89) (by kernel_rfl) Tryd.underlying96 Tryd.underlying89 (by kernel_rfl) (by kernel_rfl) h.tail.tail

end Go.Proofs.YtkapbhlnjmfaaaaDoor
