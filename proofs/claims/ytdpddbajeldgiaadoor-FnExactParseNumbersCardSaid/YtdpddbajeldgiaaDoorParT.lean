/- From the laid variables to what the walk of ParseNumbers asks for: the table of powers of ten; the two variables of errors. Conditions: none. -/
import Derived.Test.YtdpddbajeldgiaaDoorRows
import Derived.Test.YtdpddbajeldgiaaDoorParA
import Derived.Lib.LaidTab
import Derived.Stop.LaidErr
import Derived.FnData
namespace Go.Proofs.YtdpddbajeldgiaaDoor
set_option linter.unusedVariables false
open Go.RowKit

theorem err_star : "*" ++ "errors.errorString" = "*errors.errorString" := by decide
theorem err_row (u : TypeId) (h : Tryd.prog.typeName? 3 u = some "*errors.errorString") : u = 135 :=
  typeName_ptr_named (nm := "errors.errorString") (by rw [err_star]; kernel_rfl) (by kernel_rfl) (by decide) u (by rw [err_star]; exact h)
theorem err_cell {n : String} {g : Nat} {text : List UInt8} {r : List (String × DataW Unit)} {W : World} (h : laidMet Tryd.prog ((n, .iface "*errors.errorString" (.ptr (.agg [.lit (.string text)]))) :: r) W)
    (hg : Tryd.prog.globalNamed n = some g) (ht : (Tryd.prog.globals[g]?).map (·.type) = some 69) : ∃ ev, W.cell? ⟨g, 0, none⟩ = some ev ∧ (ev = .nilIface ∨ ∃ te pe, ev = .iface te pe) := by
  obtain ⟨a, s, hv, -⟩ := laid_sentinel h hg ht Tryd.underlying69 err_row Tryd.underlying135 Tryd.underlying137 rfl rfl Tryd.underlying9 (by kernel_rfl) (by kernel_rfl)
  exact ⟨_, by simpa using World.var?_cell hg hv 0, .inr ⟨_, _, rfl⟩⟩
theorem of_laid {W : World} {r : List (String × DataW Unit)} (h : laidMet Tryd.prog (("math/bits.deBruijn32tab", Rows.laid_math_bits_deBruijn32tab) :: ("math/bits.deBruijn64tab", Rows.laid_math_bits_deBruijn64tab) :: ("internal/strconv.uint64pow10", Rows.laid_internal_strconv_uint64pow10) :: ("unicode/utf8.acceptRanges", Rows.laid_unicode_utf8_acceptRanges) :: ("strconv.ErrRange", Rows.laid_strconv_ErrRange) :: ("strconv.ErrSyntax", Rows.laid_strconv_ErrSyntax) :: r) W) : Tab W ∧ Errs W := by
  have hg2 : Tryd.prog.globalNamed "internal/strconv.uint64pow10" = some 5 := by kernel_rfl
  have hg3 : Tryd.prog.globalNamed "strconv.ErrRange" = some 4 := by kernel_rfl
  have hg4 : Tryd.prog.globalNamed "strconv.ErrSyntax" = some 3 := by kernel_rfl
  refine ⟨Lib.tabIs_of_head (k := .u64) (zs := Lib.pow10Tab) (n := 20) hg2 (t := 130) (e := 101) (by kernel_rfl) Tryd.underlying130 Tryd.underlying101 (by kernel_rfl) (by kernel_rfl) h.tail.tail, ?_, ?_⟩
  · exact err_cell h.tail.tail.tail.tail.tail hg4 (by kernel_rfl)
  · exact err_cell h.tail.tail.tail.tail hg3 (by kernel_rfl)

end Go.Proofs.YtdpddbajeldgiaaDoor
