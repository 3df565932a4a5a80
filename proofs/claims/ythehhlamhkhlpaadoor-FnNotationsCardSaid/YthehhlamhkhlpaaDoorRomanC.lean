/- The laws on FormatRoman, RomanLength, LongestRoman. Conditions: none. -/
import Derived.Test.YthehhlamhkhlpaaDoorRomanB
namespace Go.Proofs.YthehhlamhkhlpaaDoor
set_option linter.unusedVariables false
open Go.RowKit

/-- the numeral's length -/
def romLen (n : Int) : Nat := (fmtR n).length
theorem RomanLength_any (n : Int) (w : World) :
    Calls Tryd.prog 18 #[.int .i64 n] w fun e w' => e = .returned (.int .i64 (romLen n)) ∧ Below w.heap.size w w' := by
  go_enter Tryd.func18, Tryd.ntmps18
  go_wp2_with fail
  refine (FormatRoman_any n _).mono ?_
  rintro e w1 ⟨rfl, hb⟩
  go_wp2_with fail
  go_ret
  exact ⟨rfl, hb⟩

end Go.Proofs.YthehhlamhkhlpaaDoor
