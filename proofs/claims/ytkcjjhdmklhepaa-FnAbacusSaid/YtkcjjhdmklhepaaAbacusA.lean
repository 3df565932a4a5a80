/- Rods of an abacus and wheels of a counter: program and reference, first part. Conditions: those of each contract. -/
import Derived.Test.YtkcjjhdmklhepaaLawKit
import Derived.Test.YtkcjjhdmklhepaaDigs
import Derived.Test.YtkcjjhdmklhepaaRange
import Derived.Test.YtkcjjhdmklhepaaAbacusP
namespace Go.Proofs.Ytkcjjhdmklhepaa
set_option linter.unusedVariables false
open Go.RowKit

def abOk (xs : List Int) : Bool := inB xs.length 1 10 && allIn xs 0 9
theorem abOk_t {xs : List Int} (h : abOk xs = true) : 1 ≤ xs.length ∧ xs.length ≤ 10 ∧ ∀ d ∈ xs, 0 ≤ d ∧ d < 10 := by
  simp only [abOk, Bool.and_eq_true, inB_t, allIn_t] at h
  refine ⟨by omega, by omega, fun d hd => ?_⟩
  have := h.2 d hd
  omega
theorem AbacusOk_any (a : Option Addr) (cap : Nat) (xs : List Int) (w : World) (hx : Ints w w.heap.size a cap xs) :
    Calls Try.prog 34 #[.slice a xs.length cap] w fun e w' => e = .returned (.bool (abOk xs)) ∧ Below w.heap.size w w' := by
  have HX := Lib.hid hx; clear hx
  cases hl : inB xs.length 1 10
  · go_enter Try.func34, Try.ntmps34
    go_wp2_with (go_at_call 47; refine (within_any _ _ _ _).mono ?_; rintro e w' ⟨rfl, rfl⟩)
    go_ret
    exact ⟨by simp [abOk, hl], Below.refl _ _⟩
  · go_enter Try.func34, Try.ntmps34
    go_wp2_with (go_at_call 47; refine (within_any _ _ _ _).mono ?_; rintro e w' ⟨rfl, rfl⟩)
    refine (allWithin_any _ _ _ _ _ _ HX.out).mono ?_
    rintro e w1 ⟨rfl, hbl⟩
    have HB := Lib.hid hbl; clear hbl
    go_wp2_with fail
    go_ret
    exact ⟨by simp [abOk, hl], HB.out⟩

end Go.Proofs.Ytkcjjhdmklhepaa
