/- The contracts of the small functions on ranges and powers. Conditions: those of each contract. -/
import Derived.Test.YthehhlamhkhlpaaDoorProg
import Derived.Test.YthehhlamhkhlpaaDoorPlain
import Derived.WalkKit
import Derived.WalkLawsBesides
import Derived.WalkSpells
namespace Go.Proofs.YthehhlamhkhlpaaDoor
set_option linter.unusedVariables false
open Go.RowKit

theorem within_any (n lo hi : Int) (w : World) :
    Calls Tryd.prog 28 #[.int .i64 n, .int .i64 lo, .int .i64 hi] w fun e w' => e = .returned (.bool (inB n lo hi)) ∧ w = w' := by
  go_enter Tryd.func28, Tryd.ntmps28
  go_wp2
  all_goals
    go_ret
    exact ⟨by simp [inB]; omega, rfl⟩
theorem l01In_any (n lo hi : Int) (w : World) :
    Calls Tryd.prog 26 #[.int .i64 n, .int .i64 lo, .int .i64 hi] w fun e w' => e = .returned (.bool (inB n lo hi)) ∧ w = w' := by
  go_enter Tryd.func26, Tryd.ntmps26
  go_wp2
  all_goals
    go_ret
    exact ⟨by simp [inB]; omega, rfl⟩
theorem power_any (a : Int) (k : Nat) (w : World) (h0 : 1 ≤ a) (hp : a ^ k ≤ 4611686018427387904) (hk : k ≤ 4611686018427387904) :
    Calls Tryd.prog 34 #[.int .i64 a, .int .i64 k] w fun e w' => e = .returned (.int .i64 (a ^ k)) ∧ w = w' := by
  have HP := Lib.hid hp; clear hp
  go_enter Tryd.func34, Tryd.ntmps34
  go_wp2
  go_loop [5, 7] (fun p i => ∃ j : Nat, j ≤ k ∧ i = .int .i64 j ∧ p = .int .i64 (a ^ j)) (fun _ i => k - (intOf i).toNat)
  case atStart => exact ⟨0, Nat.zero_le _, rfl, by simp⟩
  case round =>
    obtain ⟨j, hj, rfl, rfl⟩ := hrel
    by_cases hlt : j < k
    · obtain ⟨hb0, hb1⟩ := pow_stepU a h0 j k hlt HP.out
      go_wp2
      go_round
      case rel => exact ⟨j + 1, by omega, by go_num, by rw [Int.pow_succ]⟩
      case measure => simp [intOf]; omega
    · go_wp2
      go_ret
      obtain rfl : j = k := by omega
      exact ⟨rfl, rfl⟩

end Go.Proofs.YthehhlamhkhlpaaDoor
