/- The contracts of the small functions on ranges and powers. Conditions: those of each contract. -/
import Derived.Test.YthppnjalfppmhaaProg
import Derived.Test.YthppnjalfppmhaaPlain
import Derived.WalkKit
import Derived.WalkLawsBesides
import Derived.WalkSpells
namespace Go.Proofs.Ythppnjalfppmhaa
set_option linter.unusedVariables false
open Go.RowKit

theorem within_any (n lo hi : Int) (w : World) :
    Calls Try.prog 47 #[.int .i64 n, .int .i64 lo, .int .i64 hi] w fun e w' => e = .returned (.bool (inB n lo hi)) ∧ w = w' := by
  go_enter Try.func47, Try.ntmps47
  go_wp2
  all_goals
    go_ret
    exact ⟨by simp [inB]; omega, rfl⟩
theorem l01In_any (n lo hi : Int) (w : World) :
    Calls Try.prog 46 #[.int .i64 n, .int .i64 lo, .int .i64 hi] w fun e w' => e = .returned (.bool (inB n lo hi)) ∧ w = w' := by
  go_enter Try.func46, Try.ntmps46
  go_wp2
  all_goals
    go_ret
    exact ⟨by simp [inB]; omega, rfl⟩
theorem BaseOk_any (b : Int) (w : World) :
    Calls Try.prog 60 #[.int .i64 b] w fun e w' => e = .returned (.bool (inB b 2 16)) ∧ w = w' := by
  go_enter Try.func60, Try.ntmps60
  go_wp2_with (go_at_call 47; refine (within_any _ _ _ _).mono ?_; rintro e w' ⟨rfl, rfl⟩)
  go_ret
  exact ⟨rfl, rfl⟩
theorem power_any (a : Int) (k : Nat) (w : World) (h0 : 1 ≤ a) (hp : a ^ k ≤ 4611686018427387904) (hk : k ≤ 4611686018427387904) :
    Calls Try.prog 43 #[.int .i64 a, .int .i64 k] w fun e w' => e = .returned (.int .i64 (a ^ k)) ∧ w = w' := by
  have HP := Lib.hid hp; clear hp
  go_enter Try.func43, Try.ntmps43
  go_wp2
  go_loop [5, 7] (fun p i => ∃ j : Nat, j ≤ k ∧ i = .int .i64 j ∧ p = .int .i64 (a ^ j)) (fun _ i => k - (intOf i).toNat)
  case atStart => exact ⟨0, Nat.zero_le _, rfl, by simp⟩
  case round =>
    obtain ⟨j, hj, rfl, rfl⟩ := hrel
    by_cases hlt : j < k
    · obtain ⟨hb0, hb1⟩ := pow_stepU a h0 j k hlt HP.out
      go_wp2
      go_round
      case rel => exact ⟨j + 1, by omega, by go_num, by rw [Int.pow_succ]⟩
      case measure => simp [intOf]; omega
    · go_wp2
      go_ret
      obtain rfl : j = k := by omega
      exact ⟨rfl, rfl⟩
theorem l14Power_any (a : Int) (k : Nat) (w : World) (h0 : 1 ≤ a) (hp : a ^ k ≤ 4611686018427387904) (hk : k ≤ 4611686018427387904) :
    Calls Try.prog 50 #[.int .i64 a, .int .i64 k] w fun e w' => e = .returned (.int .i64 (a ^ k)) ∧ w = w' := by
  have HP := Lib.hid hp; clear hp
  go_enter Try.func50, Try.ntmps50
  go_wp2
  go_loop [5, 6] (fun p i => ∃ j : Nat, j ≤ k ∧ i = .int .i64 j ∧ p = .int .i64 (a ^ j)) (fun _ i => k - (intOf i).toNat)
  case atStart => exact ⟨0, Nat.zero_le _, rfl, by simp⟩
  case round =>
    obtain ⟨j, hj, rfl, rfl⟩ := hrel
    by_cases hlt : j < k
    · obtain ⟨hb0, hb1⟩ := pow_stepU a h0 j k hlt HP.out
      go_wp2
      go_round
      case rel => exact ⟨j + 1, by omega, by go_num, by rw [Int.pow_succ]⟩
      case measure => simp [intOf]; omega
    · go_wp2
      go_ret
      obtain rfl : j = k := by omega
      exact ⟨rfl, rfl⟩
theorem isNumber_any (n : Int) (w : World) :
    Calls Try.prog 59 #[.int .i64 n] w fun e w' => e = .returned (.bool (inB n 0 1000000000000)) ∧ w = w' := by
  go_enter Try.func59, Try.ntmps59
  go_wp2_with (go_at_call 47; refine (within_any _ _ _ _).mono ?_; rintro e w' ⟨rfl, rfl⟩)
  go_ret
  exact ⟨rfl, rfl⟩

end Go.Proofs.Ythppnjalfppmhaa
