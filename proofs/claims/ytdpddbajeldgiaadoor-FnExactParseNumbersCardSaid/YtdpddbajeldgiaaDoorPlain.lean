/- Plain facts on integers and lists, no program in sight. Conditions: none. -/
import Derived.WalkKit
import Derived.Lib.Hide
namespace Go.Proofs.YtdpddbajeldgiaaDoor
set_option linter.unusedVariables false

/-- a number lies in a range -/
def inB (n lo hi : Int) : Bool := decide (lo ≤ n) && decide (n ≤ hi)
theorem inB_t {n lo hi : Int} : inB n lo hi = true ↔ lo ≤ n ∧ n ≤ hi := by simp [inB]
theorem inB_f {n lo hi : Int} : inB n lo hi = false ↔ ¬ (lo ≤ n ∧ n ≤ hi) := by
  rw [← inB_t]; simp

theorem pow_le16 (a : Int) (h0 : 0 ≤ a) (h1 : a ≤ 16) (j : Nat) : 0 ≤ a ^ j ∧ a ^ j ≤ 16 ^ j := by
  induction j with
  | zero => simp
  | succ j ih =>
    rw [Int.pow_succ, Int.pow_succ]
    obtain ⟨h2, h3⟩ := ih
    refine ⟨Int.mul_nonneg h2 h0, Int.mul_le_mul h3 h1 h0 (by omega)⟩

theorem pow16_mono (j : Nat) (h : j ≤ 15) : (16 : Int) ^ j ≤ 1152921504606846976 := by
  have : ∀ j : Fin 16, (16 : Int) ^ j.val ≤ 1152921504606846976 := by decide
  exact this ⟨j, by omega⟩

theorem pow_step (a : Int) (h0 : 0 ≤ a) (h1 : a ≤ 16) (j : Nat) (h : j + 1 ≤ 15) : 0 ≤ a ^ j * a ∧ a ^ j * a ≤ 1152921504606846976 := by
  rw [← Int.pow_succ]
  exact ⟨(pow_le16 a h0 h1 _).1, Int.le_trans (pow_le16 a h0 h1 _).2 (pow16_mono _ h)⟩

/-- a division by at least 2 at least halves -/
theorem div_half (n b : Int) (h0 : 0 ≤ n) (hb : 2 ≤ b) : 0 ≤ n / b ∧ 2 * (n / b) ≤ n := by
  have h1 : 0 ≤ n / b := Int.ediv_nonneg h0 (by omega)
  have h2 : b * (n / b) ≤ n := Int.mul_ediv_self_le (by omega)
  have h3 : 2 * (n / b) ≤ b * (n / b) := Int.mul_le_mul_of_nonneg_right hb h1
  omega
theorem mod_bd (n b : Int) (hb : 1 ≤ b) : 0 ≤ n % b ∧ n % b < b := ⟨Int.emod_nonneg _ (by omega), Int.emod_lt_of_pos _ (by omega)⟩

theorem pow_monoU (a : Int) (h : 1 ≤ a) (j k : Nat) (hjk : j ≤ k) : a ^ j ≤ a ^ k := by
  obtain ⟨d, rfl⟩ := Nat.exists_eq_add_of_le hjk
  rw [Int.pow_add]
  have h1 : 1 ≤ a ^ j := Int.pow_pos (by omega)
  have h2 : 1 ≤ a ^ d := Int.pow_pos (by omega)
  have h3 : a ^ j * 1 ≤ a ^ j * a ^ d := Int.mul_le_mul_of_nonneg_left h2 (by omega)
  omega
theorem pow_stepU (a : Int) (h : 1 ≤ a) (j k : Nat) (hjk : j < k) (hp : a ^ k ≤ 4611686018427387904) : 0 ≤ a ^ j * a ∧ a ^ j * a ≤ 4611686018427387904 := by
  rw [← Int.pow_succ]
  have h1 : 1 ≤ a ^ (j + 1) := Int.pow_pos (by omega)
  have h2 := pow_monoU a h (j + 1) k hjk
  exact ⟨Int.le_trans (by omega) h1, Int.le_trans h2 hp⟩

end Go.Proofs.YtdpddbajeldgiaaDoor
