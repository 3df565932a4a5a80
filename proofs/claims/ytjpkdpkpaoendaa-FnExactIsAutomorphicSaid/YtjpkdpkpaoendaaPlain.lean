/- Plain facts on integers and lists, no program in sight. Conditions: none. -/
import Derived.WalkKit
import Derived.Lib.Hide
namespace Go.Proofs.Ytjpkdpkpaoendaa

/-- a number lies in a range -/
def inB (n lo hi : Int) : Bool := decide (lo ≤ n) && decide (n ≤ hi)
theorem inB_t {n lo hi : Int} : inB n lo hi = true ↔ lo ≤ n ∧ n ≤ hi := by simp [inB]
theorem inB_f {n lo hi : Int} : inB n lo hi = false ↔ ¬ (lo ≤ n ∧ n ≤ hi) := by
  rw [← inB_t]; simp

theorem pow_le16 (a : Int) (h0 : 0 ≤ a) (h1 : a ≤ 16) (j : Nat) : 0 ≤ a ^ j ∧ a ^ j ≤ 16 ^ j := by
  induction j with
  | zero => simp
  | succ j ih =>
    rw [Int.pow_succ, Int.pow_succ]
    obtain ⟨h2, h3⟩ := ih
    refine ⟨Int.mul_nonneg h2 h0, Int.mul_le_mul h3 h1 h0 (by omega)⟩

theorem pow16_mono (j : Nat) (h : j ≤ 15) : (16 : Int) ^ j ≤ 1152921504606846976 := by
  have : ∀ j : Fin 16, (16 : Int) ^ j.val ≤ 1152921504606846976 := by decide
  exact this ⟨j, by omega⟩

theorem pow_step (a : Int) (h0 : 0 ≤ a) (h1 : a ≤ 16) (j : Nat) (h : j + 1 ≤ 15) : 0 ≤ a ^ j * a ∧ a ^ j * a ≤ 1152921504606846976 := by
  rw [← Int.pow_succ]
  exact ⟨(pow_le16 a h0 h1 _).1, Int.le_trans (pow_le16 a h0 h1 _).2 (pow16_mono _ h)⟩

end Go.Proofs.Ytjpkdpkpaoendaa
