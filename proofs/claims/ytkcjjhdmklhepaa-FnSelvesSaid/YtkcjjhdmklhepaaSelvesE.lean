/- Split squares and pandigital numbers: program and reference. Conditions: those of each contract. -/
import Derived.Test.YtkcjjhdmklhepaaSelvesB
import Derived.Test.YtkcjjhdmklhepaaRange
import Derived.RegionTactic
namespace Go.Proofs.Ytkcjjhdmklhepaa
set_option linter.unusedVariables false
open Go.RowKit

theorem digs_pow (b : Int) (hb : 2 ≤ b) : ∀ (f : Nat) (n : Int), n.toNat ≤ f → 0 < n → n ≤ 4611686018427387904 → b ^ (digs n b).length ≤ b * n := by
  intro f
  induction f with
  | zero => intro n hf h0 _; omega
  | succ f ih =>
    intro n hf h0 hn
    have hh := div_half n b (by omega) hb
    rw [digs_pos n b hb h0 (by omega), List.length_cons, Int.pow_succ]
    by_cases hz : 0 < n / b
    · have h1 := ih (n / b) (by omega) hz (by omega)
      have h2 : b * (n / b) ≤ n := Int.mul_ediv_self_le (by omega)
      have h3 : b ^ (digs (n / b) b).length * b ≤ n * b := Int.mul_le_mul_of_nonneg_right (by omega) (by omega)
      rw [Int.mul_comm b n]; exact h3
    · rw [digs_zero (n / b) b (by omega)]
      simp only [List.length_nil, Int.pow_zero]
      have h3 : 1 * b ≤ n * b := Int.mul_le_mul_of_nonneg_right (by omega) (by omega)
      rw [Int.mul_comm b n]; exact h3
def splitS (n b : Int) : Bool := n * n / b ^ (digs n b).length + n * n % b ^ (digs n b).length == n
def splitB (n b : Int) : Bool := inB b 2 16 && (inB n 1 1000000 && splitS n b)

set_option maxHeartbeats 400000 in
theorem CountDigits_any (n b : Int) (w : World) (hn : inB n 0 1000000000000 = true) (hb : inB b 2 16 = true) :
    Calls Try.prog 43 #[.int .i64 n, .int .i64 b] w fun e w' => e = .returned (.int .i64 (digs n b).length) ∧ Below w.heap.size w w' := by
  obtain ⟨hb1, hb2⟩ := inB_t.1 hb
  obtain ⟨hn1, hn2⟩ := inB_t.1 hn
  go_enter Try.func43, Try.ntmps43
  go_wp2_with (first | (go_at_call 46; refine (BaseOk_any _ _).mono ?_; rintro e w' ⟨rfl, rfl⟩) | (go_at_call 54; refine (isNumber_any _ _).mono ?_; rintro e w' ⟨rfl, rfl⟩))
  refine (digitsOf_any n b _ (by omega) hb1 hb2).mono ?_
  rintro e w1 ⟨a, cap, rfl, ho, hbl⟩
  have HB := Lib.hid hbl; clear hbl ho
  go_wp2_with fail
  go_ret
  exact ⟨rfl, HB.out⟩
set_option maxHeartbeats 400000 in
theorem IsSplitSquare_any (n b : Int) (w : World) :
    Calls Try.prog 21 #[.int .i64 n, .int .i64 b] w fun e w' => e = .returned (.bool (splitB n b)) ∧ Below w.heap.size w w' := by
  cases hb : inB b 2 16
  · go_enter Try.func21, Try.ntmps21
    go_wp2_with (first | (go_at_call 46; refine (BaseOk_any _ _).mono ?_; rintro e w' ⟨rfl, rfl⟩) | (go_at_call 47; refine (within_any _ _ _ _).mono ?_; rintro e w' ⟨rfl, rfl⟩))
    go_ret
    exact ⟨by simp [splitB, hb], Below.refl _ _⟩
  cases hn : inB n 1 1000000
  · go_enter Try.func21, Try.ntmps21
    go_wp2_with (first | (go_at_call 46; refine (BaseOk_any _ _).mono ?_; rintro e w' ⟨rfl, rfl⟩) | (go_at_call 47; refine (within_any _ _ _ _).mono ?_; rintro e w' ⟨rfl, rfl⟩))
    go_ret
    exact ⟨by simp [splitB, hb, hn], Below.refl _ _⟩
  obtain ⟨hb1, hb2⟩ := inB_t.1 hb
  obtain ⟨hn1, hn2⟩ := inB_t.1 hn
  have hn0 : inB n 0 1000000000000 = true := inB_t.2 (by omega)
  have HF : Hid (splitB n b = (n * n / b ^ (digs n b).length + n * n % b ^ (digs n b).length == n)) := by show _ = _; simp [splitB, hb, hn, splitS]
  have hlen := digs_len n b
  have hp0 := digs_pow b hb1 _ n (Nat.le_refl _) (by omega) (by omega)
  have hp1 : 1 ≤ b ^ (digs n b).length := Int.pow_pos (by omega)
  have hp2 : b ^ (digs n b).length ≤ 16000000 := by
    have : b * n ≤ 16 * 1000000 := Int.mul_le_mul hb2 hn2 (by omega) (by omega)
    omega
  clear hp0
  obtain ⟨hs1, hs2⟩ := sq_bd n 1000000 (by omega) hn2 (by omega)
  have hq1 : 0 ≤ n * n / b ^ (digs n b).length := Int.ediv_nonneg hs1 (by omega)
  have hq2 : n * n / b ^ (digs n b).length ≤ n * n := Int.ediv_le_self _ hs1
  obtain ⟨hr1, hr2⟩ := mod_bd (n * n) (b ^ (digs n b).length) hp1
  go_enter Try.func21, Try.ntmps21
  go_wp2_with (first | (go_at_call 46; refine (BaseOk_any _ _).mono ?_; rintro e w' ⟨rfl, rfl⟩) | (go_at_call 47; refine (within_any _ _ _ _).mono ?_; rintro e w' ⟨rfl, rfl⟩))
  refine (CountDigits_any _ _ _ hn0 hb).mono ?_
  rintro e w1 ⟨rfl, hbl⟩
  have HB := Lib.hid hbl; clear hbl
  go_wp2_with fail
  refine (power_any _ _ _ (by omega) (by omega) (by omega)).mono ?_
  rintro e w' ⟨rfl, rfl⟩
  go_wp2_with fail
  go_quiet (fail)
  go_wp2_with fail
  go_ret
  exact ⟨by rw [HF.out]; rfl, below_drewN HB.out _⟩

end Go.Proofs.Ytkcjjhdmklhepaa
