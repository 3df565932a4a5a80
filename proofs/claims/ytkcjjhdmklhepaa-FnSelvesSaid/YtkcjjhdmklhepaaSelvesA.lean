/- IsAutomorphic: program and reference. Conditions: none. -/
import Derived.Test.YtkcjjhdmklhepaaBase
namespace Go.Proofs.Ytkcjjhdmklhepaa
set_option linter.unusedVariables false
open Go.RowKit

def autoB (n b k : Int) : Bool := inB b 2 16 && (inB k 1 6 && (inB n 0 (b ^ k.toNat - 1) && (n * n % b ^ k.toNat == n)))

theorem sq_bd (n p : Int) (h0 : 0 ≤ n) (h1 : n ≤ p) (h2 : p ≤ 2147483647) : 0 ≤ n * n ∧ n * n ≤ 4611686014132420609 := by
  refine ⟨Int.mul_nonneg h0 h0, ?_⟩
  have : n * n ≤ 2147483647 * 2147483647 := Int.mul_le_mul (by omega) (by omega) h0 (by omega)
  omega
theorem pow_6 (b : Int) (h0 : 2 ≤ b) (h1 : b ≤ 16) (k : Nat) (hk : k ≤ 6) : 1 ≤ b ^ k ∧ b ^ k ≤ 16777216 := by
  refine ⟨Int.pow_pos (by omega), ?_⟩
  refine Int.le_trans (pow_le16 b (by omega) h1 k).2 ?_
  have : ∀ j : Fin 7, (16 : Int) ^ j.val ≤ 16777216 := by decide
  exact this ⟨k, by omega⟩

set_option maxHeartbeats 400000 in
theorem IsAutomorphic_any (n b k : Int) (w : World) :
    Calls Try.prog 10 #[.int .i64 n, .int .i64 b, .int .i64 k] w fun e w' => e = .returned (.bool (autoB n b k)) ∧ w = w' := by
  cases hb : inB b 2 16
  · go_enter Try.func10, Try.ntmps10
    go_wp2_with (go_at_call 46; refine (BaseOk_any _ _).mono ?_; rintro e w' ⟨rfl, rfl⟩)
    go_ret
    exact ⟨by simp [autoB, hb], rfl⟩
  cases hk : inB k 1 6
  · go_enter Try.func10, Try.ntmps10
    go_wp2_with (first | (go_at_call 46; refine (BaseOk_any _ _).mono ?_; rintro e w' ⟨rfl, rfl⟩) | (go_at_call 47; refine (within_any _ _ _ _).mono ?_; rintro e w' ⟨rfl, rfl⟩))
    go_ret
    exact ⟨by simp [autoB, hb, hk], rfl⟩
  obtain ⟨hb1, hb2⟩ := inB_t.1 hb
  obtain ⟨hk1, hk2⟩ := inB_t.1 hk
  obtain ⟨k, rfl⟩ := Int.eq_ofNat_of_zero_le (show 0 ≤ k by omega)
  obtain ⟨hp1, hp2⟩ := pow_6 b hb1 hb2 k (by omega)
  cases hn : inB n 0 (b ^ k - 1)
  · go_enter Try.func10, Try.ntmps10
    go_wp2_with (first | (go_at_call 46; refine (BaseOk_any _ _).mono ?_; rintro e w' ⟨rfl, rfl⟩) | (go_at_call 47; refine (within_any _ _ _ _).mono ?_; rintro e w' ⟨rfl, rfl⟩) | (go_at_call 48; refine (power_any _ _ _ (by omega) (by omega) (by omega)).mono ?_; rintro e w' ⟨rfl, rfl⟩))
    go_ret
    exact ⟨by simp [autoB, hb, hk, hn], rfl⟩
  · obtain ⟨hn1, hn2⟩ := inB_t.1 hn
    obtain ⟨hs1, hs2⟩ := sq_bd n (b ^ k) hn1 (by omega) (by omega)
    go_enter Try.func10, Try.ntmps10
    go_wp2_with (first | (go_at_call 46; refine (BaseOk_any _ _).mono ?_; rintro e w' ⟨rfl, rfl⟩) | (go_at_call 47; refine (within_any _ _ _ _).mono ?_; rintro e w' ⟨rfl, rfl⟩) | (go_at_call 48; refine (power_any _ _ _ (by omega) (by omega) (by omega)).mono ?_; rintro e w' ⟨rfl, rfl⟩))
    go_ret
    exact ⟨by simp [autoB, hb, hk, hn], rfl⟩


end Go.Proofs.Ytkcjjhdmklhepaa
