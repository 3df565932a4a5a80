/- IsAutomorphic: program and reference. Conditions: none. -/
import Derived.Test.YtjpkdpkpaoendaaBase
namespace Go.Proofs.Ytjpkdpkpaoendaa
set_option linter.unusedVariables false
open Go.RowKit

def autoB (n b k : Int) : Bool := inB b 2 16 && (inB k 1 6 && (inB n 0 (b ^ k.toNat - 1) && (n * n % b ^ k.toNat == n)))

theorem sq_bd (n p : Int) (h0 : 0 ≤ n) (h1 : n ≤ p) (h2 : p ≤ 2147483647) : 0 ≤ n * n ∧ n * n ≤ 4611686014132420609 := by
  refine ⟨Int.mul_nonneg h0 h0, ?_⟩
  have : n * n ≤ 2147483647 * 2147483647 := Int.mul_le_mul (by omega) (by omega) h0 (by omega)
  omega
theorem pow_6 (b : Int) (h0 : 2 ≤ b) (h1 : b ≤ 16) (k : Nat) (hk : k ≤ 6) : 1 ≤ b ^ k ∧ b ^ k ≤ 16777216 := by
  refine ⟨Int.pow_pos (by omega), ?_⟩
  refine Int.le_trans (pow_le16 b (by omega) h1 k).2 ?_
  have : ∀ j : Fin 7, (16 : Int) ^ j.val ≤ 16777216 := by decide
  exact this ⟨k, by omega⟩

set_option maxHeartbeats 400000 in
theorem IsAutomorphic_any (n b k : Int) (w : World) :
    Calls Try.prog 16 #[.int .i64 n, .int .i64 b, .int .i64 k] w fun e w' => e = .returned (.bool (autoB n b k)) ∧ w = w' := by
  cases hb : inB b 2 16
  · go_enter Try.func16, Try.ntmps16
    go_wp2_with (go_at_call 49; refine (BaseOk_any _ _).mono ?_; rintro e w' ⟨rfl, rfl⟩)
    go_ret
    exact ⟨by simp [autoB, hb], rfl⟩
  cases hk : inB k 1 6
  · go_enter Try.func16, Try.ntmps16
    go_wp2_with (first | (go_at_call 49; refine (BaseOk_any _ _).mono ?_; rintro e w' ⟨rfl, rfl⟩) | (go_at_call 50; refine (within_any _ _ _ _).mono ?_; rintro e w' ⟨rfl, rfl⟩))
    go_ret
    exact ⟨by simp [autoB, hb, hk], rfl⟩
  obtain ⟨hb1, hb2⟩ := inB_t.1 hb
  obtain ⟨hk1, hk2⟩ := inB_t.1 hk
  obtain ⟨k, rfl⟩ := Int.eq_ofNat_of_zero_le (show 0 ≤ k by omega)
  obtain ⟨hp1, hp2⟩ := pow_6 b hb1 hb2 k (by omega)
  cases hn : inB n 0 (b ^ k - 1)
  · go_enter Try.func16, Try.ntmps16
    go_wp2_with (first | (go_at_call 49; refine (BaseOk_any _ _).mono ?_; rintro e w' ⟨rfl, rfl⟩) | (go_at_call 50; refine (within_any _ _ _ _).mono ?_; rintro e w' ⟨rfl, rfl⟩) | (go_at_call 51; refine (power_any _ _ _ (by omega) (by omega) (by omega)).mono ?_; rintro e w' ⟨rfl, rfl⟩))
    go_ret
    exact ⟨by simp [autoB, hb, hk, hn], rfl⟩
  · obtain ⟨hn1, hn2⟩ := inB_t.1 hn
    obtain ⟨hs1, hs2⟩ := sq_bd n (b ^ k) hn1 (by omega) (by omega)
    go_enter Try.func16, Try.ntmps16
    go_wp2_with (first | (go_at_call 49; refine (BaseOk_any _ _).mono ?_; rintro e w' ⟨rfl, rfl⟩) | (go_at_call 50; refine (within_any _ _ _ _).mono ?_; rintro e w' ⟨rfl, rfl⟩) | (go_at_call 51; refine (power_any _ _ _ (by omega) (by omega) (by omega)).mono ?_; rintro e w' ⟨rfl, rfl⟩))
    go_ret
    exact ⟨by simp [autoB, hb, hk, hn], rfl⟩

theorem l25Is_any (n m : Int) (w : World) (h0 : 0 ≤ n) (h1 : n ≤ m) (h2 : 1 ≤ m) (h3 : m ≤ 2147483647) :
    Calls Try.prog 48 #[.int .i64 n, .int .i64 m] w fun e w' => e = .returned (.bool (n * n % m == n)) ∧ w = w' := by
  obtain ⟨hs1, hs2⟩ := sq_bd n m h0 h1 h3
  go_enter Try.func48, Try.ntmps48
  go_wp2
  go_ret
  exact ⟨rfl, rfl⟩

set_option maxHeartbeats 400000 in
theorem sIsAutomorphic_any (n b k : Int) (w : World) :
    Calls Try.prog 15 #[.int .i64 n, .int .i64 b, .int .i64 k] w fun e w' => e = .returned (.bool (autoB n b k)) ∧ w = w' := by
  cases hb : inB b 2 16
  · go_enter Try.func15, Try.ntmps15
    go_wp2_with (go_at_call 45; refine (sBaseOk_any _ _).mono ?_; rintro e w' ⟨rfl, rfl⟩)
    go_ret
    exact ⟨by simp [autoB, hb], rfl⟩
  cases hk : inB k 1 6
  · go_enter Try.func15, Try.ntmps15
    go_wp2_with (first | (go_at_call 45; refine (sBaseOk_any _ _).mono ?_; rintro e w' ⟨rfl, rfl⟩) | (go_at_call 46; refine (l01In_any _ _ _ _).mono ?_; rintro e w' ⟨rfl, rfl⟩))
    go_ret
    exact ⟨by simp [autoB, hb, hk], rfl⟩
  obtain ⟨hb1, hb2⟩ := inB_t.1 hb
  obtain ⟨hk1, hk2⟩ := inB_t.1 hk
  obtain ⟨k, rfl⟩ := Int.eq_ofNat_of_zero_le (show 0 ≤ k by omega)
  obtain ⟨hp1, hp2⟩ := pow_6 b hb1 hb2 k (by omega)
  cases hn : inB n 0 (b ^ k - 1)
  · go_enter Try.func15, Try.ntmps15
    go_wp2_with (first | (go_at_call 45; refine (sBaseOk_any _ _).mono ?_; rintro e w' ⟨rfl, rfl⟩) | (go_at_call 46; refine (l01In_any _ _ _ _).mono ?_; rintro e w' ⟨rfl, rfl⟩) | (go_at_call 47; refine (l14Power_any _ _ _ (by omega) (by omega) (by omega)).mono ?_; rintro e w' ⟨rfl, rfl⟩))
    go_ret
    exact ⟨by simp [autoB, hb, hk, hn], rfl⟩
  · obtain ⟨hn1, hn2⟩ := inB_t.1 hn
    go_enter Try.func15, Try.ntmps15
    go_wp2_with (first | (go_at_call 45; refine (sBaseOk_any _ _).mono ?_; rintro e w' ⟨rfl, rfl⟩) | (go_at_call 46; refine (l01In_any _ _ _ _).mono ?_; rintro e w' ⟨rfl, rfl⟩) | (go_at_call 47; refine (l14Power_any _ _ _ (by omega) (by omega) (by omega)).mono ?_; rintro e w' ⟨rfl, rfl⟩) | (go_at_call 48; refine (l25Is_any _ _ _ (by omega) (by omega) (by omega) (by omega)).mono ?_; rintro e w' ⟨rfl, rfl⟩))
    go_ret
    exact ⟨by simp [autoB, hb, hk, hn], rfl⟩

theorem law_FnExactIsAutomorphic (a0 a1 a2 : Int) (w : World) (_w0 : (Lit.int .i64 a0).wf = true) (_w1 : (Lit.int .i64 a1).wf = true) (_w2 : (Lit.int .i64 a2).wf = true) :
    Calls Try.prog 3 #[.int .i64 a0, .int .i64 a1, .int .i64 a2] w fun e w' => e = .returned (.bool true) ∧ Below w.heap.size w w' := by
  go_enter Try.func3, Try.ntmps3
  go_wp2_with (first | (go_at_call 15; refine (sIsAutomorphic_any _ _ _ _).mono ?_; rintro e w' ⟨rfl, rfl⟩) | (go_at_call 16; refine (IsAutomorphic_any _ _ _ _).mono ?_; rintro e w' ⟨rfl, rfl⟩))
  go_ret
  exact ⟨rfl, Below.refl _ _⟩

end Go.Proofs.Ytjpkdpkpaoendaa
