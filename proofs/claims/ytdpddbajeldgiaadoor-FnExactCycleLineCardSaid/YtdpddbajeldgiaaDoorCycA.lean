/- Sums of powers of digits, program and reference. Conditions: those of each contract. -/
import Derived.Test.YtdpddbajeldgiaaDoorCycP
import Derived.Test.YtdpddbajeldgiaaDoorDigs
import Derived.Test.YtdpddbajeldgiaaDoorMem
namespace Go.Proofs.YtdpddbajeldgiaaDoor
set_option linter.unusedVariables false
open Go.RowKit

theorem pw15 : ∀ a : Fin 16, ∀ j : Fin 6, 0 ≤ ((a.val : Int)) ^ j.val ∧ ((a.val : Int)) ^ j.val ≤ 759375 := by decide
theorem pw_le (a : Int) (j : Nat) (h0 : 0 ≤ a) (h1 : a < 16) (hj : j ≤ 5) : 0 ≤ a ^ j ∧ a ^ j ≤ 759375 := by
  obtain ⟨m, rfl⟩ : ∃ m : Nat, a = m := ⟨a.toNat, by omega⟩
  exact pw15 ⟨m, by omega⟩ ⟨j, by omega⟩
theorem power0_any (a : Int) (k : Nat) (w : World) (h0 : 0 ≤ a) (h1 : a < 16) (hk : k ≤ 5) :
    Calls Tryd.prog 123 #[.int .i64 a, .int .i64 k] w fun e w' => e = .returned (.int .i64 (a ^ k)) ∧ w = w' := by
  go_enter Tryd.func123, Tryd.ntmps123
  go_wp2
  go_loop [5, 7] (fun p i => ∃ j : Nat, j ≤ k ∧ i = .int .i64 j ∧ p = .int .i64 (a ^ j)) (fun _ i => k - (intOf i).toNat)
  case atStart => exact ⟨0, Nat.zero_le _, rfl, by simp⟩
  case round =>
    obtain ⟨j, hj, rfl, rfl⟩ := hrel
    by_cases hlt : j < k
    · obtain ⟨hb0, hb1⟩ := pw_le a (j + 1) h0 h1 (by omega)
      rw [Int.pow_succ] at hb0 hb1
      go_wp2
      go_round
      case rel => exact ⟨j + 1, by omega, by go_num, by rw [Int.pow_succ]⟩
      case measure => simp [intOf]; omega
    · go_wp2
      go_ret
      obtain rfl : j = k := by omega
      exact ⟨rfl, rfl⟩
theorem l14Power0_any (a : Int) (k : Nat) (w : World) (h0 : 0 ≤ a) (h1 : a < 16) (hk : k ≤ 5) :
    Calls Tryd.prog 158 #[.int .i64 a, .int .i64 k] w fun e w' => e = .returned (.int .i64 (a ^ k)) ∧ w = w' := by
  go_enter Tryd.func158, Tryd.ntmps158
  go_wp2
  go_loop [5, 6] (fun p i => ∃ j : Nat, j ≤ k ∧ i = .int .i64 j ∧ p = .int .i64 (a ^ j)) (fun _ i => k - (intOf i).toNat)
  case atStart => exact ⟨0, Nat.zero_le _, rfl, by simp⟩
  case round =>
    obtain ⟨j, hj, rfl, rfl⟩ := hrel
    by_cases hlt : j < k
    · obtain ⟨hb0, hb1⟩ := pw_le a (j + 1) h0 h1 (by omega)
      rw [Int.pow_succ] at hb0 hb1
      go_wp2
      go_round
      case rel => exact ⟨j + 1, by omega, by go_num, by rw [Int.pow_succ]⟩
      case measure => simp [intOf]; omega
    · go_wp2
      go_ret
      obtain rfl : j = k := by omega
      exact ⟨rfl, rfl⟩
def pwL (xs : List Int) (e : Nat) : Nat → Int
  | 0 => 0
  | k + 1 => pwL xs e k + (xs.getD k 0) ^ e
def psum (b : Int) (e : Nat) (n : Int) : Int := pwL (digs n b) e (digs n b).length
theorem pwL_next (xs : List Int) (e k : Nat) (h : k < xs.length) : pwL xs e (k + 1) = pwL xs e k + xs[k] ^ e := by
  rw [pwL]; simp [List.getD, h]
theorem pwL_bd (xs : List Int) (e : Nat) (he : e ≤ 5) (h : ∀ x ∈ xs, 0 ≤ x ∧ x < 16) : ∀ k, k ≤ xs.length → 0 ≤ pwL xs e k ∧ pwL xs e k ≤ 759375 * k := by
  intro k
  induction k with
  | zero => intro _; simp [pwL]
  | succ k ih =>
    intro hk
    have i := ih (by omega)
    have := pw_le xs[k] e (h _ (List.getElem_mem _)).1 (h _ (List.getElem_mem _)).2 he
    rw [pwL_next xs e k (by omega)]
    omega
theorem digs_len64 (n b : Int) : (digs n b).length ≤ 64 := digs_len n b
theorem psum_bd (b : Int) (e : Nat) (n : Int) (hb1 : 2 ≤ b) (hb2 : b ≤ 16) (he : e ≤ 5) : 0 ≤ psum b e n ∧ psum b e n ≤ 48600000 := by
  have h := pwL_bd (digs n b) e he (fun x hx => by have := digs_mem n b hb1 x hx; omega) (digs n b).length (Nat.le_refl _)
  have := digs_len64 n b
  unfold psum
  omega
theorem powerSum_any (n b : Int) (e : Nat) (w : World) (hn : n ≤ 1000000000000) (hb1 : 2 ≤ b) (hb2 : b ≤ 16) (he : e ≤ 5) :
    Calls Tryd.prog 99 #[.int .i64 n, .int .i64 b, .int .i64 e] w fun r w' => r = .returned (.int .i64 (psum b e n)) ∧ Below w.heap.size w w' := by
  have HM : Hid (∀ x ∈ digs n b, 0 ≤ x ∧ x < 16) := fun x hx => by have := digs_mem n b hb1 x hx; omega
  have HP : Hid (psum b e n = pwL (digs n b) e (digs n b).length) := rfl
  have hdl := digs_len64 n b
  have HD : Hid (∀ W : World, Calls Tryd.prog 122 #[.int .i64 n, .int .i64 b] W (RetI W (digs n b))) := fun W => digitsOf_any n b W (by omega) hb1 hb2
  generalize digs n b = xs at *
  have HB := Lib.hid (pwL_bd xs e he HM.out)
  have HN := Lib.hid (pwL_next xs e)
  go_enter Tryd.func99, Tryd.ntmps99
  go_wp2_with fail
  refine (HD.out _).mono ?_
  rintro r w1 ⟨a1, c1, rfl, hown, hb⟩
  obtain ⟨-, -, b', o', ha, hc⟩ := hown.ints
  have HA := Lib.hid ha
  have HC := Lib.hid hc
  have HB1 := Lib.hid hb
  clear hown ha hc hb
  go_wp2_with fail
  go_loop [7, 14] (fun s i => ∃ k : Nat, k ≤ xs.length ∧ i = .int .i64 k ∧ s = .int .i64 (pwL xs e k)) (fun _ i => xs.length - (intOf i).toNat)
  case atStart => exact ⟨0, Nat.zero_le _, rfl, rfl⟩
  case round =>
    obtain ⟨k, hk, rfl, rfl⟩ := hrel
    obtain ⟨s0, s1⟩ := HB.out k hk
    by_cases hlt : k < xs.length
    · obtain ⟨rfl, -⟩ := HA.out (by omega)
      have hcx := HC.out k hlt
      obtain ⟨d0, d1⟩ := HM.out _ (List.getElem_mem hlt)
      have HN2 := Lib.hid (HN.out k hlt)
      obtain ⟨p0, p1⟩ := pw_le xs[k] e d0 d1 he
      have HPW : Hid (∀ W : World, Calls Tryd.prog 123 #[.int .i64 xs[k], .int .i64 e] W fun r w' => r = .returned (.int .i64 (xs[k] ^ e)) ∧ W = w') := fun W => power0_any xs[k] e W d0 d1 he
      generalize xs[k] ^ e = pe at *
      generalize xs[k] = d at *
      go_wp2_with fail
      refine (HPW.out _).mono ?_
      rintro r w' ⟨rfl, rfl⟩
      go_wp2_with fail
      go_round
      case rel => exact ⟨k + 1, by omega, by go_num, by rw [HN2.out]⟩
      case measure => simp [intOf]; omega
    · go_wp2_with fail
      go_ret
      obtain rfl : k = xs.length := by omega
      exact ⟨by rw [HP.out] <;> rfl, HB1.out⟩
theorem l22Sum_any (n b : Int) (e : Nat) (w : World) (hn : n ≤ 1000000000000) (hb1 : 2 ≤ b) (hb2 : b ≤ 16) (he : e ≤ 5) :
    Calls Tryd.prog 139 #[.int .i64 n, .int .i64 b, .int .i64 e] w fun r w' => r = .returned (.int .i64 (psum b e n)) ∧ Below w.heap.size w w' := by
  have HM : Hid (∀ x ∈ digs n b, 0 ≤ x ∧ x < 16) := fun x hx => by have := digs_mem n b hb1 x hx; omega
  have HP : Hid (psum b e n = pwL (digs n b) e (digs n b).length) := rfl
  have hdl := digs_len64 n b
  have HD : Hid (∀ W : World, Calls Tryd.prog 129 #[.int .i64 n, .int .i64 b] W (RetI W (digs n b))) := fun W => l02Digits_any n b W (by omega) hb1 hb2
  generalize digs n b = xs at *
  have HB := Lib.hid (pwL_bd xs e he HM.out)
  have HN := Lib.hid (pwL_next xs e)
  go_enter Tryd.func139, Tryd.ntmps139
  go_wp2_with fail
  refine (HD.out _).mono ?_
  rintro r w1 ⟨a1, c1, rfl, hown, hb⟩
  obtain ⟨-, -, b', o', ha, hc⟩ := hown.ints
  have HA := Lib.hid ha
  have HC := Lib.hid hc
  have HB1 := Lib.hid hb
  clear hown ha hc hb
  go_wp2_with fail
  go_loop [7, 14] (fun s i => ∃ k : Nat, k ≤ xs.length ∧ i = .int .i64 k ∧ s = .int .i64 (pwL xs e k)) (fun _ i => xs.length - (intOf i).toNat)
  case atStart => exact ⟨0, Nat.zero_le _, rfl, rfl⟩
  case round =>
    obtain ⟨k, hk, rfl, rfl⟩ := hrel
    obtain ⟨s0, s1⟩ := HB.out k hk
    by_cases hlt : k < xs.length
    · obtain ⟨rfl, -⟩ := HA.out (by omega)
      have hcx := HC.out k hlt
      obtain ⟨d0, d1⟩ := HM.out _ (List.getElem_mem hlt)
      have HN2 := Lib.hid (HN.out k hlt)
      obtain ⟨p0, p1⟩ := pw_le xs[k] e d0 d1 he
      have HPW : Hid (∀ W : World, Calls Tryd.prog 158 #[.int .i64 xs[k], .int .i64 e] W fun r w' => r = .returned (.int .i64 (xs[k] ^ e)) ∧ W = w') := fun W => l14Power0_any xs[k] e W d0 d1 he
      generalize xs[k] ^ e = pe at *
      generalize xs[k] = d at *
      go_wp2_with fail
      refine (HPW.out _).mono ?_
      rintro r w' ⟨rfl, rfl⟩
      go_wp2_with fail
      go_round
      case rel => exact ⟨k + 1, by omega, by go_num, by rw [HN2.out]⟩
      case measure => simp [intOf]; omega
    · go_wp2_with fail
      go_ret
      obtain rfl : k = xs.length := by omega
      exact ⟨by rw [HP.out] <;> rfl, HB1.out⟩

end Go.Proofs.YtdpddbajeldgiaaDoor
