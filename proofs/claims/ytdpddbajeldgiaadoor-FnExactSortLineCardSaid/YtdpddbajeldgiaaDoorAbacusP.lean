/- Plain facts on places of a number: so many digits, the value of digits, beads, nines. No program in sight. Conditions: none. -/
import Derived.Test.YtdpddbajeldgiaaDoorLists
namespace Go.Proofs.YtdpddbajeldgiaaDoor
set_option linter.unusedVariables false
open Go.RowKit

/-! so many places of a number, the lowest first -/
def plcd (n b : Int) : Nat → List Int
  | 0 => []
  | k + 1 => (n % b) :: plcd (n / b) b k
theorem plcd_length (b : Int) : ∀ (k : Nat) (n : Int), (plcd n b k).length = k := by
  intro k
  induction k with
  | zero => intro n; rfl
  | succ k ih => intro n; simp [plcd, ih]
theorem plcd_mem (b : Int) (hb : 2 ≤ b) : ∀ (k : Nat) (n : Int), ∀ d ∈ plcd n b k, 0 ≤ d ∧ d < b := by
  intro k
  induction k with
  | zero => intro n d h; simp [plcd] at h
  | succ k ih =>
    intro n d h
    rcases List.mem_cons.1 h with rfl | h
    · exact mod_bd _ _ (by omega)
    · exact ih _ d h
/-- the loop that makes the places: after j rounds the places so far and the rest of the number -/
theorem plcd_snoc (b : Int) (hb : 2 ≤ b) : ∀ (k : Nat) (n : Int), 0 ≤ n → plcd n b (k + 1) = plcd n b k ++ [n / b ^ k % b] := by
  intro k
  induction k with
  | zero => intro n _; simp [plcd]
  | succ k ih =>
    intro n hn
    have h1 := (div_half n b hn hb).1
    have e : plcd n b (k + 1 + 1) = (n % b) :: plcd (n / b) b (k + 1) := rfl
    rw [e, ih (n / b) h1]
    have e2 : n / b / b ^ k = n / b ^ (k + 1) := by
      rw [Int.pow_succ, Int.mul_comm, Int.ediv_ediv_of_nonneg (by omega)]
    rw [e2]
    rfl

/-! the value of digits, the lowest first -/
def valL (b : Int) : List Int → Int
  | [] => 0
  | d :: ds => d + b * valL b ds
theorem valL_bd (b : Int) (hb : 2 ≤ b) : ∀ (xs : List Int), (∀ d ∈ xs, 0 ≤ d ∧ d < b) → 0 ≤ valL b xs ∧ valL b xs < b ^ xs.length := by
  intro xs
  induction xs with
  | nil => intro _; simp [valL]
  | cons d ds ih =>
    intro h
    have h1 := h d (by simp)
    have h2 := ih (fun x hx => h x (by simp [hx]))
    simp only [valL, List.length_cons, Int.pow_succ]
    have h3 : b * valL b ds ≤ b * (b ^ ds.length - 1) := Int.mul_le_mul_of_nonneg_left (by omega) (by omega)
    have h4 : 0 ≤ b * valL b ds := Int.mul_nonneg (by omega) h2.1
    rw [Int.mul_sub] at h3
    rw [Int.mul_comm (b ^ ds.length) b]
    omega
theorem valL_plcd (b : Int) (hb : 2 ≤ b) : ∀ (k : Nat) (n : Int), 0 ≤ n → n < b ^ k → valL b (plcd n b k) = n := by
  intro k
  induction k with
  | zero => intro n h0 h1; simp at h1; simp [plcd, valL]; omega
  | succ k ih =>
    intro n h0 h1
    have h2 := (div_half n b h0 hb).1
    have h3 : n / b < b ^ k := Int.ediv_lt_of_lt_mul (by omega) (by rw [Int.pow_succ] at h1; exact h1)
    simp only [plcd, valL, ih (n / b) h2 h3]
    have := Int.mul_ediv_add_emod n b
    omega
theorem plcd_valL (b : Int) (hb : 2 ≤ b) : ∀ (xs : List Int), (∀ d ∈ xs, 0 ≤ d ∧ d < b) → plcd (valL b xs) b xs.length = xs := by
  intro xs
  induction xs with
  | nil => intro _; rfl
  | cons d ds ih =>
    intro h
    have h1 := h d (by simp)
    have h2 := ih (fun x hx => h x (by simp [hx]))
    simp only [valL, List.length_cons, plcd]
    have e1 : (d + b * valL b ds) % b = d := by rw [Int.add_mul_emod_self_left]; exact Int.emod_eq_of_lt h1.1 h1.2
    have e2 : (d + b * valL b ds) / b = valL b ds := by rw [Int.add_mul_ediv_left _ _ (by omega), Int.ediv_eq_zero_of_lt h1.1 h1.2]; omega
    rw [e1, e2, h2]
/-- the places of a number depend only on its rest modulo the power -/
theorem plcd_add (b : Int) (hb : 2 ≤ b) : ∀ (k : Nat) (n q : Int), plcd (n + b ^ k * q) b k = plcd n b k := by
  intro k
  induction k with
  | zero => intro n q; rfl
  | succ k ih =>
    intro n q
    have e : n + b ^ (k + 1) * q = n + b * (b ^ k * q) := by rw [Int.pow_succ, Int.mul_comm (b ^ k) b, Int.mul_assoc]
    simp only [plcd, e]
    rw [Int.add_mul_emod_self_left, Int.add_mul_ediv_left _ _ (by omega), ih]
/-- a step of the loop that reckons the value from the highest place on -/
theorem valL_drop (b : Int) (xs : List Int) (k : Nat) (h : k < xs.length) : valL b (xs.drop k) = valL b (xs.drop (k + 1)) * b + xs[k] := by
  rw [List.drop_eq_getElem_cons h]
  simp only [valL]
  rw [Int.mul_comm b]; omega
theorem valL_drop_bd (b : Int) (hb : 2 ≤ b) (xs : List Int) (h : ∀ d ∈ xs, 0 ≤ d ∧ d < b) (k : Nat) : 0 ≤ valL b (xs.drop k) ∧ valL b (xs.drop k) < b ^ xs.length := by
  have h1 := valL_bd b hb (xs.drop k) (fun d hd => h d (List.mem_of_mem_drop hd))
  have h2 : b ^ (xs.drop k).length ≤ b ^ xs.length := pow_monoU b (by omega) _ _ (by simp)
  omega

end Go.Proofs.YtdpddbajeldgiaaDoor
