/- Plain facts on lists of integers: sums, digits, runs of numbers. No program in sight. Conditions: none. -/
import Derived.Test.YtdpddbajeldgiaaDoorPlain
namespace Go.Proofs.YtdpddbajeldgiaaDoor
set_option linter.unusedVariables false
open Go.RowKit

theorem take_next {α : Type} (xs : List α) (k : Nat) (h : k < xs.length) : xs.take (k + 1) = xs.take k ++ [xs[k]] := List.take_succ_eq_append_getElem h

/-! sums -/
def sumL : List Int → Int
  | [] => 0
  | x :: xs => x + sumL xs
theorem sumL_append (xs ys : List Int) : sumL (xs ++ ys) = sumL xs + sumL ys := by
  induction xs with
  | nil => simp [sumL]
  | cons x xs ih => simp only [List.cons_append, sumL, ih]; omega
theorem sumL_snoc (xs : List Int) (y : Int) : sumL (xs ++ [y]) = sumL xs + y := by rw [sumL_append]; simp [sumL]
theorem sumL_nonneg (xs : List Int) (h : ∀ x ∈ xs, 0 ≤ x) : 0 ≤ sumL xs := by
  induction xs with
  | nil => simp [sumL]
  | cons x xs ih =>
    have h1 := h x (by simp)
    have h2 := ih (fun y hy => h y (by simp [hy]))
    simp only [sumL]; omega
theorem sumL_take (xs : List Int) (h : ∀ x ∈ xs, 0 ≤ x) (k : Nat) : 0 ≤ sumL (xs.take k) ∧ sumL (xs.take k) ≤ sumL xs := by
  have h1 : sumL (xs.take k) + sumL (xs.drop k) = sumL xs := by rw [← sumL_append, List.take_append_drop]
  have h2 := sumL_nonneg (xs.take k) (fun x hx => h x (List.mem_of_mem_take hx))
  have h3 := sumL_nonneg (xs.drop k) (fun x hx => h x (List.mem_of_mem_drop hx))
  omega
theorem sumL_le (xs : List Int) (m : Int) (h : ∀ x ∈ xs, x ≤ m) : sumL xs ≤ m * xs.length := by
  induction xs with
  | nil => simp [sumL]
  | cons x xs ih =>
    have h1 := h x (by simp)
    have h2 := ih (fun y hy => h y (by simp [hy]))
    simp only [sumL, List.length_cons]
    have : m * ((xs.length + 1 : Nat) : Int) = m * xs.length + m := by rw [Int.natCast_add, Int.mul_add]; simp
    omega
/-- a step of a sum in a loop -/
theorem sumL_step (xs : List Int) (h : ∀ x ∈ xs, 0 ≤ x) (k : Nat) (hk : k < xs.length) :
    0 ≤ xs[k] ∧ 0 ≤ sumL (xs.take k) ∧ sumL (xs.take k) + xs[k] ≤ sumL xs ∧ sumL (xs.take (k + 1)) = sumL (xs.take k) + xs[k] := by
  have h1 := (sumL_take xs h k).1
  have h2 := (sumL_take xs h (k + 1)).2
  rw [take_next xs k hk, sumL_snoc] at h2
  exact ⟨h _ (List.getElem_mem hk), h1, h2, by rw [take_next xs k hk, sumL_snoc]⟩

/-! digits: the lowest first -/
def digF : Nat → Int → Int → List Int
  | 0, _, _ => []
  | f + 1, n, b => if n ≤ 0 then [] else (n % b) :: digF f (n / b) b
def digs (n b : Int) : List Int := digF 64 n b
theorem digF_fuel (b : Int) (hb : 2 ≤ b) : ∀ (f g : Nat) (n : Int), n < 2 ^ f → n < 2 ^ g → digF f n b = digF g n b := by
  intro f
  induction f with
  | zero =>
    intro g n h1 h2
    have : n ≤ 0 := by simp at h1; omega
    cases g with
    | zero => rfl
    | succ g => simp [digF, this]
  | succ f ih =>
    intro g n h1 h2
    cases g with
    | zero =>
      have : n ≤ 0 := by simp at h2; omega
      simp [digF, this]
    | succ g =>
      simp only [digF]
      split
      · rfl
      · rename_i hn
        have hd := div_half n b (by omega) hb
        rw [ih g (n / b) (by rw [Int.pow_succ] at h1; omega) (by rw [Int.pow_succ] at h2; omega)]
theorem digs_pos (n b : Int) (hb : 2 ≤ b) (h0 : 0 < n) (h1 : n ≤ 9223372036854775807) : digs n b = (n % b) :: digs (n / b) b := by
  unfold digs
  have e : digF 64 n b = if n ≤ 0 then [] else (n % b) :: digF 63 (n / b) b := rfl
  rw [e, if_neg (by omega)]
  have hd := div_half n b (by omega) hb
  rw [digF_fuel b hb 63 64 (n / b) (by omega) (by omega)]
theorem digs_zero (n b : Int) (h : n ≤ 0) : digs n b = [] := by unfold digs; simp [digF, h]
theorem digF_len (b : Int) : ∀ (f : Nat) (n : Int), (digF f n b).length ≤ f := by
  intro f
  induction f with
  | zero => intro n; simp [digF]
  | succ f ih => intro n; simp only [digF]; split <;> simp; exact ih _
theorem digs_len (n b : Int) : (digs n b).length ≤ 64 := digF_len b 64 n
theorem digF_mem (b : Int) (hb : 2 ≤ b) : ∀ (f : Nat) (n : Int), ∀ d ∈ digF f n b, 0 ≤ d ∧ d < b := by
  intro f
  induction f with
  | zero => intro n d h; simp [digF] at h
  | succ f ih =>
    intro n d h
    simp only [digF] at h
    split at h
    · simp at h
    · rcases List.mem_cons.1 h with rfl | h
      · exact ⟨Int.emod_nonneg _ (by omega), Int.emod_lt_of_pos _ (by omega)⟩
      · exact ih _ d h
theorem digs_mem (n b : Int) (hb : 2 ≤ b) : ∀ d ∈ digs n b, 0 ≤ d ∧ d < b := digF_mem b hb 64 n
theorem digs_sum_bd (n b : Int) (hb : 2 ≤ b) (hb2 : b ≤ 16) : 0 ≤ sumL (digs n b) ∧ sumL (digs n b) ≤ 960 := by
  refine ⟨sumL_nonneg _ (fun x hx => (digs_mem n b hb x hx).1), ?_⟩
  have h1 := sumL_le (digs n b) 15 (fun x hx => by have := (digs_mem n b hb x hx).2; omega)
  have h2 := digs_len n b
  omega

/-! a run of numbers: k, k + 1, .. -/
def marks (k : Int) (n : Nat) : List Int := (List.range n).map (fun (i : Nat) => k + (i : Int))
theorem marks_length (k : Int) (n : Nat) : (marks k n).length = n := by simp [marks]
theorem marks_get (k : Int) (n i : Nat) (h : i < (marks k n).length) : (marks k n)[i] = k + i := by simp [marks]
theorem marks_snoc (k : Int) (n : Nat) : marks k (n + 1) = marks k n ++ [k + (n : Int)] := by simp [marks, List.range_succ]
/-- what a list holds when its first j places have been marked -/
def markd (k : Int) (xs : List Int) (j : Nat) : List Int := marks k j ++ xs.drop j
theorem markd_zero (k : Int) (xs : List Int) : markd k xs 0 = xs := by simp [markd, marks]
theorem markd_all (k : Int) (xs : List Int) : markd k xs xs.length = marks k xs.length := by simp [markd]
theorem markd_length (k : Int) (xs : List Int) (j : Nat) (h : j ≤ xs.length) : (markd k xs j).length = xs.length := by simp [markd, marks_length]; omega
theorem markd_set (k : Int) (xs : List Int) (j : Nat) (h : j < xs.length) : (markd k xs j).set j (k + (j : Int)) = markd k xs (j + 1) := by
  unfold markd
  rw [marks_snoc, List.set_append_right _ _ (by simp [marks_length]), marks_length, Nat.sub_self, List.drop_eq_getElem_cons h, List.set_cons_zero]
  simp

end Go.Proofs.YtdpddbajeldgiaaDoor
