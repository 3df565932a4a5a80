/- Permutations: PermutationOk, LehmerOf, FactorialValue, RankOf, program and reference. Conditions: those of each contract. -/
import Derived.Test.YtdpddbajeldgiaaDoorHas
namespace Go.Proofs.YtdpddbajeldgiaaDoor
set_option linter.unusedVariables false
open Go.RowKit

/-! the plain part -/
def permAt (xs : List Int) (i : Nat) : Bool := inB (xs.getD i 0) 0 ((xs.length : Int) - 1) && !hasB (xs.take i) (xs.getD i 0)
def permB (xs : List Int) : Bool := inB xs.length 1 8 && (List.range xs.length).all (permAt xs)
theorem getD_at (xs : List Int) (k : Nat) (h : k < xs.length) : xs.getD k 0 = xs[k] := by simp [List.getD, h]
theorem permB_no {xs : List Int} {k : Nat} (h : k < xs.length) (hn : permAt xs k = false) : permB xs = false := by
  have h2 : (List.range xs.length).all (permAt xs) = false := by
    rw [List.all_eq_false]
    exact ⟨k, List.mem_range.2 h, by rw [hn]; decide⟩
  rw [permB, h2, Bool.and_false]
theorem permAt_no1 {xs : List Int} {k : Nat} (h : k < xs.length) (hn : inB xs[k] 0 ((xs.length : Int) - 1) = false) : permB xs = false :=
  permB_no h (by rw [permAt, getD_at xs k h, hn, Bool.false_and])
theorem permAt_no2 {xs : List Int} {k : Nat} (h : k < xs.length) (hn : hasB (xs.take k) xs[k] = true) : permB xs = false :=
  permB_no h (by rw [permAt, getD_at xs k h, hn]; simp)
theorem permB_all {xs : List Int} (h : ∀ k (hk : k < xs.length), inB xs[k] 0 ((xs.length : Int) - 1) = true ∧ hasB (xs.take k) xs[k] = false) : permB xs = inB xs.length 1 8 := by
  have h2 : (List.range xs.length).all (permAt xs) = true := by
    rw [List.all_eq_true]
    intro k hk
    obtain ⟨g1, g2⟩ := h k (List.mem_range.1 hk)
    rw [permAt, getD_at xs k (List.mem_range.1 hk), g1, g2]; rfl
  rw [permB, h2, Bool.and_true]
theorem permB_t {xs : List Int} (h : permB xs = true) : 1 ≤ xs.length ∧ xs.length ≤ 8 := by
  simp only [permB, Bool.and_eq_true, inB_t] at h
  omega
/-- how many of ys are less than x -/
def ltC (x : Int) (ys : List Int) : Nat := (ys.filter (fun y => decide (y < x))).length
theorem ltC_bd (x : Int) (ys : List Int) : ltC x ys ≤ ys.length := List.length_filter_le _ _
theorem ltC_next (x : Int) (ys : List Int) (k : Nat) (h : k < ys.length) : ltC x (ys.take (k + 1)) = ltC x (ys.take k) + (if ys[k] < x then 1 else 0) := by
  unfold ltC
  rw [take_next ys k h, List.filter_append, List.length_append]
  congr 1
  by_cases hy : ys[k] < x <;> simp [hy]
def lc (xs : List Int) (i : Nat) : Nat := ltC (xs.getD i 0) (xs.drop (i + 1))
theorem lc_bd (xs : List Int) (i : Nat) (h : i < xs.length) : lc xs i ≤ xs.length - 1 - i := by
  have := ltC_bd (xs.getD i 0) (xs.drop (i + 1))
  rw [List.length_drop] at this
  unfold lc; omega
def leh (xs : List Int) : List Int := (List.range xs.length).map (fun j => (lc xs (xs.length - 1 - j) : Int))
theorem leh_len (xs : List Int) : (leh xs).length = xs.length := by simp [leh]
def lehR (xs : List Int) : List Int := if permB xs then leh xs else []
def fact : Nat → Int
  | 0 => 1
  | k + 1 => fact k * (k + 1)
theorem fact_bd : ∀ k : Fin 13, 1 ≤ fact k.val ∧ fact k.val ≤ 479001600 := by decide
theorem fact_bd8 : ∀ k : Fin 8, 1 ≤ fact k.val ∧ fact k.val ≤ 5040 := by decide
def facAt (ds : List Int) (k : Nat) : Bool := inB (ds.getD k 0) 0 k
def facS (ds : List Int) : Nat → Int
  | 0 => 0
  | k + 1 => facS ds k + ds.getD k 0 * fact k
def facOk (ds : List Int) : Bool := inB ds.length 1 8 && (List.range ds.length).all (facAt ds)
def facV (ds : List Int) : Int := if facOk ds then facS ds ds.length else -1
theorem facOk_no {ds : List Int} {k : Nat} (h : k < ds.length) (hn : inB ds[k] 0 k = false) : facV ds = -1 := by
  have h2 : (List.range ds.length).all (facAt ds) = false := by
    rw [List.all_eq_false]
    refine ⟨k, List.mem_range.2 h, ?_⟩
    rw [facAt, getD_at ds k h, hn]; decide
  rw [facV, facOk, h2, Bool.and_false]; rfl
theorem facOk_all {ds : List Int} (hl : inB ds.length 1 8 = true) (h : ∀ k (hk : k < ds.length), inB ds[k] 0 k = true) : facV ds = facS ds ds.length := by
  have h2 : (List.range ds.length).all (facAt ds) = true := by
    rw [List.all_eq_true]
    intro k hk
    rw [facAt, getD_at ds k (List.mem_range.1 hk), h k (List.mem_range.1 hk)]
  rw [facV, facOk, h2, hl]; rfl
theorem fac_term (d : Int) (k : Nat) (hk : k < 8) (h0 : 0 ≤ d) (h1 : d ≤ k) : 0 ≤ d * fact k ∧ d * fact k ≤ 40000 := by
  obtain ⟨f0, f1⟩ := fact_bd8 ⟨k, hk⟩
  simp only at f0 f1
  have e1 : 0 ≤ d * fact k := Int.mul_nonneg h0 (by omega)
  have e2 : d * fact k ≤ 7 * 5040 := Int.mul_le_mul (by omega) f1 (by omega) (by omega)
  omega
theorem facV_bd (ds : List Int) : -1 ≤ facV ds ∧ facV ds ≤ 1000000 := by
  unfold facV
  split
  · rename_i h
    simp only [facOk, Bool.and_eq_true, inB_t, List.all_eq_true, List.mem_range] at h
    obtain ⟨⟨h1, h2⟩, h3⟩ := h
    have key : ∀ k, k ≤ ds.length → 0 ≤ facS ds k ∧ facS ds k ≤ 40000 * k := by
      intro k
      induction k with
      | zero => intro _; simp [facS]
      | succ k ih =>
        intro hk
        have i := ih (by omega)
        have g := h3 k (by omega)
        rw [facAt, inB_t] at g
        have t := fac_term (ds.getD k 0) k (by omega) g.1 g.2
        rw [facS]; omega
    have := key ds.length (Nat.le_refl _)
    omega
  · omega
def rankR (xs : List Int) : Int := if permB xs then facV (leh xs) else -1
theorem rankR_bd (xs : List Int) : -1 ≤ rankR xs ∧ rankR xs ≤ 1000000 := by
  unfold rankR
  split
  · exact facV_bd _
  · omega
/-! parts of slices -/
theorem Ints.take {w : World} {B : Nat} {a : Option Addr} {cap : Nat} {xs : List Int} (h : Ints w B a cap xs) (k : Nat) (hk : k ≤ xs.length) : Ints w B a cap (xs.take k) := by
  obtain ⟨h1, h2, b, off, h3, h4⟩ := h
  refine ⟨by simp; omega, h2, b, off, fun h => h3 (by simp at h; omega), fun i hi => ?_⟩
  rw [List.getElem_take]
  exact h4 i (by simp at hi; omega)

end Go.Proofs.YtdpddbajeldgiaaDoor
