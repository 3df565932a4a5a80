/- Plain facts on unit fractions with denominators up to 40, for the law FnUnits. Conditions: none. -/
import Derived.Test.YtkcjjhdmklhepaaUnitsC
import Derived.Test.YtkcjjhdmklhepaaUnitsD
import Derived.Test.YtkcjjhdmklhepaaUnitsE
namespace Go.Proofs.Ytkcjjhdmklhepaa
set_option linter.unusedVariables false
open Go.RowKit

def engelF : Nat → Int → Int → List Int
  | 0, _, _ => []
  | f + 1, q, p => if 0 < p then ((q + p - 1) / p) :: engelF f q (p * ((q + p - 1) / p) - q) else []
theorem engel_eq (q : Int) (hq : 1 ≤ q) : ∀ (f : Nat) (p : Int), p.toNat ≤ f → engel q p = engelF f q p := by
  intro f
  induction f with
  | zero => intro p hf; rw [engel_zero q p (by omega)]; rfl
  | succ f ih =>
    intro p hf
    by_cases h : 0 < p
    · have hc := ceil_bd p q h hq
      rw [engel_pos q p h hq, engelF, if_pos h, ih _ (by omega)]
    · rw [engel_zero q p (by omega), engelF, if_neg h]
/-- a list that begins at lo or behind it and rises by at least st -/
def incB (st : Int) : Int → List Int → Bool
  | _, [] => true
  | lo, x :: r => decide (lo ≤ x) && incB st (x + st) r
theorem incB_get (st : Int) (h0 : 0 ≤ st) : ∀ (xs : List Int) (lo : Int), incB st lo xs = true → ∀ k (h : k < xs.length), lo ≤ xs[k] ∧ ∀ h1 : 0 < k, xs[k - 1] + st ≤ xs[k] := by
  intro xs
  induction xs with
  | nil => intro lo _ k h; simp at h
  | cons x r ih =>
    intro lo h k hk
    simp only [incB, Bool.and_eq_true, decide_eq_true_eq] at h
    cases k with
    | zero => exact ⟨h.1, fun h1 => by omega⟩
    | succ k =>
      have h2 := ih _ h.2 k (by simp at hk; omega)
      refine ⟨?_, fun _ => ?_⟩
      · simp only [List.getElem_cons_succ]; omega
      · cases k with
        | zero =>
          have := h2.1
          simp only [List.getElem_cons_succ] at this ⊢
          exact this
        | succ k =>
          have := h2.2 (by omega)
          simpa using this
def unitFacts (p q : Int) : Bool :=
  !(engelF 40 q p).isEmpty && (incB 0 1 (engelF 40 q p) && (evB (engelF 40 q p) && ((evP (engelF 40 q p) == p / gcdZ p q) && ((evQ (engelF 40 q p) == q / gcdZ p q) &&
  ((!grB p q || (incB 1 1 (grL p q) && (usB (grL p q) && ((usP (grL p q) == p / gcdZ p q) && (usQ (grL p q) == q / gcdZ p q))))) && (sumN 12 1 p q 1 == (q % p == 0 && decide (q / p ≤ 12))))))))
def unitAll (q : Nat) : Bool := (List.range q).all (fun p => unitFacts ((p : Int) + 1) q)
set_option maxRecDepth 100000 in
theorem unit_0 : ∀ k : Fin 10, unitAll (k.val + 1) = true := by decide +kernel
set_option maxRecDepth 100000 in
theorem unit_1 : ∀ k : Fin 10, unitAll (k.val + 11) = true := by decide +kernel
set_option maxRecDepth 100000 in
theorem unit_2 : ∀ k : Fin 10, unitAll (k.val + 21) = true := by decide +kernel
set_option maxRecDepth 100000 in
theorem unit_3 : ∀ k : Fin 10, unitAll (k.val + 31) = true := by decide +kernel
theorem unit_all (q : Nat) (h0 : 1 ≤ q) (h1 : q ≤ 40) : unitAll q = true := by
  by_cases h2 : q ≤ 10
  · have := unit_0 ⟨q - 1, by omega⟩; simpa [show q - 1 + 1 = q by omega] using this
  by_cases h3 : q ≤ 20
  · have := unit_1 ⟨q - 11, by omega⟩; simpa [show q - 11 + 11 = q by omega] using this
  by_cases h4 : q ≤ 30
  · have := unit_2 ⟨q - 21, by omega⟩; simpa [show q - 21 + 21 = q by omega] using this
  · have := unit_3 ⟨q - 31, by omega⟩; simpa [show q - 31 + 31 = q by omega] using this
/-- how many of the first k numbers divide s -/
def dvc (s : Int) : Nat → Int
  | 0 => 0
  | k + 1 => dvc s k + (if s % ((k : Int) + 1) == 0 then 1 else 0)
def rowOK (q : Int) : List Int → Bool
  | [a, b] => decide (1 ≤ a) && decide (a ≤ b) && (q * (a + b) == a * b) && decide (b ≤ 1000000)
  | _ => false
def pairFacts (q : Nat) : Bool := (pairR q).all (rowOK q) && (2 * ((pairR q).length : Int) == dvc ((q : Int) * q) (q * q) + 1)
set_option maxRecDepth 100000 in
theorem pair_all : ∀ k : Fin 40, pairFacts (k.val + 1) = true := by decide +kernel
theorem sylv5L : sylvR 5 = [2, 3, 7, 43, 1807] := by decide +kernel
theorem few_one (s : Nat → Bool) : few s 4 1 = 1 ↔ s 1 = true := by
  simp only [few]
  by_cases h1 : s 1 = true
  · simp [h1]
  · simp only [h1]
    constructor
    · intro h
      split at h
      · rename_i h2; exact absurd h2 (by simp)
      split at h
      · omega
      split at h
      · omega
      split at h <;> omega
    · intro h; exact absurd h (by simp)

theorem units_of (p q : Int) (h0 : 1 ≤ p) (h1 : p ≤ q) (h2 : q ≤ 40) (E : List Int) (hE : engelR p q = E) (G : List Int) (hGe : grL p q = G) : unitOk p q = true ∧ E ≠ [] ∧ (∀ k (h : k < E.length), 1 ≤ E[k] ∧ ∀ h1 : 0 < k, E[k - 1] ≤ E[k]) ∧
    evB E = true ∧ evP E = p / gcdZ p q ∧ evQ E = q / gcdZ p q ∧
    (grB p q = true → (∀ k (h : k < G.length), 1 ≤ G[k] ∧ ∀ h1 : 0 < k, G[k - 1] < G[k]) ∧ usB G = true ∧ usP G = p / gcdZ p q ∧ usQ G = q / gcdZ p q) ∧
    (fewR p q 12 == 1) = (q % p == 0 && decide (q / p ≤ 12)) := by
  subst hGe
  have hu : unitOk p q = true := by
    simp only [unitOk, Bool.and_eq_true, inB_t]
    omega
  have e : E = engelF 40 q p := by
    rw [← hE, engelR, if_pos hu]
    exact engel_eq q (by omega) 40 p (by omega)
  have hf : unitFacts p q = true := by
    have h := unit_all q.toNat (by omega) (by omega)
    simp only [unitAll, List.all_eq_true, List.mem_range] at h
    have h' := h (p - 1).toNat (by omega)
    rwa [show (((p - 1).toNat : Nat) : Int) + 1 = p by omega, show ((q.toNat : Nat) : Int) = q by omega] at h'
  simp only [unitFacts, Bool.and_eq_true, beq_iff_eq, Bool.not_eq_true'] at hf
  obtain ⟨g1, g2, g3, g4, g5, g6, g7⟩ := hf
  clear hE
  subst e
  refine ⟨hu, ?_, ?_, g3, g4, g5, ?_, ?_⟩
  · intro h; rw [h] at g1; simp at g1
  · intro k hk
    have h := incB_get 0 (by decide) _ _ g2 k hk
    exact ⟨h.1, fun h1 => by have := h.2 h1; omega⟩
  · intro hg
    simp only [hg, Bool.not_true, Bool.false_or, Bool.and_eq_true, beq_iff_eq] at g6
    obtain ⟨k1, k2, k3, k4⟩ := g6
    refine ⟨?_, k2, k3, k4⟩
    intro k hk
    have h := incB_get 1 (by decide) _ _ k1 k hk
    exact ⟨h.1, fun h1 => by have := h.2 h1; omega⟩
  · have hm : inB 12 1 30 = true := by decide
    rw [fewR, hu, hm, Bool.true_and, if_pos rfl]
    have h := few_one (fun k => sumN 12 k p q 1)
    rw [← g7]
    rw [Bool.eq_iff_iff, beq_iff_eq]
    exact h
theorem pairs_of (q : Int) (h0 : 1 ≤ q) (h1 : q ≤ 40) : (∀ r ∈ pairR q, rowOK q r = true) ∧ 2 * ((pairR q).length : Int) = dvc (q * q) (q * q).toNat + 1 := by
  have h := pair_all ⟨q.toNat - 1, by omega⟩
  simp only [show q.toNat - 1 + 1 = q.toNat by omega, pairFacts, Bool.and_eq_true, beq_iff_eq, List.all_eq_true, show ((q.toNat : Nat) : Int) = q by omega] at h
  refine ⟨h.1, ?_⟩
  rw [h.2]
  congr 2
  apply Int.ofNat.inj
  show ((q.toNat * q.toNat : Nat) : Int) = ((q * q).toNat : Nat)
  have hp : 0 ≤ q * q := Int.mul_nonneg (by omega) (by omega)
  rw [Int.toNat_of_nonneg hp, Int.natCast_mul, Int.toNat_of_nonneg (by omega)]
theorem dvc_bd (s : Int) (k : Nat) : 0 ≤ dvc s k ∧ dvc s k ≤ k := by
  induction k with
  | zero => simp [dvc]
  | succ k ih => rw [dvc]; split <;> omega
theorem sylv5V : usP (sylvR 5) = 3263441 ∧ usQ (sylvR 5) = 3263442 ∧ usB (sylvR 5) = true := by decide +kernel

end Go.Proofs.Ytkcjjhdmklhepaa
