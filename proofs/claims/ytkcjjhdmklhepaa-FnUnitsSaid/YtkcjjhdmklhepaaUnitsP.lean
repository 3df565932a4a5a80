/- Plain facts on unit fractions: greatest common divisors, ceilings, Engel's and the greedy expansion, sums. No program in sight. Conditions: none. -/
import Derived.Test.YtkcjjhdmklhepaaLists
namespace Go.Proofs.Ytkcjjhdmklhepaa
set_option linter.unusedVariables false
open Go.RowKit

def gcdZ (a b : Int) : Int := ((Nat.gcd a.toNat b.toNat : Nat) : Int)
theorem gcdZ_zero (a : Int) (h : 0 ≤ a) : gcdZ a 0 = a := by unfold gcdZ; simp; omega
theorem gcdZ_zero_left (a : Int) (h : 0 ≤ a) : gcdZ 0 a = a := by unfold gcdZ; simp; omega
theorem gcdZ_step (a b : Int) (ha : 0 ≤ a) (hb : 0 < b) : gcdZ a b = gcdZ b (a % b) := by
  unfold gcdZ
  have e : (a % b).toNat = a.toNat % b.toNat := Int.toNat_emod ha (by omega)
  rw [e, Nat.gcd_comm, Nat.gcd_rec, Nat.gcd_comm]
theorem gcdZ_bd (a b : Int) (ha : 0 ≤ a) (hb : 0 < b) : 1 ≤ gcdZ a b ∧ gcdZ a b ≤ b := by
  unfold gcdZ
  have h1 : Nat.gcd a.toNat b.toNat ≤ b.toNat := Nat.gcd_le_right _ (by omega)
  have h2 : 0 < Nat.gcd a.toNat b.toNat := Nat.gcd_pos_of_pos_right _ (by omega)
  omega
theorem gcdZ_dvd (a b : Int) (ha : 0 ≤ a) (hb : 0 ≤ b) : gcdZ a b ∣ a ∧ gcdZ a b ∣ b := by
  unfold gcdZ
  constructor
  · have h := Int.natCast_dvd_natCast.2 (Nat.gcd_dvd_left a.toNat b.toNat)
    rwa [Int.toNat_of_nonneg ha] at h
  · have h := Int.natCast_dvd_natCast.2 (Nat.gcd_dvd_right a.toNat b.toNat)
    rwa [Int.toNat_of_nonneg hb] at h
theorem div_pos_le (q g : Int) (h1 : 1 ≤ g) (h2 : g ≤ q) : 1 ≤ q / g ∧ q / g ≤ q := by
  refine ⟨?_, Int.ediv_le_self _ (by omega)⟩
  have := (Int.le_ediv_iff_mul_le (c := g) (by omega) (a := 1) (b := q)).2 (by omega)
  exact this
/-- the least a with p * a at least q -/
theorem ceil_bd (p q : Int) (hp : 0 < p) (hq : 1 ≤ q) : 1 ≤ (q + p - 1) / p ∧ (q + p - 1) / p ≤ q + p - 1 ∧ q ≤ p * ((q + p - 1) / p) ∧ p * ((q + p - 1) / p) < q + p := by
  have h1 : p * ((q + p - 1) / p) ≤ q + p - 1 := Int.mul_ediv_self_le (by omega)
  have h2 : p * ((q + p - 1) / p) + (q + p - 1) % p = q + p - 1 := Int.mul_ediv_add_emod _ _
  have h3 := mod_bd (q + p - 1) p (by omega)
  have h4 : 0 ≤ (q + p - 1) / p := Int.ediv_nonneg (by omega) (by omega)
  have h5 : (q + p - 1) / p ≤ q + p - 1 := Int.ediv_le_self _ (by omega)
  refine ⟨?_, h5, by omega, by omega⟩
  rcases Int.lt_or_le 0 ((q + p - 1) / p) with h | h
  · omega
  · have : (q + p - 1) / p = 0 := by omega
    rw [this, Int.mul_zero] at h2; omega

def unitOk (p q : Int) : Bool := inB q 1 1000 && inB p 1 q

/-! Engel's expansion -/
def engel (q p : Int) : List Int :=
  if h : 0 < p ∧ p * ((q + p - 1) / p) - q < p then ((q + p - 1) / p) :: engel q (p * ((q + p - 1) / p) - q) else []
termination_by p.toNat
decreasing_by omega
theorem engel_zero (q p : Int) (h : p ≤ 0) : engel q p = [] := by rw [engel, dif_neg (by omega)]
theorem engel_pos (q p : Int) (h : 0 < p) (hq : 1 ≤ q) : engel q p = ((q + p - 1) / p) :: engel q (p * ((q + p - 1) / p) - q) := by
  have := ceil_bd p q h hq
  rw [engel, dif_pos ⟨h, by omega⟩]
theorem engel_len (q : Int) (hq : 1 ≤ q) : ∀ (f : Nat) (p : Int), p.toNat ≤ f → (engel q p).length ≤ f := by
  intro f
  induction f with
  | zero => intro p hf; rw [engel_zero q p (by omega)]; simp
  | succ f ih =>
    intro p hf
    by_cases h : 0 < p
    · have hc := ceil_bd p q h hq
      rw [engel_pos q p h hq]
      have := ih (p * ((q + p - 1) / p) - q) (by omega)
      simp only [List.length_cons]; omega
    · rw [engel_zero q p (by omega)]; simp
def engelR (p q : Int) : List Int := if unitOk p q then engel q p else []
theorem engelR_len (p q : Int) : (engelR p q).length ≤ 1000 := by
  unfold engelR
  split
  · rename_i h
    simp only [unitOk, Bool.and_eq_true, inB_t] at h
    have := engel_len q (by omega) p.toNat p (Nat.le_refl _)
    omega
  · simp

/-! products -/
def prodL : List Int → Int
  | [] => 1
  | x :: xs => x * prodL xs
theorem prodL_append (xs ys : List Int) : prodL (xs ++ ys) = prodL xs * prodL ys := by
  induction xs with
  | nil => simp [prodL]
  | cons x xs ih => simp only [List.cons_append, prodL, ih, Int.mul_assoc]
theorem prodL_snoc (xs : List Int) (y : Int) : prodL (xs ++ [y]) = prodL xs * y := by rw [prodL_append]; simp [prodL]
theorem prodL_pos (xs : List Int) (h : ∀ x ∈ xs, 1 ≤ x) : 1 ≤ prodL xs := by
  induction xs with
  | nil => simp [prodL]
  | cons x xs ih =>
    have h1 := h x (by simp)
    have h2 := ih (fun y hy => h y (by simp [hy]))
    have h3 : 1 * 1 ≤ x * prodL xs := Int.mul_le_mul h1 h2 (by omega) (by omega)
    simp only [prodL]; omega
theorem prodL_step (xs : List Int) (h : ∀ x ∈ xs, 1 ≤ x) (k : Nat) (hk : k < xs.length) :
    1 ≤ prodL (xs.take k) ∧ prodL (xs.take (k + 1)) = prodL (xs.take k) * xs[k] ∧ 1 ≤ xs[k] ∧ 1 ≤ prodL (xs.take k) * xs[k] ∧ prodL (xs.take k) * xs[k] ≤ prodL xs := by
  have h1 := prodL_pos (xs.take k) (fun x hx => h x (List.mem_of_mem_take hx))
  have e : prodL (xs.take (k + 1)) = prodL (xs.take k) * xs[k] := by rw [take_next xs k hk, prodL_snoc]
  have h2 := prodL_pos (xs.take (k + 1)) (fun x hx => h x (List.mem_of_mem_take hx))
  have h3 := prodL_pos (xs.drop (k + 1)) (fun x hx => h x (List.mem_of_mem_drop hx))
  have h4 : prodL (xs.take (k + 1)) * prodL (xs.drop (k + 1)) = prodL xs := by rw [← prodL_append, List.take_append_drop]
  have h5 : prodL (xs.take (k + 1)) * 1 ≤ prodL (xs.take (k + 1)) * prodL (xs.drop (k + 1)) := Int.mul_le_mul_of_nonneg_left h3 (by omega)
  refine ⟨h1, e, h _ (List.getElem_mem hk), by rw [← e]; exact h2, by rw [← e]; omega⟩

/-! Sylvester's numbers -/
def sylv : Nat → List Int
  | 0 => []
  | k + 1 => sylv k ++ [prodL (sylv k) + 1]
theorem sylv_len (k : Nat) : (sylv k).length = k := by induction k with
  | zero => rfl
  | succ k ih => simp [sylv, ih]
theorem sylv_facts : ∀ k : Fin 7, 1 ≤ prodL (sylv k.val) ∧ prodL (sylv k.val) ≤ 4611686018427387904 ∧ ∀ x ∈ sylv k.val, 1 ≤ x := by decide +kernel
theorem sylv_ok (k : Nat) (h : k ≤ 6) : 1 ≤ prodL (sylv k) ∧ prodL (sylv k) ≤ 4611686018427387904 ∧ ∀ x ∈ sylv k, 1 ≤ x := sylv_facts ⟨k, by omega⟩
def sylvR (k : Int) : List Int := if inB k 0 6 then sylv k.toNat else []
theorem sylvR_len (k : Int) : (sylvR k).length ≤ 6 := by
  unfold sylvR
  split
  · rename_i h; rw [sylv_len]; rw [inB_t] at h; omega
  · simp

/-! the greedy expansion -/
def greedy : Nat → Int → Int → List Int → Option (List Int)
  | 0, _, _, _ => none
  | f + 1, p, q, out =>
    if p ≤ 0 then some out
    else if 1000000000 < (q + p - 1) / p ∨ out.length = 8 then none
    else if 1000000000 < (q * ((q + p - 1) / p)) / gcdZ (p * ((q + p - 1) / p) - q) (q * ((q + p - 1) / p)) then none
    else greedy f ((p * ((q + p - 1) / p) - q) / gcdZ (p * ((q + p - 1) / p) - q) (q * ((q + p - 1) / p))) ((q * ((q + p - 1) / p)) / gcdZ (p * ((q + p - 1) / p) - q) (q * ((q + p - 1) / p))) (out ++ [(q + p - 1) / p])
theorem greedy_done (f : Nat) (p q : Int) (out : List Int) (h : p ≤ 0) : greedy (f + 1) p q out = some out := by simp only [greedy, if_pos h]
theorem greedy_fail (f : Nat) (p q : Int) (out : List Int) (h : 0 < p) (h2 : 1000000000 < (q + p - 1) / p ∨ out.length = 8) : greedy (f + 1) p q out = none := by
  simp only [greedy]; rw [if_neg (by omega), if_pos h2]
theorem greedy_big (f : Nat) (p q n g : Int) (out : List Int) (h : 0 < p) (hn : (q + p - 1) / p = n) (hg : gcdZ (p * n - q) (q * n) = g) (h2 : 1000000000 < q * n / g) : greedy (f + 1) p q out = none := by
  subst hn; subst hg
  simp only [greedy]; rw [if_neg (by omega)]
  by_cases hc : 1000000000 < (q + p - 1) / p ∨ out.length = 8
  · rw [if_pos hc]
  · rw [if_neg hc, if_pos h2]
theorem greedy_go (f : Nat) (p q n g : Int) (out : List Int) (h : 0 < p) (hn : (q + p - 1) / p = n) (hg : gcdZ (p * n - q) (q * n) = g) (h1 : n ≤ 1000000000) (h8 : out.length ≠ 8) (h2 : q * n / g ≤ 1000000000) :
    greedy (f + 1) p q out = greedy f ((p * n - q) / g) (q * n / g) (out ++ [n]) := by
  subst hn; subst hg
  simp only [greedy]; rw [if_neg (by omega), if_neg (by omega), if_neg (by omega)]
theorem greedy_len : ∀ (f : Nat) (p q : Int) (out l : List Int), out.length ≤ 8 → greedy f p q out = some l → l.length ≤ 8 := by
  intro f
  induction f with
  | zero => intro p q out l _ h; simp [greedy] at h
  | succ f ih =>
    intro p q out l ho h
    simp only [greedy] at h
    split at h
    · cases h; exact ho
    · split at h
      · cases h
      · split at h
        · cases h
        · exact ih _ _ _ _ (by simp; omega) h
def grO (p q : Int) : Option (List Int) := if unitOk p q then greedy 9 p q [] else none
def grL (p q : Int) : List Int := (grO p q).getD []
def grB (p q : Int) : Bool := (grO p q).isSome
theorem grL_len (p q : Int) : (grL p q).length ≤ 8 := by
  unfold grL
  cases h : grO p q with
  | none => simp
  | some l =>
    unfold grO at h
    split at h
    · exact greedy_len _ _ _ _ _ (by simp) h
    · cases h

/-! sums of unit fractions -/
def usum : List Int → Int → Int → Option (Int × Int)
  | [], p, q => some (p, q)
  | n :: ns, p, q =>
    if inB n 1 1000000000 = false then none
    else if 1000000000 < q * n / gcdZ (p * n + q) (q * n) then none
    else usum ns ((p * n + q) / gcdZ (p * n + q) (q * n)) (q * n / gcdZ (p * n + q) (q * n))
theorem usum_out (n : Int) (ns : List Int) (p q : Int) (h : inB n 1 1000000000 = false) : usum (n :: ns) p q = none := by simp only [usum]; rw [if_pos h]
theorem usum_big (n : Int) (ns : List Int) (p q g : Int) (h : inB n 1 1000000000 = true) (hg : gcdZ (p * n + q) (q * n) = g) (h2 : 1000000000 < q * n / g) : usum (n :: ns) p q = none := by
  subst hg; simp only [usum]; rw [if_neg (by rw [h]; decide), if_pos h2]
theorem usum_go (n : Int) (ns : List Int) (p q g : Int) (h : inB n 1 1000000000 = true) (hg : gcdZ (p * n + q) (q * n) = g) (h2 : q * n / g ≤ 1000000000) : usum (n :: ns) p q = usum ns ((p * n + q) / g) (q * n / g) := by
  subst hg; simp only [usum]; rw [if_neg (by rw [h]; decide), if_neg (by omega)]
def usO (xs : List Int) : Option (Int × Int) := if 8 < xs.length then none else usum xs 0 1
def usP (xs : List Int) : Int := ((usO xs).getD (0, 0)).1
def usQ (xs : List Int) : Int := ((usO xs).getD (0, 0)).2
def usB (xs : List Int) : Bool := (usO xs).isSome
/-- the sum stays small: at most i for i fractions -/
theorem top_small (p q n g i : Int) (hp : 0 ≤ p) (hq : 1 ≤ q) (hn : 1 ≤ n) (hi : 0 ≤ i) (h : p ≤ i * q) (hg : gcdZ (p * n + q) (q * n) = g) : (p * n + q) / g ≤ (i + 1) * (q * n / g) := by
  have hqn : 1 * 1 ≤ q * n := Int.mul_le_mul hq hn (by omega) (by omega)
  have hpn : 0 ≤ p * n := Int.mul_nonneg hp (by omega)
  have hd := gcdZ_dvd (p * n + q) (q * n) (by omega) (by omega)
  have hb := gcdZ_bd (p * n + q) (q * n) (by omega) (by omega)
  rw [hg] at hd hb
  obtain ⟨⟨s, hs⟩, t, ht⟩ := hd
  rw [hs, ht, Int.mul_ediv_cancel_left _ (by omega), Int.mul_ediv_cancel_left _ (by omega)]
  have h1 : p * n ≤ i * q * n := Int.mul_le_mul_of_nonneg_right h (by omega)
  have h2 : q * 1 ≤ q * n := Int.mul_le_mul_of_nonneg_left hn (by omega)
  have h3 : p * n + q ≤ (i + 1) * (q * n) := by rw [Int.add_mul, ← Int.mul_assoc]; omega
  rw [hs, ht, Int.mul_comm (i + 1), Int.mul_assoc] at h3
  have h4 := Int.le_of_mul_le_mul_left h3 (show 0 < g by omega)
  rw [Int.mul_comm (i + 1)]; exact h4

end Go.Proofs.Ytkcjjhdmklhepaa
