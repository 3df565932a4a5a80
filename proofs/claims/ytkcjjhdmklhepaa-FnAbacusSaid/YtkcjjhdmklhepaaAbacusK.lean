/- Plain facts for the law FnAbacus. Conditions: none. -/
import Derived.Test.YtkcjjhdmklhepaaAbacusE
import Derived.Test.YtkcjjhdmklhepaaSelvesP
namespace Go.Proofs.Ytkcjjhdmklhepaa
set_option linter.unusedVariables false
open Go.RowKit

theorem bead_comm (x y : Int) : bead x y = bead y x := by unfold bead; omega
theorem bead_tri (x y z : Int) : bead x z ≤ bead x y + bead y z := by unfold bead; omega
theorem bead_zero (x y : Int) (hx : 0 ≤ x) (hy : 0 ≤ y) (h : bead x y = 0) : x = y := by unfold bead at h; omega
theorem bead_nonneg (x y : Int) : 0 ≤ bead x y := by unfold bead; omega
theorem beadS_comm : ∀ (xs ys : List Int), beadS xs ys = beadS ys xs := by
  intro xs
  induction xs with
  | nil => intro ys; cases ys <;> rfl
  | cons x xs ih =>
    intro ys
    cases ys with
    | nil => rfl
    | cons y ys => simp only [beadS, ih ys, bead_comm x y]
theorem beadS_nonneg : ∀ (xs ys : List Int), 0 ≤ beadS xs ys := by
  intro xs
  induction xs with
  | nil => intro ys; simp [beadS]
  | cons x xs ih =>
    intro ys
    cases ys with
    | nil => simp [beadS]
    | cons y ys =>
      have h1 := ih ys
      have h2 := bead_nonneg x y
      simp only [beadS]; omega
theorem beadS_tri : ∀ (xs ys zs : List Int), xs.length = ys.length → ys.length = zs.length → beadS xs zs ≤ beadS xs ys + beadS ys zs := by
  intro xs
  induction xs with
  | nil => intro ys zs h1 h2; have h3 := beadS_nonneg [] ys; have h4 := beadS_nonneg ys zs; simp only [beadS] at *; omega
  | cons x xs ih =>
    intro ys zs h1 h2
    cases ys with
    | nil => simp at h1
    | cons y ys =>
      cases zs with
      | nil => simp at h2
      | cons z zs =>
        have h3 := ih ys zs (by simpa using h1) (by simpa using h2)
        have h4 := bead_tri x y z
        simp only [beadS]; omega
theorem beadS_zero : ∀ (xs ys : List Int), xs.length = ys.length → (∀ d ∈ xs, 0 ≤ d) → (∀ d ∈ ys, 0 ≤ d) → beadS xs ys = 0 → xs = ys := by
  intro xs
  induction xs with
  | nil => intro ys h1 _ _ _; cases ys with
    | nil => rfl
    | cons y ys => simp at h1
  | cons x xs ih =>
    intro ys h1 hx hy h
    cases ys with
    | nil => simp at h1
    | cons y ys =>
      have h2 := beadS_nonneg xs ys
      have h3 := bead_nonneg x y
      simp only [beadS] at h
      rw [bead_zero x y (hx _ (by simp)) (hy _ (by simp)) (by omega), ih ys (by simpa using h1) (fun d hd => hx d (by simp [hd])) (fun d hd => hy d (by simp [hd])) (by omega)]
/-- the sum of the first j places -/
def sumP (ds : List Int) : Nat → Int
  | 0 => 0
  | j + 1 => sumP ds j + ds.getD j 0 * 10 ^ j
theorem sumP_valL (ds : List Int) (j : Nat) (h : j ≤ ds.length) : sumP ds j = valL 10 (ds.take j) := by
  induction j with
  | zero => simp [sumP, valL]
  | succ j ih =>
    have hj : j < ds.length := by omega
    rw [valL_take_next ds j hj, sumP, ih (by omega)]
    simp [List.getD, hj]
theorem amov_ge (L : Nat) (ds : List Int) : ∀ (j : Nat) (v : Int), beadS (plcd v 10 L) (plcd (v + sumP ds j) 10 L) ≤ amov L ds j v := by
  intro j
  induction j with
  | zero => intro v; simp only [sumP, amov, Int.add_zero, beadS_self]; exact Int.le_refl _
  | succ j ih =>
    intro v
    have h1 := ih (v + ds.getD j 0 * 10 ^ j)
    have h2 := beadS_tri (plcd v 10 L) (plcd (v + ds.getD j 0 * 10 ^ j) 10 L) (plcd (v + ds.getD j 0 * 10 ^ j + sumP ds j) 10 L) (by simp [plcd_length]) (by simp [plcd_length])
    simp only [sumP, amov]
    rw [show v + (sumP ds j + ds.getD j 0 * 10 ^ j) = v + ds.getD j 0 * 10 ^ j + sumP ds j by omega]
    omega
theorem nines_val : ∀ (xs : List Int), valL 10 (nines xs) = 10 ^ xs.length - 1 - valL 10 xs := by
  intro xs
  induction xs with
  | nil => simp [nines, valL]
  | cons x xs ih =>
    simp only [nines, List.map_cons, valL, List.length_cons, Int.pow_succ] at ih ⊢
    rw [ih]
    generalize (10 : Int) ^ xs.length = q
    omega
/-! wheels -/
theorem wsum_cons (n : Int) (h0 : 0 ≤ n) : ∀ k, wsum n (k + 1) = n + wsum (n / 10) k := by
  intro k
  induction k with
  | zero => simp [wsum]
  | succ k ih =>
    have e : n / 10 ^ (k + 1) = n / 10 / 10 ^ k := by
      rw [Int.pow_succ, Int.mul_comm, ← Int.ediv_ediv_of_nonneg (by omega)]
    rw [show wsum n (k + 1 + 1) = wsum n (k + 1) + n / 10 ^ (k + 1) from rfl, ih, e]
    simp only [wsum]
    omega
theorem wsum_sum : ∀ (k : Nat) (n : Int), k ≤ 15 → 0 ≤ n → n < 10 ^ k → 9 * wsum n k = 10 * n - dsum n 10 := by
  intro k
  induction k with
  | zero => intro n _ h0 h; have : n = 0 := by simp at h; omega
            subst this; rw [dsum_zero 0 10 (by omega)]; simp [wsum]
  | succ k ih =>
    intro n hk h0 h
    have hp : (10 : Int) ^ (k + 1) ≤ 10 ^ 15 := pow_monoU 10 (by omega) _ _ hk
    have h1 := ih (n / 10) (by omega) (by omega) (by rw [Int.pow_succ] at h; omega)
    rw [wsum_cons n h0]
    by_cases hz : 0 < n
    · rw [dsum_step n 10 (by omega) hz (by omega)]
      omega
    · have : n = 0 := by omega
      subst this
      rw [show (0 : Int) / 10 = 0 from rfl, dsum_zero 0 10 (by omega)] at h1
      rw [dsum_zero 0 10 (by omega), show (0 : Int) / 10 = 0 from rfl]
      omega

/-! what the law asks of rods -/
theorem rods_ok {xs : List Int} (hd : ∀ d ∈ xs, 0 ≤ d ∧ d < 10) (h1 : 1 ≤ xs.length) (h2 : xs.length ≤ 10) : abOk xs = true := by
  simp only [abOk, Bool.and_eq_true, inB_t, allIn_t]
  exact ⟨by omega, fun d hd' => by have := hd d hd'; omega⟩
theorem rods_val {xs : List Int} (hd : ∀ d ∈ xs, 0 ≤ d ∧ d < 10) (h1 : 1 ≤ xs.length) (h2 : xs.length ≤ 10) : abVal xs = valL 10 xs ∧ 0 ≤ valL 10 xs ∧ valL 10 xs < 10 ^ xs.length :=
  ⟨by rw [abVal, rods_ok hd h1 h2, if_pos rfl], valL_bd 10 (by decide) xs hd⟩
theorem rods_two {xs ys : List Int} (hx : ∀ d ∈ xs, 0 ≤ d ∧ d < 10) (hy : ∀ d ∈ ys, 0 ≤ d ∧ d < 10) (h1 : 1 ≤ xs.length) (h2 : xs.length ≤ 10) (he : ys.length = xs.length) : twoOk xs ys = true := by
  simp only [twoOk, Bool.and_eq_true, beq_iff_eq]
  exact ⟨rods_ok hx h1 h2, rods_ok hy (by omega) (by omega), he.symm⟩
theorem rods_bead {xs ys : List Int} (hx : ∀ d ∈ xs, 0 ≤ d ∧ d < 10) (hy : ∀ d ∈ ys, 0 ≤ d ∧ d < 10) (h1 : 1 ≤ xs.length) (h2 : xs.length ≤ 10) (he : ys.length = xs.length) :
    beadR xs ys = beadS xs ys ∧ 0 ≤ beadS xs ys ∧ beadS xs ys ≤ 5 * xs.length := by
  refine ⟨by rw [beadR, rods_two hx hy h1 h2 he, if_pos rfl], ?_⟩
  have h := beadS_take_bd xs ys hx hy he.symm xs.length (Nat.le_refl _)
  rw [List.take_length, ← he, List.take_length, he] at h
  exact h
theorem rods_same {xs ys : List Int} (hx : ∀ d ∈ xs, 0 ≤ d ∧ d < 10) (hy : ∀ d ∈ ys, 0 ≤ d ∧ d < 10) (he : ys.length = xs.length) : (beadS xs ys == 0) = decide (xs = ys) := by
  by_cases h : xs = ys
  · subst h; simp [beadS_self]
  · have h2 : beadS xs ys ≠ 0 := fun h0 => h (beadS_zero xs ys he.symm (fun d hd => (hx d hd).1) (fun d hd => (hy d hd).1) h0)
    simp [h, h2]
theorem rods_addOk {xs : List Int} {m : Int} (hx : ∀ d ∈ xs, 0 ≤ d ∧ d < 10) (h1 : 1 ≤ xs.length) (h2 : xs.length ≤ 6) (hm0 : 0 ≤ m) (hm1 : m < 10 ^ xs.length) : addOk xs m = decide (valL 10 xs + m < 10 ^ xs.length) := by
  have hv := (rods_val hx h1 (by omega)).2
  have hp := (pow10 xs.length (by omega)).2
  have hb : inB m 0 9999999999 = true := inB_t.2 ⟨hm0, by omega⟩
  have hl : inB (xs.length : Int) 1 10 = true := inB_t.2 ⟨by omega, by omega⟩
  have hc : ctrB (valL 10 xs + m) xs.length = decide (valL 10 xs + m < 10 ^ xs.length) := by
    rw [ctrB, hl, Bool.true_and, Bool.eq_iff_iff, inB_t, decide_eq_true_eq, Int.toNat_natCast]
    omega
  rw [addOk, rods_ok hx h1 (by omega), hb, hc]
  simp
theorem rods_add {xs : List Int} {m : Int} (hx : ∀ d ∈ xs, 0 ≤ d ∧ d < 10) (h1 : 1 ≤ xs.length) (h2 : xs.length ≤ 6) (hm0 : 0 ≤ m) (hm1 : m < 10 ^ xs.length) (h : valL 10 xs + m < 10 ^ xs.length) :
    abVal (addL xs m) = valL 10 xs + m ∧ beadR xs (addL xs m) ≤ addM xs m ∧ (addL xs m).length = xs.length ∧ 0 ≤ addM xs m ∧ addM xs m ≤ 1000 := by
  have hv := (rods_val hx h1 (by omega)).2
  have hok : addOk xs m = true := by rw [rods_addOk hx h1 h2 hm0 hm1]; exact decide_eq_true h
  have e : addL xs m = plcd (valL 10 xs + m) 10 xs.length := by rw [addL, if_pos hok]
  have e2 : addM xs m = amov xs.length (plcd m 10 xs.length) xs.length (valL 10 xs) := by rw [addM, if_pos hok]
  have hpl : (plcd (valL 10 xs + m) 10 xs.length).length = xs.length := plcd_length _ _ _
  have hpd := plcd_mem 10 (by decide) xs.length (valL 10 xs + m)
  rw [e, e2]
  refine ⟨?_, ?_, hpl, ?_⟩
  · rw [(rods_val hpd (by omega) (by omega)).1, valL_plcd 10 (by decide) _ _ (by omega) h]
  · have hg := amov_ge xs.length (plcd m 10 xs.length) xs.length (valL 10 xs)
    rw [sumP_valL _ _ (by rw [plcd_length]; exact Nat.le_refl _)] at hg
    rw [show (plcd m 10 xs.length).take xs.length = plcd m 10 xs.length from by rw [List.take_of_length_le]; rw [plcd_length]; exact Nat.le_refl _] at hg
    rw [valL_plcd 10 (by decide) _ _ hm0 hm1, plcd_valL 10 (by decide) xs hx] at hg
    rw [(rods_bead hx hpd h1 (by omega) hpl).1]
    exact hg
  · have hb := amov_bd xs.length (by omega) (plcd m 10 xs.length) xs.length (valL 10 xs)
    omega
theorem rods_subOk {xs ys : List Int} (hx : ∀ d ∈ xs, 0 ≤ d ∧ d < 10) (hy : ∀ d ∈ ys, 0 ≤ d ∧ d < 10) (h1 : 1 ≤ xs.length) (h2 : xs.length ≤ 6) (he : ys.length = xs.length) : subOk xs ys = decide (valL 10 ys ≤ valL 10 xs) := by
  rw [subOk, rods_two hx hy h1 (by omega) he, Bool.true_and]
  by_cases h : valL 10 ys ≤ valL 10 xs
  · rw [decide_eq_true h, decide_eq_false (by omega)]; rfl
  · rw [decide_eq_false h, decide_eq_true (by omega)]; rfl
theorem rods_sub {xs ys : List Int} (hx : ∀ d ∈ xs, 0 ≤ d ∧ d < 10) (hy : ∀ d ∈ ys, 0 ≤ d ∧ d < 10) (h1 : 1 ≤ xs.length) (h2 : xs.length ≤ 6) (he : ys.length = xs.length) (h : valL 10 ys ≤ valL 10 xs) : abVal (subR xs ys) = valL 10 xs - valL 10 ys := by
  have hv := (rods_val hx h1 (by omega)).2
  have hw := (rods_val hy (by omega) (by omega)).2
  have hok : subOk xs ys = true := by rw [rods_subOk hx hy h1 h2 he]; exact decide_eq_true h
  rw [subR, if_pos hok, nines_val, he]
  rw [show valL 10 xs + (10 ^ xs.length - 1 - valL 10 ys) + 1 = valL 10 xs - valL 10 ys + 10 ^ xs.length * 1 by omega]
  rw [plcd_add 10 (by decide), (rods_val (plcd_mem 10 (by decide) _ _) (by rw [plcd_length]; omega) (by rw [plcd_length]; omega)).1]
  exact valL_plcd 10 (by decide) _ _ (by omega) (by omega)
theorem rods_of {xs : List Int} (hx : ∀ d ∈ xs, 0 ≤ d ∧ d < 10) (h1 : 1 ≤ xs.length) (h2 : xs.length ≤ 6) : ctrB (valL 10 xs) xs.length = true ∧ abOf (valL 10 xs) xs.length = xs := by
  have hv := (rods_val hx h1 (by omega)).2
  have hc : ctrB (valL 10 xs) xs.length = true := by
    have hl : inB (xs.length : Int) 1 10 = true := inB_t.2 ⟨by omega, by omega⟩
    rw [ctrB, hl, Bool.true_and, inB_t, Int.toNat_natCast]
    omega
  refine ⟨hc, ?_⟩
  rw [abOf, if_pos hc, Int.toNat_natCast, plcd_valL 10 (by decide) xs hx]
theorem rods_nines {xs : List Int} (hx : ∀ d ∈ xs, 0 ≤ d ∧ d < 10) (h1 : 1 ≤ xs.length) (h2 : xs.length ≤ 6) : abVal (ninesR xs) = 10 ^ xs.length - 1 - valL 10 xs := by
  rw [ninesR, if_pos (rods_ok hx h1 (by omega)), (rods_val (nines_mem hx) (by rw [nines_len]; omega) (by rw [nines_len]; omega)).1, nines_val]
theorem rods_wheel {xs : List Int} (hx : ∀ d ∈ xs, 0 ≤ d ∧ d < 10) (h1 : 1 ≤ xs.length) (h2 : xs.length ≤ 6) :
    9 * wheel (valL 10 xs) xs.length = 10 * valL 10 xs - dsum (valL 10 xs) 10 ∧ ripl (valL 10 xs) xs.length = (digs (valL 10 xs) 10).length ∧ 0 ≤ wheel (valL 10 xs) xs.length ∧ wheel (valL 10 xs) xs.length ≤ 100000000000 := by
  have hv := (rods_val hx h1 (by omega)).2
  have hc := (rods_of hx h1 h2).1
  have hp := (pow10 xs.length (by omega)).2
  rw [wheel, if_pos hc, ripl, if_pos hc, Int.toNat_natCast]
  refine ⟨wsum_sum xs.length _ (by omega) hv.1 hv.2, rfl, ?_⟩
  have hb := wsum_bd (valL 10 xs) hv.1 (by omega) xs.length
  omega

end Go.Proofs.Ytkcjjhdmklhepaa
