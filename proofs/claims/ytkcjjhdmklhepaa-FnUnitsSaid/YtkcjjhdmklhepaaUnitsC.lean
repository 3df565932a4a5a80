/- The fewest unit fractions: program and reference. Conditions: those of each contract. -/
import Derived.Test.YtkcjjhdmklhepaaUnitsB
namespace Go.Proofs.Ytkcjjhdmklhepaa
set_option linter.unusedVariables false
open Go.RowKit

/-- some number from lo on, among so many, satisfies P -/
def anyUp (P : Int → Bool) : Int → Nat → Bool
  | _, 0 => false
  | lo, k + 1 => P lo || anyUp P (lo + 1) k
theorem anyUp_yes {P : Int → Bool} {lo : Int} {k : Nat} (h : P lo = true) : anyUp P lo (k + 1) = true := by simp [anyUp, h]
theorem anyUp_no {P : Int → Bool} {lo : Int} {k : Nat} (h : P lo = false) : anyUp P lo (k + 1) = anyUp P (lo + 1) k := by simp [anyUp, h]
theorem anyUp_ex {P : Int → Bool} : ∀ {k : Nat} {lo : Int}, anyUp P lo k = true → ∃ n, lo ≤ n ∧ n < lo + k ∧ P n = true := by
  intro k
  induction k with
  | zero => intro lo h; simp [anyUp] at h
  | succ k ih =>
    intro lo h
    simp only [anyUp, Bool.or_eq_true] at h
    rcases h with h | h
    · exact ⟨lo, by omega, by omega, h⟩
    · obtain ⟨n, h1, h2, h3⟩ := ih h
      exact ⟨n, by omega, by omega, h3⟩
theorem anyUp_none {P : Int → Bool} {k : Nat} {lo : Int} (h : ∀ n, lo ≤ n → P n = false) : anyUp P lo k = false := by
  rcases hq : anyUp P lo k with _ | _
  · rfl
  · obtain ⟨n, h1, -, h3⟩ := anyUp_ex hq
    rw [h n h1] at h3; exact h3.symm
/-- p / q is a sum of so many different 1 / n, n from a number on up to most -/
def sumN (most : Int) : Nat → Int → Int → Int → Bool
  | 0, p, _, _ => p == 0
  | m + 1, p, q, lo => anyUp (fun n => decide (q ≤ p * n) && sumN most m (p * n - q) (q * n) (n + 1)) lo (most + 1 - lo).toNat
def stepN (most : Int) (m : Nat) (p q : Int) (n : Int) : Bool := decide (q ≤ p * n) && sumN most m (p * n - q) (q * n) (n + 1)
theorem sumN_succ (most : Int) (m : Nat) (p q lo : Int) : sumN most (m + 1) p q lo = anyUp (stepN most m p q) lo (most + 1 - lo).toNat := rfl
/-- so many fractions from 1 / lo on come to at most m / lo -/
theorem sumN_le (most : Int) : ∀ (m : Nat) (p q lo : Int), 1 ≤ lo → 1 ≤ q → 0 ≤ p → sumN most m p q lo = true → p * lo ≤ m * q := by
  intro m
  induction m with
  | zero =>
    intro p q lo hlo hq hp h
    have : p = 0 := by simpa [sumN] using h
    subst this; simp
  | succ m ih =>
    intro p q lo hlo hq hp h
    rw [sumN_succ] at h
    obtain ⟨n, h1, -, h3⟩ := anyUp_ex h
    simp only [stepN, Bool.and_eq_true, decide_eq_true_eq] at h3
    obtain ⟨h4, h5⟩ := h3
    have hqn : 1 * 1 ≤ q * n := Int.mul_le_mul hq (by omega) (by omega) (by omega)
    have h6 := ih _ _ _ (by omega) (by omega) (by omega) h5
    have h7 : (p * n - q) * n ≤ (p * n - q) * (n + 1) := Int.mul_le_mul_of_nonneg_left (by omega) (by omega)
    have h8 : (p * n - q) * n ≤ m * q * n := by rw [Int.mul_assoc]; omega
    have h9 := Int.le_of_mul_le_mul_right h8 (by omega)
    have h10 : p * lo ≤ p * n := Int.mul_le_mul_of_nonneg_left h1 hp
    have e : ((m + 1 : Nat) : Int) * q = m * q + q := by rw [Int.natCast_add, Int.add_mul]; simp
    omega
theorem stepN_pruned (most : Int) (m : Nat) (p q n : Int) (hn : 1 ≤ n) (hq : 1 ≤ q) (hp : 0 ≤ p) (h : ((m + 1 : Nat) : Int) * q < p * n) : stepN most m p q n = false := by
  rcases hs : stepN most m p q n with _ | _
  · rfl
  · exfalso
    simp only [stepN, Bool.and_eq_true, decide_eq_true_eq] at hs
    obtain ⟨h4, h5⟩ := hs
    have hqn : 1 * 1 ≤ q * n := Int.mul_le_mul hq hn (by omega) (by omega)
    have h6 := sumN_le most m _ _ _ (by omega) (by omega) (by omega) h5
    have h7 : (p * n - q) * n ≤ (p * n - q) * (n + 1) := Int.mul_le_mul_of_nonneg_left (by omega) (by omega)
    have h8 : (p * n - q) * n ≤ m * q * n := by rw [Int.mul_assoc]; omega
    have h9 := Int.le_of_mul_le_mul_right h8 (by omega)
    have e : ((m + 1 : Nat) : Int) * q = m * q + q := by rw [Int.natCast_add, Int.add_mul]; simp
    omega
theorem sumN_zero_p (most : Int) (m : Nat) (q lo : Int) (hq : 1 ≤ q) : sumN most (m + 1) 0 q lo = false := by
  rw [sumN_succ]
  exact anyUp_none (fun n _ => by simp [stepN]; omega)
def KN (m : Nat) : Int := 810000000 / 30 ^ m
theorem KN_facts : KN 0 = 810000000 ∧ KN 1 = 27000000 ∧ KN 2 = 900000 ∧ KN 3 = 30000 ∧ KN 4 = 1000 := by decide
theorem KN_step (m : Nat) (h : m ≤ 3) : 30 * KN (m + 1) = KN m := by
  have : ∀ j : Fin 4, 30 * KN (j.val + 1) = KN j.val := by decide
  exact this ⟨m, by omega⟩
theorem KN_le (m : Nat) (h : m ≤ 4) : 1000 ≤ KN m ∧ KN m ≤ 810000000 := by
  have : ∀ j : Fin 5, 1000 ≤ KN j.val ∧ KN j.val ≤ 810000000 := by decide
  exact this ⟨m, by omega⟩
theorem mul_30 (p n : Int) (h0 : 0 ≤ p) (h1 : 1 ≤ n) (h2 : n ≤ 30) : p ≤ p * n ∧ p * n ≤ 30 * p := by
  have h3 : p * 1 ≤ p * n := Int.mul_le_mul_of_nonneg_left h1 h0
  have h4 : p * n ≤ p * 30 := Int.mul_le_mul_of_nonneg_left h2 h0
  omega
set_option maxHeartbeats 1000000 in
theorem isSumOf_any (most : Int) (hm1 : 1 ≤ most) (hm2 : most ≤ 30) : ∀ (m : Nat) (mi p q lo : Int) (w : World), mi = m → m ≤ 4 → 0 ≤ p → p ≤ KN m → 1 ≤ q → q ≤ KN m → 1 ≤ lo → lo ≤ 31 →
    Calls Try.prog 61 #[.int .i64 p, .int .i64 q, .int .i64 mi, .int .i64 lo, .int .i64 most] w fun e w' => e = .returned (.bool (sumN most m p q lo)) ∧ w = w' := by
  intro m
  induction m with
  | zero =>
    intro mi p q lo w hmi _ hp0 hp1 hq0 hq1 hl0 hl1
    obtain rfl : mi = 0 := hmi
    have HF : Hid (sumN most 0 p q lo = (p == 0)) := rfl
    clear hp1 hq1
    go_enter Try.func61, Try.ntmps61
    go_wp2_with fail
    go_ret
    exact ⟨by rw [HF.out] <;> rfl, rfl⟩
  | succ m ih =>
    intro mi p q lo w hmi hm4 hp0 hp1 hq0 hq1 hl0 hl1
    have hmz : (mi == 0) = false := by rw [beq_eq_false_iff_ne]; omega
    have HMI := Lib.hid hmi
    have hmi1 : 1 ≤ mi := by omega
    have hmi2 : mi ≤ 4 := by omega
    clear hmi
    have hK := KN_step m (by omega)
    obtain ⟨hk1, hk2⟩ := KN_le m (by omega)
    have hp2 : 30 * p ≤ KN m := by omega
    have hq2 : 30 * q ≤ KN m := by omega
    have hp3 : p ≤ 810000000 := by omega
    have hq3 : q ≤ 810000000 := by omega
    have HIH := Lib.hid ih; clear ih hK hp1 hq1
    have HKP : Hid (30 * p ≤ KN m ∧ 30 * q ≤ KN m) := ⟨hp2, hq2⟩
    have hp4 : 30 * p ≤ 810000000 := by omega
    have hq4 : 30 * q ≤ 810000000 := by omega
    clear hp2 hq2 hk1 hk2
    go_enter Try.func61, Try.ntmps61
    go_wp2_with fail
    go_loop [11] (fun v => ∃ n : Int, v = .int .i64 n ∧ lo ≤ n ∧ n ≤ 31 ∧ anyUp (stepN most m p q) n (most + 1 - n).toNat = sumN most (m + 1) p q lo) (fun v => (most + 1 - intOf v).toNat)
    case atStart => exact ⟨lo, rfl, Int.le_refl _, hl1, rfl⟩
    case round =>
      obtain ⟨n, rfl, hn0, hn1, hany⟩ := hrel
      have HA := Lib.hid hany; clear hany
      by_cases hle : n ≤ most
      · have HC : Hid ((most + 1 - n).toNat = (most + 1 - (n + 1)).toNat + 1) := by show _ = _; omega
        obtain ⟨b1, b2⟩ := mul_30 p n hp0 (by omega) (by omega)
        obtain ⟨b3, b4⟩ := mul_30 q n (by omega) (by omega) (by omega)
        by_cases hge : q ≤ p * n
        · have HST : Hid (stepN most m p q n = sumN most m (p * n - q) (q * n) (n + 1)) := by show _ = _; simp [stepN, hge]
          cases hs : sumN most m (p * n - q) (q * n) (n + 1)
          · have hs2 : stepN most m p q n = false := by rw [HST.out, hs]
            have HN := Lib.hid (anyUp_no (k := (most + 1 - (n + 1)).toNat) hs2)
            have HS := Lib.hid hs; clear hs hs2
            go_wp2_with fail
            refine (HIH.out _ _ _ _ _ (by have := HMI.out; omega) (by omega) (by omega) (by have := HKP.out; omega) (by omega) (by have := HKP.out; omega) (by omega) (by omega)).mono ?_
            rintro e w' ⟨rfl, rfl⟩
            rw [HS.out]
            go_wp2_with fail
            go_round
            case rel => exact ⟨n + 1, rfl, by omega, by omega, by rw [← HN.out, ← HC.out, HA.out]⟩
            case measure => simp [intOf] <;> omega
          · have hs2 : stepN most m p q n = true := by rw [HST.out, hs]
            have HY := Lib.hid (anyUp_yes (k := (most + 1 - (n + 1)).toNat) hs2)
            have HS := Lib.hid hs; clear hs hs2
            go_wp2_with fail
            refine (HIH.out _ _ _ _ _ (by have := HMI.out; omega) (by omega) (by omega) (by have := HKP.out; omega) (by omega) (by have := HKP.out; omega) (by omega) (by omega)).mono ?_
            rintro e w' ⟨rfl, rfl⟩
            rw [HS.out]
            go_wp2_with fail
            go_ret
            exact ⟨by rw [← HA.out, HC.out, HY.out] <;> rfl, rfl⟩
        · have hs2 : stepN most m p q n = false := by simp [stepN, hge]
          have HN := Lib.hid (anyUp_no (k := (most + 1 - (n + 1)).toNat) hs2)
          clear hs2
          go_wp2_with fail
          go_round
          case rel => exact ⟨n + 1, rfl, by omega, by omega, by rw [← HN.out, ← HC.out, HA.out]⟩
          case measure => simp [intOf] <;> omega
      · have HC : Hid ((most + 1 - n).toNat = 0) := by show _ = _; omega
        go_wp2_with fail
        go_ret
        exact ⟨by rw [← HA.out, HC.out] <;> rfl, rfl⟩
/-- the first k from a number on, among so many, that satisfies s; -1 if there is none -/
def few (s : Nat → Bool) : Nat → Nat → Int
  | 0, _ => -1
  | f + 1, k => if s k then k else few s f (k + 1)
def fewR (p q most : Int) : Int := if unitOk p q && inB most 1 30 then few (fun k => sumN most k p q 1) 4 1 else -1
set_option maxHeartbeats 400000 in
theorem FewestUnits_any (p q most : Int) (w : World) : Calls Try.prog 29 #[.int .i64 p, .int .i64 q, .int .i64 most] w fun e w' => e = .returned (.int .i64 (fewR p q most)) ∧ w = w' := by
  cases hu : unitOk p q
  · have HF : Hid (fewR p q most = -1) := by show _ = _; simp [fewR, hu]
    go_enter Try.func29, Try.ntmps29
    go_wp2_with (go_at_call 58; refine (isUnitSum_any _ _ _).mono ?_; rintro e w' ⟨rfl, rfl⟩)
    go_ret
    exact ⟨by rw [HF.out] <;> rfl, rfl⟩
  cases hm : inB most 1 30
  · have HF : Hid (fewR p q most = -1) := by show _ = _; simp [fewR, hm]
    go_enter Try.func29, Try.ntmps29
    go_wp2_with (first | (go_at_call 58; refine (isUnitSum_any _ _ _).mono ?_; rintro e w' ⟨rfl, rfl⟩) | (go_at_call 47; refine (within_any _ _ _ _).mono ?_; rintro e w' ⟨rfl, rfl⟩))
    go_ret
    exact ⟨by rw [HF.out] <;> rfl, rfl⟩
  have HF : Hid (fewR p q most = few (fun k => sumN most k p q 1) 4 1) := by show _ = _; simp [fewR, hu, hm]
  obtain ⟨hm1, hm2⟩ := inB_t.1 hm
  have hu' := hu
  simp only [unitOk, Bool.and_eq_true, inB_t] at hu'
  obtain ⟨⟨hq1, hq2⟩, hp1, hp2⟩ := hu'
  go_enter Try.func29, Try.ntmps29
  go_wp2_with (first | (go_at_call 58; refine (isUnitSum_any _ _ _).mono ?_; rintro e w' ⟨rfl, rfl⟩) | (go_at_call 47; refine (within_any _ _ _ _).mono ?_; rintro e w' ⟨rfl, rfl⟩))
  clear hu hm
  go_loop [7] (fun v => ∃ k : Nat, v = .int .i64 k ∧ 1 ≤ k ∧ k ≤ 5 ∧ few (fun k => sumN most k p q 1) (5 - k) k = fewR p q most) (fun v => (5 - intOf v).toNat)
  case atStart => exact ⟨1, rfl, by omega, by omega, HF.out.symm⟩
  case round =>
    obtain ⟨k, rfl, hk1, hk5, hfew⟩ := hrel
    have HW := Lib.hid hfew; clear hfew
    by_cases hle : k ≤ 4
    · have HC : Hid (5 - k = (5 - (k + 1)) + 1) := by show _ = _; omega
      have hkn := KN_le k hle
      obtain ⟨hkn1, -⟩ := hkn
      cases hs : sumN most k p q 1
      · have HFS : Hid (few (fun k => sumN most k p q 1) (5 - (k + 1) + 1) k = few (fun k => sumN most k p q 1) (5 - (k + 1)) (k + 1)) := by show _ = _; simp [few, hs]
        have HS := Lib.hid hs; clear hs
        go_wp2_with fail
        refine (isSumOf_any most hm1 hm2 k _ _ _ _ _ rfl hle (by omega) (by omega) (by omega) (by omega) (by omega) (by omega)).mono ?_
        rintro e w' ⟨rfl, rfl⟩
        rw [HS.out]
        go_wp2_with fail
        go_round
        case rel => exact ⟨k + 1, by go_num, by omega, by omega, by rw [← HFS.out, ← HC.out, HW.out]⟩
        case measure => simp [intOf] <;> omega
      · have HFS : Hid (few (fun k => sumN most k p q 1) (5 - (k + 1) + 1) k = k) := by show _ = _; simp [few, hs]
        have HS := Lib.hid hs; clear hs
        go_wp2_with fail
        refine (isSumOf_any most hm1 hm2 k _ _ _ _ _ rfl hle (by omega) (by omega) (by omega) (by omega) (by omega) (by omega)).mono ?_
        rintro e w' ⟨rfl, rfl⟩
        rw [HS.out]
        go_wp2_with fail
        go_ret
        exact ⟨by rw [← HW.out, HC.out, HFS.out] <;> rfl, rfl⟩
    · have hk : k = 5 := by omega
      subst hk
      go_wp2_with fail
      go_ret
      exact ⟨by rw [← HW.out] <;> rfl, rfl⟩
theorem FewestUnits_b (p q most : Int) (w : World) : Calls Try.prog 29 #[.int .i64 p, .int .i64 q, .int .i64 most] w fun e w' => e = .returned (.int .i64 (fewR p q most)) ∧ Below w.heap.size w w' :=
  (FewestUnits_any p q most w).mono fun _ _ ⟨h1, h2⟩ => ⟨h1, h2 ▸ Below.refl _ _⟩

end Go.Proofs.Ytkcjjhdmklhepaa
