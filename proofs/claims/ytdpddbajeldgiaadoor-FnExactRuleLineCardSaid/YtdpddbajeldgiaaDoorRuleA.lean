/- Rules of divisibility: BlockRule, RuleWeights, SmallWeights, TrimFactor, program and reference. Conditions: those of each contract. -/
import Derived.Test.YtdpddbajeldgiaaDoorMem
namespace Go.Proofs.YtdpddbajeldgiaaDoor
set_option linter.unusedVariables false
open Go.RowKit

def ruleOk (m b : Int) : Bool := inB b 2 16 && inB m 2 1000
theorem ruleOk_t {m b : Int} (h : ruleOk m b = true) : 2 ≤ b ∧ b ≤ 16 ∧ 2 ≤ m ∧ m ≤ 1000 := by
  simp only [ruleOk, Bool.and_eq_true, inB_t] at h
  omega
theorem isRuled_any (m b : Int) (w : World) :
    Calls Tryd.prog 47 #[.int .i64 m, .int .i64 b] w fun e w' => e = .returned (.bool (ruleOk m b)) ∧ w = w' := by
  cases hb : inB b 2 16
  all_goals
    have HR : Hid (ruleOk m b = (inB b 2 16 && inB m 2 1000)) := rfl
    have HB := Lib.hid hb
    go_enter Tryd.func47, Tryd.ntmps47
    go_wp2_with (first | (go_at_call 75; refine (BaseOk_any _ _).mono ?_; rintro e w' ⟨rfl, rfl⟩) | (go_at_call 87; refine (within_any _ _ _ _).mono ?_; rintro e w' ⟨rfl, rfl⟩))
    go_ret
    exact ⟨by rw [HR.out, HB.out]; simp, rfl⟩
theorem l24Ok_any (m b : Int) (w : World) :
    Calls Tryd.prog 43 #[.int .i64 m, .int .i64 b] w fun e w' => e = .returned (.bool (ruleOk m b)) ∧ w = w' := by
  cases hb : inB b 2 16
  all_goals
    have HR : Hid (ruleOk m b = (inB b 2 16 && inB m 2 1000)) := rfl
    have HB := Lib.hid hb
    go_enter Tryd.func43, Tryd.ntmps43
    go_wp2_with (first | (go_at_call 83; refine (sBaseOk_any _ _).mono ?_; rintro e w' ⟨rfl, rfl⟩) | (go_at_call 84; refine (l01In_any _ _ _ _).mono ?_; rintro e w' ⟨rfl, rfl⟩))
    go_ret
    exact ⟨by rw [HR.out, HB.out]; simp, rfl⟩
/-! blocks -/
theorem mul_mod_bd (x b m : Int) (h0 : 0 ≤ x) (h1 : x < m) (hm : m ≤ 1000) (hb0 : 2 ≤ b) (hb1 : b ≤ 16) : 0 ≤ x * b ∧ x * b ≤ 16000 ∧ 0 ≤ x * b % m ∧ x * b % m < m := by
  have e1 : 0 ≤ x * b := Int.mul_nonneg h0 (by omega)
  have e2 : x * b ≤ 1000 * 16 := Int.mul_le_mul (by omega) hb1 (by omega) (by omega)
  exact ⟨e1, by omega, Int.emod_nonneg _ (by omega), Int.emod_lt_of_pos _ (by omega)⟩
/-- the power of b modulo m after k rounds -/
def pw (m b : Int) : Nat → Int
  | 0 => 1
  | k + 1 => pw m b k * b % m
theorem pw_bd {m b : Int} (h : ruleOk m b = true) (k : Nat) : 0 ≤ pw m b k ∧ pw m b k < m := by
  obtain ⟨h1, h2, h3, h4⟩ := ruleOk_t h
  induction k with
  | zero => rw [pw]; omega
  | succ k ih => exact (mul_mod_bd _ b m ih.1 ih.2 h4 h1 h2).2.2
/-- the least k up to 40 at which the power is 1 or -1, looked for from k0 on -/
def blk (m b : Int) : Nat → Nat → Int × Int
  | 0, _ => (0, 0)
  | f + 1, k => if pw m b k = 1 then ((k : Int), 1) else if pw m b k = m - 1 then ((k : Int), -1) else blk m b f (k + 1)
def blkR (m b : Int) : Int × Int := if ruleOk m b then blk m b 40 1 else (0, 0)
theorem blk_one {m b : Int} {f k : Nat} (h : pw m b k = 1) : blk m b (f + 1) k = ((k : Int), 1) := by rw [blk, if_pos h]
theorem blk_neg {m b : Int} {f k : Nat} (h1 : pw m b k ≠ 1) (h : pw m b k = m - 1) : blk m b (f + 1) k = ((k : Int), -1) := by rw [blk, if_neg h1, if_pos h]
theorem blk_go {m b : Int} {f k : Nat} (h1 : pw m b k ≠ 1) (h : pw m b k ≠ m - 1) : blk m b (f + 1) k = blk m b f (k + 1) := by rw [blk, if_neg h1, if_neg h]
theorem blk_bd (m b : Int) : ∀ (f k : Nat), -1 ≤ (blk m b f k).1 ∧ (blk m b f k).1 ≤ f + k ∧ -1 ≤ (blk m b f k).2 ∧ (blk m b f k).2 ≤ 1 := by
  intro f
  induction f with
  | zero => intro k; simp [blk] <;> omega
  | succ f ih =>
    intro k
    have := ih (k + 1)
    rw [blk]
    split
    · refine ⟨?_, ?_, ?_, ?_⟩ <;> simp <;> omega
    split
    · refine ⟨?_, ?_, ?_, ?_⟩ <;> simp <;> omega
    · omega
theorem blkR_bd (m b : Int) : -1 ≤ (blkR m b).1 ∧ (blkR m b).1 ≤ 41 ∧ -1 ≤ (blkR m b).2 ∧ (blkR m b).2 ≤ 1 := by
  unfold blkR
  split
  · have := blk_bd m b 40 1; omega
  · simp
theorem BlockRule_any (m b : Int) (w : World) :
    Calls Tryd.prog 48 #[.int .i64 m, .int .i64 b] w fun e w' => e = .returned (.tuple #[.int .i64 (blkR m b).1, .int .i64 (blkR m b).2]) ∧ w = w' := by
  cases hq : ruleOk m b
  · have HF : Hid (blkR m b = (0, 0)) := by show _ = _; simp [blkR, hq]
    go_enter Tryd.func48, Tryd.ntmps48
    go_wp2_with (go_at_call 47; refine (isRuled_any _ _ _).mono ?_; rintro e w' ⟨rfl, rfl⟩)
    go_ret2
    exact ⟨by rw [HF.out] <;> rfl, rfl⟩
  obtain ⟨hb1, hb2, hm1, hm2⟩ := ruleOk_t hq
  have HF : Hid (blkR m b = blk m b 40 1) := by show _ = _; simp [blkR, hq]
  have HP : Hid (∀ k, 0 ≤ pw m b k ∧ pw m b k < m) := pw_bd hq
  go_enter Tryd.func48, Tryd.ntmps48
  go_wp2_with (go_at_call 47; refine (isRuled_any _ _ _).mono ?_; rintro e w' ⟨rfl, rfl⟩)
  have HG1 : Hid (∀ (f k : Nat), pw m b k = 1 → blk m b (f + 1) k = ((k : Int), 1)) := fun f k h => blk_one h
  have HG2 : Hid (∀ (f k : Nat), pw m b k ≠ 1 → pw m b k = m - 1 → blk m b (f + 1) k = ((k : Int), -1)) := fun f k h1 h => blk_neg h1 h
  have HG3 : Hid (∀ (f k : Nat), pw m b k ≠ 1 → pw m b k ≠ m - 1 → blk m b (f + 1) k = blk m b f (k + 1)) := fun f k h1 h => blk_go h1 h
  clear hq
  go_wp2
  go_loop [6, 7] (fun r i => ∃ k : Nat, k ≤ 40 ∧ i = .int .i64 ((k : Int) + 1) ∧ r = .int .i64 (pw m b k) ∧ blkR m b = blk m b (40 - k) (k + 1)) (fun _ i => 41 - (intOf i).toNat)
  case atStart => exact ⟨0, by decide, rfl, rfl, HF.out⟩
  case round =>
    obtain ⟨k, hk, rfl, rfl, hrest⟩ := hrel
    have HR := Lib.hid hrest
    clear hrest
    obtain ⟨p0, p1⟩ := HP.out k
    by_cases hlt : k < 40
    · obtain ⟨q0, q1, q2, q3⟩ := mul_mod_bd (pw m b k) b m p0 p1 hm2 hb1 hb2
      have HN : Hid (pw m b (k + 1) = pw m b k * b % m) := rfl
      have HE : Hid (40 - k = (40 - (k + 1)) + 1) := by show _ = _; omega
      by_cases h1 : pw m b k * b % m = 1
      · have HV : Hid (blkR m b = (((k : Int) + 1), 1)) := by show _ = _; rw [HR.out, HE.out, HG1.out _ _ (HN.out.trans h1)]; rfl
        have hd1 : (pw m b k * b % m == 1) = true := by rw [h1]; rfl
        clear h1
        go_wp2
        go_ret2
        exact ⟨by rw [HV.out] <;> rfl, rfl⟩
      have hd1 : (pw m b k * b % m == 1) = false := by rw [beq_eq_false_iff_ne]; exact h1
      by_cases h2 : pw m b k * b % m = m - 1
      · have HV : Hid (blkR m b = (((k : Int) + 1), -1)) := by show _ = _; rw [HR.out, HE.out, HG2.out _ _ (fun e => h1 (HN.out.symm.trans e)) (HN.out.trans h2)]; rfl
        have hd2 : (pw m b k * b % m == m - 1) = true := by rw [h2]; simp
        clear h2
        go_wp2
        go_ret2
        exact ⟨by rw [HV.out] <;> rfl, rfl⟩
      · have HV : Hid (blkR m b = blk m b (40 - (k + 1)) (k + 1 + 1)) := by show _ = _; rw [HR.out, HE.out, HG3.out _ _ (fun e => h1 (HN.out.symm.trans e)) (fun e => h2 (HN.out.symm.trans e))]
        have hd2 : (pw m b k * b % m == m - 1) = false := by rw [beq_eq_false_iff_ne]; exact h2
        go_wp2
        go_round
        case rel => exact ⟨k + 1, by omega, by go_num, by rw [HN.out], HV.out⟩
        case measure => simp [intOf]; omega
    · have HV : Hid (blkR m b = (0, 0)) := by
        show _ = _
        rw [HR.out, show 40 - k = 0 by omega]; rfl
      go_wp2
      go_ret2
      exact ⟨by rw [HV.out] <;> rfl, rfl⟩
theorem sBlockRule_any (m b : Int) (w : World) :
    Calls Tryd.prog 44 #[.int .i64 m, .int .i64 b] w fun e w' => e = .returned (.tuple #[.int .i64 (blkR m b).1, .int .i64 (blkR m b).2]) ∧ w = w' := by
  cases hq : ruleOk m b
  · have HF : Hid (blkR m b = (0, 0)) := by show _ = _; simp [blkR, hq]
    go_enter Tryd.func44, Tryd.ntmps44
    go_wp2_with (go_at_call 43; refine (l24Ok_any _ _ _).mono ?_; rintro e w' ⟨rfl, rfl⟩)
    go_ret2
    exact ⟨by rw [HF.out] <;> rfl, rfl⟩
  obtain ⟨hb1, hb2, hm1, hm2⟩ := ruleOk_t hq
  have HF : Hid (blkR m b = blk m b 40 1) := by show _ = _; simp [blkR, hq]
  have HP : Hid (∀ k, 0 ≤ pw m b k ∧ pw m b k < m) := pw_bd hq
  go_enter Tryd.func44, Tryd.ntmps44
  go_wp2_with (go_at_call 43; refine (l24Ok_any _ _ _).mono ?_; rintro e w' ⟨rfl, rfl⟩)
  have HG1 : Hid (∀ (f k : Nat), pw m b k = 1 → blk m b (f + 1) k = ((k : Int), 1)) := fun f k h => blk_one h
  have HG2 : Hid (∀ (f k : Nat), pw m b k ≠ 1 → pw m b k = m - 1 → blk m b (f + 1) k = ((k : Int), -1)) := fun f k h1 h => blk_neg h1 h
  have HG3 : Hid (∀ (f k : Nat), pw m b k ≠ 1 → pw m b k ≠ m - 1 → blk m b (f + 1) k = blk m b f (k + 1)) := fun f k h1 h => blk_go h1 h
  clear hq
  have h1m : (1 : Int) % m = 1 := Int.emod_eq_of_lt (by omega) (by omega)
  go_wp2
  go_loop [6, 7] (fun r i => ∃ k : Nat, k ≤ 40 ∧ i = .int .i64 ((k : Int) + 1) ∧ r = .int .i64 (pw m b k) ∧ blkR m b = blk m b (40 - k) (k + 1)) (fun _ i => 41 - (intOf i).toNat)
  case atStart => exact ⟨0, by decide, rfl, by first | rfl | (rw [h1m]; rfl) | simp [h1m, pw], HF.out⟩
  case round =>
    obtain ⟨k, hk, rfl, rfl, hrest⟩ := hrel
    have HR := Lib.hid hrest
    clear hrest
    obtain ⟨p0, p1⟩ := HP.out k
    by_cases hlt : k < 40
    · obtain ⟨q0, q1, q2, q3⟩ := mul_mod_bd (pw m b k) b m p0 p1 hm2 hb1 hb2
      have HN : Hid (pw m b (k + 1) = pw m b k * b % m) := rfl
      have HE : Hid (40 - k = (40 - (k + 1)) + 1) := by show _ = _; omega
      by_cases h1 : pw m b k * b % m = 1
      · have HV : Hid (blkR m b = (((k : Int) + 1), 1)) := by show _ = _; rw [HR.out, HE.out, HG1.out _ _ (HN.out.trans h1)]; rfl
        have hd1 : (pw m b k * b % m == 1) = true := by rw [h1]; rfl
        clear h1
        go_wp2
        go_ret2
        exact ⟨by rw [HV.out] <;> rfl, rfl⟩
      have hd1 : (pw m b k * b % m == 1) = false := by rw [beq_eq_false_iff_ne]; exact h1
      by_cases h2 : pw m b k * b % m = m - 1
      · have HV : Hid (blkR m b = (((k : Int) + 1), -1)) := by show _ = _; rw [HR.out, HE.out, HG2.out _ _ (fun e => h1 (HN.out.symm.trans e)) (HN.out.trans h2)]; rfl
        have hd2 : (pw m b k * b % m == m - 1) = true := by rw [h2]; simp
        clear h2
        go_wp2
        go_ret2
        exact ⟨by rw [HV.out] <;> rfl, rfl⟩
      · have HV : Hid (blkR m b = blk m b (40 - (k + 1)) (k + 1 + 1)) := by show _ = _; rw [HR.out, HE.out, HG3.out _ _ (fun e => h1 (HN.out.symm.trans e)) (fun e => h2 (HN.out.symm.trans e))]
        have hd2 : (pw m b k * b % m == m - 1) = false := by rw [beq_eq_false_iff_ne]; exact h2
        go_wp2
        go_round
        case rel => exact ⟨k + 1, by omega, by go_num, by rw [HN.out], HV.out⟩
        case measure => simp [intOf]; omega
    · have HV : Hid (blkR m b = (0, 0)) := by
        show _ = _
        rw [HR.out, show 40 - k = 0 by omega]; rfl
      go_wp2
      go_ret2
      exact ⟨by rw [HV.out] <;> rfl, rfl⟩

end Go.Proofs.YtdpddbajeldgiaaDoor
