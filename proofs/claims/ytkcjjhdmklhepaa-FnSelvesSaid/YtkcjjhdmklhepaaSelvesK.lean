/- Plain facts for the law FnSelves. Conditions: none. -/
import Derived.Test.YtkcjjhdmklhepaaSelvesD
import Derived.Test.YtkcjjhdmklhepaaSelvesE
import Derived.Test.YtkcjjhdmklhepaaSelvesG
import Derived.Test.YtkcjjhdmklhepaaFnKit
namespace Go.Proofs.Ytkcjjhdmklhepaa
set_option linter.unusedVariables false
open Go.RowKit

/-- how many of 2, 3, 5, 7 divide b -/
def np (b : Int) : Nat := (if b % 2 = 0 then 1 else 0) + (if b % 3 = 0 then 1 else 0) + (if b % 5 = 0 then 1 else 0) + (if b % 7 = 0 then 1 else 0)
def autoFacts (b k : Nat) : Bool := (autos ((b : Int) ^ k)).length == 2 ^ np b && (autos ((b : Int) ^ k)).all (fun n => decide (n ≤ 1) || hasZ (autos ((b : Int) ^ k)) ((b : Int) ^ k + 1 - n))
set_option maxRecDepth 100000 in
theorem auto_1 : ∀ b : Fin 9, autoFacts (b.val + 2) 1 = true := by decide +kernel
set_option maxRecDepth 100000 in
theorem auto_2 : ∀ b : Fin 9, autoFacts (b.val + 2) 2 = true := by decide +kernel
set_option maxRecDepth 100000 in
theorem auto_3 : ∀ b : Fin 9, autoFacts (b.val + 2) 3 = true := by decide +kernel
theorem auto_of (b k : Int) (h0 : 2 ≤ b) (h1 : b ≤ 10) (h2 : 1 ≤ k) (h3 : k ≤ 3) : (autoR b k).length = 2 ^ np b ∧ (∀ n ∈ autoR b k, 0 ≤ n ∧ n < b ^ k.toNat ∧ autoB n b k = true ∧ n * n % b ^ k.toNat = n ∧ (1 < n → hasZ (autoR b k) (b ^ k.toNat + 1 - n) = true)) := by
  have e : autoR b k = autos (b ^ k.toNat) := by
    simp only [autoR]
    rw [if_pos]
    simp only [Bool.and_eq_true, inB_t]
    omega
  have hp := (pow_4 b h0 (by omega) k.toNat (by omega)).1
  have hf : autoFacts b.toNat k.toNat = true := by
    rcases (show k = 1 ∨ k = 2 ∨ k = 3 by omega) with rfl | rfl | rfl
    · have := auto_1 ⟨b.toNat - 2, by omega⟩
      simp only [show b.toNat - 2 + 2 = b.toNat by omega] at this
      exact this
    · have := auto_2 ⟨b.toNat - 2, by omega⟩
      simp only [show b.toNat - 2 + 2 = b.toNat by omega] at this
      exact this
    · have := auto_3 ⟨b.toNat - 2, by omega⟩
      simp only [show b.toNat - 2 + 2 = b.toNat by omega] at this
      exact this
  simp only [autoFacts, Bool.and_eq_true, beq_iff_eq, List.all_eq_true, Bool.or_eq_true, decide_eq_true_eq, show ((b.toNat : Nat) : Int) = b by omega] at hf
  rw [e]
  refine ⟨hf.1, fun n hn => ?_⟩
  obtain ⟨g1, g2, g3⟩ := (upto_mem _ _ _ _).1 hn
  have g4 : n * n % b ^ k.toNat = n := by simpa using g3
  refine ⟨g1, by omega, ?_, g4, fun h => ?_⟩
  · simp only [autoB, Bool.and_eq_true, inB_t, beq_iff_eq]
    exact ⟨by omega, by omega, by omega, g4⟩
  · rcases hf.2 n hn with h' | h'
    · omega
    · exact h'

/-! sources -/
theorem addB_of (n b : Int) (h0 : 2 ≤ b) (h1 : b ≤ 16) (h2 : 0 ≤ n) (h3 : n ≤ 1000000) : addB n b = n + dsum n b := by
  simp only [addB]
  rw [if_pos]
  simp only [Bool.and_eq_true, inB_t]
  omega
theorem srcs_add (n b : Int) (h0 : 2 ≤ b) (h1 : b ≤ 16) (h2 : 0 ≤ n) (h3 : n ≤ 1000000) : ∀ x ∈ srcsR n b, 0 ≤ x ∧ x ≤ n ∧ addB x b = n := by
  intro x hx
  have e : srcsR n b = srcs n b := by
    simp only [srcsR]
    rw [if_pos]
    simp only [Bool.and_eq_true, inB_t]
    omega
  rw [e] at hx
  obtain ⟨g1, g2, g3⟩ := (upto_mem _ _ _ _).1 hx
  have g4 : x + dsum x b = n := by simpa [isSrc] using g3
  refine ⟨g1, by omega, ?_⟩
  rw [addB_of x b h0 h1 g1 (by omega), g4]
theorem srcs_has (n b : Int) (h0 : 2 ≤ b) (h1 : b ≤ 16) (h2 : 1 ≤ n) (h3 : n ≤ 1000) : n ∈ srcsR (addB n b) b ∧ n < addB n b ∧ addB n b ≤ n + 960 := by
  have hd := dsum_bd n b h0 h1
  have hp := dsum_pos n b h0 (by omega) (by omega)
  rw [addB_of n b h0 h1 (by omega) (by omega)]
  refine ⟨?_, by omega, by omega⟩
  have e : srcsR (n + dsum n b) b = srcs (n + dsum n b) b := by
    simp only [srcsR]
    rw [if_pos]
    simp only [Bool.and_eq_true, inB_t]
    omega
  rw [e]
  exact (upto_mem _ _ _ _).2 ⟨by omega, by omega, by simp [isSrc]⟩
theorem selfB_of (n b : Int) (h0 : 2 ≤ b) (h1 : b ≤ 16) (h2 : 0 ≤ n) (h3 : n ≤ 1000000) : selfB n b = (srcsR n b).isEmpty := by
  have hb : inB b 2 16 = true := inB_t.2 ⟨h0, h1⟩
  have hn : inB n 0 1000000 = true := inB_t.2 ⟨h2, h3⟩
  simp [selfB, hb, hn]
theorem selfB_add (n b : Int) (h0 : 2 ≤ b) (h1 : b ≤ 16) (h2 : 1 ≤ n) (h3 : n ≤ 1000) : selfB (addB n b) b = false := by
  obtain ⟨g1, g2, g3⟩ := srcs_has n b h0 h1 h2 h3
  rw [selfB_of _ b h0 h1 (by omega) (by omega)]
  cases h : srcsR (addB n b) b with
  | nil => rw [h] at g1; simp at g1
  | cons => rfl
/-! meetings -/
theorem meetR_comm (n m b most : Int) : meetR n m b most = meetR m n b most := by
  unfold meetR
  rw [meet_comm]
  have e : (inB b 2 16 && (inB n 1 1000000 && (inB m 1 1000000 && inB most 1 1000000))) = (inB b 2 16 && (inB m 1 1000000 && (inB n 1 1000000 && inB most 1 1000000))) := by
    cases inB b 2 16 <;> cases inB n 1 1000000 <;> cases inB m 1 1000000 <;> rfl
  rw [e]
theorem meetR_src (n b : Int) (h0 : 2 ≤ b) (h1 : b ≤ 16) (h2 : 1 ≤ n) (h3 : n ≤ 400) : meetR n (addB n b) b 3000 = addB n b := by
  obtain ⟨-, g2, g3⟩ := srcs_has n b h0 h1 h2 (by omega)
  have hp := dsum_pos n b h0 (by omega) (by omega)
  have e := addB_of n b h0 h1 (by omega) (by omega)
  unfold meetR
  rw [if_pos]
  · rw [meet_ne b 3000 n (addB n b) (by omega) (by rw [Int.min_eq_left (by omega)]; omega) (by omega) (by decide)]
    rw [Int.min_eq_left (by omega), Int.max_eq_right (by omega), ← e, if_neg (by omega), meet_eq, if_neg (by omega)]
  · simp only [Bool.and_eq_true, inB_t]
    omega
theorem meetR_out (n m b : Int) : meetR n m b 3000 = -1 ∨ (max n m ≤ meetR n m b 3000 ∧ meetR n m b 3000 ≤ 3000) := by
  unfold meetR
  split
  · exact meet_out b 3000 _ n m (Nat.le_refl _)
  · exact Or.inl rfl
/-! Harshad numbers -/
theorem harshB_of (n b : Int) (h0 : 2 ≤ b) (h1 : b ≤ 16) (h2 : 1 ≤ n) (h3 : n ≤ 1000) : harshB n b = (n % dsum n b == 0) := by
  have hb : inB b 2 16 = true := inB_t.2 ⟨h0, h1⟩
  have hn : inB n 1 1000000000000 = true := inB_t.2 ⟨h2, by omega⟩
  simp [harshB, hb, hn, harsh]
theorem cntH_succ (n b : Int) (h0 : 2 ≤ b) (h1 : b ≤ 16) (h2 : 1 ≤ n) (h3 : n ≤ 1000) : cntH b n = cntH b (n - 1) + (if harshB n b then 1 else 0) := by
  have hb : inB b 2 16 = true := inB_t.2 ⟨h0, h1⟩
  have hn : inB n 0 1000 = true := inB_t.2 ⟨by omega, h3⟩
  have hn1 : inB (n - 1) 0 1000 = true := inB_t.2 ⟨by omega, by omega⟩
  have hn2 : inB n 1 1000000000000 = true := inB_t.2 ⟨h2, by omega⟩
  simp only [cntH, hb, hn, hn1, Bool.and_self, if_true]
  rw [show n.toNat = (n - 1).toNat + 1 by omega, harshC_succ, show (1 : Int) + (((n - 1).toNat : Nat) : Int) = n by omega]
  simp [harshB, hb, hn2]
theorem cntH_bd (n b : Int) : -1 ≤ cntH b n ∧ cntH b n ≤ 1000 := by
  unfold cntH
  split
  · rename_i h
    simp only [Bool.and_eq_true, inB_t] at h
    have := upto_len (fun n => harsh n b) 1 n.toNat
    unfold harshC
    omega
  · omega
/-! closed facts, base by base -/
def baseFacts (b : Int) : Bool := pandB (lpR b) b && !pandB (lpR b / b) b && splitB (b - 1) b && decide (0 ≤ lpR b) && decide (lpR b ≤ 1000000000000)
theorem base_all : ∀ b : Fin 9, baseFacts ((b.val : Int) + 2) = true := by decide +kernel
theorem base_of (b : Int) (h0 : 2 ≤ b) (h1 : b ≤ 10) : pandB (lpR b) b = true ∧ pandB (lpR b / b) b = false ∧ splitB (b - 1) b = true ∧ 0 ≤ lpR b ∧ lpR b ≤ 1000000000000 := by
  have h := base_all ⟨(b - 2).toNat, by omega⟩
  simp only [show (((b - 2).toNat : Nat) : Int) + 2 = b by omega, baseFacts, Bool.and_eq_true, Bool.not_eq_true', decide_eq_true_eq] at h
  exact ⟨h.1.1.1.1, h.1.1.1.2, h.1.1.2, h.1.2, h.2⟩
theorem split45 : splitB 45 10 = true := by decide +kernel

end Go.Proofs.Ytkcjjhdmklhepaa
