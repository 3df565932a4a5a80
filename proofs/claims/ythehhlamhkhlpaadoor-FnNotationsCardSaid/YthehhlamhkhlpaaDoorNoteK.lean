/- Plain facts on Roman numbers, number by number. Conditions: none. -/
import Derived.Test.YthehhlamhkhlpaaDoorNoteB
import Derived.Test.YthehhlamhkhlpaaDoorNoteC
namespace Go.Proofs.YthehhlamhkhlpaaDoor
set_option linter.unusedVariables false
open Go.RowKit

def noteOK (n : Int) : Bool :=
  decide (parseR (fmtR n) = n) && decide (looseR (fmtR n) = n) && decide (letterSumR (addR n) = n) && decide (looseR (addR n) = n) && decide ((fmtR n).length ≤ (addR n).length) && decide ((fmtR n).length ≠ 0) &&
  decide (n ≤ letterSumR (fmtR n)) && decide ((letterSumR (fmtR n) - n) % 2 = 0) && (decide (parseR (addR n) = n) == decide (addR n = fmtR n)) && decide (letterSumR (fmtR n) ≤ 100000) && decide ((addR n).length ≤ 40)
set_option maxRecDepth 100000 in
theorem note_0 : ∀ k : Fin 250, noteOK ((k.val : Int) + 1) = true := by decide +kernel
set_option maxRecDepth 100000 in
theorem note_1 : ∀ k : Fin 250, noteOK ((k.val : Int) + 251) = true := by decide +kernel
set_option maxRecDepth 100000 in
theorem note_2 : ∀ k : Fin 250, noteOK ((k.val : Int) + 501) = true := by decide +kernel
set_option maxRecDepth 100000 in
theorem note_3 : ∀ k : Fin 250, noteOK ((k.val : Int) + 751) = true := by decide +kernel
set_option maxRecDepth 100000 in
theorem note_4 : ∀ k : Fin 250, noteOK ((k.val : Int) + 1001) = true := by decide +kernel
set_option maxRecDepth 100000 in
theorem note_5 : ∀ k : Fin 250, noteOK ((k.val : Int) + 1251) = true := by decide +kernel
set_option maxRecDepth 100000 in
theorem note_6 : ∀ k : Fin 250, noteOK ((k.val : Int) + 1501) = true := by decide +kernel
set_option maxRecDepth 100000 in
theorem note_7 : ∀ k : Fin 250, noteOK ((k.val : Int) + 1751) = true := by decide +kernel
set_option maxRecDepth 100000 in
theorem note_8 : ∀ k : Fin 250, noteOK ((k.val : Int) + 2001) = true := by decide +kernel
set_option maxRecDepth 100000 in
theorem note_9 : ∀ k : Fin 250, noteOK ((k.val : Int) + 2251) = true := by decide +kernel
set_option maxRecDepth 100000 in
theorem note_10 : ∀ k : Fin 250, noteOK ((k.val : Int) + 2501) = true := by decide +kernel
set_option maxRecDepth 100000 in
theorem note_11 : ∀ k : Fin 250, noteOK ((k.val : Int) + 2751) = true := by decide +kernel
set_option maxRecDepth 100000 in
theorem note_12 : ∀ k : Fin 250, noteOK ((k.val : Int) + 3001) = true := by decide +kernel
set_option maxRecDepth 100000 in
theorem note_13 : ∀ k : Fin 250, noteOK ((k.val : Int) + 3251) = true := by decide +kernel
set_option maxRecDepth 100000 in
theorem note_14 : ∀ k : Fin 250, noteOK ((k.val : Int) + 3501) = true := by decide +kernel
set_option maxRecDepth 100000 in
theorem note_15 : ∀ k : Fin 249, noteOK ((k.val : Int) + 3751) = true := by decide +kernel
theorem note_all (n : Int) (h0 : 1 ≤ n) (h1 : n ≤ 3999) : noteOK n = true := by
  by_cases h0 : n ≤ 250
  · have h := note_0 ⟨(n - 1).toNat, by omega⟩
    rwa [show (((⟨(n - 1).toNat, by omega⟩ : Fin 250).val : Nat) : Int) + 1 = n by simp; omega] at h
  by_cases h1 : n ≤ 500
  · have h := note_1 ⟨(n - 251).toNat, by omega⟩
    rwa [show (((⟨(n - 251).toNat, by omega⟩ : Fin 250).val : Nat) : Int) + 251 = n by simp; omega] at h
  by_cases h2 : n ≤ 750
  · have h := note_2 ⟨(n - 501).toNat, by omega⟩
    rwa [show (((⟨(n - 501).toNat, by omega⟩ : Fin 250).val : Nat) : Int) + 501 = n by simp; omega] at h
  by_cases h3 : n ≤ 1000
  · have h := note_3 ⟨(n - 751).toNat, by omega⟩
    rwa [show (((⟨(n - 751).toNat, by omega⟩ : Fin 250).val : Nat) : Int) + 751 = n by simp; omega] at h
  by_cases h4 : n ≤ 1250
  · have h := note_4 ⟨(n - 1001).toNat, by omega⟩
    rwa [show (((⟨(n - 1001).toNat, by omega⟩ : Fin 250).val : Nat) : Int) + 1001 = n by simp; omega] at h
  by_cases h5 : n ≤ 1500
  · have h := note_5 ⟨(n - 1251).toNat, by omega⟩
    rwa [show (((⟨(n - 1251).toNat, by omega⟩ : Fin 250).val : Nat) : Int) + 1251 = n by simp; omega] at h
  by_cases h6 : n ≤ 1750
  · have h := note_6 ⟨(n - 1501).toNat, by omega⟩
    rwa [show (((⟨(n - 1501).toNat, by omega⟩ : Fin 250).val : Nat) : Int) + 1501 = n by simp; omega] at h
  by_cases h7 : n ≤ 2000
  · have h := note_7 ⟨(n - 1751).toNat, by omega⟩
    rwa [show (((⟨(n - 1751).toNat, by omega⟩ : Fin 250).val : Nat) : Int) + 1751 = n by simp; omega] at h
  by_cases h8 : n ≤ 2250
  · have h := note_8 ⟨(n - 2001).toNat, by omega⟩
    rwa [show (((⟨(n - 2001).toNat, by omega⟩ : Fin 250).val : Nat) : Int) + 2001 = n by simp; omega] at h
  by_cases h9 : n ≤ 2500
  · have h := note_9 ⟨(n - 2251).toNat, by omega⟩
    rwa [show (((⟨(n - 2251).toNat, by omega⟩ : Fin 250).val : Nat) : Int) + 2251 = n by simp; omega] at h
  by_cases h10 : n ≤ 2750
  · have h := note_10 ⟨(n - 2501).toNat, by omega⟩
    rwa [show (((⟨(n - 2501).toNat, by omega⟩ : Fin 250).val : Nat) : Int) + 2501 = n by simp; omega] at h
  by_cases h11 : n ≤ 3000
  · have h := note_11 ⟨(n - 2751).toNat, by omega⟩
    rwa [show (((⟨(n - 2751).toNat, by omega⟩ : Fin 250).val : Nat) : Int) + 2751 = n by simp; omega] at h
  by_cases h12 : n ≤ 3250
  · have h := note_12 ⟨(n - 3001).toNat, by omega⟩
    rwa [show (((⟨(n - 3001).toNat, by omega⟩ : Fin 250).val : Nat) : Int) + 3001 = n by simp; omega] at h
  by_cases h13 : n ≤ 3500
  · have h := note_13 ⟨(n - 3251).toNat, by omega⟩
    rwa [show (((⟨(n - 3251).toNat, by omega⟩ : Fin 250).val : Nat) : Int) + 3251 = n by simp; omega] at h
  by_cases h14 : n ≤ 3750
  · have h := note_14 ⟨(n - 3501).toNat, by omega⟩
    rwa [show (((⟨(n - 3501).toNat, by omega⟩ : Fin 250).val : Nat) : Int) + 3501 = n by simp; omega] at h
  by_cases h15 : n ≤ 3999
  · have h := note_15 ⟨(n - 3751).toNat, by omega⟩
    rwa [show (((⟨(n - 3751).toNat, by omega⟩ : Fin 249).val : Nat) : Int) + 3751 = n by simp; omega] at h
  omega

end Go.Proofs.YthehhlamhkhlpaaDoor
