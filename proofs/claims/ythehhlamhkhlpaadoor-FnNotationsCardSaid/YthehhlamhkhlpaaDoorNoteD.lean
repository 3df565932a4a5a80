/- Plain facts on Roman numbers, for the law on notations. Conditions: none. -/
import Derived.Test.YthehhlamhkhlpaaDoorNoteK
import Derived.Test.YthehhlamhkhlpaaDoorRomanD
import Derived.Test.YthehhlamhkhlpaaDoorRomanG
namespace Go.Proofs.YthehhlamhkhlpaaDoor
set_option linter.unusedVariables false
open Go.RowKit

theorem note_of (n : Int) (h0 : 1 ≤ n) (h1 : n ≤ 3999) : parseR (fmtR n) = n ∧ looseR (fmtR n) = n ∧ letterSumR (addR n) = n ∧ looseR (addR n) = n ∧ (fmtR n).length ≤ (addR n).length ∧ (fmtR n).length ≠ 0 ∧
    n ≤ letterSumR (fmtR n) ∧ (letterSumR (fmtR n) - n) % 2 = 0 ∧ (decide (parseR (addR n) = n) = decide (addR n = fmtR n)) ∧ letterSumR (fmtR n) ≤ 100000 ∧ (addR n).length ≤ 40 := by
  have h := note_all n h0 h1
  simp only [noteOK, Bool.and_eq_true, decide_eq_true_eq, beq_iff_eq] at h
  obtain ⟨⟨⟨⟨⟨⟨⟨⟨⟨⟨a1, a2⟩, a3⟩, a4⟩, a5⟩, a6⟩, a7⟩, a8⟩, a9⟩, a10⟩, a11⟩ := h
  exact ⟨a1, a2, a3, a4, a5, a6, a7, a8, a9, a10, a11⟩
/-- the longest: not behind its bound, and no shorter than the bound's -/
theorem lng_bd (k : Nat) : 1 ≤ lng (k + 2) ∧ lng (k + 2) ≤ (k : Int) + 1 ∧ romLen ((k : Int) + 1) ≤ romLen (lng (k + 2)) := by
  induction k with
  | zero => decide +kernel
  | succ k ih =>
    obtain ⟨h1, h2, h3⟩ := ih
    by_cases h : romLen (lng (k + 2)) < romLen ((k + 2 : Nat) : Int)
    · have e : lng (k + 1 + 2) = ((k + 2 : Nat) : Int) := by rw [show k + 1 + 2 = (k + 2) + 1 from rfl, lng, if_pos h]
      rw [e]
      refine ⟨by omega, by omega, ?_⟩
      rw [show ((k + 1 : Nat) : Int) + 1 = ((k + 2 : Nat) : Int) by omega]
      exact Nat.le_refl _
    · have e : lng (k + 1 + 2) = lng (k + 2) := by rw [show k + 1 + 2 = (k + 2) + 1 from rfl, lng, if_neg h]
      rw [e]
      refine ⟨h1, by omega, ?_⟩
      rw [show ((k + 1 : Nat) : Int) + 1 = ((k + 2 : Nat) : Int) by omega]
      omega
theorem lngR_bd (m : Int) (h0 : 1 ≤ m) (h1 : m ≤ 3999) : 1 ≤ lngR m ∧ lngR m ≤ m ∧ romLen m ≤ romLen (lngR m) := by
  have e : lngR m = lng (m.toNat + 1) := by simp [lngR, inB_t.2 ⟨h0, h1⟩]
  have h := lng_bd (m.toNat - 1)
  rw [show m.toNat - 1 + 2 = m.toNat + 1 by omega, show ((m.toNat - 1 : Nat) : Int) + 1 = m by omega] at h
  rw [e]
  exact h
theorem lngR_100 : lngR 100 = 88 := by decide +kernel
theorem tally_len : ∀ k : Fin 200, (tallyR ((k.val + 1 : Nat) : Int)).data.toList.length = (k.val + 1) + (k.val + 5) / 5 - 1 := by decide +kernel
theorem tally_of (t : Int) (h0 : 1 ≤ t) (h1 : t ≤ 200) : tvR (tallyR t) = t ∧ ((tallyR t).size : Int) = t + (t + 4) / 5 - 1 := by
  have hc := tally_counts ⟨t.toNat, by omega⟩
  have hl := tally_len ⟨(t - 1).toNat, by omega⟩
  simp only [show ((t.toNat : Nat) : Int) = t by omega] at hc
  simp only [show (((t - 1).toNat + 1 : Nat) : Int) = t by omega] at hl
  rcases hc with hc | ⟨-, hc⟩
  · omega
  have hs : (tallyR t).data.toList.length = (tallyR t).size := by simp
  constructor
  · unfold tvR
    rw [hc, show ((t.toNat : Nat) : Int) = t by omega, if_neg]
    rintro (h | h)
    · rw [h] at hc
      simp [cnt2, Lib.countByte] at hc
      omega
    · exact h rfl
  · rw [← hs, hl]
    omega
theorem romLen_bd (n : Int) : romLen n ≤ 40 := by
  unfold romLen fmtR
  split
  · rename_i h
    obtain ⟨h1, h2⟩ := inB_t.1 h
    obtain ⟨l1, l2, l3, l4⟩ := fmt_lens n h1 h2
    simp only [List.length_append]
    omega
  · simp

end Go.Proofs.YthehhlamhkhlpaaDoor
