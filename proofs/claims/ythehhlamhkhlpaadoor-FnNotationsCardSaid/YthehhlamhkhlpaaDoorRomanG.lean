/- TallyValue. Conditions: none. -/
import Derived.Test.YthehhlamhkhlpaaDoorRomanF
namespace Go.Proofs.YthehhlamhkhlpaaDoor
set_option linter.unusedVariables false
open Go.RowKit

def cntNot (l : List UInt8) : Nat := l.countP (fun c => decide (c ≠ 32))
def cnt2 (l : List UInt8) : Nat := Lib.countByte l 124 + Lib.countByte l 47
theorem tally_counts : ∀ m : Fin 201, m.val = 0 ∨ (cntNot (tallyR m.val).data.toList = m.val ∧ cnt2 (tallyR m.val).data.toList = m.val) := by decide +kernel
theorem tallyR_out {n : Int} (h : inB n 1 200 = false) : tallyR n = ⟨#[]⟩ := by simp [tallyR, h]
theorem tally_cnt (n : Int) (s : ByteArray) (h : tallyR n = s) (hs : s ≠ ⟨#[]⟩) : (cntNot s.data.toList : Int) = n ∧ (cnt2 s.data.toList : Int) = n := by
  cases hq : inB n 1 200
  · exact absurd ((tallyR_out hq).symm.trans h).symm hs
  · obtain ⟨h1, h2⟩ := inB_t.1 hq
    have := tally_counts ⟨n.toNat, by omega⟩
    simp only [show ((n.toNat : Nat) : Int) = n by omega] at this
    rw [h] at this
    omega
/-- the value -/
def tvR (s : ByteArray) : Int := if s = ⟨#[]⟩ ∨ tallyR (cnt2 s.data.toList) ≠ s then 0 else cnt2 s.data.toList
theorem tvR_spec (s : ByteArray) : tvR s = if cntNot s.data.toList = 0 ∨ tallyR (cntNot s.data.toList) ≠ s then 0 else (cntNot s.data.toList : Int) := by
  unfold tvR
  by_cases hs : s = ⟨#[]⟩
  · subst hs
    rfl
  by_cases h : tallyR (cnt2 s.data.toList) = s
  · obtain ⟨h1, h2⟩ := tally_cnt _ s h hs
    have e : (cntNot s.data.toList : Int) = cnt2 s.data.toList := h1
    rw [e, if_neg (by simp [hs, h])]
    by_cases h0 : cntNot s.data.toList = 0
    · rw [if_pos (Or.inl h0)]; omega
    · rw [if_neg (by simp [h0, h])]
  · rw [if_pos (Or.inr h)]
    by_cases h3 : tallyR (cntNot s.data.toList) = s
    · obtain ⟨h1, h2⟩ := tally_cnt _ s h3 hs
      rw [h2] at h
      exact absurd h3 h
    · rw [if_pos (Or.inr h3)]
theorem TallyValue_any (s : ByteArray) (w : World) (hz : s.size ≤ 1048576) :
    Calls Tryd.prog 21 #[.string s] w fun e w' => e = .returned (.int .i64 (tvR s)) ∧ Below w.heap.size w w' := by
  have hn1 : Lib.countByte s.data.toList 124 ≤ 1048576 := Nat.le_trans List.count_le_length hz
  have hn2 : Lib.countByte s.data.toList 47 ≤ 1048576 := Nat.le_trans List.count_le_length hz
  have HC1 : Hid (∀ W : World, Calls Tryd.prog 36 #[.string s, .string ⟨#[124]⟩] W fun e w' => e = .returned (.int .i64 (Lib.countByte s.data.toList 124)) ∧ w' = W) := fun W => Tryd.strings_Count_one s 124 W
  have HC2 : Hid (∀ W : World, Calls Tryd.prog 36 #[.string s, .string ⟨#[47]⟩] W fun e w' => e = .returned (.int .i64 (Lib.countByte s.data.toList 47)) ∧ w' = W) := fun W => Tryd.strings_Count_one s 47 W
  have HV : Hid (tvR s = if s = ⟨#[]⟩ ∨ tallyR ((Lib.countByte s.data.toList 124 : Int) + (Lib.countByte s.data.toList 47 : Int)) ≠ s then 0 else (Lib.countByte s.data.toList 124 : Int) + (Lib.countByte s.data.toList 47 : Int)) := by
    show _ = _
    simp only [tvR, cnt2, Int.natCast_add]
    congr
  generalize Lib.countByte s.data.toList 124 = a at *
  generalize Lib.countByte s.data.toList 47 = b at *
  go_enter Tryd.func21, Tryd.ntmps21
  go_wp2_with fail
  refine (HC1.out _).mono ?_
  rintro e w1 ⟨rfl, rfl⟩
  go_wp2_with fail
  refine (HC2.out _).mono ?_
  rintro e w1 ⟨rfl, rfl⟩
  by_cases hs : s = ⟨#[]⟩
  · have HR := Lib.hid (HV.out.trans (if_pos (Or.inl hs)))
    subst hs
    go_wp2_with fail
    go_ret
    exact ⟨by rw [HR.out] <;> rfl, Below.refl _ _⟩
  · have hl : s.toList ≠ [] := fun h => hs (by
      have := congrArg List.length h
      exact ByteArray.ext (Array.eq_empty_of_size_eq_zero (by simpa [ByteArray.toList_eq] using this)))
    have hie : s.toList.isEmpty = false := by simpa using hl
    by_cases h : tallyR ((a : Int) + (b : Int)) = s
    · have HR := Lib.hid (HV.out.trans (if_neg (by simp [hs, h])))
      have HT : Hid (∀ W : World, Calls Tryd.prog 20 #[.int .i64 ((a : Int) + (b : Int))] W fun e w' => e = .returned (.string s) ∧ Below W.heap.size W w') := fun W => by
        have := TallyOf_any ((a : Int) + (b : Int)) W
        rw [h] at this
        exact this
      go_wp2_with fail
      refine (HT.out _).mono ?_
      rintro e w2 ⟨rfl, hb⟩
      go_wp2_with fail
      go_ret
      exact ⟨by rw [HR.out] <;> rfl, hb⟩
    · have HR := Lib.hid (HV.out.trans (if_pos (Or.inr h)))
      have HT : Hid (∀ W : World, Calls Tryd.prog 20 #[.int .i64 ((a : Int) + (b : Int))] W fun e w' => e = .returned (.string (tallyR ((a : Int) + (b : Int)))) ∧ Below W.heap.size W w') := fun W => TallyOf_any ((a : Int) + (b : Int)) W
      clear HV
      generalize tallyR ((a : Int) + (b : Int)) = t at *
      have hts : (t.toList == s.toList) = false := by
        rw [beq_eq_false_iff_ne]
        intro e
        simp only [ByteArray.toList_eq] at e
        exact h (ByteArray.ext (Array.toList_inj.1 e))
      go_wp2_with fail
      refine (HT.out _).mono ?_
      rintro e w2 ⟨rfl, hb⟩
      go_wp2_with fail
      go_ret
      exact ⟨by rw [HR.out] <;> rfl, hb⟩

end Go.Proofs.YthehhlamhkhlpaaDoor
