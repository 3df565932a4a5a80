/- The model's TallyValue and the law. Conditions: none. -/
import Derived.Test.YthehhlamhkhlpaaRomanG
namespace Go.Proofs.Ythehhlamhkhlpaa
set_option linter.unusedVariables false
open Go.RowKit

theorem cntNot_yes (s : ByteArray) (k : Nat) (h : k < s.size) (hc : s[k] ≠ 32) : cntNot (s.data.toList.take (k + 1)) = cntNot (s.data.toList.take k) + 1 := by
  have hk : k < s.data.toList.length := by simpa using h
  rw [List.take_add_one, List.getElem?_eq_getElem hk]
  have e : s.data.toList[k] = s[k] := by simp; rfl
  simp [cntNot, List.countP_append, e, hc]
theorem cntNot_no (s : ByteArray) (k : Nat) (h : k < s.size) (hc : s[k] = 32) : cntNot (s.data.toList.take (k + 1)) = cntNot (s.data.toList.take k) := by
  have hk : k < s.data.toList.length := by simpa using h
  rw [List.take_add_one, List.getElem?_eq_getElem hk]
  have e : s.data.toList[k] = s[k] := by simp; rfl
  simp [cntNot, List.countP_append, e, hc]
theorem sTallyValue_any (s : ByteArray) (w : World) (hz : s.size ≤ 1048576) :
    Calls Try.prog 16 #[.string s] w fun e w' => e = .returned (.int .i64 (tvR s)) ∧ Below w.heap.size w w' := by
  have hcl : ∀ k, cntNot (s.data.toList.take k) ≤ k := fun k => Nat.le_trans List.countP_le_length (by simp; omega)
  have HCL := Lib.hid hcl; clear hcl
  go_enter Try.func16, Try.ntmps16
  go_wp2
  go_loop [3, 4] (fun c i => ∃ k : Nat, k ≤ s.size ∧ i = .int .i64 k ∧ c = .int .i64 (cntNot (s.data.toList.take k))) (fun _ i => s.size - (intOf i).toNat)
  case atStart => exact ⟨0, Nat.zero_le _, rfl, rfl⟩
  case round =>
    obtain ⟨k, hk, rfl, rfl⟩ := hrel
    have hck := HCL.out k
    by_cases hlt : k < s.size
    · by_cases hc : s[k] = 32
      · have HN := Lib.hid (cntNot_no s k hlt hc)
        have hcb : (((s[k].toNat : Nat) : Int) != 32) = false := by rw [hc]; rfl
        clear hc
        go_wp2
        go_round
        case rel => exact ⟨k + 1, by omega, by go_num, by rw [HN.out]⟩
        case measure => simp [intOf]; omega
      · have HN := Lib.hid (cntNot_yes s k hlt hc)
        have hcb : (((s[k].toNat : Nat) : Int) != 32) = true := by
          rw [bne_iff_ne]
          intro h
          exact hc (UInt8.toNat_inj.1 (by simpa using (by omega : s[k].toNat = 32)))
        clear hc
        go_wp2
        go_round
        case rel => exact ⟨k + 1, by omega, by go_num, by rw [HN.out]; go_num⟩
        case measure => simp [intOf]; omega
    · obtain rfl : k = s.size := by omega
      have HV : Hid (tvR s = if cntNot s.data.toList = 0 ∨ tallyR (cntNot s.data.toList) ≠ s then 0 else (cntNot s.data.toList : Int)) := tvR_spec s
      have et : s.data.toList.take s.size = s.data.toList := by rw [List.take_of_length_le]; simp
      rw [et] at hck ⊢
      clear HCL
      generalize cntNot s.data.toList = c at *
      by_cases hc0 : c = 0
      · have HR := Lib.hid (HV.out.trans (if_pos (Or.inl hc0)))
        subst hc0
        go_wp2
        go_ret
        exact ⟨by rw [HR.out] <;> rfl, Below.refl _ _⟩
      by_cases h : tallyR (c : Int) = s
      · have HR := Lib.hid (HV.out.trans (if_neg (by simp [hc0, h])))
        have HT : Hid (∀ W : World, Calls Try.prog 12 #[.int .i64 (c : Int)] W fun e w' => e = .returned (.string s) ∧ Below W.heap.size W w') := fun W => by
          have := sTallyOf_any (c : Int) W
          rw [h] at this
          exact this
        clear HV
        go_wp2_with fail
        refine (HT.out _).mono ?_
        rintro e w2 ⟨rfl, hb⟩
        go_wp2_with fail
        go_ret
        exact ⟨by rw [HR.out] <;> rfl, hb⟩
      · have HR := Lib.hid (HV.out.trans (if_pos (Or.inr h)))
        have HT : Hid (∀ W : World, Calls Try.prog 12 #[.int .i64 (c : Int)] W fun e w' => e = .returned (.string (tallyR (c : Int))) ∧ Below W.heap.size W w') := fun W => sTallyOf_any (c : Int) W
        clear HV
        generalize tallyR (c : Int) = t at *
        have hts : (t.toList == s.toList) = false := by
          rw [beq_eq_false_iff_ne]
          intro e
          simp only [ByteArray.toList_eq] at e
          exact h (ByteArray.ext (Array.toList_inj.1 e))
        go_wp2_with fail
        refine (HT.out _).mono ?_
        rintro e w2 ⟨rfl, hb⟩
        go_wp2_with fail
        go_ret
        exact ⟨by rw [HR.out] <;> rfl, hb⟩
theorem law_FnExactTallyValue (s : ByteArray) (w : World) (fs : s.size ≤ maxLen) :
    Calls Try.prog 7 #[.string s] w fun e w' => e = .returned (.bool true) ∧ Below w.heap.size w w' := by
  by_cases hz : s.size ≤ 1048576
  · go_enter Try.func7, Try.ntmps7
    go_wp2_with fail
    refine (sTallyValue_any s _ hz).mono ?_
    rintro e w1 ⟨rfl, hb1⟩
    have hs1 := hb1.size
    go_wp2_with fail
    refine (TallyValue_any s _ hz).mono ?_
    rintro e w2 ⟨rfl, hb⟩
    go_wp2_with fail
    go_ret
    exact ⟨rfl, hb1.trans (hb.mono hs1)⟩
  · go_enter Try.func7, Try.ntmps7
    go_wp2
    go_ret
    exact ⟨rfl, Below.refl _ _⟩

end Go.Proofs.Ythehhlamhkhlpaa
