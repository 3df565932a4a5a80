/- LongestRoman. Conditions: none. -/
import Derived.Test.YthehhlamhkhlpaaDoorRomanC
namespace Go.Proofs.YthehhlamhkhlpaaDoor
set_option linter.unusedVariables false
open Go.RowKit

/-- the first number with the longest numeral among those below k -/
def lng : Nat → Int
  | 0 => 1
  | k + 1 => if romLen (lng k) < romLen k then k else lng k
def lngR (most : Int) : Int := if inB most 1 3999 then lng (most.toNat + 1) else 0
theorem lng_yes {k : Nat} (h : decide (romLen (lng k) < romLen k) = true) : lng (k + 1) = k := by
  rw [lng, if_pos (of_decide_eq_true h)]
theorem lng_no {k : Nat} (h : decide (romLen (lng k) < romLen k) = false) : lng (k + 1) = lng k := by
  rw [lng, if_neg (of_decide_eq_false h)]
theorem lng_two : lng 2 = 1 := by decide +kernel
theorem LongestRoman_any (most : Int) (w : World) :
    Calls Tryd.prog 19 #[.int .i64 most] w fun e w' => e = .returned (.int .i64 (lngR most)) ∧ Below w.heap.size w w' := by
  cases hq : inB most 1 3999
  · have HF : Hid (lngR most = 0) := by show _ = _; simp [lngR, hq]
    go_enter Tryd.func19, Tryd.ntmps19
    go_wp2_with (go_at_call 28; refine (within_any _ _ _ _).mono ?_; rintro e w' ⟨rfl, rfl⟩)
    go_ret
    exact ⟨by rw [HF.out] <;> rfl, Below.refl _ _⟩
  obtain ⟨hq1, hq2⟩ := inB_t.1 hq
  have HF : Hid (lngR most = lng (most.toNat + 1)) := by show _ = _; simp [lngR, hq]
  go_enter Tryd.func19, Tryd.ntmps19
  go_wp2_with (go_at_call 28; refine (within_any _ _ _ _).mono ?_; rintro e w' ⟨rfl, rfl⟩)
  clear hq
  go_loopw [3, 10] (fun s i wr => ∃ k : Nat, (k : Int) ≤ most + 1 ∧ i = .int .i64 k ∧ s = .int .i64 (lng k) ∧ Below w.heap.size w wr) (fun _ i _ => (most + 1 - intOf i).toNat)
  case atStart => exact ⟨0, by omega, rfl, rfl, Below.refl _ _⟩
  case round =>
    obtain ⟨k, hk, rfl, rfl, hb⟩ := hrel
    have hsz := hb.size
    have HB := Lib.hid hb; clear hb
    by_cases hlt : (k : Int) < most + 1
    · go_wp2_with fail
      refine (RomanLength_any _ _).mono ?_
      rintro e w1 ⟨rfl, hb1⟩
      have hs1 := hb1.size
      have HB1 := Lib.hid (HB.out.trans (hb1.mono hsz)); clear hb1
      go_wp2_with fail
      refine (RomanLength_any _ _).mono ?_
      rintro e w2 ⟨rfl, hb2⟩
      have HB2 := Lib.hid (HB1.out.trans (hb2.mono (by omega))); clear hb2
      cases hc : decide (romLen (lng k) < romLen k)
      · have HN := Lib.hid (lng_no hc)
        have hcn : ¬ (romLen (lng k) < romLen k) := of_decide_eq_false hc
        clear hc
        go_wp2_with fail
        go_roundw
        case rel => exact ⟨k + 1, by omega, by go_num, by rw [HN.out], HB2.out⟩
        case measure => simp [intOf] <;> omega
      · have HN := Lib.hid (lng_yes hc)
        have hcn : (romLen (lng k) < romLen k) := of_decide_eq_true hc
        clear hc
        go_wp2_with fail
        go_roundw
        case rel => exact ⟨k + 1, by omega, by go_num, by rw [HN.out], HB2.out⟩
        case measure => simp [intOf] <;> omega
    · have HK : Hid (k = most.toNat + 1) := by show _ = _; omega
      go_wp2_with fail
      go_ret
      exact ⟨by rw [HF.out, ← HK.out] <;> rfl, HB.out⟩

end Go.Proofs.YthehhlamhkhlpaaDoor
