/- FormatRoman and what stands on it. Conditions: none. -/
import Derived.Test.YthehhlamhkhlpaaDoorRomanA
namespace Go.Proofs.YthehhlamhkhlpaaDoor
set_option linter.unusedVariables false
open Go.RowKit

def fmtP (n : Int) : Nat → List UInt8
  | 0 => []
  | 1 => dM n
  | 2 => dM n ++ dC n
  | 3 => dM n ++ dC n ++ dX n
  | _ => dM n ++ dC n ++ dX n ++ dI n
/-- the four texts in a new block -/
theorem letters_new (w : World) : ∃ w0, w0 = w.alloc (Obj.cells #[.string ⟨#[77]⟩, .string ⟨#[67, 68, 77]⟩, .string ⟨#[88, 76, 67]⟩, .string ⟨#[73, 86, 88]⟩] 9) ∧ Below w.heap.size w w0 ∧ w0.heap.size = w.heap.size + 1 ∧
    w0.cell? ⟨w.heap.size, 0, none⟩ = some (.string ⟨#[77]⟩) ∧ w0.cell? ⟨w.heap.size, 1, none⟩ = some (.string ⟨#[67, 68, 77]⟩) ∧ w0.cell? ⟨w.heap.size, 2, none⟩ = some (.string ⟨#[88, 76, 67]⟩) ∧ w0.cell? ⟨w.heap.size, 3, none⟩ = some (.string ⟨#[73, 86, 88]⟩) := by
  refine ⟨_, rfl, (Below.refl _ _).alloc (Nat.le_refl _) _, by simp, ?_, ?_, ?_, ?_⟩
  all_goals (rw [World.cell?_alloc_new]; rfl)
theorem FormatRoman_any (n : Int) (w : World) :
    Calls Tryd.prog 17 #[.int .i64 n] w fun e w' => e = .returned (.string ⟨(fmtR n).toArray⟩) ∧ Below w.heap.size w w' := by
  cases hq : inB n 1 3999
  · have HF : Hid (fmtR n = []) := by show _ = _; simp [fmtR, hq]
    go_enter Tryd.func17, Tryd.ntmps17
    go_wp2_with (go_at_call 28; refine (within_any _ _ _ _).mono ?_; rintro e w' ⟨rfl, rfl⟩)
    go_ret
    exact ⟨by rw [HF.out] <;> rfl, Below.refl _ _⟩
  obtain ⟨hq1, hq2⟩ := inB_t.1 hq
  have HF : Hid (fmtR n = fmtP n 4) := by show _ = _; simp [fmtR, hq, fmtP]
  obtain ⟨l1, l2, l3, l4⟩ := fmt_lens n hq1 hq2
  have HP0 : Hid (∀ W : World, Calls Tryd.prog 34 #[.int .i64 10, .int .i64 3] W fun e w' => e = .returned (.int .i64 1000) ∧ W = w') := fun W => by
    have := power_any 10 3 W (by decide) (by decide) (by decide)
    simpa using this
  have HD0 : Hid (∀ (W : World) (d' : Int), d' = n / 1000 % 10 → Calls Tryd.prog 33 #[.int .i64 d', .string ⟨#[77]⟩] W fun e w' => e = .returned (.string ⟨(dM n).toArray⟩) ∧ Below W.heap.size W w') := fun W d' hd => by
    have e1 : d' = n / 1000 := by omega
    rw [e1]
    have := romanDigitM_any (n / 1000) 77 W (by omega) (by omega)
    exact this
  have HP1 : Hid (∀ W : World, Calls Tryd.prog 34 #[.int .i64 10, .int .i64 2] W fun e w' => e = .returned (.int .i64 100) ∧ W = w') := fun W => by
    have := power_any 10 2 W (by decide) (by decide) (by decide)
    simpa using this
  have HD1 : Hid (∀ (W : World) (d' : Int), d' = n / 100 % 10 → Calls Tryd.prog 33 #[.int .i64 d', .string ⟨#[67, 68, 77]⟩] W fun e w' => e = .returned (.string ⟨(dC n).toArray⟩) ∧ Below W.heap.size W w') := fun W d' hd => by
    rw [hd]
    exact romanDigit_any _ 67 68 77 W (by omega) (by omega)
  have HP2 : Hid (∀ W : World, Calls Tryd.prog 34 #[.int .i64 10, .int .i64 1] W fun e w' => e = .returned (.int .i64 10) ∧ W = w') := fun W => by
    have := power_any 10 1 W (by decide) (by decide) (by decide)
    simpa using this
  have HD2 : Hid (∀ (W : World) (d' : Int), d' = n / 10 % 10 → Calls Tryd.prog 33 #[.int .i64 d', .string ⟨#[88, 76, 67]⟩] W fun e w' => e = .returned (.string ⟨(dX n).toArray⟩) ∧ Below W.heap.size W w') := fun W d' hd => by
    rw [hd]
    exact romanDigit_any _ 88 76 67 W (by omega) (by omega)
  have HP3 : Hid (∀ W : World, Calls Tryd.prog 34 #[.int .i64 10, .int .i64 0] W fun e w' => e = .returned (.int .i64 1) ∧ W = w') := fun W => by
    have := power_any 10 0 W (by decide) (by decide) (by decide)
    simpa using this
  have HD3 : Hid (∀ (W : World) (d' : Int), d' = n % 10 → Calls Tryd.prog 33 #[.int .i64 d', .string ⟨#[73, 86, 88]⟩] W fun e w' => e = .returned (.string ⟨(dI n).toArray⟩) ∧ Below W.heap.size W w') := fun W d' hd => by
    rw [hd]
    exact romanDigit_any _ 73 86 88 W (by omega) (by omega)
  obtain ⟨w0, e0, hb0, hs0, c0, c1, c2, c3⟩ := letters_new w
  have HC0 := Lib.hid c0
  have HC1 := Lib.hid c1
  have HC2 := Lib.hid c2
  have HC3 := Lib.hid c3
  clear c0 c1 c2 c3
  go_enter Tryd.func17, Tryd.ntmps17
  go_wp2_with (go_at_call 28; refine (within_any _ _ _ _).mono ?_; rintro e w' ⟨rfl, rfl⟩)
  rw [← e0]
  clear e0
  have HL1 : Hid ((fmtP n 1).length ≤ 10) := l1
  have HB0 := Lib.hid hb0; clear hb0
  go_loopw [3, 11] (fun s i wr => ∃ k : Int, (0 ≤ k ∧ k ≤ 4) ∧ i = .int .i64 k ∧ s = .string ⟨(fmtP n k.toNat).toArray⟩ ∧ Below w0.heap.size w0 wr) (fun _ i _ => 4 - (intOf i).toNat)
  case atStart => exact ⟨0, by omega, rfl, rfl, Below.refl _ _⟩
  case round =>
    obtain ⟨k, ⟨hk0, hk⟩, rfl, rfl, hb⟩ := hrel
    have hsz := hb.size
    have hfl : (fmtP n k.toNat).length ≤ 40 := by
      rcases (show k = 0 ∨ k = 1 ∨ k = 2 ∨ k = 3 ∨ k = 4 by omega) with rfl | rfl | rfl | rfl | rfl
      all_goals simp [fmtP]
      all_goals omega
    have HS : Hid (∃ t, t = fmtP n k.toNat) := ⟨_, rfl⟩
    rcases (show k = 0 ∨ k = 1 ∨ k = 2 ∨ k = 3 ∨ k = 4 by omega) with rfl | rfl | rfl | rfl | rfl
    · generalize hs : fmtP n (Int.toNat 0) = s0 at *
      have HSS := Lib.hid hs; clear hs HS
      have hc := (hb.cell (p := ⟨w.heap.size, 0, none⟩) (by show w.heap.size < _; omega)).trans HC0.out
      have HB := Lib.hid hb; clear hb
      go_wp2_with fail
      refine (HP0.out _).mono ?_
      rintro e w1 ⟨rfl, rfl⟩
      go_wp2_with fail
      refine (HD0.out _ _ (by omega)).mono ?_
      rintro e w2 ⟨rfl, hb2⟩
      have HB2 := Lib.hid hb2; clear hb2
      go_wp2_with fail
      go_roundw
      case rel => exact ⟨1, by omega, rfl, by rw [ba_app, ← HSS.out] <;> rfl, HB.out.trans (HB2.out.mono (by omega))⟩
      case measure => simp [intOf] <;> omega
    · generalize hs : fmtP n (Int.toNat 1) = s0 at *
      have HSS := Lib.hid hs; clear hs HS
      have hc := (hb.cell (p := ⟨w.heap.size, 1, none⟩) (by show w.heap.size < _; omega)).trans HC1.out
      have HB := Lib.hid hb; clear hb
      go_wp2_with fail
      refine (HP1.out _).mono ?_
      rintro e w1 ⟨rfl, rfl⟩
      go_wp2_with fail
      refine (HD1.out _ _ (by omega)).mono ?_
      rintro e w2 ⟨rfl, hb2⟩
      have HB2 := Lib.hid hb2; clear hb2
      go_wp2_with fail
      go_roundw
      case rel => exact ⟨2, by omega, rfl, by rw [ba_app, ← HSS.out] <;> rfl, HB.out.trans (HB2.out.mono (by omega))⟩
      case measure => simp [intOf] <;> omega
    · generalize hs : fmtP n (Int.toNat 2) = s0 at *
      have HSS := Lib.hid hs; clear hs HS
      have hc := (hb.cell (p := ⟨w.heap.size, 2, none⟩) (by show w.heap.size < _; omega)).trans HC2.out
      have HB := Lib.hid hb; clear hb
      go_wp2_with fail
      refine (HP2.out _).mono ?_
      rintro e w1 ⟨rfl, rfl⟩
      go_wp2_with fail
      refine (HD2.out _ _ (by omega)).mono ?_
      rintro e w2 ⟨rfl, hb2⟩
      have HB2 := Lib.hid hb2; clear hb2
      go_wp2_with fail
      go_roundw
      case rel => exact ⟨3, by omega, rfl, by rw [ba_app, ← HSS.out] <;> rfl, HB.out.trans (HB2.out.mono (by omega))⟩
      case measure => simp [intOf] <;> omega
    · generalize hs : fmtP n (Int.toNat 3) = s0 at *
      have HSS := Lib.hid hs; clear hs HS
      have hc := (hb.cell (p := ⟨w.heap.size, 3, none⟩) (by show w.heap.size < _; omega)).trans HC3.out
      have HB := Lib.hid hb; clear hb
      go_wp2_with fail
      refine (HP3.out _).mono ?_
      rintro e w1 ⟨rfl, rfl⟩
      go_wp2_with fail
      refine (HD3.out _ _ (by omega)).mono ?_
      rintro e w2 ⟨rfl, hb2⟩
      have HB2 := Lib.hid hb2; clear hb2
      go_wp2_with fail
      go_roundw
      case rel => exact ⟨4, by omega, rfl, by rw [ba_app, ← HSS.out] <;> rfl, HB.out.trans (HB2.out.mono (by omega))⟩
      case measure => simp [intOf] <;> omega
    · have HB := Lib.hid hb; clear hb
      go_wp2_with fail
      go_ret
      exact ⟨by rw [HF.out] <;> rfl, HB0.out.trans (HB.out.mono (by omega))⟩

end Go.Proofs.YthehhlamhkhlpaaDoor
