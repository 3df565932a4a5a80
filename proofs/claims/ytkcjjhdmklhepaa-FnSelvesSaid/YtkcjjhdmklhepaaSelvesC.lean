/- Harshad numbers, automorphic numbers, split squares, meetings: program and reference. Conditions: those of each contract. -/
import Derived.Test.YtkcjjhdmklhepaaSelvesB
namespace Go.Proofs.Ytkcjjhdmklhepaa
set_option linter.unusedVariables false
open Go.RowKit

set_option maxHeartbeats 400000 in
theorem IsHarshad_any (n b : Int) (w : World) :
    Calls Try.prog 18 #[.int .i64 n, .int .i64 b] w fun e w' => e = .returned (.bool (harshB n b)) ∧ Below w.heap.size w w' := by
  cases hb : inB b 2 16
  · go_enter Try.func18, Try.ntmps18
    go_wp2_with (first | (go_at_call 46; refine (BaseOk_any _ _).mono ?_; rintro e w' ⟨rfl, rfl⟩) | (go_at_call 47; refine (within_any _ _ _ _).mono ?_; rintro e w' ⟨rfl, rfl⟩))
    go_ret
    exact ⟨by simp [harshB, hb], Below.refl _ _⟩
  cases hn : inB n 1 1000000000000
  · go_enter Try.func18, Try.ntmps18
    go_wp2_with (first | (go_at_call 46; refine (BaseOk_any _ _).mono ?_; rintro e w' ⟨rfl, rfl⟩) | (go_at_call 47; refine (within_any _ _ _ _).mono ?_; rintro e w' ⟨rfl, rfl⟩))
    go_ret
    exact ⟨by simp [harshB, hb, hn], Below.refl _ _⟩
  obtain ⟨hb1, hb2⟩ := inB_t.1 hb
  obtain ⟨hn1, hn2⟩ := inB_t.1 hn
  have hn0 : inB n 0 1000000000000 = true := inB_t.2 (by omega)
  have hd0 := dsum_pos n b hb1 (by omega) (by omega)
  obtain ⟨hd1, hd2⟩ := dsum_bd n b hb1 hb2
  have HD : Hid (harshB n b = (n % dsum n b == 0)) := by show _ = _; simp [harshB, hb, hn, harsh]
  go_enter Try.func18, Try.ntmps18
  go_wp2_with (first | (go_at_call 46; refine (BaseOk_any _ _).mono ?_; rintro e w' ⟨rfl, rfl⟩) | (go_at_call 47; refine (within_any _ _ _ _).mono ?_; rintro e w' ⟨rfl, rfl⟩))
  refine (DigitSum_any _ _ _ hn0 hb).mono ?_
  rintro e w1 ⟨rfl, hbl⟩
  have HB := Lib.hid hbl; clear hbl
  go_wp2_with fail
  go_ret
  exact ⟨by rw [HD.out]; rfl, HB.out⟩
def cntH (b most : Int) : Int := if inB b 2 16 && inB most 0 1000 then harshC b most.toNat else -1
theorem harshC_bd (b : Int) (k : Nat) : 0 ≤ harshC b k ∧ harshC b k ≤ k := by
  have := upto_len (fun n => harsh n b) 1 k
  unfold harshC; omega
theorem harshB_in (b : Int) (k : Nat) (hb : inB b 2 16 = true) (hk : k < 1000) : harshB (1 + k) b = harsh (1 + k) b := by
  have : inB (1 + (k : Int)) 1 1000000000000 = true := inB_t.2 (by omega)
  simp [harshB, hb, this]
set_option maxHeartbeats 400000 in
theorem CountHarshad_any (b most : Int) (w : World) :
    Calls Try.prog 16 #[.int .i64 b, .int .i64 most] w fun e w' => e = .returned (.int .i64 (cntH b most)) ∧ Below w.heap.size w w' := by
  cases hb : inB b 2 16
  · go_enter Try.func16, Try.ntmps16
    go_wp2_with (first | (go_at_call 46; refine (BaseOk_any _ _).mono ?_; rintro e w' ⟨rfl, rfl⟩) | (go_at_call 47; refine (within_any _ _ _ _).mono ?_; rintro e w' ⟨rfl, rfl⟩))
    go_ret
    exact ⟨by simp [cntH, hb], Below.refl _ _⟩
  cases hn : inB most 0 1000
  · go_enter Try.func16, Try.ntmps16
    go_wp2_with (first | (go_at_call 46; refine (BaseOk_any _ _).mono ?_; rintro e w' ⟨rfl, rfl⟩) | (go_at_call 47; refine (within_any _ _ _ _).mono ?_; rintro e w' ⟨rfl, rfl⟩))
    go_ret
    exact ⟨by simp [cntH, hb, hn], Below.refl _ _⟩
  obtain ⟨hn1, hn2⟩ := inB_t.1 hn
  obtain ⟨most, rfl⟩ := Int.eq_ofNat_of_zero_le hn1
  have HF : Hid (cntH b most = harshC b most) := by show _ = _; simp [cntH, hb, hn]
  go_enter Try.func16, Try.ntmps16
  go_wp2_with (first | (go_at_call 46; refine (BaseOk_any _ _).mono ?_; rintro e w' ⟨rfl, rfl⟩) | (go_at_call 47; refine (within_any _ _ _ _).mono ?_; rintro e w' ⟨rfl, rfl⟩))
  have HBB := Lib.hid hb; clear hb hn
  go_loopw [5, 6] (fun c m wr => ∃ k : Nat, m = .int .i64 (1 + k) ∧ k ≤ most ∧ c = .int .i64 (harshC b k) ∧ Below w.heap.size w wr) (fun _ m _ => (most + 1 - intOf m).toNat)
  case atStart => exact ⟨0, rfl, by omega, rfl, Below.refl _ _⟩
  case round =>
    obtain ⟨k, rfl, hk, rfl, hbl⟩ := hrel
    have hsz := hbl.size
    have HBL := Lib.hid hbl; clear hbl
    by_cases hlt : k < most
    · have HI := Lib.hid (harshB_in b k HBB.out (by omega))
      have HS := Lib.hid (harshC_succ b k)
      obtain ⟨hc1, hc2⟩ := harshC_bd b k
      cases hh : harshB (1 + (k : Int)) b
      all_goals
        have HH := Lib.hid hh
        go_wp2_with fail
        refine (IsHarshad_any _ _ _).mono ?_
        rintro e w1 ⟨rfl, hbl1⟩
        have HB1 := Lib.hid hbl1; clear hbl1
        go_wp2_with fail
        go_roundw
        case rel => exact ⟨k + 1, by go_num, by omega, by rw [HS.out, ← HI.out, HH.out]; go_num, HBL.out.trans (HB1.out.mono hsz)⟩
        case measure => simp [intOf]; omega
    · go_wp2_with fail
      go_ret
      obtain rfl : k = most := by omega
      exact ⟨by rw [HF.out]; rfl, HBL.out⟩

end Go.Proofs.Ytkcjjhdmklhepaa
