/- Digit sums, sources, Harshad numbers: program and reference. Conditions: those of each contract. -/
import Derived.Test.YtkcjjhdmklhepaaDigs
import Derived.Test.YtkcjjhdmklhepaaSelvesA
import Derived.Test.YtkcjjhdmklhepaaSelvesP
namespace Go.Proofs.Ytkcjjhdmklhepaa
set_option linter.unusedVariables false
open Go.RowKit

set_option maxHeartbeats 400000 in
theorem DigitSum_any (n b : Int) (w : World) (hn : inB n 0 1000000000000 = true) (hb : inB b 2 16 = true) :
    Calls Try.prog 41 #[.int .i64 n, .int .i64 b] w fun e w' => e = .returned (.int .i64 (dsum n b)) ∧ Below w.heap.size w w' := by
  obtain ⟨hb1, hb2⟩ := inB_t.1 hb
  obtain ⟨hn1, hn2⟩ := inB_t.1 hn
  go_enter Try.func41, Try.ntmps41
  go_wp2_with (first | (go_at_call 46; refine (BaseOk_any _ _).mono ?_; rintro e w' ⟨rfl, rfl⟩) | (go_at_call 54; refine (isNumber_any _ _).mono ?_; rintro e w' ⟨rfl, rfl⟩))
  refine (digitsOf_any n b _ (by omega) hb1 hb2).mono ?_
  rintro e w1 ⟨a, cap, rfl, ho, hbl⟩
  have HB := Lib.hid hbl; clear hbl
  have hx := ho.ints
  have hs := (digs_sum_bd n b hb1 hb2).2
  have HM := Lib.hid (fun x hx => (digs_mem n b hb1 x hx).1)
  have HX := Lib.hid hx; clear hx ho
  go_wp2_with fail
  refine (sumOf_any a cap (digs n b) w1 HX.out HM.out (by omega)).mono ?_
  rintro e w' ⟨rfl, rfl⟩
  go_wp2_with fail
  go_ret
  exact ⟨rfl, HB.out⟩
def addB (n b : Int) : Int := if inB b 2 16 && inB n 0 1000000 then n + dsum n b else -1
theorem addB_yes (n b : Int) (hb : inB b 2 16 = true) (hn : inB n 0 1000000 = true) : addB n b = n + dsum n b := by simp [addB, hb, hn]
theorem AddDigitSum_any (n b : Int) (w : World) :
    Calls Try.prog 13 #[.int .i64 n, .int .i64 b] w fun e w' => e = .returned (.int .i64 (addB n b)) ∧ Below w.heap.size w w' := by
  cases hb : inB b 2 16
  · go_enter Try.func13, Try.ntmps13
    go_wp2_with (first | (go_at_call 46; refine (BaseOk_any _ _).mono ?_; rintro e w' ⟨rfl, rfl⟩) | (go_at_call 47; refine (within_any _ _ _ _).mono ?_; rintro e w' ⟨rfl, rfl⟩))
    go_ret
    exact ⟨by simp [addB, hb], Below.refl _ _⟩
  cases hn : inB n 0 1000000
  · go_enter Try.func13, Try.ntmps13
    go_wp2_with (first | (go_at_call 46; refine (BaseOk_any _ _).mono ?_; rintro e w' ⟨rfl, rfl⟩) | (go_at_call 47; refine (within_any _ _ _ _).mono ?_; rintro e w' ⟨rfl, rfl⟩))
    go_ret
    exact ⟨by simp [addB, hb, hn], Below.refl _ _⟩
  have hm : inB n 0 1000000000000 = true := by rw [inB_t] at hn ⊢; omega
  obtain ⟨hb1, hb2⟩ := inB_t.1 hb
  obtain ⟨hn1, hn2⟩ := inB_t.1 hn
  obtain ⟨hd1, hd2⟩ := dsum_bd n b hb1 hb2
  go_enter Try.func13, Try.ntmps13
  go_wp2_with (first | (go_at_call 46; refine (BaseOk_any _ _).mono ?_; rintro e w' ⟨rfl, rfl⟩) | (go_at_call 47; refine (within_any _ _ _ _).mono ?_; rintro e w' ⟨rfl, rfl⟩))
  refine (DigitSum_any _ _ _ hm hb).mono ?_
  rintro e w1 ⟨rfl, hbl⟩
  have HB := Lib.hid hbl; clear hbl
  go_wp2_with fail
  go_ret
  exact ⟨by rw [addB_yes n b hb hn]; rfl, HB.out⟩
set_option maxHeartbeats 400000 in
theorem SourcesOf_any (n b : Int) (w : World) :
    Calls Try.prog 12 #[.int .i64 n, .int .i64 b] w (RetI w (srcsR n b)) := by
  cases hb : inB b 2 16
  · have HF : Hid (srcsR n b = []) := by show _ = _; simp [srcsR, hb]
    go_enter Try.func12, Try.ntmps12
    go_wp2_with (first | (go_at_call 46; refine (BaseOk_any _ _).mono ?_; rintro e w' ⟨rfl, rfl⟩) | (go_at_call 47; refine (within_any _ _ _ _).mono ?_; rintro e w' ⟨rfl, rfl⟩))
    go_ret
    rw [HF.out]
    exact RetI.of (World.ownsRow_nil _ _ _ _) (Below.refl _ _)
  cases hn : inB n 0 1000000
  · have HF : Hid (srcsR n b = []) := by show _ = _; simp [srcsR, hb, hn]
    go_enter Try.func12, Try.ntmps12
    go_wp2_with (first | (go_at_call 46; refine (BaseOk_any _ _).mono ?_; rintro e w' ⟨rfl, rfl⟩) | (go_at_call 47; refine (within_any _ _ _ _).mono ?_; rintro e w' ⟨rfl, rfl⟩))
    go_ret
    rw [HF.out]
    exact RetI.of (World.ownsRow_nil _ _ _ _) (Below.refl _ _)
  obtain ⟨hb1, hb2⟩ := inB_t.1 hb
  obtain ⟨hn1, hn2⟩ := inB_t.1 hn
  have HF : Hid (srcsR n b = srcs n b) := by show _ = _; simp [srcsR, hb, hn]
  obtain ⟨i0, hi, hz0, hz1, hz2⟩ := info_parts info_int
  go_enter Try.func12, Try.ntmps12
  go_wp2_with (first | (go_at_call 46; refine (BaseOk_any _ _).mono ?_; rintro e w' ⟨rfl, rfl⟩) | (go_at_call 47; refine (within_any _ _ _ _).mono ?_; rintro e w' ⟨rfl, rfl⟩))
  all_goals
    have HS := Lib.hid (fun lo h0 h1 h => srcs_from n b lo hb1 hb2 hn1 hn2 h0 h1 h)
    have HB := Lib.hid hb
    clear hb hn
    go_loopw [5, 6] (fun v m wr => ∃ (x : Int) (k : Nat), m = .int .i64 x ∧ 0 ≤ x - k ∧ x - k ≤ n ∧ x ≤ n + 1 ∧ (x - k = 0 ∨ x - k ≤ n - 20 * b + 20) ∧ OwnV wr w.heap.size v (upto (isSrc n b) (x - k) k) ∧ Below w.heap.size w wr) (fun _ m _ => (n + 1 - intOf m).toNat)
    case atStart => exact ⟨_, 0, rfl, by simp <;> omega, by simp <;> omega, by omega, by simp <;> omega, OwnV.nil _ _, Below.refl _ _⟩
    case round =>
      obtain ⟨x, k, rfl, hx0, hxn, hx1, hcase, hown, hbl⟩ := hrel
      have hsz := hbl.size
      have HC := Lib.hid hcase; clear hcase
      have HBL := Lib.hid hbl; clear hbl
      by_cases hle : x ≤ n
      · have hxb : inB x 0 1000000000000 = true := inB_t.2 (by omega)
        obtain ⟨hd1, hd2⟩ := dsum_bd x b hb1 hb2
        have hkl := upto_len (isSrc n b) (x - k) k
        have hkx : x - k + ((k : Nat) : Int) = x := by omega
        have hnx : x + 1 - ((k + 1 : Nat) : Int) = x - k := by omega
        have HNX := Lib.hid hnx; clear hnx
        cases hsrc : isSrc n b x
        · have HNO := Lib.hid (upto_no (P := isSrc n b) (lo := x - k) (k := k) (by rw [hkx]; exact hsrc))
          have hq : (x + dsum x b == n) = false := hsrc
          clear hsrc hkx
          go_wp2_with fail
          refine (DigitSum_any _ _ _ hxb HB.out).mono ?_
          rintro e w1 ⟨rfl, hbl1⟩
          have HB1 := Lib.hid hbl1; clear hbl1
          go_wp2_with fail
          go_roundw
          case rel => exact ⟨x + 1, k + 1, rfl, by omega, by omega, by omega, by rw [HNX.out]; exact HC.out, by rw [HNX.out, HNO.out]; exact hown.kept HB1.out, HBL.out.trans (HB1.out.mono hsz)⟩
          case measure => simp [intOf]; omega
        · have HYES := Lib.hid (upto_yes (P := isSrc n b) (lo := x - k) (k := k) (by rw [hkx]; exact hsrc))
          have HKX := Lib.hid hkx
          have hq : (x + dsum x b == n) = true := hsrc
          clear hsrc hkx
          go_wp2_with fail
          refine (DigitSum_any _ _ _ hxb HB.out).mono ?_
          rintro e w1 ⟨rfl, hbl1⟩
          have hsz1 := hbl1.size
          have HB1 := Lib.hid hbl1; clear hbl1
          have hown1 := hown.kept HB1.out
          go_wp2_with (at_builtin; refine wpList_append_int rfl _ _ rfl w.heap.size _ _ rfl hown1 _ rfl (by omega) (by omega) ?_; intro v' w2 hown2 hbl2)
          have HB2 := Lib.hid hbl2; clear hbl2
          go_roundw
          case rel => exact ⟨x + 1, k + 1, rfl, by omega, by omega, by omega, by rw [HNX.out]; exact HC.out, by rw [HNX.out, HYES.out, HKX.out]; exact hown2, (HBL.out.trans (HB1.out.mono hsz)).trans HB2.out⟩
          case measure => simp [intOf]; omega
      · have HF2 := HS.out (x - k) hx0 hxn HC.out
        have HK : (n + 1 - (x - k)).toNat = k := by omega
        rw [HK] at HF2
        have HF3 := Lib.hid HF2; clear HF2 HK
        go_wp2_with fail
        go_ret
        rw [HF.out, ← HF3.out]
        exact hown.ret HBL.out
def selfB (n b : Int) : Bool := inB b 2 16 && (inB n 0 1000000 && (srcsR n b).isEmpty)
theorem isEmpty_len {α : Type} (xs : List α) : ((xs.length : Int) == 0) = xs.isEmpty := by cases xs <;> simp <;> omega
theorem IsSelfNumber_any (n b : Int) (w : World) :
    Calls Try.prog 15 #[.int .i64 n, .int .i64 b] w fun e w' => e = .returned (.bool (selfB n b)) ∧ Below w.heap.size w w' := by
  cases hb : inB b 2 16
  · go_enter Try.func15, Try.ntmps15
    go_wp2_with (first | (go_at_call 46; refine (BaseOk_any _ _).mono ?_; rintro e w' ⟨rfl, rfl⟩) | (go_at_call 47; refine (within_any _ _ _ _).mono ?_; rintro e w' ⟨rfl, rfl⟩))
    go_ret
    exact ⟨by simp [selfB, hb], Below.refl _ _⟩
  cases hn : inB n 0 1000000
  · go_enter Try.func15, Try.ntmps15
    go_wp2_with (first | (go_at_call 46; refine (BaseOk_any _ _).mono ?_; rintro e w' ⟨rfl, rfl⟩) | (go_at_call 47; refine (within_any _ _ _ _).mono ?_; rintro e w' ⟨rfl, rfl⟩))
    go_ret
    exact ⟨by simp [selfB, hb, hn], Below.refl _ _⟩
  have HE := isEmpty_len (srcsR n b)
  have hl := srcsR_len n b
  go_enter Try.func15, Try.ntmps15
  go_wp2_with (first | (go_at_call 46; refine (BaseOk_any _ _).mono ?_; rintro e w' ⟨rfl, rfl⟩) | (go_at_call 47; refine (within_any _ _ _ _).mono ?_; rintro e w' ⟨rfl, rfl⟩))
  refine (SourcesOf_any _ _ _).mono ?_
  rintro e w1 ⟨a, c, rfl, ho, hbl⟩
  have HB := Lib.hid hbl; clear hbl ho
  go_wp2_with fail
  go_ret
  exact ⟨by simp [selfB, hb, hn], HB.out⟩

end Go.Proofs.Ytkcjjhdmklhepaa
