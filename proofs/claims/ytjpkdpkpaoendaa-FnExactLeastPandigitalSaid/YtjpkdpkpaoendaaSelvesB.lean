/- Digit sums, sources, Harshad numbers: program and reference. Conditions: those of each contract. -/
import Derived.Test.YtjpkdpkpaoendaaDigs
import Derived.Test.YtjpkdpkpaoendaaSelvesA
import Derived.Test.YtjpkdpkpaoendaaSelvesP
namespace Go.Proofs.Ytjpkdpkpaoendaa
set_option linter.unusedVariables false
open Go.RowKit

set_option maxHeartbeats 400000 in
theorem DigitSum_any (n b : Int) (w : World) (hn : inB n 0 1000000000000 = true) (hb : inB b 2 16 = true) :
    Calls Try.prog 54 #[.int .i64 n, .int .i64 b] w fun e w' => e = .returned (.int .i64 (dsum n b)) ∧ Below w.heap.size w w' := by
  obtain ⟨hb1, hb2⟩ := inB_t.1 hb
  obtain ⟨hn1, hn2⟩ := inB_t.1 hn
  go_enter Try.func54, Try.ntmps54
  go_wp2_with (first | (go_at_call 49; refine (BaseOk_any _ _).mono ?_; rintro e w' ⟨rfl, rfl⟩) | (go_at_call 60; refine (isNumber_any _ _).mono ?_; rintro e w' ⟨rfl, rfl⟩))
  refine (digitsOf_any n b _ (by omega) hb1 hb2).mono ?_
  rintro e w1 ⟨a, cap, rfl, ho, hbl⟩
  have HB := Lib.hid hbl; clear hbl
  have hx := ho.ints
  have hs := (digs_sum_bd n b hb1 hb2).2
  have HM := Lib.hid (fun x hx => (digs_mem n b hb1 x hx).1)
  have HX := Lib.hid hx; clear hx ho
  go_wp2_with fail
  refine (sumOf_any a cap (digs n b) w1 HX.out HM.out (by omega)).mono ?_
  rintro e w' ⟨rfl, rfl⟩
  go_wp2_with fail
  go_ret
  exact ⟨rfl, HB.out⟩
theorem l25Next_any (n b : Int) (w : World) (hn1 : 0 ≤ n) (hn2 : n ≤ 1000000000000) (hb1 : 2 ≤ b) (hb2 : b ≤ 16) :
    Calls Try.prog 65 #[.int .i64 n, .int .i64 b] w fun e w' => e = .returned (.int .i64 (n + dsum n b)) ∧ Below w.heap.size w w' := by
  go_enter Try.func65, Try.ntmps65
  go_wp2_with fail
  refine (l02Digits_any n b _ (by omega) hb1 hb2).mono ?_
  rintro e w1 ⟨a, cap, rfl, ho, hbl⟩
  have HB := Lib.hid hbl; clear hbl
  have hx := ho.ints
  have hs := (digs_sum_bd n b hb1 hb2)
  have HM := Lib.hid (fun x hx => (digs_mem n b hb1 x hx).1)
  have HX := Lib.hid hx; clear hx ho
  obtain ⟨hs1, hs2⟩ := hs
  go_wp2_with fail
  refine (l02Sum_any a cap (digs n b) w1 HX.out HM.out (by omega)).mono ?_
  rintro e w' ⟨rfl, rfl⟩
  go_wp2_with fail
  go_ret
  exact ⟨rfl, HB.out⟩
def addB (n b : Int) : Int := if inB b 2 16 && inB n 0 1000000 then n + dsum n b else -1
theorem addB_yes (n b : Int) (hb : inB b 2 16 = true) (hn : inB n 0 1000000 = true) : addB n b = n + dsum n b := by simp [addB, hb, hn]
theorem AddDigitSum_any (n b : Int) (w : World) :
    Calls Try.prog 25 #[.int .i64 n, .int .i64 b] w fun e w' => e = .returned (.int .i64 (addB n b)) ∧ Below w.heap.size w w' := by
  cases hb : inB b 2 16
  · go_enter Try.func25, Try.ntmps25
    go_wp2_with (first | (go_at_call 49; refine (BaseOk_any _ _).mono ?_; rintro e w' ⟨rfl, rfl⟩) | (go_at_call 50; refine (within_any _ _ _ _).mono ?_; rintro e w' ⟨rfl, rfl⟩))
    go_ret
    exact ⟨by simp [addB, hb], Below.refl _ _⟩
  cases hn : inB n 0 1000000
  · go_enter Try.func25, Try.ntmps25
    go_wp2_with (first | (go_at_call 49; refine (BaseOk_any _ _).mono ?_; rintro e w' ⟨rfl, rfl⟩) | (go_at_call 50; refine (within_any _ _ _ _).mono ?_; rintro e w' ⟨rfl, rfl⟩))
    go_ret
    exact ⟨by simp [addB, hb, hn], Below.refl _ _⟩
  have hm : inB n 0 1000000000000 = true := by rw [inB_t] at hn ⊢; omega
  obtain ⟨hb1, hb2⟩ := inB_t.1 hb
  obtain ⟨hn1, hn2⟩ := inB_t.1 hn
  obtain ⟨hd1, hd2⟩ := dsum_bd n b hb1 hb2
  go_enter Try.func25, Try.ntmps25
  go_wp2_with (first | (go_at_call 49; refine (BaseOk_any _ _).mono ?_; rintro e w' ⟨rfl, rfl⟩) | (go_at_call 50; refine (within_any _ _ _ _).mono ?_; rintro e w' ⟨rfl, rfl⟩))
  refine (DigitSum_any _ _ _ hm hb).mono ?_
  rintro e w1 ⟨rfl, hbl⟩
  have HB := Lib.hid hbl; clear hbl
  go_wp2_with fail
  go_ret
  exact ⟨by rw [addB_yes n b hb hn]; rfl, HB.out⟩
set_option maxHeartbeats 400000 in
theorem SourcesOf_any (n b : Int) (w : World) :
    Calls Try.prog 24 #[.int .i64 n, .int .i64 b] w (RetI w (srcsR n b)) := by
  cases hb : inB b 2 16
  · have HF : Hid (srcsR n b = []) := by show _ = _; simp [srcsR, hb]
    go_enter Try.func24, Try.ntmps24
    go_wp2_with (first | (go_at_call 49; refine (BaseOk_any _ _).mono ?_; rintro e w' ⟨rfl, rfl⟩) | (go_at_call 50; refine (within_any _ _ _ _).mono ?_; rintro e w' ⟨rfl, rfl⟩))
    go_ret
    rw [HF.out]
    exact RetI.of (World.ownsRow_nil _ _ _ _) (Below.refl _ _)
  cases hn : inB n 0 1000000
  · have HF : Hid (srcsR n b = []) := by show _ = _; simp [srcsR, hb, hn]
    go_enter Try.func24, Try.ntmps24
    go_wp2_with (first | (go_at_call 49; refine (BaseOk_any _ _).mono ?_; rintro e w' ⟨rfl, rfl⟩) | (go_at_call 50; refine (within_any _ _ _ _).mono ?_; rintro e w' ⟨rfl, rfl⟩))
    go_ret
    rw [HF.out]
    exact RetI.of (World.ownsRow_nil _ _ _ _) (Below.refl _ _)
  obtain ⟨hb1, hb2⟩ := inB_t.1 hb
  obtain ⟨hn1, hn2⟩ := inB_t.1 hn
  have HF : Hid (srcsR n b = srcs n b) := by show _ = _; simp [srcsR, hb, hn]
  obtain ⟨i0, hi, hz0, hz1, hz2⟩ := info_parts info_int
  go_enter Try.func24, Try.ntmps24
  go_wp2_with (first | (go_at_call 49; refine (BaseOk_any _ _).mono ?_; rintro e w' ⟨rfl, rfl⟩) | (go_at_call 50; refine (within_any _ _ _ _).mono ?_; rintro e w' ⟨rfl, rfl⟩))
  all_goals
    have HS := Lib.hid (fun lo h0 h1 h => srcs_from n b lo hb1 hb2 hn1 hn2 h0 h1 h)
    have HB := Lib.hid hb
    clear hb hn
    go_loopw [5, 6] (fun v m wr => ∃ (x : Int) (k : Nat), m = .int .i64 x ∧ 0 ≤ x - k ∧ x - k ≤ n ∧ x ≤ n + 1 ∧ (x - k = 0 ∨ x - k ≤ n - 20 * b + 20) ∧ OwnV wr w.heap.size v (upto (isSrc n b) (x - k) k) ∧ Below w.heap.size w wr) (fun _ m _ => (n + 1 - intOf m).toNat)
    case atStart => exact ⟨_, 0, rfl, by simp <;> omega, by simp <;> omega, by omega, by simp <;> omega, OwnV.nil _ _, Below.refl _ _⟩
    case round =>
      obtain ⟨x, k, rfl, hx0, hxn, hx1, hcase, hown, hbl⟩ := hrel
      have hsz := hbl.size
      have HC := Lib.hid hcase; clear hcase
      have HBL := Lib.hid hbl; clear hbl
      by_cases hle : x ≤ n
      · have hxb : inB x 0 1000000000000 = true := inB_t.2 (by omega)
        obtain ⟨hd1, hd2⟩ := dsum_bd x b hb1 hb2
        have hkl := upto_len (isSrc n b) (x - k) k
        have hkx : x - k + ((k : Nat) : Int) = x := by omega
        have hnx : x + 1 - ((k + 1 : Nat) : Int) = x - k := by omega
        have HNX := Lib.hid hnx; clear hnx
        cases hsrc : isSrc n b x
        · have HNO := Lib.hid (upto_no (P := isSrc n b) (lo := x - k) (k := k) (by rw [hkx]; exact hsrc))
          have hq : (x + dsum x b == n) = false := hsrc
          clear hsrc hkx
          go_wp2_with fail
          refine (DigitSum_any _ _ _ hxb HB.out).mono ?_
          rintro e w1 ⟨rfl, hbl1⟩
          have HB1 := Lib.hid hbl1; clear hbl1
          go_wp2_with fail
          go_roundw
          case rel => exact ⟨x + 1, k + 1, rfl, by omega, by omega, by omega, by rw [HNX.out]; exact HC.out, by rw [HNX.out, HNO.out]; exact hown.kept HB1.out, HBL.out.trans (HB1.out.mono hsz)⟩
          case measure => simp [intOf]; omega
        · have HYES := Lib.hid (upto_yes (P := isSrc n b) (lo := x - k) (k := k) (by rw [hkx]; exact hsrc))
          have HKX := Lib.hid hkx
          have hq : (x + dsum x b == n) = true := hsrc
          clear hsrc hkx
          go_wp2_with fail
          refine (DigitSum_any _ _ _ hxb HB.out).mono ?_
          rintro e w1 ⟨rfl, hbl1⟩
          have hsz1 := hbl1.size
          have HB1 := Lib.hid hbl1; clear hbl1
          have hown1 := hown.kept HB1.out
          go_wp2_with (at_builtin; refine wpList_append_int rfl _ _ rfl w.heap.size _ _ rfl hown1 _ rfl (by omega) (by omega) ?_; intro v' w2 hown2 hbl2)
          have HB2 := Lib.hid hbl2; clear hbl2
          go_roundw
          case rel => exact ⟨x + 1, k + 1, rfl, by omega, by omega, by omega, by rw [HNX.out]; exact HC.out, by rw [HNX.out, HYES.out, HKX.out]; exact hown2, (HBL.out.trans (HB1.out.mono hsz)).trans HB2.out⟩
          case measure => simp [intOf]; omega
      · have HF2 := HS.out (x - k) hx0 hxn HC.out
        have HK : (n + 1 - (x - k)).toNat = k := by omega
        rw [HK] at HF2
        have HF3 := Lib.hid HF2; clear HF2 HK
        go_wp2_with fail
        go_ret
        rw [HF.out, ← HF3.out]
        exact hown.ret HBL.out
set_option maxHeartbeats 400000 in
theorem sSourcesOf_any (n b : Int) (w : World) :
    Calls Try.prog 44 #[.int .i64 n, .int .i64 b] w (RetI w (srcsR n b)) := by
  cases hb : inB b 2 16
  · have HF : Hid (srcsR n b = []) := by show _ = _; simp [srcsR, hb]
    go_enter Try.func44, Try.ntmps44
    go_wp2_with (go_at_call 64; refine (l25Ok_any _ _ _).mono ?_; rintro e w' ⟨rfl, rfl⟩)
    go_ret
    rw [HF.out]
    exact RetI.of (World.ownsRow_nil _ _ _ _) (Below.refl _ _)
  cases hn : inB n 0 1000000
  · have HF : Hid (srcsR n b = []) := by show _ = _; simp [srcsR, hb, hn]
    go_enter Try.func44, Try.ntmps44
    go_wp2_with (go_at_call 64; refine (l25Ok_any _ _ _).mono ?_; rintro e w' ⟨rfl, rfl⟩)
    go_ret
    rw [HF.out]
    exact RetI.of (World.ownsRow_nil _ _ _ _) (Below.refl _ _)
  obtain ⟨hb1, hb2⟩ := inB_t.1 hb
  obtain ⟨hn1, hn2⟩ := inB_t.1 hn
  have HF : Hid (srcsR n b = srcs n b) := by show _ = _; simp [srcsR, hb, hn]
  go_enter Try.func44, Try.ntmps44
  go_wp2_with (go_at_call 64; refine (l25Ok_any _ _ _).mono ?_; rintro e w' ⟨rfl, rfl⟩)
  all_goals
    have HS := Lib.hid (fun lo h0 h1 h => srcs_from n b lo hb1 hb2 hn1 hn2 h0 h1 h)
    have HB := Lib.hid hb
    clear hb hn
    go_loopw [5, 6] (fun v m wr => ∃ (x : Int) (k : Nat), m = .int .i64 x ∧ 0 ≤ x - k ∧ x - k ≤ n ∧ x ≤ n + 1 ∧ (x - k = 0 ∨ x - k ≤ n - 20 * b + 20) ∧ OwnV wr w.heap.size v (upto (isSrc n b) (x - k) k) ∧ Below w.heap.size w wr) (fun _ m _ => (n + 1 - intOf m).toNat)
    case atStart => exact ⟨_, 0, rfl, by simp <;> omega, by simp <;> omega, by omega, by simp <;> omega, OwnV.lit0 _ _ (Nat.le_refl _), (Below.refl _ _).alloc (Nat.le_refl _) _⟩
    case round =>
      obtain ⟨x, k, rfl, hx0, hxn, hx1, hcase, hown, hbl⟩ := hrel
      have hsz := hbl.size
      have HC := Lib.hid hcase; clear hcase
      have HBL := Lib.hid hbl; clear hbl
      by_cases hle : x ≤ n
      · have hxb : inB x 0 1000000000000 = true := inB_t.2 (by omega)
        obtain ⟨hd1, hd2⟩ := dsum_bd x b hb1 hb2
        have hkl := upto_len (isSrc n b) (x - k) k
        have hkx : x - k + ((k : Nat) : Int) = x := by omega
        have hnx : x + 1 - ((k + 1 : Nat) : Int) = x - k := by omega
        have HNX := Lib.hid hnx; clear hnx
        cases hsrc : isSrc n b x
        · have HNO := Lib.hid (upto_no (P := isSrc n b) (lo := x - k) (k := k) (by rw [hkx]; exact hsrc))
          have hq : (x + dsum x b == n) = false := hsrc
          clear hsrc hkx
          go_wp2_with fail
          refine (l25Next_any _ _ _ (by omega) (by omega) hb1 hb2).mono ?_
          rintro e w1 ⟨rfl, hbl1⟩
          have HB1 := Lib.hid hbl1; clear hbl1
          go_wp2_with fail
          go_roundw
          case rel => exact ⟨x + 1, k + 1, rfl, by omega, by omega, by omega, by rw [HNX.out]; exact HC.out, by rw [HNX.out, HNO.out]; exact hown.kept HB1.out, HBL.out.trans (HB1.out.mono hsz)⟩
          case measure => simp [intOf]; omega
        · have HYES := Lib.hid (upto_yes (P := isSrc n b) (lo := x - k) (k := k) (by rw [hkx]; exact hsrc))
          have HKX := Lib.hid hkx
          have hq : (x + dsum x b == n) = true := hsrc
          clear hsrc hkx
          go_wp2_with fail
          refine (l25Next_any _ _ _ (by omega) (by omega) hb1 hb2).mono ?_
          rintro e w1 ⟨rfl, hbl1⟩
          have hsz1 := hbl1.size
          have HB1 := Lib.hid hbl1; clear hbl1
          have hown1 := hown.kept HB1.out
          go_wp2_with (at_builtin; refine wpList_append_int rfl _ _ rfl w.heap.size _ _ rfl hown1 _ rfl (by omega) (by omega) ?_; intro v' w2 hown2 hbl2)
          have HB2 := Lib.hid hbl2; clear hbl2
          go_roundw
          case rel => exact ⟨x + 1, k + 1, rfl, by omega, by omega, by omega, by rw [HNX.out]; exact HC.out, by rw [HNX.out, HYES.out, HKX.out]; exact hown2, (HBL.out.trans (HB1.out.mono hsz)).trans HB2.out⟩
          case measure => simp [intOf]; omega
      · have HF2 := HS.out (x - k) hx0 hxn HC.out
        have HK : (n + 1 - (x - k)).toNat = k := by omega
        rw [HK] at HF2
        have HF3 := Lib.hid HF2; clear HF2 HK
        go_wp2_with fail
        go_ret
        rw [HF.out, ← HF3.out]
        exact hown.ret HBL.out
theorem sAddDigitSum_any (n b : Int) (w : World) :
    Calls Try.prog 34 #[.int .i64 n, .int .i64 b] w fun e w' => e = .returned (.int .i64 (addB n b)) ∧ Below w.heap.size w w' := by
  cases hb : inB b 2 16
  · go_enter Try.func34, Try.ntmps34
    go_wp2_with (go_at_call 64; refine (l25Ok_any _ _ _).mono ?_; rintro e w' ⟨rfl, rfl⟩)
    go_ret
    exact ⟨by simp [addB, hb], Below.refl _ _⟩
  cases hn : inB n 0 1000000
  · go_enter Try.func34, Try.ntmps34
    go_wp2_with (go_at_call 64; refine (l25Ok_any _ _ _).mono ?_; rintro e w' ⟨rfl, rfl⟩)
    go_ret
    exact ⟨by simp [addB, hb, hn], Below.refl _ _⟩
  obtain ⟨hb1, hb2⟩ := inB_t.1 hb
  obtain ⟨hn1, hn2⟩ := inB_t.1 hn
  go_enter Try.func34, Try.ntmps34
  go_wp2_with (go_at_call 64; refine (l25Ok_any _ _ _).mono ?_; rintro e w' ⟨rfl, rfl⟩)
  refine (l25Next_any _ _ _ (by omega) (by omega) hb1 hb2).mono ?_
  rintro e w1 ⟨rfl, hbl⟩
  have HB := Lib.hid hbl; clear hbl
  go_wp2_with fail
  go_ret
  exact ⟨by rw [addB_yes n b hb hn]; rfl, HB.out⟩
theorem law_FnExactAddDigitSum (n b : Int) (w : World) (_w0 : (Lit.int .i64 n).wf = true) (_w1 : (Lit.int .i64 b).wf = true) :
    Calls Try.prog 7 #[.int .i64 n, .int .i64 b] w fun e w' => e = .returned (.bool true) ∧ Below w.heap.size w w' := by
  go_enter Try.func7, Try.ntmps7
  go_wp2_with fail
  refine (sAddDigitSum_any n b _).mono ?_
  rintro e w1 ⟨rfl, hbl1⟩
  have HB1 := Lib.hid hbl1; clear hbl1
  go_wp2_with fail
  refine (AddDigitSum_any n b _).mono ?_
  rintro e w2 ⟨rfl, hbl2⟩
  have HB2 := Lib.hid hbl2; clear hbl2
  go_wp2_with fail
  go_ret
  exact ⟨rfl, HB1.out.trans (HB2.out.mono HB1.out.size)⟩
set_option maxHeartbeats 1000000 in
theorem law_FnExactSourcesOf (n b : Int) (w : World) (_w0 : (Lit.int .i64 n).wf = true) (_w1 : (Lit.int .i64 b).wf = true) :
    Calls Try.prog 14 #[.int .i64 n, .int .i64 b] w fun e w' => e = .returned (.bool true) ∧ Below w.heap.size w w' := by
  have hlen : (srcsR n b).length ≤ 2305843009213693952 := by have := srcsR_len n b; omega
  have HLEN := Lib.hid hlen; clear hlen
  go_enter Try.func14, Try.ntmps14
  go_wp2_with fail
  refine (sSourcesOf_any n b _).mono ?_
  rintro e w1 ⟨a1, c1, rfl, ho1, hb1⟩
  have HO1 := Lib.hid ho1; have HB1 := Lib.hid hb1; clear ho1 hb1
  go_wp2_with fail
  refine (SourcesOf_any n b _).mono ?_
  rintro e w2 ⟨a2, c2, rfl, ho2, hb2⟩
  have HO2 := Lib.hid ho2; have HB2 := Lib.hid hb2; clear ho2 hb2
  go_wp2_with fail
  refine (eqIntS_same _ _ _ _ (srcsR n b) _ HO2.out.ints (((HO1.out.ints).below HB2.out).mono HB2.out.size)).mono ?_
  rintro e w3 ⟨rfl, hb3⟩
  have HB3 := Lib.hid hb3; clear hb3
  go_wp2_with fail
  refine (markIntS_any w1.heap.size _ _ (srcsR n b) 1 _ (HO2.out.kept HB3.out) (by omega) (by have := HLEN.out; omega)).mono ?_
  rintro e w4 ⟨rfl, hi4, hb4⟩
  have HI4 := Lib.hid hi4; have HB4 := Lib.hid hb4; clear hi4 hb4
  have hl1 : (0 : Int) ≤ 1 + ((srcsR n b).length : Int) := by omega
  go_wp2_with fail
  refine (heldIntS_any _ _ 1 (srcsR n b).length _ HI4.out (by omega) (by have := HLEN.out; omega)).mono ?_
  rintro e w' ⟨rfl, rfl⟩
  go_wp2_with fail
  refine (SourcesOf_any n b _).mono ?_
  rintro e w5 ⟨a5, c5, rfl, ho5, hb5⟩
  have HO5 := Lib.hid ho5; have HB5 := Lib.hid hb5; clear ho5 hb5
  have HQ1 : Hid (Ints w5 w5.heap.size a1 c1 (srcsR n b)) := (((((HO1.out.ints).below HB2.out).below (HB3.out.mono HB2.out.size)).below HB4.out).below (HB5.out.mono (Nat.le_trans HB2.out.size (Nat.le_trans HB3.out.size HB4.out.size)))).mono (Nat.le_trans HB2.out.size (Nat.le_trans HB3.out.size (Nat.le_trans HB4.out.size HB5.out.size)))
  go_wp2_with fail
  refine (eqIntS_same _ _ _ _ (srcsR n b) _ HO5.out.ints HQ1.out).mono ?_
  rintro e w6 ⟨rfl, hb6⟩
  have HB6 := Lib.hid hb6; clear hb6
  go_wp2_with fail
  refine (heldIntS_any _ _ 1 (srcsR n b).length _ (((HI4.out.below HB5.out).below (HB6.out.mono HB5.out.size)).mono (Nat.le_trans HB5.out.size HB6.out.size)) (by omega) (by have := HLEN.out; omega)).mono ?_
  rintro e w' ⟨rfl, rfl⟩
  go_wp2_with fail
  go_ret
  have s1 := HB1.out.size; have s2 := HB2.out.size; have s3 := HB3.out.size; have s4 := HB4.out.size; have s5 := HB5.out.size
  exact ⟨rfl, (((((HB1.out.trans (HB2.out.mono s1)).trans (HB3.out.mono (by omega))).trans (HB4.out.mono s1)).trans (HB5.out.mono (by omega))).trans (HB6.out.mono (by omega)))⟩
def selfB (n b : Int) : Bool := inB b 2 16 && (inB n 0 1000000 && (srcsR n b).isEmpty)
theorem isEmpty_len {α : Type} (xs : List α) : ((xs.length : Int) == 0) = xs.isEmpty := by cases xs <;> simp <;> omega
theorem IsSelfNumber_any (n b : Int) (w : World) :
    Calls Try.prog 27 #[.int .i64 n, .int .i64 b] w fun e w' => e = .returned (.bool (selfB n b)) ∧ Below w.heap.size w w' := by
  cases hb : inB b 2 16
  · go_enter Try.func27, Try.ntmps27
    go_wp2_with (first | (go_at_call 49; refine (BaseOk_any _ _).mono ?_; rintro e w' ⟨rfl, rfl⟩) | (go_at_call 50; refine (within_any _ _ _ _).mono ?_; rintro e w' ⟨rfl, rfl⟩))
    go_ret
    exact ⟨by simp [selfB, hb], Below.refl _ _⟩
  cases hn : inB n 0 1000000
  · go_enter Try.func27, Try.ntmps27
    go_wp2_with (first | (go_at_call 49; refine (BaseOk_any _ _).mono ?_; rintro e w' ⟨rfl, rfl⟩) | (go_at_call 50; refine (within_any _ _ _ _).mono ?_; rintro e w' ⟨rfl, rfl⟩))
    go_ret
    exact ⟨by simp [selfB, hb, hn], Below.refl _ _⟩
  have HE := isEmpty_len (srcsR n b)
  have hl := srcsR_len n b
  go_enter Try.func27, Try.ntmps27
  go_wp2_with (first | (go_at_call 49; refine (BaseOk_any _ _).mono ?_; rintro e w' ⟨rfl, rfl⟩) | (go_at_call 50; refine (within_any _ _ _ _).mono ?_; rintro e w' ⟨rfl, rfl⟩))
  refine (SourcesOf_any _ _ _).mono ?_
  rintro e w1 ⟨a, c, rfl, ho, hbl⟩
  have HB := Lib.hid hbl; clear hbl ho
  go_wp2_with fail
  go_ret
  exact ⟨by simp [selfB, hb, hn], HB.out⟩
theorem sIsSelfNumber_any (n b : Int) (w : World) :
    Calls Try.prog 37 #[.int .i64 n, .int .i64 b] w fun e w' => e = .returned (.bool (selfB n b)) ∧ Below w.heap.size w w' := by
  cases hk : (inB b 2 16 && inB n 0 1000000)
  · go_enter Try.func37, Try.ntmps37
    go_wp2_with (go_at_call 64; refine (l25Ok_any _ _ _).mono ?_; rintro e w' ⟨rfl, rfl⟩)
    go_ret
    exact ⟨by unfold selfB; rw [← Bool.and_assoc, hk]; rfl, Below.refl _ _⟩
  have HE := isEmpty_len (srcsR n b)
  have hl := srcsR_len n b
  go_enter Try.func37, Try.ntmps37
  go_wp2_with (go_at_call 64; refine (l25Ok_any _ _ _).mono ?_; rintro e w' ⟨rfl, rfl⟩)
  refine (sSourcesOf_any _ _ _).mono ?_
  rintro e w1 ⟨a, c, rfl, ho, hbl⟩
  have HB := Lib.hid hbl; clear hbl ho
  go_wp2_with fail
  go_ret
  exact ⟨by unfold selfB; rw [← Bool.and_assoc, hk]; simp, HB.out⟩
theorem law_FnExactIsSelfNumber (n b : Int) (w : World) (_w0 : (Lit.int .i64 n).wf = true) (_w1 : (Lit.int .i64 b).wf = true) :
    Calls Try.prog 10 #[.int .i64 n, .int .i64 b] w fun e w' => e = .returned (.bool true) ∧ Below w.heap.size w w' := by
  go_enter Try.func10, Try.ntmps10
  go_wp2_with fail
  refine (sIsSelfNumber_any n b _).mono ?_
  rintro e w1 ⟨rfl, hbl1⟩
  have HB1 := Lib.hid hbl1; clear hbl1
  go_wp2_with fail
  refine (IsSelfNumber_any n b _).mono ?_
  rintro e w2 ⟨rfl, hbl2⟩
  have HB2 := Lib.hid hbl2; clear hbl2
  go_wp2_with fail
  go_ret
  exact ⟨rfl, HB1.out.trans (HB2.out.mono HB1.out.size)⟩

end Go.Proofs.Ytjpkdpkpaoendaa
