/- The law on notations: the walk. Conditions: none. -/
import Derived.Test.YthehhlamhkhlpaaDoorNoteD
import Derived.Test.YthehhlamhkhlpaaDoorMakeA
namespace Go.Proofs.YthehhlamhkhlpaaDoor
set_option linter.unusedVariables false
open Go.RowKit

theorem ba_size (l : List UInt8) : (⟨l.toArray⟩ : ByteArray).size = l.length := by simp [ByteArray.size]
set_option maxHeartbeats 4000000 in
theorem law_FnNotations (a : Option Addr) (len cap : Nat) (zs : List Int) (w : World) (hz : IsRow .u8 w a len cap zs) (ht : Tab w) :
    Calls Tryd.prog 7 #[.slice a len cap] w fun e w' => e = .returned (.bool true) ∧ Below w.heap.size w w' := by
  obtain ⟨xs, rfl, hx⟩ := hz.opB
  have hl := hx.len
  clear hz
  by_cases hlen : xs.length ≤ 1048576
  rotate_left
  · go_enter Tryd.func7, Tryd.ntmps7
    go_wp2
    go_ret
    exact ⟨rfl, Below.refl _ _⟩
  have HX := Lib.hid hx; clear hx
  have HT0 := Lib.hid ht; clear ht
  go_enter Tryd.func7, Tryd.ntmps7
  go_wp2_with fail
  refine (MakeNum_any a cap xs 0 _ HX.out hlen (by decide)).mono ?_
  rintro e w1 ⟨⟨x, rfl, x0, x1⟩, hb1⟩
  have HT1 := Lib.hid (HT0.out.upd hb1)
  have HB1 := Lib.hid hb1
  clear hb1 HX
  go_wp2_with fail
  obtain ⟨n, hn⟩ : ∃ n, n = 1 + x % 3999 := ⟨_, rfl⟩
  have hn0 : 1 ≤ n := by omega
  have hn1 : n ≤ 3999 := by omega
  rw [← hn]
  clear hn
  have HFM : Hid (∀ W : World, Calls Tryd.prog 17 #[.int .i64 n] W fun e w' => e = .returned (.string ⟨(fmtR n).toArray⟩) ∧ Below W.heap.size W w') := fun W => FormatRoman_any n W
  have HAD : Hid (∀ W : World, Tab W → Calls Tryd.prog 13 #[.int .i64 n] W fun e w' => e = .returned (.string ⟨(addR n).toArray⟩) ∧ Below W.heap.size W w') := fun W hW => AdditiveRoman_any n W hW
  obtain ⟨f1, f2, f3, f4, f5, f6, f7, f8, f9, f10, f11⟩ := note_of n hn0 hn1
  have HPR : Hid (∀ W : World, Tab W → Calls Tryd.prog 15 #[.string ⟨(fmtR n).toArray⟩] W fun e w' => e = .returned (.int .i64 n) ∧ Below W.heap.size W w') := fun W hW => by
    have := ParseRoman_any ⟨(fmtR n).toArray⟩ W (by rw [ba_size]; omega) hW
    rw [f1] at this
    exact this
  have HLR : Hid (∀ W : World, Tab W → Calls Tryd.prog 11 #[.string ⟨(fmtR n).toArray⟩] W fun e w' => e = .returned (.int .i64 n) ∧ Below W.heap.size W w') := fun W hW => by
    have := LooseValue_any ⟨(fmtR n).toArray⟩ W (by rw [ba_size]; omega) hW
    rw [f2] at this
    exact this
  have HSA : Hid (∀ W : World, Tab W → Calls Tryd.prog 9 #[.string ⟨(addR n).toArray⟩] W fun e w' => e = .returned (.int .i64 n) ∧ Below W.heap.size W w') := fun W hW => by
    have := LetterSum_any ⟨(addR n).toArray⟩ W (by rw [ba_size]; omega) hW
    rw [f3] at this
    exact this
  have HLA : Hid (∀ W : World, Tab W → Calls Tryd.prog 11 #[.string ⟨(addR n).toArray⟩] W fun e w' => e = .returned (.int .i64 n) ∧ Below W.heap.size W w') := fun W hW => by
    have := LooseValue_any ⟨(addR n).toArray⟩ W (by rw [ba_size]; omega) hW
    rw [f4] at this
    exact this
  have HSR : Hid (∀ W : World, Tab W → Calls Tryd.prog 9 #[.string ⟨(fmtR n).toArray⟩] W fun e w' => e = .returned (.int .i64 (letterSumR (fmtR n))) ∧ Below W.heap.size W w') := fun W hW => LetterSum_any ⟨(fmtR n).toArray⟩ W (by rw [ba_size]; omega) hW
  have HPA : Hid (∀ W : World, Tab W → Calls Tryd.prog 15 #[.string ⟨(addR n).toArray⟩] W fun e w' => e = .returned (.int .i64 (parseR (addR n))) ∧ Below W.heap.size W w') := fun W hW => ParseRoman_any ⟨(addR n).toArray⟩ W (by rw [ba_size]; omega) hW
  have HRL : Hid (∀ W : World, Calls Tryd.prog 18 #[.int .i64 n] W fun e w' => e = .returned (.int .i64 ((⟨(fmtR n).toArray⟩ : ByteArray).size)) ∧ Below W.heap.size W w') := fun W => by
    rw [ba_size]; exact RomanLength_any n W
  have hle : ((⟨(fmtR n).toArray⟩ : ByteArray).size : Int) ≤ ((⟨(addR n).toArray⟩ : ByteArray).size : Int) := by rw [ba_size, ba_size]; omega
  have hnz : ((⟨(fmtR n).toArray⟩ : ByteArray).size : Int) ≠ 0 := by rw [ba_size]; omega
  have hnz2 : (((⟨(fmtR n).toArray⟩ : ByteArray).size : Int) == 0) = false := by rw [beq_eq_false_iff_ne]; exact hnz
  have hse : ¬ (⟨(fmtR n).toArray⟩ : ByteArray) = ByteArray.empty := fun h => by rw [h] at hnz; exact hnz rfl
  have hna : (⟨(addR n).toArray⟩ : ByteArray).size ≤ 40 := by rw [ba_size]; exact f11
  have heq : ((parseR (addR n) == n) == ((⟨(addR n).toArray⟩ : ByteArray).toList == (⟨(fmtR n).toArray⟩ : ByteArray).toList)) = true := by
    have e1 : (parseR (addR n) == n) = decide (parseR (addR n) = n) := by by_cases h : parseR (addR n) = n <;> simp [h]
    have e2 : ((⟨(addR n).toArray⟩ : ByteArray).toList == (⟨(fmtR n).toArray⟩ : ByteArray).toList) = decide (addR n = fmtR n) := by
      simp only [ByteArray.toList_eq]
      by_cases h : addR n = fmtR n <;> simp [h]
    rw [e1, e2, f9]
    simp
  clear f1 f2 f3 f4 f5 f6 f9 f11
  generalize (⟨(fmtR n).toArray⟩ : ByteArray) = sr at *
  generalize (⟨(addR n).toArray⟩ : ByteArray) = sa at *
  generalize letterSumR (fmtR n) = lsr at *
  generalize parseR (addR n) = pa at *
  refine (HFM.out _).mono ?_
  rintro e w2 ⟨rfl, hb2⟩
  have HT2 := Lib.hid (HT1.out.upd hb2)
  have HB2 := Lib.hid (HB1.out.trans (hb2.mono HB1.out.size))
  clear hb2
  go_wp2_with fail
  refine (HAD.out _ HT2.out).mono ?_
  rintro e w3 ⟨rfl, hb3⟩
  have HT3 := Lib.hid (HT2.out.upd hb3)
  have HB3 := Lib.hid (HB2.out.trans (hb3.mono HB2.out.size))
  clear hb3
  go_wp2_with fail
  refine (HPR.out _ HT3.out).mono ?_
  rintro e w4 ⟨rfl, hb4⟩
  have HT4 := Lib.hid (HT3.out.upd hb4)
  have HB4 := Lib.hid (HB3.out.trans (hb4.mono HB3.out.size))
  clear hb4
  go_wp2_with fail
  refine (HLR.out _ HT4.out).mono ?_
  rintro e w5 ⟨rfl, hb5⟩
  have HT5 := Lib.hid (HT4.out.upd hb5)
  have HB5 := Lib.hid (HB4.out.trans (hb5.mono HB4.out.size))
  clear hb5
  go_wp2_with fail
  refine (HSA.out _ HT5.out).mono ?_
  rintro e w6 ⟨rfl, hb6⟩
  have HT6 := Lib.hid (HT5.out.upd hb6)
  have HB6 := Lib.hid (HB5.out.trans (hb6.mono HB5.out.size))
  clear hb6
  go_wp2_with fail
  refine (HLA.out _ HT6.out).mono ?_
  rintro e w7 ⟨rfl, hb7⟩
  have HT7 := Lib.hid (HT6.out.upd hb7)
  have HB7 := Lib.hid (HB6.out.trans (hb7.mono HB6.out.size))
  clear hb7
  go_wp2_with fail
  refine (HRL.out _).mono ?_
  rintro e w8 ⟨rfl, hb8⟩
  have HT8 := Lib.hid (HT7.out.upd hb8)
  have HB8 := Lib.hid (HB7.out.trans (hb8.mono HB7.out.size))
  clear hb8
  go_wp2_with fail
  refine (HSR.out _ HT8.out).mono ?_
  rintro e w9 ⟨rfl, hb9⟩
  have HT9 := Lib.hid (HT8.out.upd hb9)
  have HB9 := Lib.hid (HB8.out.trans (hb9.mono HB8.out.size))
  clear hb9
  go_wp2_with fail
  refine (HSR.out _ HT9.out).mono ?_
  rintro e w10 ⟨rfl, hb10⟩
  have HT10 := Lib.hid (HT9.out.upd hb10)
  have HB10 := Lib.hid (HB9.out.trans (hb10.mono HB9.out.size))
  clear hb10
  go_wp2_with fail
  obtain ⟨m, hm⟩ : ∃ m, m = 1 + n % 300 := ⟨_, rfl⟩
  have hm0 : 1 ≤ m := by omega
  have hm1 : m ≤ 300 := by omega
  rw [← hm]
  clear hm
  obtain ⟨l0, l1, l2⟩ := lngR_bd m hm0 (by omega)
  have HLO : Hid (∀ W : World, Calls Tryd.prog 19 #[.int .i64 m] W fun e w' => e = .returned (.int .i64 (lngR m)) ∧ Below W.heap.size W w') := fun W => LongestRoman_any m W
  have HRM : Hid (∀ W : World, Calls Tryd.prog 18 #[.int .i64 m] W fun e w' => e = .returned (.int .i64 (romLen m)) ∧ Below W.heap.size W w') := fun W => RomanLength_any m W
  have HRO : Hid (∀ W : World, Calls Tryd.prog 18 #[.int .i64 (lngR m)] W fun e w' => e = .returned (.int .i64 (romLen (lngR m))) ∧ Below W.heap.size W w') := fun W => RomanLength_any _ W
  have hr1 := romLen_bd m
  have hr2 := romLen_bd (lngR m)
  generalize romLen (lngR m) = rl at *
  generalize romLen m = rm at *
  generalize lngR m = l at *
  clear f7 f8 f10 hle hnz hnz2 hse
  refine (HLO.out _).mono ?_
  rintro e w11 ⟨rfl, hb11⟩
  have HT11 := Lib.hid (HT10.out.upd hb11)
  have HB11 := Lib.hid (HB10.out.trans (hb11.mono HB10.out.size))
  clear hb11
  go_wp2_with fail
  obtain ⟨t, htt⟩ : ∃ t, t = 1 + n % 200 := ⟨_, rfl⟩
  have ht0 : 1 ≤ t := by omega
  have ht1 : t ≤ 200 := by omega
  rw [← htt]
  clear htt
  obtain ⟨v1, v2⟩ := tally_of t ht0 ht1
  have htz : (tallyR t).size ≤ 1048576 := by omega
  have HTO : Hid (∀ W : World, Calls Tryd.prog 20 #[.int .i64 t] W fun e w' => e = .returned (.string (tallyR t)) ∧ Below W.heap.size W w') := fun W => TallyOf_any t W
  have HTV : Hid (∀ W : World, Calls Tryd.prog 21 #[.string (tallyR t)] W fun e w' => e = .returned (.int .i64 t) ∧ Below W.heap.size W w') := fun W => by
    have := TallyValue_any (tallyR t) W htz
    rw [v1] at this
    exact this
  have HL88 : Hid (∀ W : World, Calls Tryd.prog 19 #[.int .i64 100] W fun e w' => e = .returned (.int .i64 88) ∧ Below W.heap.size W w') := fun W => by
    have := LongestRoman_any 100 W
    rw [lngR_100] at this
    exact this
  clear v1
  generalize tallyR t = ts at *
  refine (HTO.out _).mono ?_
  rintro e w12 ⟨rfl, hb12⟩
  have HT12 := Lib.hid (HT11.out.upd hb12)
  have HB12 := Lib.hid (HB11.out.trans (hb12.mono HB11.out.size))
  clear hb12
  go_wp2_with fail
  refine (HRO.out _).mono ?_
  rintro e w13 ⟨rfl, hb13⟩
  have HT13 := Lib.hid (HT12.out.upd hb13)
  have HB13 := Lib.hid (HB12.out.trans (hb13.mono HB12.out.size))
  clear hb13
  go_wp2_with fail
  refine (HRM.out _).mono ?_
  rintro e w14 ⟨rfl, hb14⟩
  have HT14 := Lib.hid (HT13.out.upd hb14)
  have HB14 := Lib.hid (HB13.out.trans (hb14.mono HB13.out.size))
  clear hb14
  go_wp2_with fail
  refine (HPA.out _ HT14.out).mono ?_
  rintro e w15 ⟨rfl, hb15⟩
  have HT15 := Lib.hid (HT14.out.upd hb15)
  have HB15 := Lib.hid (HB14.out.trans (hb15.mono HB14.out.size))
  clear hb15
  go_wp2_with fail
  refine (HTV.out _).mono ?_
  rintro e w16 ⟨rfl, hb16⟩
  have HB16 := Lib.hid (HB15.out.trans (hb16.mono HB15.out.size))
  clear hb16
  go_wp2_with fail
  refine (HL88.out _).mono ?_
  rintro e w17 ⟨rfl, hb17⟩
  have HB17 := Lib.hid (HB16.out.trans (hb17.mono HB16.out.size))
  clear hb17
  go_wp2_with fail
  go_ret
  exact ⟨rfl, HB17.out⟩

end Go.Proofs.YthehhlamhkhlpaaDoor
