/- ParseInt of the reference. Conditions: a text of at most a million bytes. -/
import Derived.Test.YtdpddbajeldgiaaDoorParA
import Derived.Lib.IndexBytes
namespace Go.Proofs.YtdpddbajeldgiaaDoor
set_option linter.unusedVariables false
open Go.RowKit

theorem dv_take (T : ByteArray) (k : Nat) (h : k < T.size) : dvA 0 (T.data.toList.take (k + 1)) = dvA 0 (T.data.toList.take k) * 10 + (T[k].toNat - 48) := by
  have e : T.data.toList.take (k + 1) = T.data.toList.take k ++ [T[k]] := by
    have h2 : k < T.data.toList.length := by simpa using h
    rw [List.take_add_one, List.getElem?_eq_getElem h2]
    rfl
  rw [e, dvA_app]
  rfl
theorem dv_all (T : ByteArray) (k : Nat) : dvA 0 (T.data.toList.take k) ≤ dvA 0 T.data.toList := by
  have h : dvA 0 T.data.toList = dvA (dvA 0 (T.data.toList.take k)) (T.data.toList.drop k) := by rw [← dvA_app, List.take_append_drop]
  rw [h]
  exact dvA_le _ _
theorem sT_empty {s : ByteArray} (h : ¬ 0 < s.size) : s.data.toList = [] := by
  have h2 : s.data.toList.length = 0 := by
    have : s.data.size = 0 := by have : s.size = s.data.size := rfl; omega
    simpa using this
  exact List.eq_nil_of_length_eq_zero h2
theorem ba_cons {s : ByteArray} (h : 0 < s.size) : s.data.toList = s[0] :: s.data.toList.drop 1 := by
  have h2 : 0 < s.data.toList.length := by simpa using h
  have := List.drop_eq_getElem_cons h2
  rw [List.drop_zero] at this
  exact this
theorem sT_neg {s : ByteArray} (h : 0 < s.size) (h45 : s[0].toNat = 45) : sT s.data.toList = s.data.toList.drop 1 ∧ sNeg s.data.toList = true := by
  have e := ba_cons h
  constructor
  · rw [e]; simp only [sT]; rw [if_pos h45]; simp
  · rw [e]; simp only [sNeg]; rw [decide_eq_true h45]
theorem sT_pos {s : ByteArray} (h : 0 < s.size) (h45 : ¬ s[0].toNat = 45) : sT s.data.toList = s.data.toList ∧ sNeg s.data.toList = false := by
  have e := ba_cons h
  constructor
  · rw [e]; simp only [sT]; rw [if_neg h45]
  · rw [e]; simp only [sNeg]; rw [decide_eq_false h45]
theorem cut_quo (d : Nat) (h : d ≤ 9) : ∃ Q : Nat, (-9223372036854775808 + (d : Int)).tdiv 10 = -(Q : Int) ∧ Q * 10 ≤ 9223372036854775808 - d ∧ 9223372036854775808 - d < Q * 10 + 10 := by
  refine ⟨(9223372036854775808 - d) / 10, ?_, by omega, by omega⟩
  have e : (-9223372036854775808 + (d : Int)) = -((9223372036854775808 - d : Nat) : Int) := by omega
  rw [e, Int.neg_tdiv]
  rfl
set_option maxRecDepth 8000 in
set_option maxHeartbeats 1000000 in
theorem sParseInt_any (s : ByteArray) (w : World) (hs : s.size ≤ 1048576) :
    Calls Tryd.prog 60 #[.string s] w fun e w' => e = .returned (.tuple #[.int .i64 ((pI s.data.toList).getD 0), .bool (pI s.data.toList).isSome]) ∧ Below w.heap.size w w' := by
  have HF : Hid (∀ v, pI s.data.toList = some v → digL (sT s.data.toList) = true ∧ sT s.data.toList ≠ [] ∧ (sT s.data.toList).length ≤ 19 ∧ dvA 0 (sT s.data.toList) = v.natAbs ∧ sNeg s.data.toList = decide (v < 0) ∧ i64B v ∧ s.data.toList = Lib.itoa v) := fun v h => pI_form h
  by_cases h0 : 0 < s.size
  rotate_left
  · have HN : Hid (pI s.data.toList = none) := by
      show _ = _
      rw [sT_empty h0]; rfl
    have HD : Hid ((digL s.data.toList && decide (0 < s.size)) = false) := by show _ = _; rw [decide_eq_false h0]; simp
    have hz : s.size = 0 := by omega
    go_enter Tryd.func60, Tryd.ntmps60
    go_wp2_with fail
    refine (sIsDigits_any s _ hs).mono ?_
    rintro e w1 ⟨rfl, rfl⟩
    rw [HD.out]
    go_wp2_with fail
    go_ret2
    exact ⟨by rw [HN.out] <;> rfl, Below.refl _ _⟩
  have hz : s.size ≠ 0 := by omega
  by_cases h45 : s[0].toNat = 45
  · obtain ⟨hT, hN⟩ := sT_neg h0 h45
    have HNEG := Lib.hid hN
    obtain ⟨T, hTe⟩ : ∃ T : ByteArray, T = s.extract 1 s.size := ⟨_, rfl⟩
    have hTl : T.data.toList = sT s.data.toList := by rw [hT, hTe]; exact Lib.extract_to_end s 1
    have HTE := Lib.hid hTe
    have hTs : T.size ≤ 1048576 := by rw [hTe]; simp; omega
    clear hTe
    have HTL := Lib.hid hTl
    have HNO : Hid ((∀ v, pI s.data.toList = some v → False) → pI s.data.toList = none) := fun h => by
      cases hp : pI s.data.toList with
      | none => rfl
      | some v => exact (h v hp).elim
    clear hT hN hTl
    go_enter Tryd.func60, Tryd.ntmps60
    go_wp2_with fail
    rw [← HTE.out]
    refine (sIsDigits_any T _ hTs).mono ?_
    rintro e w1 ⟨rfl, rfl⟩
    by_cases hd : digL T.data.toList = true ∧ 0 < T.size
    rotate_left
    · have HN : Hid (pI s.data.toList = none) := HNO.out (fun v h => by
        obtain ⟨f1, f2, -⟩ := HF.out v h
        rw [← HTL.out] at f1 f2
        refine hd ⟨f1, ?_⟩
        rcases Nat.eq_zero_or_pos T.size with h3 | h3
        · exact absurd (sT_empty (by omega)) f2
        · exact h3)
      have HD : Hid ((digL T.data.toList && decide (0 < T.size)) = false) := by
        show _ = _
        cases hh : (digL T.data.toList && decide (0 < T.size)) with
        | false => rfl
        | true => exact absurd (by simpa using hh) hd
      rw [HD.out]
      clear hd
      go_wp2_with fail
      go_ret2
      exact ⟨by rw [HN.out] <;> rfl, Below.refl _ _⟩
    · obtain ⟨hd1, hd2⟩ := hd
      have HD : Hid ((digL T.data.toList && decide (0 < T.size)) = true) := by show _ = _; rw [hd1, decide_eq_true hd2]; rfl
      have HDG : Hid (∀ (k : Nat) (h : k < T.size), digC T[k] = true) := digL_at.1 hd1
      rw [HD.out]
      clear hd1 HD
      by_cases h19 : T.size ≤ 19
      rotate_left
      · have HN : Hid (pI s.data.toList = none) := HNO.out (fun v h => by
          obtain ⟨-, -, f3, -⟩ := HF.out v h
          rw [← HTL.out] at f3
          have : T.data.toList.length = T.size := by simp
          omega)
        go_wp2_with fail
        go_ret2
        exact ⟨by rw [HN.out] <;> rfl, Below.refl _ _⟩
      · go_wp2_with fail
        go_loop [6, 7] (fun n i => ∃ k V : Nat, i = .int .i64 k ∧ k ≤ T.size ∧ n = .int .i64 (-(V : Int)) ∧ V ≤ 9223372036854775808 ∧ Hid (V = dvA 0 (T.data.toList.take k))) (fun _ i => T.size - (intOf i).toNat)
        case atStart => exact ⟨0, 0, rfl, Nat.zero_le _, rfl, by omega, rfl⟩
        case round =>
          obtain ⟨k, V, rfl, hk, rfl, hV, HV⟩ := hrel
          by_cases hlt : k < T.size
          · obtain ⟨d, hd, hd9⟩ : ∃ d : Nat, T[k].toNat = 48 + d ∧ d ≤ 9 := by
              have := digC_t.1 (HDG.out k hlt)
              exact ⟨T[k].toNat - 48, by omega, by omega⟩
            have HV1 : Hid (V * 10 + d = dvA 0 (T.data.toList.take (k + 1))) := by
              show _ = _
              rw [dv_take T k hlt, ← HV.out, hd]; omega
            obtain ⟨Q, hQ0, hQ1, hQ2⟩ := cut_quo d hd9
            have hQ : (-9223372036854775808 + (48 + (d : Int) - 48)).tdiv 10 = -(Q : Int) := by rw [show 48 + (d : Int) - 48 = (d : Int) by omega]; exact hQ0
            clear hQ0
            by_cases h10 : V * 10 + d ≤ 9223372036854775808
            · have hlq : ¬ (-(V : Int) < -(Q : Int)) := by omega
              go_wp2_with fail
              go_round
              case rel => exact ⟨k + 1, V * 10 + d, by go_num, by omega, by go_num, h10, HV1⟩
              case measure => simp [intOf]; omega
            · have hlq : -(V : Int) < -(Q : Int) := by omega
              have HN : Hid (pI s.data.toList = none) := HNO.out (fun v h => by
                obtain ⟨-, -, -, f4, -, f6, -⟩ := HF.out v h
                rw [← HTL.out] at f4
                have h1 := dv_all T (k + 1)
                rw [← HV1.out, f4] at h1
                have := f6.1
                have := f6.2
                omega)
              go_wp2_with fail
              go_ret2
              exact ⟨by rw [HN.out] <;> rfl, Below.refl _ _⟩
          · obtain rfl : k = T.size := by omega
            have HVT : Hid (V = dvA 0 (sT s.data.toList)) := by
              show _ = _
              rw [HV.out, ← HTL.out, List.take_of_length_le (by simp)]
            have HE : Hid (∀ v, pI s.data.toList = some v → v = -(V : Int)) := fun v h => by
              obtain ⟨-, -, -, f4, f5, -⟩ := HF.out v h
              rw [← HVT.out] at f4
              rw [HNEG.out] at f5
              have := of_decide_eq_true f5.symm
              omega
            have HB : Hid (i64B (-(V : Int))) := ⟨by omega, by omega⟩
            go_wp2_with fail
            refine (sFormatInt_any (-(V : Int)) _ HB.out).mono ?_
            rintro e w2 ⟨rfl, hb⟩
            have HB2 := Lib.hid hb
            clear hb
            by_cases hi : itB (-(V : Int)) = s
            · have HI := Lib.hid hi
              go_wp2_with fail
              go_ret2
              exact ⟨by rw [← itB_eq.1 HI.out, pI_itoa _ HB.out] <;> rfl, HB2.out⟩
            · have HI := Lib.hid hi
              have hib := str_ne hi
              have HN : Hid (pI s.data.toList = none) := HNO.out (fun v h => by
                have h1 := HE.out v h
                obtain ⟨-, -, -, -, -, -, f7⟩ := HF.out v h
                exact HI.out (itB_eq.2 (by rw [← h1]; exact f7.symm)))
              go_wp2_with fail
              go_ret2
              exact ⟨by rw [HN.out] <;> rfl, HB2.out⟩
  · obtain ⟨hT, hN⟩ := sT_pos h0 h45
    have HNEG := Lib.hid hN
    have hTl : s.data.toList = sT s.data.toList := hT.symm
    have hTs : s.size ≤ 1048576 := hs
    have HTL := Lib.hid hTl
    have HNO : Hid ((∀ v, pI s.data.toList = some v → False) → pI s.data.toList = none) := fun h => by
      cases hp : pI s.data.toList with
      | none => rfl
      | some v => exact (h v hp).elim
    clear hT hN hTl
    go_enter Tryd.func60, Tryd.ntmps60
    go_wp2_with fail
    refine (sIsDigits_any s _ hTs).mono ?_
    rintro e w1 ⟨rfl, rfl⟩
    by_cases hd : digL s.data.toList = true ∧ 0 < s.size
    rotate_left
    · have HN : Hid (pI s.data.toList = none) := HNO.out (fun v h => by
        obtain ⟨f1, f2, -⟩ := HF.out v h
        rw [← HTL.out] at f1 f2
        refine hd ⟨f1, ?_⟩
        rcases Nat.eq_zero_or_pos s.size with h3 | h3
        · exact absurd (sT_empty (by omega)) f2
        · exact h3)
      have HD : Hid ((digL s.data.toList && decide (0 < s.size)) = false) := by
        show _ = _
        cases hh : (digL s.data.toList && decide (0 < s.size)) with
        | false => rfl
        | true => exact absurd (by simpa using hh) hd
      rw [HD.out]
      clear hd
      go_wp2_with fail
      go_ret2
      exact ⟨by rw [HN.out] <;> rfl, Below.refl _ _⟩
    · obtain ⟨hd1, hd2⟩ := hd
      have HD : Hid ((digL s.data.toList && decide (0 < s.size)) = true) := by show _ = _; rw [hd1, decide_eq_true hd2]; rfl
      have HDG : Hid (∀ (k : Nat) (h : k < s.size), digC s[k] = true) := digL_at.1 hd1
      rw [HD.out]
      clear hd1 HD
      by_cases h19 : s.size ≤ 19
      rotate_left
      · have HN : Hid (pI s.data.toList = none) := HNO.out (fun v h => by
          obtain ⟨-, -, f3, -⟩ := HF.out v h
          rw [← HTL.out] at f3
          have : s.data.toList.length = s.size := by simp
          omega)
        go_wp2_with fail
        go_ret2
        exact ⟨by rw [HN.out] <;> rfl, Below.refl _ _⟩
      · go_wp2_with fail
        go_loop [6, 7] (fun n i => ∃ k V : Nat, i = .int .i64 k ∧ k ≤ s.size ∧ n = .int .i64 (-(V : Int)) ∧ V ≤ 9223372036854775808 ∧ Hid (V = dvA 0 (s.data.toList.take k))) (fun _ i => s.size - (intOf i).toNat)
        case atStart => exact ⟨0, 0, rfl, Nat.zero_le _, rfl, by omega, rfl⟩
        case round =>
          obtain ⟨k, V, rfl, hk, rfl, hV, HV⟩ := hrel
          by_cases hlt : k < s.size
          · obtain ⟨d, hd, hd9⟩ : ∃ d : Nat, s[k].toNat = 48 + d ∧ d ≤ 9 := by
              have := digC_t.1 (HDG.out k hlt)
              exact ⟨s[k].toNat - 48, by omega, by omega⟩
            have HV1 : Hid (V * 10 + d = dvA 0 (s.data.toList.take (k + 1))) := by
              show _ = _
              rw [dv_take s k hlt, ← HV.out, hd]; omega
            obtain ⟨Q, hQ0, hQ1, hQ2⟩ := cut_quo d hd9
            have hQ : (-9223372036854775808 + (48 + (d : Int) - 48)).tdiv 10 = -(Q : Int) := by rw [show 48 + (d : Int) - 48 = (d : Int) by omega]; exact hQ0
            clear hQ0
            by_cases h10 : V * 10 + d ≤ 9223372036854775808
            · have hlq : ¬ (-(V : Int) < -(Q : Int)) := by omega
              go_wp2_with fail
              go_round
              case rel => exact ⟨k + 1, V * 10 + d, by go_num, by omega, by go_num, h10, HV1⟩
              case measure => simp [intOf]; omega
            · have hlq : -(V : Int) < -(Q : Int) := by omega
              have HN : Hid (pI s.data.toList = none) := HNO.out (fun v h => by
                obtain ⟨-, -, -, f4, -, f6, -⟩ := HF.out v h
                rw [← HTL.out] at f4
                have h1 := dv_all s (k + 1)
                rw [← HV1.out, f4] at h1
                have := f6.1
                have := f6.2
                omega)
              go_wp2_with fail
              go_ret2
              exact ⟨by rw [HN.out] <;> rfl, Below.refl _ _⟩
          · obtain rfl : k = s.size := by omega
            have HVT : Hid (V = dvA 0 (sT s.data.toList)) := by
              show _ = _
              rw [HV.out, ← HTL.out, List.take_of_length_le (by simp)]
            have HE : Hid (∀ v, pI s.data.toList = some v → v = (V : Int)) := fun v h => by
              obtain ⟨-, -, -, f4, f5, -⟩ := HF.out v h
              rw [← HVT.out] at f4
              rw [HNEG.out] at f5
              have := of_decide_eq_false f5.symm
              omega
            by_cases hmin : V = 9223372036854775808
            · have HN : Hid (pI s.data.toList = none) := HNO.out (fun v h => by
                have h1 := HE.out v h
                obtain ⟨-, -, -, -, -, f6, -⟩ := HF.out v h
                have := f6.2
                omega)
              have hm : -(V : Int) = -9223372036854775808 := by omega
              clear hmin
              go_wp2_with fail
              go_ret2
              exact ⟨by rw [HN.out] <;> rfl, Below.refl _ _⟩
            have HB : Hid (i64B (V : Int)) := ⟨by omega, by omega⟩
            have hmb : (-(V : Int) == -9223372036854775808) = false := by rw [beq_eq_false_iff_ne]; omega
            go_wp2_with fail
            refine (sFormatInt_any (V : Int) _ HB.out).mono ?_
            rintro e w2 ⟨rfl, hb⟩
            have HB2 := Lib.hid hb
            clear hb
            by_cases hi : itB (V : Int) = s
            · have HI := Lib.hid hi
              go_wp2_with fail
              go_ret2
              exact ⟨by rw [← itB_eq.1 HI.out, pI_itoa _ HB.out] <;> rfl, HB2.out⟩
            · have HI := Lib.hid hi
              have hib := str_ne hi
              have HN : Hid (pI s.data.toList = none) := HNO.out (fun v h => by
                have h1 := HE.out v h
                obtain ⟨-, -, -, -, -, -, f7⟩ := HF.out v h
                exact HI.out (itB_eq.2 (by rw [← h1]; exact f7.symm)))
              go_wp2_with fail
              go_ret2
              exact ⟨by rw [HN.out] <;> rfl, HB2.out⟩

end Go.Proofs.YtdpddbajeldgiaaDoor
