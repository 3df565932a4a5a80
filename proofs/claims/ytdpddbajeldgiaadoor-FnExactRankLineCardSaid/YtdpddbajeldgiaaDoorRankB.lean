/- Permutations: Factorial, FactorialValue, PermutationOk, program and reference. Conditions: those of each contract. -/
import Derived.Test.YtdpddbajeldgiaaDoorRankA
namespace Go.Proofs.YtdpddbajeldgiaaDoor
set_option linter.unusedVariables false
open Go.RowKit

theorem fact_nat (k : Nat) (h : k ≤ 12) : 1 ≤ fact k ∧ fact k ≤ 479001600 := fact_bd ⟨k, by omega⟩
theorem fact_step (k : Nat) (h : k + 1 ≤ 12) : fact k * ((k : Int) + 1) = fact (k + 1) ∧ 1 ≤ fact k * ((k : Int) + 1) ∧ fact k * ((k : Int) + 1) ≤ 479001600 := by
  have h1 := fact_nat (k + 1) h
  have e : fact (k + 1) = fact k * ((k : Int) + 1) := rfl
  rw [e] at h1
  exact ⟨rfl, h1⟩
theorem Factorial_any (n : Nat) (w : World) (hn : n ≤ 12) :
    Calls Tryd.prog 116 #[.int .i64 n] w fun e w' => e = .returned (.int .i64 (fact n)) ∧ w = w' := by
  have hq : inB (n : Int) 0 12 = true := inB_t.2 ⟨by omega, by omega⟩
  go_enter Tryd.func116, Tryd.ntmps116
  go_wp2_with (go_at_call 87; refine (within_any _ _ _ _).mono ?_; rintro e w' ⟨rfl, rfl⟩)
  go_loop [3, 4] (fun p i => ∃ j : Nat, 1 ≤ j ∧ (j ≤ n ∨ j = 1) ∧ i = .int .i64 ((j : Int) + 1) ∧ p = .int .i64 (fact j)) (fun _ i => n + 2 - (intOf i).toNat)
  case atStart => exact ⟨1, by decide, Or.inr rfl, rfl, rfl⟩
  case round =>
    obtain ⟨j, hj1, hj2, rfl, rfl⟩ := hrel
    by_cases hlt : j < n
    · obtain ⟨f0, f1, f2⟩ := fact_step j (by omega)
      have HF := Lib.hid f0
      clear f0
      go_wp2
      go_round
      case rel => exact ⟨j + 1, by omega, Or.inl (by omega), by go_num, by rw [HF.out]⟩
      case measure => simp [intOf]; omega
    · have HE : Hid (fact j = fact n) := by
        show _ = _
        rcases hj2 with h | h
        · rw [show j = n by omega]
        · rcases (show n = 0 ∨ n = 1 by omega) with e | e
          · rw [h, e]; rfl
          · rw [h, e]
      have hge : (n : Int) < (j : Int) + 1 := by omega
      go_wp2
      go_ret
      exact ⟨by rw [← HE.out] <;> rfl, rfl⟩
theorem l08Factorial_any (n : Nat) (w : World) (hn : n ≤ 12) :
    Calls Tryd.prog 114 #[.int .i64 n] w fun e w' => e = .returned (.int .i64 (fact n)) ∧ w = w' := by
  go_enter Tryd.func114, Tryd.ntmps114
  go_wp2
  go_loop [3, 4] (fun p i => ∃ j : Nat, 1 ≤ j ∧ (j ≤ n ∨ j = 1) ∧ i = .int .i64 ((j : Int) + 1) ∧ p = .int .i64 (fact j)) (fun _ i => n + 2 - (intOf i).toNat)
  case atStart => exact ⟨1, by decide, Or.inr rfl, rfl, rfl⟩
  case round =>
    obtain ⟨j, hj1, hj2, rfl, rfl⟩ := hrel
    by_cases hlt : j < n
    · obtain ⟨f0, f1, f2⟩ := fact_step j (by omega)
      have HF := Lib.hid f0
      clear f0
      go_wp2
      go_round
      case rel => exact ⟨j + 1, by omega, Or.inl (by omega), by go_num, by rw [HF.out]⟩
      case measure => simp [intOf]; omega
    · have HE : Hid (fact j = fact n) := by
        show _ = _
        rcases hj2 with h | h
        · rw [show j = n by omega]
        · rcases (show n = 0 ∨ n = 1 by omega) with e | e
          · rw [h, e]; rfl
          · rw [h, e]
      have hge : (n : Int) < (j : Int) + 1 := by omega
      go_wp2
      go_ret
      exact ⟨by rw [← HE.out] <;> rfl, rfl⟩
theorem facS_next (ds : List Int) (k : Nat) (h : k < ds.length) : facS ds (k + 1) = facS ds k + ds[k] * fact k := by rw [facS, getD_at ds k h]
theorem facS_bd (ds : List Int) (hl : ds.length ≤ 8) (h : ∀ k (hk : k < ds.length), 0 ≤ ds[k] ∧ ds[k] ≤ k) : ∀ k, k ≤ ds.length → 0 ≤ facS ds k ∧ facS ds k ≤ 40000 * k := by
  intro k
  induction k with
  | zero => intro _; simp [facS]
  | succ k ih =>
    intro hk
    have i := ih (by omega)
    have g := h k (by omega)
    have t := fac_term ds[k] k (by omega) g.1 g.2
    rw [facS_next ds k (by omega)]; omega
theorem FactorialValue_ok (a : Option Addr) (cap : Nat) (ds : List Int) (w : World) (hx : Ints w w.heap.size a cap ds) (hl1 : 1 ≤ ds.length) (hl2 : ds.length ≤ 8) (hd : ∀ k (hk : k < ds.length), 0 ≤ ds[k] ∧ ds[k] ≤ k) :
    Calls Tryd.prog 93 #[.slice a ds.length cap] w fun e w' => e = .returned (.int .i64 (facS ds ds.length)) ∧ w = w' := by
  have hl := hx.len
  obtain ⟨-, -, b, off, ha, hc⟩ := hx
  have HB := Lib.hid (facS_bd ds hl2 hd)
  have HN := Lib.hid (facS_next ds)
  have HD := Lib.hid hd
  have Ha := Lib.hid ha
  have Hc := Lib.hid hc
  have hq : inB (ds.length : Int) 1 8 = true := inB_t.2 ⟨by omega, by omega⟩
  clear hd ha hc
  go_enter Tryd.func93, Tryd.ntmps93
  go_wp2_with (go_at_call 87; refine (within_any _ _ _ _).mono ?_; rintro e w' ⟨rfl, rfl⟩)
  clear hq
  go_loop [3, 12] (fun s i => ∃ k : Nat, k ≤ ds.length ∧ i = .int .i64 k ∧ s = .int .i64 (facS ds k)) (fun _ i => ds.length - (intOf i).toNat)
  case atStart => exact ⟨0, Nat.zero_le _, rfl, rfl⟩
  case round =>
    obtain ⟨k, hk, rfl, rfl⟩ := hrel
    by_cases hlt : k < ds.length
    · obtain ⟨rfl, -⟩ := Ha.out (by omega)
      have hcx := Hc.out k hlt
      obtain ⟨d0, d1⟩ := HD.out k hlt
      obtain ⟨b0, b1⟩ := HB.out k hk
      have HN2 := Lib.hid (HN.out k hlt)
      obtain ⟨t0, t1⟩ := fac_term ds[k] k (by omega) d0 d1
      have hin : inB ds[k] 0 k = true := inB_t.2 ⟨d0, d1⟩
      have HFA : Hid (∀ W : World, Calls Tryd.prog 116 #[.int .i64 k] W fun e w' => e = .returned (.int .i64 (fact k)) ∧ W = w') := fun W => Factorial_any k W (by omega)
      generalize ds[k] = d at *
      go_wp2_with (go_at_call 87; refine (within_any _ _ _ _).mono ?_; rintro e w' ⟨rfl, rfl⟩)
      refine (HFA.out _).mono ?_
      rintro e w' ⟨rfl, rfl⟩
      go_wp2_with fail
      go_round
      case rel => exact ⟨k + 1, by omega, by go_num, by rw [HN2.out]⟩
      case measure => simp [intOf]; omega
    · go_wp2_with fail
      go_ret
      obtain rfl : k = ds.length := by omega
      exact ⟨rfl, rfl⟩
theorem sFactorialValue_ok (a : Option Addr) (cap : Nat) (ds : List Int) (w : World) (hx : Ints w w.heap.size a cap ds) (hl1 : 1 ≤ ds.length) (hl2 : ds.length ≤ 8) (hd : ∀ k (hk : k < ds.length), 0 ≤ ds[k] ∧ ds[k] ≤ k) :
    Calls Tryd.prog 90 #[.slice a ds.length cap] w fun e w' => e = .returned (.int .i64 (facS ds ds.length)) ∧ w = w' := by
  have hl := hx.len
  obtain ⟨-, -, b, off, ha, hc⟩ := hx
  have HB := Lib.hid (facS_bd ds hl2 hd)
  have HN := Lib.hid (facS_next ds)
  have HD := Lib.hid hd
  have Ha := Lib.hid ha
  have Hc := Lib.hid hc
  have hq : inB (ds.length : Int) 1 8 = true := inB_t.2 ⟨by omega, by omega⟩
  clear hd ha hc
  go_enter Tryd.func90, Tryd.ntmps90
  go_wp2_with (go_at_call 84; refine (l01In_any _ _ _ _).mono ?_; rintro e w' ⟨rfl, rfl⟩)
  clear hq
  go_loop [3, 12] (fun s i => ∃ k : Nat, k ≤ ds.length ∧ i = .int .i64 k ∧ s = .int .i64 (facS ds k)) (fun _ i => ds.length - (intOf i).toNat)
  case atStart => exact ⟨0, Nat.zero_le _, rfl, rfl⟩
  case round =>
    obtain ⟨k, hk, rfl, rfl⟩ := hrel
    by_cases hlt : k < ds.length
    · obtain ⟨rfl, -⟩ := Ha.out (by omega)
      have hcx := Hc.out k hlt
      obtain ⟨d0, d1⟩ := HD.out k hlt
      obtain ⟨b0, b1⟩ := HB.out k hk
      have HN2 := Lib.hid (HN.out k hlt)
      obtain ⟨t0, t1⟩ := fac_term ds[k] k (by omega) d0 d1
      have hin : inB ds[k] 0 k = true := inB_t.2 ⟨d0, d1⟩
      have HFA : Hid (∀ W : World, Calls Tryd.prog 114 #[.int .i64 k] W fun e w' => e = .returned (.int .i64 (fact k)) ∧ W = w') := fun W => l08Factorial_any k W (by omega)
      generalize ds[k] = d at *
      go_wp2_with (go_at_call 84; refine (l01In_any _ _ _ _).mono ?_; rintro e w' ⟨rfl, rfl⟩)
      refine (HFA.out _).mono ?_
      rintro e w' ⟨rfl, rfl⟩
      go_wp2_with fail
      go_round
      case rel => exact ⟨k + 1, by omega, by go_num, by rw [HN2.out]⟩
      case measure => simp [intOf]; omega
    · go_wp2_with fail
      go_ret
      obtain rfl : k = ds.length := by omega
      exact ⟨rfl, rfl⟩
theorem PermutationOk_any (a : Option Addr) (cap : Nat) (xs : List Int) (w : World) (hx : Ints w w.heap.size a cap xs) :
    Calls Tryd.prog 54 #[.slice a xs.length cap] w fun e w' => e = .returned (.bool (permB xs)) ∧ w = w' := by
  have hl := hx.len
  have HX := Lib.hid hx
  obtain ⟨hlc, -, b, off, ha, hc⟩ := hx
  have Ha := Lib.hid ha
  have Hc := Lib.hid hc
  clear ha hc
  go_enter Tryd.func54, Tryd.ntmps54
  go_wp2
  go_loop [7] (fun i => ∃ k : Nat, k ≤ xs.length ∧ i = .int .i64 k ∧ ∀ j (hj : j < xs.length), j < k → inB xs[j] 0 ((xs.length : Int) - 1) = true ∧ hasB (xs.take j) xs[j] = false) (fun i => xs.length - (intOf i).toNat)
  case atStart => exact ⟨0, Nat.zero_le _, rfl, fun j _ h => by omega⟩
  case round =>
    obtain ⟨k, hk, rfl, hall⟩ := hrel
    have HA := Lib.hid hall
    clear hall
    by_cases hlt : k < xs.length
    · obtain ⟨rfl, -⟩ := Ha.out (by omega)
      have hcx := Hc.out k hlt
      have HCO : Hid (Calls Tryd.prog 92 #[.slice (some ⟨b, off, none⟩) k cap, .int .i64 xs[k]] w fun e w' => e = .returned (.bool (hasB (xs.take k) xs[k])) ∧ w = w') := by
        have h := Contains_any (some ⟨b, off, none⟩) cap (xs.take k) xs[k] w (HX.out.take k hk)
        rwa [List.length_take, Nat.min_eq_left hk] at h
      have hkc : k ≤ cap := by omega
      have HG : Hid (∀ j (hj : j < xs.length), j = k → (inB xs[j] 0 ((xs.length : Int) - 1) = true ∧ hasB (xs.take j) xs[j] = false) = (inB xs[k] 0 ((xs.length : Int) - 1) = true ∧ hasB (xs.take k) xs[k] = false)) := fun j hj e => by subst e; rfl
      cases hin : inB xs[k] 0 ((xs.length : Int) - 1)
      · have HV := Lib.hid (permAt_no1 hlt hin)
        generalize xs[k] = x at *
        go_wp2_with (go_at_call 87; refine (within_any _ _ _ _).mono ?_; rintro e w' ⟨rfl, rfl⟩)
        go_ret
        exact ⟨by rw [HV.out] <;> rfl, rfl⟩
      cases hco : hasB (xs.take k) xs[k]
      · have HI := Lib.hid hin
        have HO := Lib.hid hco
        generalize xs[k] = x at *
        generalize hasB (xs.take k) x = hv at *
        subst hco
        go_wp2_with (go_at_call 87; refine (within_any _ _ _ _).mono ?_; rintro e w' ⟨rfl, rfl⟩)
        refine HCO.out.mono ?_
        rintro e w' ⟨rfl, rfl⟩
        go_wp2_with fail
        go_round
        case rel =>
          refine ⟨k + 1, by omega, by go_num, fun j hj h => ?_⟩
          rcases Nat.lt_or_ge j k with h' | h'
          · exact HA.out j hj h'
          · rw [HG.out j hj (by omega)]; exact ⟨HI.out, HO.out⟩
        case measure => simp [intOf]; omega
      · have HV := Lib.hid (permAt_no2 hlt hco)
        generalize xs[k] = x at *
        generalize hasB (xs.take k) x = hv at *
        subst hco
        go_wp2_with (go_at_call 87; refine (within_any _ _ _ _).mono ?_; rintro e w' ⟨rfl, rfl⟩)
        refine HCO.out.mono ?_
        rintro e w' ⟨rfl, rfl⟩
        go_wp2_with fail
        go_ret
        exact ⟨by rw [HV.out] <;> rfl, rfl⟩
    · have HV : Hid (permB xs = inB xs.length 1 8) := permB_all (fun j hj => HA.out j hj (by omega))
      go_wp2_with (go_at_call 87; refine (within_any _ _ _ _).mono ?_; rintro e w' ⟨rfl, rfl⟩)
      go_ret
      exact ⟨by rw [HV.out] <;> rfl, rfl⟩

end Go.Proofs.YtdpddbajeldgiaaDoor
