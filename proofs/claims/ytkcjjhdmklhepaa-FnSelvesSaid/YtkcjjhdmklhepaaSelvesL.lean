/- The law on numbers that end their squares and on sources: the walk. Conditions: none. -/
import Derived.Test.YtkcjjhdmklhepaaSelvesK
namespace Go.Proofs.Ytkcjjhdmklhepaa
set_option linter.unusedVariables false
open Go.RowKit

theorem sDigitSum_any (n b : Int) (w : World) (hn1 : 0 ≤ n) (hn2 : n ≤ 1000000000000) (hb1 : 2 ≤ b) (hb2 : b ≤ 16) :
    Calls Try.prog 19 #[.int .i64 n, .int .i64 b] w fun e w' => e = .returned (.int .i64 (dsum n b)) ∧ Below w.heap.size w w' := by
  have hq1 : inB b 2 16 = true := inB_t.2 ⟨hb1, hb2⟩
  have hq2 : inB n 0 1000000000000 = true := inB_t.2 ⟨hn1, hn2⟩
  obtain ⟨hs0, hs1⟩ := digs_sum_bd n b hb1 hb2
  have HM : Hid (∀ d ∈ digs n b, 0 ≤ d) := fun d hd => (digs_mem n b hb1 d hd).1
  have HS : Hid (sumL (digs n b) ≤ 4611686018427387904) := by show _ ≤ _; omega
  clear hs0 hs1
  go_enter Try.func19, Try.ntmps19
  go_wp2_with (go_at_call 51; refine (l02Ok_any _ _ _).mono ?_; rintro e w' ⟨rfl, rfl⟩)
  refine (l02Digits_any n b w (by omega) (by omega) (by omega)).mono ?_
  rintro e w1 ⟨ad, cd, rfl, hown, hb1⟩
  have HO := Lib.hid hown
  have HB := Lib.hid hb1
  clear hown hb1
  go_wp2_with fail
  refine (l02Sum_any ad cd (digs n b) _ HO.out.ints HM.out HS.out).mono ?_
  rintro e w2 ⟨rfl, rfl⟩
  go_wp2_with fail
  go_ret
  exact ⟨rfl, HB.out⟩
/-- how many of the first j of 2, 3, 5, 7 divide b -/
def npk (b : Int) : Nat → Nat
  | 0 => 0
  | j + 1 => npk b j + (if b % (([2, 3, 5, 7] : List Int).getD j 1) = 0 then 1 else 0)
theorem npk_all (b : Int) : npk b 4 = np b := by simp only [npk, np]; simp
theorem npk_bd (b : Int) (j : Nat) : npk b j ≤ j := by
  induction j with
  | zero => exact Nat.le_refl _
  | succ j ih => rw [npk]; split <;> omega
set_option maxRecDepth 20000 in
set_option maxHeartbeats 4000000 in
theorem law_FnSelves (a : Option Addr) (len cap : Nat) (zs : List Int) (w : World) (hz : IsRow .u8 w a len cap zs) :
    Calls Try.prog 3 #[.slice a len cap] w fun e w' => e = .returned (.bool true) ∧ Below w.heap.size w w' := by
  obtain ⟨xs, rfl, hx⟩ := hz.opB
  have hl := hx.len
  clear hz
  by_cases hlen : xs.length ≤ 1048576
  rotate_left
  · go_enter Try.func3, Try.ntmps3
    go_wp2
    go_ret
    exact ⟨rfl, Below.refl _ _⟩
  have HX := Lib.hid hx; clear hx
  go_enter Try.func3, Try.ntmps3
  go_wp2_with fail
  refine (MakeNum_any a cap xs 0 _ HX.out hlen (by decide)).mono ?_
  rintro e w1 ⟨⟨x, rfl, x0, x1⟩, hb1⟩
  have HX1 := Lib.hid ((HX.out.below hb1).mono hb1.size)
  have HB1 := Lib.hid hb1
  clear hb1 HX
  go_wp2_with fail
  obtain ⟨b, hb⟩ : ∃ b, b = 2 + x % 9 := ⟨_, rfl⟩
  have hb0 : 2 ≤ b := by omega
  have hb9 : b ≤ 10 := by omega
  rw [← hb]
  clear hb x0 x1
  refine (MakeNum_any a cap xs 2 _ HX1.out hlen (by decide)).mono ?_
  rintro e w2 ⟨⟨y, rfl, y0, y1⟩, hb2⟩
  have HX2 := Lib.hid ((HX1.out.below hb2).mono hb2.size)
  have HB2 := Lib.hid (HB1.out.trans (hb2.mono HB1.out.size))
  clear hb2 HX1 HB1
  go_wp2_with fail
  obtain ⟨k, hk⟩ : ∃ k : Nat, 1 + y % 3 = k := ⟨(1 + y % 3).toNat, by omega⟩
  have hk0 : 1 ≤ k := by omega
  have hk1 : k ≤ 3 := by omega
  rw [hk]
  clear hk y0 y1
  obtain ⟨hLl, hL⟩ := auto_of b k hb0 hb9 (by omega) (by omega)
  rw [Int.toNat_natCast] at hL
  obtain ⟨hp1, hp2⟩ := pow_4 b hb0 (by omega) k (by omega)
  have hlL := autoR_len b k
  have HAU : Hid (∀ W : World, Calls Try.prog 7 #[.int .i64 b, .int .i64 k] W (RetI W (autoR b k))) := fun W => AutomorphicOf_any b k W
  have HPW : Hid (∀ W : World, Calls Try.prog 8 #[.int .i64 b, .int .i64 k] W fun e w' => e = .returned (.int .i64 (b ^ k)) ∧ W = w') := fun W => lpower_any b k W (by omega) (by omega) (by omega)
  have HLl := Lib.hid hLl
  have HL := Lib.hid hL
  clear hLl hL
  generalize autoR b k = L at *
  generalize b ^ k = m at *
  refine (HAU.out _).mono ?_
  rintro e w3 ⟨al, cl, rfl, hol, hb3⟩
  have HX3 := Lib.hid ((HX2.out.below hb3).mono hb3.size)
  have HB3 := Lib.hid (HB2.out.trans (hb3.mono HB2.out.size))
  have HOL := Lib.hid hol.ints
  clear hb3 HX2 HB2 hol
  go_wp2_with fail
  refine (HPW.out _).mono ?_
  rintro e w4 ⟨rfl, rfl⟩
  go_wp2_with fail
  have hW : Below w3.heap.size w3 (w3.alloc (.cells #[.int .i64 2, .int .i64 3, .int .i64 5, .int .i64 7] 3)) := (Below.refl _ _).alloc (Nat.le_refl _) _
  have HCP : Hid (∀ k : Nat, k < 4 → (w3.alloc (.cells #[.int .i64 2, .int .i64 3, .int .i64 5, .int .i64 7] 3)).cell? ⟨w3.heap.size, k, none⟩ = some (.int .i64 (([2, 3, 5, 7] : List Int).getD k 1))) := by
    intro k hk
    rw [World.cell?_alloc_new]
    rcases (show k = 0 ∨ k = 1 ∨ k = 2 ∨ k = 3 by omega) with rfl | rfl | rfl | rfl <;> rfl
  have HX4 := Lib.hid ((HX3.out.below hW).mono hW.size)
  have HB4 := Lib.hid (HB3.out.trans (hW.mono HB3.out.size))
  have HOL4 := Lib.hid ((HOL.out.below hW).mono hW.size)
  clear hW HX3 HB3 HOL
  generalize w3.alloc (.cells #[.int .i64 2, .int .i64 3, .int .i64 5, .int .i64 7] 3) = w4 at *
  generalize w3.heap.size = pb at *
  go_loop [7, 40] (fun pv i => ∃ k : Nat, k ≤ 4 ∧ i = .int .i64 k ∧ pv = .int .i64 (npk b k)) (fun _ i => 4 - (intOf i).toNat)
  case atStart => exact ⟨0, by decide, rfl, rfl⟩
  case round =>
  obtain ⟨j, hj, rfl, rfl⟩ := hrel
  have hnb := npk_bd b j
  by_cases hlt : j < 4
  · have hcx := HCP.out j hlt
    have hpr : 2 ≤ ([2, 3, 5, 7] : List Int).getD j 1 ∧ ([2, 3, 5, 7] : List Int).getD j 1 ≤ 7 := by
      rcases (show j = 0 ∨ j = 1 ∨ j = 2 ∨ j = 3 by omega) with rfl | rfl | rfl | rfl <;> decide
    have HN : Hid (npk b (j + 1) = npk b j + (if b % (([2, 3, 5, 7] : List Int).getD j 1) = 0 then 1 else 0)) := rfl
    obtain ⟨hpr1, hpr2⟩ := hpr
    generalize ([2, 3, 5, 7] : List Int).getD j 1 = pr at *
    by_cases hd : b % pr = 0
    · have HS : Hid (npk b (j + 1) = npk b j + 1) := by show _ = _; rw [HN.out, if_pos hd]
      go_wp2_with (go_at_call 9; refine (btoi_any _ _).mono ?_; rintro e w' ⟨rfl, rfl⟩)
      go_round
      case rel => exact ⟨j + 1, by omega, by go_num, by rw [HS.out] <;> first | rfl | go_num⟩
      case measure => simp [intOf]; omega
    · have HS : Hid (npk b (j + 1) = npk b j) := by show _ = _; rw [HN.out, if_neg hd]; rfl
      have hd2 : (b % pr == 0) = false := by rw [beq_eq_false_iff_ne]; exact hd
      go_wp2_with (go_at_call 9; refine (btoi_any _ _).mono ?_; rintro e w' ⟨rfl, rfl⟩)
      go_round
      case rel => exact ⟨j + 1, by omega, by go_num, by rw [HS.out] <;> first | rfl | go_num⟩
      case measure => simp [intOf]; omega
  obtain rfl : j = 4 := by omega
  have HP : Hid (L.length = 2 ^ npk b 4) := by show _ = _; rw [npk_all]; exact HLl.out
  clear HLl HCP
  have hsh : ((L.length : Int) != wrap64 (2 ^ npk b 4)) = false := by
    rw [HP.out]
    generalize npk b 4 = P at *
    rcases (show P = 0 ∨ P = 1 ∨ P = 2 ∨ P = 3 ∨ P = 4 by omega) with rfl | rfl | rfl | rfl | rfl <;> first | rfl | (simp [wrap64])
  clear HP
  generalize npk b 4 = P at *
  go_wp2_with fail
  obtain ⟨hq1, -, bl, ol, hal, hcl⟩ := HOL4.out
  have HAL := Lib.hid hal
  have HCL := Lib.hid hcl
  clear hal hcl
  go_loop [59] (fun i => ∃ k : Nat, k ≤ L.length ∧ i = .int .i64 k) (fun i => L.length - (intOf i).toNat)
  case atStart => exact ⟨0, Nat.zero_le _, rfl⟩
  case round =>
  obtain ⟨j, hj, rfl⟩ := hrel
  by_cases hlt : j < L.length
  · obtain ⟨rfl, -⟩ := HAL.out (by omega)
    have hcx := HCL.out j hlt
    obtain ⟨n0, n1, n2, n3, n4⟩ := HL.out _ (List.getElem_mem hlt)
    have HIA : Hid (∀ W : World, Calls Try.prog 10 #[.int .i64 L[j], .int .i64 b, .int .i64 k] W fun e w' => e = .returned (.bool true) ∧ W = w') := fun W => by rw [← n2]; exact IsAutomorphic_any _ b k W
    have HN4 := Lib.hid n4
    clear n2 n4
    generalize L[j] = n at *
    have q0 : 0 ≤ n * n := Int.mul_nonneg n0 n0
    have q1 : n * n ≤ 65536 * 65536 := Int.mul_le_mul (by omega) (by omega) n0 (by omega)
    by_cases h1 : 1 < n
    · have HHA : Hid (Calls Try.prog 11 #[.slice (some ⟨bl, ol, none⟩) L.length cl, .int .i64 (m + 1 - n)] w4 fun e w' => e = .returned (.bool true) ∧ w4 = w') := by
        have h := has_any (some ⟨bl, ol, none⟩) cl L (m + 1 - n) w4 HOL4.out
        rwa [HN4.out h1] at h
      clear HN4
      go_wp2_with fail
      refine (HIA.out _).mono ?_
      rintro e w' ⟨rfl, rfl⟩
      go_wp2_with fail
      refine HHA.out.mono ?_
      rintro e w' ⟨rfl, rfl⟩
      go_wp2_with fail
      go_round
      case rel => exact ⟨j + 1, by omega, by go_num⟩
      case measure => simp [intOf]; omega
    · clear HN4
      go_wp2_with fail
      refine (HIA.out _).mono ?_
      rintro e w' ⟨rfl, rfl⟩
      go_wp2_with fail
      go_round
      case rel => exact ⟨j + 1, by omega, by go_num⟩
      case measure => simp [intOf]; omega
  clear HCL HAL HL
  go_wp2_with fail
  refine (MakeNum_any a cap xs 4 _ HX4.out hlen (by decide)).mono ?_
  rintro e w5 ⟨⟨x5, rfl, x50, x51⟩, hb⟩
  have HX5 := Lib.hid ((HX4.out.below hb).mono hb.size)
  have HB5 := Lib.hid (HB4.out.trans (hb.mono HB4.out.size))
  clear hb HX4 HB4 HOL4
  go_wp2_with fail
  obtain ⟨n, hn⟩ : ∃ n, n = 1 + x5 % 400 := ⟨_, rfl⟩
  have hn0 : 1 ≤ n := by omega
  have hn1 : n ≤ 400 := by omega
  rw [← hn]
  clear hn x50 x51
  have HS := Lib.hid (srcs_add n b hb0 (by omega) (by omega) (by omega))
  have hsl := srcsR_len n b
  obtain ⟨t1, t2, t3⟩ := srcs_has n b hb0 (by omega) hn0 (by omega)
  have hself := selfB_of n b hb0 (by omega) (by omega) (by omega)
  have hself2 := selfB_add n b hb0 (by omega) hn0 (by omega)
  have hms := meetR_src n b hb0 (by omega) hn0 hn1
  have HSR : Hid (∀ W : World, Calls Try.prog 12 #[.int .i64 n, .int .i64 b] W (RetI W (srcsR n b))) := fun W => SourcesOf_any n b W
  have HSX : Hid (∀ W : World, Calls Try.prog 12 #[.int .i64 (addB n b), .int .i64 b] W (RetI W (srcsR (addB n b) b))) := fun W => SourcesOf_any _ b W
  have hsx := srcsR_len (addB n b) b
  have HHX : Hid (hasZ (srcsR (addB n b) b) n = true) := hasZ_mem t1
  have HAD : Hid (∀ W : World, Calls Try.prog 13 #[.int .i64 n, .int .i64 b] W fun e w' => e = .returned (.int .i64 (addB n b)) ∧ Below W.heap.size W w') := fun W => AddDigitSum_any n b W
  have HSF : Hid (∀ W : World, Calls Try.prog 15 #[.int .i64 n, .int .i64 b] W fun e w' => e = .returned (.bool (((srcsR n b).length : Int) == 0)) ∧ Below W.heap.size W w') := fun W => by rw [isEmpty_len, ← hself]; exact IsSelfNumber_any n b W
  have HSG : Hid (∀ W : World, Calls Try.prog 15 #[.int .i64 (addB n b), .int .i64 b] W fun e w' => e = .returned (.bool false) ∧ Below W.heap.size W w') := fun W => by rw [← hself2]; exact IsSelfNumber_any _ b W
  have HMX : Hid (∀ W : World, Calls Try.prog 14 #[.int .i64 n, .int .i64 (addB n b), .int .i64 b, .int .i64 3000] W fun e w' => e = .returned (.int .i64 (addB n b)) ∧ Below W.heap.size W w') := fun W => by
    have h := MeetingOf_any n (addB n b) b 3000 W
    rwa [hms] at h
  have HML : Hid (∀ (y : Int) (W : World), Calls Try.prog 14 #[.int .i64 n, .int .i64 y, .int .i64 b, .int .i64 3000] W fun e w' => e = .returned (.int .i64 (meetR n y b 3000)) ∧ Below W.heap.size W w') := fun y W => MeetingOf_any n y b 3000 W
  have HMR : Hid (∀ (y : Int) (W : World), Calls Try.prog 14 #[.int .i64 y, .int .i64 n, .int .i64 b, .int .i64 3000] W fun e w' => e = .returned (.int .i64 (meetR n y b 3000)) ∧ Below W.heap.size W w') := fun y W => by rw [meetR_comm n y]; exact MeetingOf_any y n b 3000 W
  have HMO : Hid (∀ y, meetR n y b 3000 = -1 ∨ (max n y ≤ meetR n y b 3000 ∧ meetR n y b 3000 ≤ 3000)) := fun y => meetR_out n y b
  have hcs := cntH_succ n b hb0 (by omega) hn0 (by omega)
  have hcb := cntH_bd (n - 1) b
  have hcb2 := cntH_bd n b
  have hhb := harshB_of n b hb0 (by omega) hn0 (by omega)
  obtain ⟨k1, k2, k3, k4, k5⟩ := base_of b hb0 hb9
  have hdp := dsum_pos n b hb0 (by omega) (by omega)
  have hdb := dsum_bd n b hb0 (by omega)
  have HC1 : Hid (∀ W : World, Calls Try.prog 16 #[.int .i64 b, .int .i64 n] W fun e w' => e = .returned (.int .i64 (cntH b (n - 1) + (if harshB n b then 1 else 0))) ∧ Below W.heap.size W w') := fun W => by rw [← hcs]; exact CountHarshad_any b n W
  have HC2 : Hid (∀ W : World, Calls Try.prog 16 #[.int .i64 b, .int .i64 (n - 1)] W fun e w' => e = .returned (.int .i64 (cntH b (n - 1))) ∧ Below W.heap.size W w') := fun W => CountHarshad_any b (n - 1) W
  have HLP : Hid (∀ W : World, Calls Try.prog 17 #[.int .i64 b] W fun e w' => e = .returned (.int .i64 (lpR b)) ∧ Below W.heap.size W w') := fun W => LeastPandigital_any b W
  have HIH : Hid (∀ W : World, Calls Try.prog 18 #[.int .i64 n, .int .i64 b] W fun e w' => e = .returned (.bool (harshB n b)) ∧ Below W.heap.size W w') := fun W => IsHarshad_any n b W
  have HDS : Hid (∀ W : World, Calls Try.prog 19 #[.int .i64 n, .int .i64 b] W fun e w' => e = .returned (.int .i64 (dsum n b)) ∧ Below W.heap.size W w') := fun W => sDigitSum_any n b W (by omega) (by omega) hb0 (by omega)
  have HP1 : Hid (∀ W : World, Calls Try.prog 20 #[.int .i64 (lpR b), .int .i64 b] W fun e w' => e = .returned (.bool true) ∧ Below W.heap.size W w') := fun W => by rw [← k1]; exact IsPandigital_any _ b W
  have HP2 : Hid (∀ W : World, Calls Try.prog 20 #[.int .i64 (lpR b / b), .int .i64 b] W fun e w' => e = .returned (.bool false) ∧ Below W.heap.size W w') := fun W => by rw [← k2]; exact IsPandigital_any _ b W
  have HS1 : Hid (∀ W : World, Calls Try.prog 21 #[.int .i64 45, .int .i64 10] W fun e w' => e = .returned (.bool true) ∧ Below W.heap.size W w') := fun W => by rw [← split45]; exact IsSplitSquare_any 45 10 W
  have HS2 : Hid (∀ W : World, Calls Try.prog 21 #[.int .i64 (b - 1), .int .i64 b] W fun e w' => e = .returned (.bool true) ∧ Below W.heap.size W w') := fun W => by rw [← k3]; exact IsSplitSquare_any (b - 1) b W
  have HHB := Lib.hid hhb
  clear t1 hself hself2 hms hcs hhb k1 k2 k3 hcb2
  generalize srcsR (addB n b) b = SX at *
  generalize srcsR n b = S at *
  generalize dsum n b = ds at *
  generalize harshB n b = hB at *
  generalize cntH b (n - 1) = cH at *
  generalize lpR b = lp at *
  generalize addB n b = X at *
  refine (HSR.out _).mono ?_
  rintro e w6 ⟨a6, c6, rfl, hown, hb⟩
  have HX6 := Lib.hid ((HX5.out.below hb).mono hb.size)
  have HB6 := Lib.hid (HB5.out.trans (hb.mono HB5.out.size))
  have HOS := Lib.hid hown.ints
  clear hb HX5 HB5 hown
  obtain ⟨th, hth, th0, th1⟩ : ∃ th : Int, (if hB = true then (1 : Int) else 0) = th ∧ 0 ≤ th ∧ th ≤ 1 := ⟨_, rfl, by split <;> omega, by split <;> omega⟩
  have HBT : Hid (∀ W : World, Calls Try.prog 9 #[.bool hB] W fun e w' => e = .returned (.int .i64 th) ∧ W = w') := fun W => by rw [← hth]; exact btoi_any hB W
  rw [hth] at HC1
  clear hth
  go_wp2_with fail
  go_loopw [100] (fun i wr => ∃ k : Nat, k ≤ S.length ∧ i = .int .i64 k ∧ Below w6.heap.size w6 wr) (fun i _ => S.length - (intOf i).toNat)
  case atStart => exact ⟨0, Nat.zero_le _, rfl, Below.refl _ _⟩
  case round =>
  obtain ⟨j, hj, rfl, hb⟩ := hrel
  by_cases hlt : j < S.length
  · obtain ⟨-, -, b6, o6, ha6, hc6⟩ := HOS.out
    obtain ⟨rfl, hb6⟩ := ha6 (by omega)
    have hcx := (hb.cell (p := ⟨b6, o6 + j, none⟩) hb6).trans (hc6 j hlt)
    have hsx2 := (HS.out _ (List.getElem_mem hlt)).2.2
    have HAX : Hid (∀ W : World, Calls Try.prog 13 #[.int .i64 S[j], .int .i64 b] W fun e w' => e = .returned (.int .i64 n) ∧ Below W.heap.size W w') := fun W => by rw [← hsx2]; exact AddDigitSum_any _ b W
    have hsz := hb.size
    have HB := Lib.hid hb
    clear hb hsx2 hc6 ha6
    generalize S[j] = sx at *
    go_wp2_with fail
    refine (HAX.out _).mono ?_
    rintro e w7 ⟨rfl, hb7⟩
    have HB7 := Lib.hid (HB.out.trans (hb7.mono hsz))
    clear hb7
    go_wp2_with fail
    go_roundw
    case rel => exact ⟨j + 1, by omega, by go_num, HB7.out⟩
    case measure => simp [intOf]; omega
  have HX7 := Lib.hid ((HX6.out.below hb).mono hb.size)
  have HB7 := Lib.hid (HB6.out.trans (hb.mono HB6.out.size))
  clear hb HX6 HB6 HOS HS
  go_wp2_with fail
  refine (HAD.out _).mono ?_
  rintro e w8 ⟨rfl, hb⟩
  have HB8 := Lib.hid (HB7.out.trans (hb.mono HB7.out.size))
  have HX8 := Lib.hid ((HX7.out.below hb).mono hb.size)
  clear hb HB7 HX7
  go_wp2_with fail
  refine (MakeNum_any a cap xs 6 _ HX8.out hlen (by decide)).mono ?_
  rintro e w9 ⟨⟨x9, rfl, x90, x91⟩, hb⟩
  have HB9 := Lib.hid (HB8.out.trans (hb.mono HB8.out.size))
  have HX9 := Lib.hid ((HX8.out.below hb).mono hb.size)
  clear hb HB8 HX8
  go_wp2_with fail
  obtain ⟨y, hy⟩ : ∃ y, y = 1 + x9 % 400 := ⟨_, rfl⟩
  have hy0 : 1 ≤ y := by omega
  have hy1 : y ≤ 400 := by omega
  rw [← hy]
  clear hy x90 x91
  have HML2 := Lib.hid (HML.out y)
  have HMR2 := Lib.hid (HMR.out y)
  have HMO2 := Lib.hid (HMO.out y)
  clear HML HMR HMO HX9
  generalize meetR n y b 3000 = z at *
  refine (HML2.out _).mono ?_
  rintro e w10 ⟨rfl, hb⟩
  have HB10 := Lib.hid (HB9.out.trans (hb.mono HB9.out.size))
  clear hb HB9
  go_wp2_with fail
  refine (HSF.out _).mono ?_
  rintro e w11 ⟨rfl, hb⟩
  have HB11 := Lib.hid (HB10.out.trans (hb.mono HB10.out.size))
  clear hb HB10
  go_wp2_with fail
  refine (HSX.out _).mono ?_
  rintro e w12 ⟨a12, c12, rfl, hown, hb⟩
  have HB12 := Lib.hid (HB11.out.trans (hb.mono HB11.out.size))
  have HOX := Lib.hid hown.ints
  clear hb HB11
  go_wp2_with fail
  refine (has_any a12 c12 SX n _ HOX.out).mono ?_
  rintro e w' ⟨rfl, rfl⟩
  rw [HHX.out]
  go_wp2_with fail
  refine (HSG.out _).mono ?_
  rintro e w13 ⟨rfl, hb⟩
  have HB13 := Lib.hid (HB12.out.trans (hb.mono HB12.out.size))
  clear hb HB12
  go_wp2_with fail
  refine (HMR2.out _).mono ?_
  rintro e w14 ⟨rfl, hb⟩
  have HB14 := Lib.hid (HB13.out.trans (hb.mono HB13.out.size))
  clear hb HB13
  go_wp2_with fail
  refine (HMX.out _).mono ?_
  rintro e w15 ⟨rfl, hb⟩
  have HB15 := Lib.hid (HB14.out.trans (hb.mono HB14.out.size))
  clear hb HB14
  have hmo := HMO2.out
  rcases hmo with hz | ⟨hz1, hz2⟩
  · subst hz
    go_wp2_with fail
    refine (HC1.out _).mono ?_
    rintro e w16 ⟨rfl, hb⟩
    have HB16 := Lib.hid (HB15.out.trans (hb.mono HB15.out.size))
    clear hb HB15
    go_wp2_with fail
    refine (HLP.out _).mono ?_
    rintro e w17 ⟨rfl, hb⟩
    have HB17 := Lib.hid (HB16.out.trans (hb.mono HB16.out.size))
    clear hb HB16
    go_wp2_with fail
    refine (HC2.out _).mono ?_
    rintro e w18 ⟨rfl, hb⟩
    have HB18 := Lib.hid (HB17.out.trans (hb.mono HB17.out.size))
    clear hb HB17
    go_wp2_with fail
    refine (HIH.out _).mono ?_
    rintro e w19 ⟨rfl, hb⟩
    have HB19 := Lib.hid (HB18.out.trans (hb.mono HB18.out.size))
    clear hb HB18
    go_wp2_with fail
    refine (HBT.out _).mono ?_
    rintro e w' ⟨rfl, rfl⟩
    go_wp2_with fail
    refine (HIH.out _).mono ?_
    rintro e w20 ⟨rfl, hb⟩
    have HB20 := Lib.hid (HB19.out.trans (hb.mono HB19.out.size))
    clear hb HB19
    go_wp2_with fail
    refine (HDS.out _).mono ?_
    rintro e w21 ⟨rfl, hb⟩
    have HB21 := Lib.hid (HB20.out.trans (hb.mono HB20.out.size))
    clear hb HB20
    have hhb := HHB.out
    go_wp2_with fail
    refine (HP1.out _).mono ?_
    rintro e w22 ⟨rfl, hb⟩
    have HB22 := Lib.hid (HB21.out.trans (hb.mono HB21.out.size))
    clear hb HB21
    go_wp2_with fail
    refine (HP2.out _).mono ?_
    rintro e w23 ⟨rfl, hb⟩
    have HB23 := Lib.hid (HB22.out.trans (hb.mono HB22.out.size))
    clear hb HB22
    go_wp2_with fail
    refine (HS1.out _).mono ?_
    rintro e w24 ⟨rfl, hb⟩
    have HB24 := Lib.hid (HB23.out.trans (hb.mono HB23.out.size))
    clear hb HB23
    go_wp2_with fail
    refine (HS2.out _).mono ?_
    rintro e w25 ⟨rfl, hb⟩
    have HB25 := Lib.hid (HB24.out.trans (hb.mono HB24.out.size))
    clear hb HB24
    go_wp2_with fail
    go_ret
    exact ⟨rfl, HB25.out⟩
  · have hz3 : 0 ≤ z := by omega
    by_cases hny : n < y
    · have hz5 : y ≤ z := by omega
      go_wp2_with fail
      refine (HC1.out _).mono ?_
      rintro e w16 ⟨rfl, hb⟩
      have HB16 := Lib.hid (HB15.out.trans (hb.mono HB15.out.size))
      clear hb HB15
      go_wp2_with fail
      refine (HLP.out _).mono ?_
      rintro e w17 ⟨rfl, hb⟩
      have HB17 := Lib.hid (HB16.out.trans (hb.mono HB16.out.size))
      clear hb HB16
      go_wp2_with fail
      refine (HC2.out _).mono ?_
      rintro e w18 ⟨rfl, hb⟩
      have HB18 := Lib.hid (HB17.out.trans (hb.mono HB17.out.size))
      clear hb HB17
      go_wp2_with fail
      refine (HIH.out _).mono ?_
      rintro e w19 ⟨rfl, hb⟩
      have HB19 := Lib.hid (HB18.out.trans (hb.mono HB18.out.size))
      clear hb HB18
      go_wp2_with fail
      refine (HBT.out _).mono ?_
      rintro e w' ⟨rfl, rfl⟩
      go_wp2_with fail
      refine (HIH.out _).mono ?_
      rintro e w20 ⟨rfl, hb⟩
      have HB20 := Lib.hid (HB19.out.trans (hb.mono HB19.out.size))
      clear hb HB19
      go_wp2_with fail
      refine (HDS.out _).mono ?_
      rintro e w21 ⟨rfl, hb⟩
      have HB21 := Lib.hid (HB20.out.trans (hb.mono HB20.out.size))
      clear hb HB20
      have hhb := HHB.out
      go_wp2_with fail
      refine (HP1.out _).mono ?_
      rintro e w22 ⟨rfl, hb⟩
      have HB22 := Lib.hid (HB21.out.trans (hb.mono HB21.out.size))
      clear hb HB21
      go_wp2_with fail
      refine (HP2.out _).mono ?_
      rintro e w23 ⟨rfl, hb⟩
      have HB23 := Lib.hid (HB22.out.trans (hb.mono HB22.out.size))
      clear hb HB22
      go_wp2_with fail
      refine (HS1.out _).mono ?_
      rintro e w24 ⟨rfl, hb⟩
      have HB24 := Lib.hid (HB23.out.trans (hb.mono HB23.out.size))
      clear hb HB23
      go_wp2_with fail
      refine (HS2.out _).mono ?_
      rintro e w25 ⟨rfl, hb⟩
      have HB25 := Lib.hid (HB24.out.trans (hb.mono HB24.out.size))
      clear hb HB24
      go_wp2_with fail
      go_ret
      exact ⟨rfl, HB25.out⟩
    · have hz5 : n ≤ z := by omega
      have hny2 : y ≤ n := by omega
      go_wp2_with fail
      refine (HC1.out _).mono ?_
      rintro e w16 ⟨rfl, hb⟩
      have HB16 := Lib.hid (HB15.out.trans (hb.mono HB15.out.size))
      clear hb HB15
      go_wp2_with fail
      refine (HLP.out _).mono ?_
      rintro e w17 ⟨rfl, hb⟩
      have HB17 := Lib.hid (HB16.out.trans (hb.mono HB16.out.size))
      clear hb HB16
      go_wp2_with fail
      refine (HC2.out _).mono ?_
      rintro e w18 ⟨rfl, hb⟩
      have HB18 := Lib.hid (HB17.out.trans (hb.mono HB17.out.size))
      clear hb HB17
      go_wp2_with fail
      refine (HIH.out _).mono ?_
      rintro e w19 ⟨rfl, hb⟩
      have HB19 := Lib.hid (HB18.out.trans (hb.mono HB18.out.size))
      clear hb HB18
      go_wp2_with fail
      refine (HBT.out _).mono ?_
      rintro e w' ⟨rfl, rfl⟩
      go_wp2_with fail
      refine (HIH.out _).mono ?_
      rintro e w20 ⟨rfl, hb⟩
      have HB20 := Lib.hid (HB19.out.trans (hb.mono HB19.out.size))
      clear hb HB19
      go_wp2_with fail
      refine (HDS.out _).mono ?_
      rintro e w21 ⟨rfl, hb⟩
      have HB21 := Lib.hid (HB20.out.trans (hb.mono HB20.out.size))
      clear hb HB20
      have hhb := HHB.out
      go_wp2_with fail
      refine (HP1.out _).mono ?_
      rintro e w22 ⟨rfl, hb⟩
      have HB22 := Lib.hid (HB21.out.trans (hb.mono HB21.out.size))
      clear hb HB21
      go_wp2_with fail
      refine (HP2.out _).mono ?_
      rintro e w23 ⟨rfl, hb⟩
      have HB23 := Lib.hid (HB22.out.trans (hb.mono HB22.out.size))
      clear hb HB22
      go_wp2_with fail
      refine (HS1.out _).mono ?_
      rintro e w24 ⟨rfl, hb⟩
      have HB24 := Lib.hid (HB23.out.trans (hb.mono HB23.out.size))
      clear hb HB23
      go_wp2_with fail
      refine (HS2.out _).mono ?_
      rintro e w25 ⟨rfl, hb⟩
      have HB25 := Lib.hid (HB24.out.trans (hb.mono HB24.out.size))
      clear hb HB24
      go_wp2_with fail
      go_ret
      exact ⟨rfl, HB25.out⟩

end Go.Proofs.Ytkcjjhdmklhepaa
