/- The law on unit fractions: the walk. Conditions: none. -/
import Derived.Test.YtkcjjhdmklhepaaUnitsK
import Derived.Test.YtkcjjhdmklhepaaUnitsF
import Derived.Test.YtkcjjhdmklhepaaFnKit
namespace Go.Proofs.Ytkcjjhdmklhepaa
set_option linter.unusedVariables false
open Go.RowKit

theorem Gcd_any (a b : Int) (w : World) (ha : 1 ≤ a) (ha2 : a ≤ 1000) (hb : 1 ≤ b) (hb2 : b ≤ 1000) :
    Calls Try.prog 22 #[.int .i64 a, .int .i64 b] w fun e w' => e = .returned (.int .i64 (gcdZ a b)) ∧ Below w.heap.size w w' := by
  have hq1 : inB a (-1000000000000) 1000000000000 = true := inB_t.2 ⟨by omega, by omega⟩
  have hq2 : inB b (-1000000000000) 1000000000000 = true := inB_t.2 ⟨by omega, by omega⟩
  go_enter Try.func22, Try.ntmps22
  go_wp2_with (go_at_call 47; refine (within_any _ _ _ _).mono ?_; rintro e w' ⟨rfl, rfl⟩)
  refine (gcd_any a b w (by omega) (by omega) (by omega) (by omega)).mono ?_
  rintro e w1 ⟨rfl, hb1⟩
  go_wp2_with fail
  go_ret
  exact ⟨rfl, hb1⟩
theorem rowOK_of {q : Int} {r : List Int} (h : rowOK q r = true) : ∃ a b : Int, r = [a, b] ∧ 1 ≤ a ∧ a ≤ b ∧ b ≤ 1000000 ∧ q * (a + b) = a * b := by
  match r with
  | [a, b] =>
    simp only [rowOK, Bool.and_eq_true, decide_eq_true_eq, beq_iff_eq] at h
    exact ⟨a, b, rfl, h.1.1.1, h.1.1.2, h.2, h.1.2⟩
  | [] => simp [rowOK] at h
  | [_] => simp [rowOK] at h
  | _ :: _ :: _ :: _ => simp [rowOK] at h
set_option maxRecDepth 20000 in
set_option maxHeartbeats 4000000 in
theorem law_FnUnits (a : Option Addr) (len cap : Nat) (zs : List Int) (w : World) (hz : IsRow .u8 w a len cap zs) :
    Calls Try.prog 4 #[.slice a len cap] w fun e w' => e = .returned (.bool true) ∧ Below w.heap.size w w' := by
  obtain ⟨xs, rfl, hx⟩ := hz.opB
  have hl := hx.len
  clear hz
  by_cases hlen : xs.length ≤ 1048576
  rotate_left
  · go_enter Try.func4, Try.ntmps4
    go_wp2
    go_ret
    exact ⟨rfl, Below.refl _ _⟩
  have HX := Lib.hid hx; clear hx
  go_enter Try.func4, Try.ntmps4
  go_wp2_with fail
  refine (MakeNum_any a cap xs 0 _ HX.out hlen (by decide)).mono ?_
  rintro e w1 ⟨⟨x, rfl, x0, x1⟩, hb1⟩
  have HX1 := Lib.hid ((HX.out.below hb1).mono hb1.size)
  have HB1 := Lib.hid hb1
  clear hb1 HX
  go_wp2_with fail
  obtain ⟨q, hq⟩ : ∃ q, q = 1 + x % 40 := ⟨_, rfl⟩
  have hq0 : 1 ≤ q := by omega
  have hq1 : q ≤ 40 := by omega
  rw [← hq]
  clear hq x0 x1
  refine (MakeNum_any a cap xs 2 _ HX1.out hlen (by decide)).mono ?_
  rintro e w2 ⟨⟨y, rfl, y0, y1⟩, hb2⟩
  have HB2 := Lib.hid (HB1.out.trans (hb2.mono HB1.out.size))
  clear hb2 HX1 HB1
  obtain ⟨m0, m1⟩ := mod_bd y q hq0
  go_wp2_with fail
  obtain ⟨p, hp⟩ : ∃ p, p = 1 + y % q := ⟨_, rfl⟩
  have hp0 : 1 ≤ p := by omega
  have hp1 : p ≤ q := by omega
  rw [← hp]
  clear hp m0 m1 y0 y1
  refine (Gcd_any p q _ (by omega) (by omega) (by omega) (by omega)).mono ?_
  rintro e w3 ⟨rfl, hb3⟩
  have HB3 := Lib.hid (HB2.out.trans (hb3.mono HB2.out.size))
  clear hb3 HB2
  obtain ⟨d0, d1⟩ := gcdZ_bd p q (by omega) (by omega)
  obtain ⟨hu, hne, hE, hE1, hE2, hE3, hG, hK⟩ := units_of p q hp0 hp1 hq1 (engelR p q) rfl (grL p q) rfl
  obtain ⟨hP1, hP2⟩ := pairs_of q hq0 hq1
  have HEN : Hid (∀ W : World, Calls Try.prog 23 #[.int .i64 p, .int .i64 q] W (RetIB W (engelR p q) true)) := fun W => by rw [← hu]; exact EngelOf_any p q W
  have HGR : Hid (∀ W : World, Calls Try.prog 25 #[.int .i64 p, .int .i64 q] W (RetIB W (grL p q) (grB p q))) := fun W => GreedyUnits_any p q W
  have HFW : Hid (∀ W : World, Calls Try.prog 29 #[.int .i64 p, .int .i64 q, .int .i64 12] W fun e w' => e = .returned (.int .i64 (fewR p q 12)) ∧ W = w') := fun W => FewestUnits_any p q 12 W
  have HPF : Hid (∀ W : World, Calls Try.prog 27 #[.int .i64 q] W (RetSS W (pairR q))) := fun W => PairsFor_any q W
  have HCP : Hid (∀ W : World, Calls Try.prog 30 #[.int .i64 q] W fun e w' => e = .returned (.int .i64 (pairR q).length) ∧ Below W.heap.size W w') := fun W => by
    have h := CountPairs_any q W
    rwa [cntP, if_pos (inB_t.2 ⟨hq0, by omega⟩)] at h
  have HSY : Hid (∀ W : World, Calls Try.prog 28 #[.int .i64 5] W (RetI W [2, 3, 7, 43, 1807])) := fun W => by rw [← sylv5L]; exact SylvesterPlaces_any 5 W
  have HUS : Hid (∀ (W : World) (as' : Option Addr) (cs : Nat), Ints W W.heap.size as' cs [2, 3, 7, 43, 1807] → Calls Try.prog 26 #[.slice as' 5 cs] W fun e w' => e = .returned (.tuple #[.int .i64 3263441, .int .i64 3263442, .bool true]) ∧ Below W.heap.size W w') := fun W as' cs h => by
    have h2 := UnitSum_any as' cs _ W h
    rw [← sylv5L] at h2
    rw [sylv5V.1, sylv5V.2.1, sylv5V.2.2, sylv5L] at h2
    exact h2
  have hel := engelR_len p q
  have hgl := grL_len p q
  have hpl := pairR_len q
  have hne2 : (engelR p q).length ≠ 0 := fun h => hne (List.eq_nil_of_length_eq_zero h)
  obtain ⟨s0, s1⟩ := sq_1000 q hq0 (by omega)
  have hs1 : q * q ≤ 1600 := by
    have := Int.mul_le_mul hq1 hq1 (by omega) (by omega)
    omega
  obtain ⟨e0, e1⟩ := div_pos_le q p hp0 hp1
  obtain ⟨N, hN⟩ : ∃ N : Nat, q * q = N := ⟨(q * q).toNat, by omega⟩
  rw [hN, Int.toNat_natCast] at hP2
  rw [hN] at s0 hs1
  clear s1
  have HE := Lib.hid hE; have HE1 := Lib.hid hE1; have HE2 := Lib.hid hE2; have HE3 := Lib.hid hE3; have HG := Lib.hid hG; have HK := Lib.hid hK; have HP1 := Lib.hid hP1; have HP2 := Lib.hid hP2
  clear hE hE1 hE2 hE3 hG hK hP1 hP2 hu hne
  generalize fewR p q 12 = kf at *
  generalize gcdZ p q = d at *
  generalize pairR q = PR at *
  generalize grB p q = gb at *
  generalize grL p q = G at *
  generalize engelR p q = E at *
  go_wp2_with fail
  refine (HEN.out _).mono ?_
  rintro e w4 ⟨ae, ce, rfl, hoe, hb4⟩
  have HO4 := Lib.hid hoe
  have HB4 := Lib.hid (HB3.out.trans (hb4.mono HB3.out.size))
  clear hoe hb4 HB3
  go_wp2_with fail
  refine (EngelValue_any ae ce E _ HO4.out.ints (by omega)).mono ?_
  rintro e w5 ⟨rfl, hb5⟩
  rw [HE1.out, HE2.out, HE3.out]
  have HO5 := Lib.hid (HO4.out.kept hb5)
  have HB5 := Lib.hid (HB4.out.trans (hb5.mono HB4.out.size))
  clear hb5 HB4 HO4
  go_wp2_with fail
  have hEI := HO5.out.ints
  obtain ⟨hq1, -, be, oe, hae, hce⟩ := hEI
  have HAE := Lib.hid hae
  have HCE := Lib.hid hce
  clear hae hce
  go_loop [85] (fun i => ∃ k : Nat, k ≤ E.length ∧ i = .int .i64 k) (fun i => E.length - (intOf i).toNat)
  case atStart => exact ⟨0, Nat.zero_le _, rfl⟩
  case round =>
  obtain ⟨k, hk, rfl⟩ := hrel
  by_cases hlt : k < E.length
  · obtain ⟨rfl, -⟩ := HAE.out (by omega)
    have hcx := HCE.out k hlt
    obtain ⟨r1, r2⟩ := HE.out k hlt
    by_cases hk0 : k = 0
    · subst hk0
      rw [Nat.add_zero] at hcx
      clear r2
      generalize E[0] = ek at *
      go_wp2
      go_round
      case rel => exact ⟨_, _, _, _, ⟨1, by omega, by go_num⟩, rfl, rfl, rfl, rfl⟩
      case measure => simp [intOf]; omega
    · obtain ⟨j, rfl⟩ : ∃ j, k = j + 1 := ⟨k - 1, by omega⟩
      have hcy := HCE.out j (by omega)
      have r3 := r2 (by omega)
      simp only [Nat.add_sub_cancel] at r3
      clear r2
      generalize E[j + 1] = ek at *
      generalize E[j] = ej at *
      have hz : (0 : Int) < (j : Int) + 1 := by omega
      go_wp2
      go_round
      case rel => exact ⟨_, _, _, _, ⟨j + 2, by omega, by go_num⟩, rfl, rfl, rfl, rfl⟩
      case measure => simp [intOf]; omega
  go_wp2_with fail
  refine (HGR.out _).mono ?_
  rintro e w6 ⟨ag, cg, rfl, hog, hb6⟩
  have HOG := Lib.hid hog
  have HB6 := Lib.hid (HB5.out.trans (hb6.mono HB5.out.size))
  clear hog hb6 HB5 HO5 HCE HAE
  cases gb
  · go_wp2_with fail
    go_loop [20, 21] (fun dv i => ∃ k : Nat, k ≤ N ∧ i = .int .i64 ((k : Int) + 1) ∧ dv = .int .i64 (dvc (N : Int) k)) (fun _ i => N + 1 - (intOf i).toNat)
    case atStart => exact ⟨0, Nat.zero_le _, rfl, rfl⟩
    case round =>
    obtain ⟨k, hk, rfl, rfl⟩ := hrel
    have hdb := dvc_bd (N : Int) k
    by_cases hlt : k < N
    · have hle : (k : Int) + 1 ≤ (N : Int) := by omega
      cases hd : ((N : Int) % ((k : Int) + 1) == 0)
      · have HS : Hid (dvc (N : Int) (k + 1) = dvc (N : Int) k) := by show _ = _; rw [dvc, hd]; simp
        go_wp2_with (go_at_call 9; refine (btoi_any _ _).mono ?_; rintro e w' ⟨rfl, rfl⟩)
        go_round
        case rel => exact ⟨k + 1, by omega, by go_num, by rw [HS.out]⟩
        case measure => simp [intOf]; omega
      · have HS : Hid (dvc (N : Int) (k + 1) = dvc (N : Int) k + 1) := by show _ = _; rw [dvc, hd]; simp
        go_wp2_with (go_at_call 9; refine (btoi_any _ _).mono ?_; rintro e w' ⟨rfl, rfl⟩)
        go_round
        case rel => exact ⟨k + 1, by omega, by go_num, by rw [HS.out]⟩
        case measure => simp [intOf]; omega
    have hge : (N : Int) < (k : Int) + 1 := by omega
    obtain rfl : N = k := by omega
    have hdv := dvc_bd (N : Int) N
    generalize dvc (N : Int) N = dv at *
    go_wp2_with fail
    refine (HPF.out _).mono ?_
    rintro e w8 ⟨v8, rfl, hos, hb8⟩
    obtain ⟨ap, cp, rfl, hss⟩ := hos.ss
    have HSS := Lib.hid hss
    have HB8 := Lib.hid (HB6.out.trans (hb8.mono HB6.out.size))
    clear hos hss hb8
    go_wp2_with fail
    go_loopw [177] (fun i wr => ∃ k : Nat, k ≤ PR.length ∧ i = .int .i64 k ∧ Below w8.heap.size w8 wr) (fun i _ => PR.length - (intOf i).toNat)
    case atStart => exact ⟨0, Nat.zero_le _, rfl, Below.refl _ _⟩
    case round =>
    obtain ⟨k, hk, rfl, hb⟩ := hrel
    by_cases hlt : k < PR.length
    · obtain ⟨bp, gp, rfl, hcell, hrl, hrow⟩ := (HSS.out.below hb (Nat.le_refl _)).at k hlt
      obtain ⟨r0, r1, hr, h1, h2, h3, h4⟩ := rowOK_of (HP1.out _ (List.getElem_mem hlt))
      rw [hr] at hrow
      have hI := hrow.ints
      obtain ⟨-, -, b', o', ha', hc'⟩ := hI
      have c0 := hc' 0 (by simp)
      have c1 := hc' 1 (by simp)
      obtain ⟨e', -⟩ := ha' (by simp)
      simp only [Option.some.injEq, Addr.mk.injEq, and_true] at e'
      obtain ⟨rfl, rfl⟩ := e'
      simp only [Nat.zero_add, List.getElem_cons_zero, List.getElem_cons_succ] at c0 c1
      have m0 : 0 ≤ r0 * r1 := Int.mul_nonneg (by omega) (by omega)
      have m1 : r0 * r1 ≤ 1000000 * 1000000 := Int.mul_le_mul (by omega) (by omega) (by omega) (by omega)
      have HB := Lib.hid hb
      clear hb hrl hrow ha' hc' hr
      have hw1 : IntKind.i64.wrap (r0 + r1) = r0 + r1 := by rw [IntKind.wrap_i64]; omega
      have hw2 : IntKind.i64.wrap (r0 * r1) = r0 * r1 := by rw [IntKind.wrap_i64]; omega
      go_wp2
      go_quiet (fail)
      go_wp2
      go_roundw
      case rel => exact ⟨k + 1, by omega, by go_num, below_drewN HB.out _⟩
      case measure => simp [intOf]; omega
    have HB9 := Lib.hid (HB8.out.trans (hb.mono HB8.out.size))
    clear hb HB8
    go_wp2_with fail
    refine (HSY.out _).mono ?_
    rintro e w10 ⟨as', cs, rfl, hos, hb10⟩
    have HOS := Lib.hid hos
    have HB10 := Lib.hid (HB9.out.trans (hb10.mono HB9.out.size))
    clear hos hb10 HB9
    go_wp2_with fail
    refine (HUS.out _ as' cs HOS.out.ints).mono ?_
    rintro e w11 ⟨rfl, hb11⟩
    have HOS11 := Lib.hid (HOS.out.kept hb11)
    have HB11 := Lib.hid (HB10.out.trans (hb11.mono HB10.out.size))
    clear hb11 HB10 HOS
    go_wp2_with fail
    refine (HFW.out _).mono ?_
    rintro e w' ⟨rfl, rfl⟩
    go_wp2_with fail
    refine (HCP.out _).mono ?_
    rintro e w12 ⟨rfl, hb12⟩
    have HOS12 := Lib.hid (HOS11.out.kept hb12)
    have HB12 := Lib.hid (HB11.out.trans (hb12.mono HB11.out.size))
    clear hb12 HB11 HOS11
    have hSI := HOS12.out.ints
    obtain ⟨hsc, -, bs, os, has, hcs⟩ := hSI
    obtain ⟨rfl, -⟩ := has (by simp)
    have c0 := hcs 0 (by simp)
    have c1 := hcs 1 (by simp)
    have c2 := hcs 2 (by simp)
    have c3 := hcs 3 (by simp)
    have c4 := hcs 4 (by simp)
    simp only [Nat.add_zero, List.getElem_cons_zero, List.getElem_cons_succ] at c0 c1 c2 c3 c4
    have hp2 := HP2.out
    have hkf := HK.out
    clear hcs has
    go_wp2_with fail
    have hwa : IntKind.i64.wrap (2 * (PR.length : Int)) = 2 * PR.length := by rw [IntKind.wrap_i64]; omega
    have hwb : IntKind.i64.wrap (dv + 1) = dv + 1 := by rw [IntKind.wrap_i64]; omega
    have hwc : IntKind.i64.wrap 6 = 6 := by decide
    have hwd : IntKind.i64.wrap 42 = 42 := by decide
    have hwe : IntKind.i64.wrap 1806 = 1806 := by decide
    have hwf : IntKind.i64.wrap 3263442 = 3263442 := by decide
    have hwq : IntKind.i64.wrap (q / p) = q / p := by rw [IntKind.wrap_i64]; omega
    by_cases hqp : q % p = 0
    · have hqp2 : (q % p == 0) = true := by rw [hqp]; rfl
      by_cases hle12 : q / p ≤ 12
      · have hk1 : (kf == 1) = true := by rw [hkf, hqp2, decide_eq_true hle12]; rfl
        have hk2 : kf = 1 := by simpa using hk1
        subst hk2
        clear hkf hk1
        go_quiet (fail)
        go_wp2
        go_ret
        exact ⟨rfl, below_drewN HB12.out _⟩
      · have hk1 : (kf == 1) = false := by rw [hkf, hqp2, decide_eq_false hle12]; rfl
        clear hkf
        go_quiet (fail)
        go_wp2
        go_ret
        exact ⟨rfl, below_drewN HB12.out _⟩
    · have hqp2 : (q % p == 0) = false := by rw [beq_eq_false_iff_ne]; exact hqp
      have hk1 : (kf == 1) = false := by rw [hkf, hqp2]; rfl
      clear hkf
      go_quiet (fail)
      go_wp2
      go_ret
      exact ⟨rfl, below_drewN HB12.out _⟩
  · obtain ⟨g1, g2, g3, g4⟩ := HG.out rfl
    have HG1 := Lib.hid g1
    have HG2 := Lib.hid g2
    have HG3 := Lib.hid g3
    have HG4 := Lib.hid g4
    clear g1 g2 g3 g4 HG
    go_wp2_with fail
    refine (UnitSum_any ag cg G _ HOG.out.ints).mono ?_
    rintro e w7 ⟨rfl, hb7⟩
    rw [HG2.out, HG3.out, HG4.out]
    have HOG7 := Lib.hid (HOG.out.kept hb7)
    have HB7 := Lib.hid (HB6.out.trans (hb7.mono HB6.out.size))
    clear hb7 HB6 HOG
    go_wp2_with fail
    have hGI := HOG7.out.ints
    obtain ⟨hq2, -, bg, og, hag, hcg⟩ := hGI
    have HAG := Lib.hid hag
    have HCG := Lib.hid hcg
    clear hag hcg
    go_loop [136] (fun i => ∃ k : Nat, k ≤ G.length ∧ i = .int .i64 k) (fun i => G.length - (intOf i).toNat)
    case atStart => exact ⟨0, Nat.zero_le _, rfl⟩
    case round =>
    obtain ⟨k, hk, rfl⟩ := hrel
    by_cases hlt : k < G.length
    · obtain ⟨rfl, -⟩ := HAG.out (by omega)
      have hcx := HCG.out k hlt
      obtain ⟨r1, r2⟩ := HG1.out k hlt
      by_cases hk0 : k = 0
      · subst hk0
        rw [Nat.add_zero] at hcx
        clear r2
        generalize G[0] = ek at *
        go_wp2
        go_round
        case rel => first | exact ⟨1, by omega, by go_num⟩ | exact ⟨_, ⟨1, by omega, by go_num⟩, rfl⟩ | exact ⟨_, _, ⟨1, by omega, by go_num⟩, rfl, rfl⟩ | exact ⟨_, _, _, ⟨1, by omega, by go_num⟩, rfl, rfl, rfl⟩ | exact ⟨_, _, _, _, ⟨1, by omega, by go_num⟩, rfl, rfl, rfl, rfl⟩ | exact ⟨_, _, _, _, _, ⟨1, by omega, by go_num⟩, rfl, rfl, rfl, rfl, rfl⟩
        case measure => simp [intOf]; omega
      · obtain ⟨j, rfl⟩ : ∃ j, k = j + 1 := ⟨k - 1, by omega⟩
        have hcy := HCG.out j (by omega)
        have r3 := r2 (by omega)
        simp only [Nat.add_sub_cancel] at r3
        clear r2
        generalize G[j + 1] = ek at *
        generalize G[j] = ej at *
        have hz : (0 : Int) < (j : Int) + 1 := by omega
        go_wp2
        go_round
        case rel => first | exact ⟨j + 2, by omega, by go_num⟩ | exact ⟨_, ⟨j + 2, by omega, by go_num⟩, rfl⟩ | exact ⟨_, _, ⟨j + 2, by omega, by go_num⟩, rfl, rfl⟩ | exact ⟨_, _, _, ⟨j + 2, by omega, by go_num⟩, rfl, rfl, rfl⟩ | exact ⟨_, _, _, _, ⟨j + 2, by omega, by go_num⟩, rfl, rfl, rfl, rfl⟩ | exact ⟨_, _, _, _, _, ⟨j + 2, by omega, by go_num⟩, rfl, rfl, rfl, rfl, rfl⟩
        case measure => simp [intOf]; omega
    go_wp2_with fail
    go_loop [20, 21] (fun dv i => ∃ k : Nat, k ≤ N ∧ i = .int .i64 ((k : Int) + 1) ∧ dv = .int .i64 (dvc (N : Int) k)) (fun _ i => N + 1 - (intOf i).toNat)
    case atStart => exact ⟨0, Nat.zero_le _, rfl, rfl⟩
    case round =>
    obtain ⟨k, hk, rfl, rfl⟩ := hrel
    have hdb := dvc_bd (N : Int) k
    by_cases hlt : k < N
    · have hle : (k : Int) + 1 ≤ (N : Int) := by omega
      cases hd : ((N : Int) % ((k : Int) + 1) == 0)
      · have HS : Hid (dvc (N : Int) (k + 1) = dvc (N : Int) k) := by show _ = _; rw [dvc, hd]; simp
        go_wp2_with (go_at_call 9; refine (btoi_any _ _).mono ?_; rintro e w' ⟨rfl, rfl⟩)
        go_round
        case rel => exact ⟨k + 1, by omega, by go_num, by rw [HS.out]⟩
        case measure => simp [intOf]; omega
      · have HS : Hid (dvc (N : Int) (k + 1) = dvc (N : Int) k + 1) := by show _ = _; rw [dvc, hd]; simp
        go_wp2_with (go_at_call 9; refine (btoi_any _ _).mono ?_; rintro e w' ⟨rfl, rfl⟩)
        go_round
        case rel => exact ⟨k + 1, by omega, by go_num, by rw [HS.out]⟩
        case measure => simp [intOf]; omega
    have hge : (N : Int) < (k : Int) + 1 := by omega
    obtain rfl : N = k := by omega
    have hdv := dvc_bd (N : Int) N
    generalize dvc (N : Int) N = dv at *
    go_wp2_with fail
    refine (HPF.out _).mono ?_
    rintro e w8 ⟨v8, rfl, hos, hb8⟩
    obtain ⟨ap, cp, rfl, hss⟩ := hos.ss
    have HSS := Lib.hid hss
    have HB8 := Lib.hid (HB7.out.trans (hb8.mono HB7.out.size))
    clear hos hss hb8
    go_wp2_with fail
    go_loopw [177] (fun i wr => ∃ k : Nat, k ≤ PR.length ∧ i = .int .i64 k ∧ Below w8.heap.size w8 wr) (fun i _ => PR.length - (intOf i).toNat)
    case atStart => exact ⟨0, Nat.zero_le _, rfl, Below.refl _ _⟩
    case round =>
    obtain ⟨k, hk, rfl, hb⟩ := hrel
    by_cases hlt : k < PR.length
    · obtain ⟨bp, gp, rfl, hcell, hrl, hrow⟩ := (HSS.out.below hb (Nat.le_refl _)).at k hlt
      obtain ⟨r0, r1, hr, h1, h2, h3, h4⟩ := rowOK_of (HP1.out _ (List.getElem_mem hlt))
      rw [hr] at hrow
      have hI := hrow.ints
      obtain ⟨-, -, b', o', ha', hc'⟩ := hI
      have c0 := hc' 0 (by simp)
      have c1 := hc' 1 (by simp)
      obtain ⟨e', -⟩ := ha' (by simp)
      simp only [Option.some.injEq, Addr.mk.injEq, and_true] at e'
      obtain ⟨rfl, rfl⟩ := e'
      simp only [Nat.zero_add, List.getElem_cons_zero, List.getElem_cons_succ] at c0 c1
      have m0 : 0 ≤ r0 * r1 := Int.mul_nonneg (by omega) (by omega)
      have m1 : r0 * r1 ≤ 1000000 * 1000000 := Int.mul_le_mul (by omega) (by omega) (by omega) (by omega)
      have HB := Lib.hid hb
      clear hb hrl hrow ha' hc' hr
      have hw1 : IntKind.i64.wrap (r0 + r1) = r0 + r1 := by rw [IntKind.wrap_i64]; omega
      have hw2 : IntKind.i64.wrap (r0 * r1) = r0 * r1 := by rw [IntKind.wrap_i64]; omega
      go_wp2
      go_quiet (fail)
      go_wp2
      go_roundw
      case rel => exact ⟨k + 1, by omega, by go_num, below_drewN HB.out _⟩
      case measure => simp [intOf]; omega
    have HB9 := Lib.hid (HB8.out.trans (hb.mono HB8.out.size))
    clear hb HB8
    go_wp2_with fail
    refine (HSY.out _).mono ?_
    rintro e w10 ⟨as', cs, rfl, hos, hb10⟩
    have HOS := Lib.hid hos
    have HB10 := Lib.hid (HB9.out.trans (hb10.mono HB9.out.size))
    clear hos hb10 HB9
    go_wp2_with fail
    refine (HUS.out _ as' cs HOS.out.ints).mono ?_
    rintro e w11 ⟨rfl, hb11⟩
    have HOS11 := Lib.hid (HOS.out.kept hb11)
    have HB11 := Lib.hid (HB10.out.trans (hb11.mono HB10.out.size))
    clear hb11 HB10 HOS
    go_wp2_with fail
    refine (HFW.out _).mono ?_
    rintro e w' ⟨rfl, rfl⟩
    go_wp2_with fail
    refine (HCP.out _).mono ?_
    rintro e w12 ⟨rfl, hb12⟩
    have HOS12 := Lib.hid (HOS11.out.kept hb12)
    have HB12 := Lib.hid (HB11.out.trans (hb12.mono HB11.out.size))
    clear hb12 HB11 HOS11
    have hSI := HOS12.out.ints
    obtain ⟨hsc, -, bs, os, has, hcs⟩ := hSI
    obtain ⟨rfl, -⟩ := has (by simp)
    have c0 := hcs 0 (by simp)
    have c1 := hcs 1 (by simp)
    have c2 := hcs 2 (by simp)
    have c3 := hcs 3 (by simp)
    have c4 := hcs 4 (by simp)
    simp only [Nat.add_zero, List.getElem_cons_zero, List.getElem_cons_succ] at c0 c1 c2 c3 c4
    have hp2 := HP2.out
    have hkf := HK.out
    clear hcs has
    go_wp2_with fail
    have hwa : IntKind.i64.wrap (2 * (PR.length : Int)) = 2 * PR.length := by rw [IntKind.wrap_i64]; omega
    have hwb : IntKind.i64.wrap (dv + 1) = dv + 1 := by rw [IntKind.wrap_i64]; omega
    have hwc : IntKind.i64.wrap 6 = 6 := by decide
    have hwd : IntKind.i64.wrap 42 = 42 := by decide
    have hwe : IntKind.i64.wrap 1806 = 1806 := by decide
    have hwf : IntKind.i64.wrap 3263442 = 3263442 := by decide
    have hwq : IntKind.i64.wrap (q / p) = q / p := by rw [IntKind.wrap_i64]; omega
    by_cases hqp : q % p = 0
    · have hqp2 : (q % p == 0) = true := by rw [hqp]; rfl
      by_cases hle12 : q / p ≤ 12
      · have hk1 : (kf == 1) = true := by rw [hkf, hqp2, decide_eq_true hle12]; rfl
        have hk2 : kf = 1 := by simpa using hk1
        subst hk2
        clear hkf hk1
        go_quiet (fail)
        go_wp2
        go_ret
        exact ⟨rfl, below_drewN HB12.out _⟩
      · have hk1 : (kf == 1) = false := by rw [hkf, hqp2, decide_eq_false hle12]; rfl
        clear hkf
        go_quiet (fail)
        go_wp2
        go_ret
        exact ⟨rfl, below_drewN HB12.out _⟩
    · have hqp2 : (q % p == 0) = false := by rw [beq_eq_false_iff_ne]; exact hqp
      have hk1 : (kf == 1) = false := by rw [hkf, hqp2]; rfl
      clear hkf
      go_quiet (fail)
      go_wp2
      go_ret
      exact ⟨rfl, below_drewN HB12.out _⟩

end Go.Proofs.Ytkcjjhdmklhepaa
