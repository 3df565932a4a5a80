/- The law on abacuses: the walk. Conditions: none. -/
import Derived.Test.YtkcjjhdmklhepaaAbacusK
import Derived.Test.YtkcjjhdmklhepaaMakeB
import Derived.Test.YtkcjjhdmklhepaaFnKit
namespace Go.Proofs.Ytkcjjhdmklhepaa
set_option linter.unusedVariables false
open Go.RowKit

theorem DigitSum_a (n : Int) (w : World) (hn : inB n 0 1000000000000 = true) :
    Calls Try.prog 41 #[.int .i64 n, .int .i64 10] w fun e w' => e = .returned (.int .i64 (dsum n 10)) ∧ Below w.heap.size w w' := by
  have hb : inB 10 2 16 = true := rfl
  obtain ⟨hn0, hn1⟩ := inB_t.1 hn
  obtain ⟨hs0, hs1⟩ := digs_sum_bd n 10 (by decide) (by decide)
  have HM : Hid (∀ d ∈ digs n 10, 0 ≤ d) := fun d hd => (digs_mem n 10 (by decide) d hd).1
  have HS : Hid (sumL (digs n 10) ≤ 4611686018427387904) := by show _ ≤ _; omega
  clear hs0 hs1
  go_enter Try.func41, Try.ntmps41
  go_wp2_with (first | (go_at_call 46; refine (BaseOk_any _ _).mono ?_; rintro e w' ⟨rfl, rfl⟩) | (go_at_call 54; refine (isNumber_any _ _).mono ?_; rintro e w' ⟨rfl, rfl⟩) | (go_at_call 47; refine (within_any _ _ _ _).mono ?_; rintro e w' ⟨rfl, rfl⟩))
  refine (digitsOf_any n 10 w (by omega) (by omega) (by omega)).mono ?_
  rintro e w1 ⟨ad, cd, rfl, hown, hb1⟩
  have HO := Lib.hid hown
  have HB := Lib.hid hb1
  clear hown hb1
  go_wp2_with fail
  refine (sumOf_any ad cd (digs n 10) _ HO.out.ints HM.out HS.out).mono ?_
  rintro e w2 ⟨rfl, rfl⟩
  go_wp2_with fail
  go_ret
  exact ⟨rfl, HB.out⟩
theorem CountDigits_a (n : Int) (w : World) (hn : inB n 0 1000000000000 = true) :
    Calls Try.prog 43 #[.int .i64 n, .int .i64 10] w fun e w' => e = .returned (.int .i64 (digs n 10).length) ∧ Below w.heap.size w w' := by
  have hb : inB 10 2 16 = true := rfl
  obtain ⟨hn0, hn1⟩ := inB_t.1 hn
  go_enter Try.func43, Try.ntmps43
  go_wp2_with (first | (go_at_call 46; refine (BaseOk_any _ _).mono ?_; rintro e w' ⟨rfl, rfl⟩) | (go_at_call 54; refine (isNumber_any _ _).mono ?_; rintro e w' ⟨rfl, rfl⟩) | (go_at_call 47; refine (within_any _ _ _ _).mono ?_; rintro e w' ⟨rfl, rfl⟩))
  refine (digitsOf_any n 10 w (by omega) (by omega) (by omega)).mono ?_
  rintro e w1 ⟨ad, cd, rfl, hown, hb1⟩
  have HB := Lib.hid hb1
  clear hown hb1
  go_wp2_with fail
  go_ret
  exact ⟨rfl, HB.out⟩
theorem OwnI.cut {w : World} {base : Nat} {a : Option Addr} {cap : Nat} {xs : List Int} (h : OwnI w base a cap xs) : Ints w w.heap.size a cap xs := h.ints
set_option maxRecDepth 20000 in
set_option maxHeartbeats 4000000 in
theorem law_FnAbacus (a : Option Addr) (len cap : Nat) (zs : List Int) (w : World) (hz : IsRow .u8 w a len cap zs) :
    Calls Try.prog 5 #[.slice a len cap] w fun e w' => e = .returned (.bool true) ∧ Below w.heap.size w w' := by
  obtain ⟨xs, rfl, hx⟩ := hz.opB
  have hl := hx.len
  clear hz
  by_cases hlen : xs.length ≤ 1048576
  rotate_left
  · go_enter Try.func5, Try.ntmps5
    go_wp2
    go_ret
    exact ⟨rfl, Below.refl _ _⟩
  have HX := Lib.hid hx; clear hx
  go_enter Try.func5, Try.ntmps5
  go_wp2_with fail
  refine (MakeNum_any a cap xs 0 _ HX.out hlen (by decide)).mono ?_
  rintro e w1 ⟨⟨x, rfl, x0, x1⟩, hb1⟩
  have HX1 := Lib.hid ((HX.out.below hb1).mono hb1.size)
  have HB1 := Lib.hid hb1
  clear hb1 HX
  go_wp2_with fail
  obtain ⟨k, hk⟩ : ∃ k : Nat, 2 + x % 5 = k := ⟨(2 + x % 5).toNat, by omega⟩
  have hk0 : 2 ≤ k := by omega
  have hk1 : k ≤ 6 := by omega
  rw [hk]
  clear hk x0 x1
  refine (MakeRods_any a cap xs 2 k _ HX1.out hlen (by decide) (by omega) (by omega)).mono ?_
  rintro e w2 ⟨X, hXl, hXd, ax, cx, rfl, hox, hb2⟩
  subst hXl
  have HX2 := Lib.hid ((HX1.out.below hb2).mono hb2.size)
  have HB2 := Lib.hid (HB1.out.trans (hb2.mono HB1.out.size))
  have HOX := Lib.hid hox.ints
  have HDX := Lib.hid hXd
  clear hb2 HX1 HB1 hox hXd
  go_wp2_with fail
  refine (MakeRods_any a cap xs 14 X.length _ HX2.out hlen (by decide) (by omega) (by omega)).mono ?_
  rintro e w3 ⟨Y, hYl, hYd, ay, cy, rfl, hoy, hb3⟩
  have HX3 := Lib.hid ((HX2.out.below hb3).mono hb3.size)
  have HB3 := Lib.hid (HB2.out.trans (hb3.mono HB2.out.size))
  have HOX3 := Lib.hid ((HOX.out.below hb3).mono hb3.size)
  have HOY := Lib.hid hoy.ints
  have HDY := Lib.hid hYd
  have HYL := Lib.hid hYl
  have hYc : Y.length ≤ 6 := by omega
  clear hb3 HX2 HB2 HOX hoy hYd hYl
  go_wp2_with fail
  refine (MakeRods_any a cap xs 26 X.length _ HX3.out hlen (by decide) (by omega) (by omega)).mono ?_
  rintro e w4 ⟨Z, hZl, hZd, az, cz, rfl, hoz, hb4⟩
  have HB4 := Lib.hid (HB3.out.trans (hb4.mono HB3.out.size))
  have HOX4 := Lib.hid ((HOX3.out.below hb4).mono hb4.size)
  have HOY4 := Lib.hid ((HOY.out.below hb4).mono hb4.size)
  have HOZ := Lib.hid hoz.ints
  have HDZ := Lib.hid hZd
  have HZL := Lib.hid hZl
  have hZc : Z.length ≤ 6 := by omega
  clear hb4 HX3 HB3 HOX3 HOY hoz hZd hZl
  -- the facts
  have h1 : 1 ≤ X.length := by omega
  have h2 : X.length ≤ 10 := by omega
  have vX := rods_val HDX.out h1 h2
  have vY := rods_val HDY.out (by rw [HYL.out]; exact h1) (by omega)
  have hp := (pow10 X.length h2)
  obtain ⟨vX0, vX1, vX2⟩ := vX
  obtain ⟨vY0, vY1, vY2⟩ := vY
  rw [HYL.out] at vY2
  have bXY := rods_bead HDX.out HDY.out h1 h2 HYL.out
  have bYX := rods_bead HDY.out HDX.out (by rw [HYL.out]; exact h1) (by omega) HYL.out.symm
  have bXZ := rods_bead HDX.out HDZ.out h1 h2 HZL.out
  have bZY := rods_bead HDZ.out HDY.out (by rw [HZL.out]; exact h1) (by omega) (HYL.out.trans HZL.out.symm)
  have hsm := rods_same HDX.out HDY.out HYL.out
  have htri := beadS_tri X Z Y (HZL.out.symm) (HZL.out.trans HYL.out.symm)
  have hcm := beadS_comm Y X
  rw [HYL.out] at bYX
  rw [HZL.out] at bZY
  obtain ⟨b1, b2, b3⟩ := bXY
  obtain ⟨c1, c2, c3⟩ := bYX
  obtain ⟨d1, d2, d3⟩ := bXZ
  obtain ⟨e1, e2, e3⟩ := bZY
  have hok := rods_ok HDX.out h1 h2
  have hao := rods_addOk HDX.out h1 hk1 vY1 vY2
  have had := rods_add HDX.out h1 hk1 vY1 vY2
  have hso := rods_subOk HDX.out HDY.out h1 hk1 HYL.out
  have hsu := rods_sub HDX.out HDY.out h1 hk1 HYL.out
  obtain ⟨ho1, ho2⟩ := rods_of HDX.out h1 hk1
  have hni := rods_nines HDX.out h1 hk1
  obtain ⟨hw1, hw2, hw3, hw4⟩ := rods_wheel HDX.out h1 hk1
  have hsl := subR_len X Y
  have hnl := ninesR_len X
  have hal := addL_len X (valL 10 Y)
  obtain ⟨hd1, hd2⟩ := dsum_bd (valL 10 X) 10 (by decide) (by decide)
  have hn12 : inB (valL 10 X) 0 1000000000000 = true := inB_t.2 ⟨vX1, by omega⟩
  have HVX : Hid (∀ W : World, Ints W W.heap.size ax cx X → Calls Try.prog 32 #[.slice ax X.length cx] W fun e w' => e = .returned (.int .i64 (valL 10 X)) ∧ Below W.heap.size W w') := fun W h => by rw [← vX0]; exact AbacusValue_any _ _ _ _ h
  have HVY : Hid (∀ W : World, Ints W W.heap.size ay cy Y → Calls Try.prog 32 #[.slice ay Y.length cy] W fun e w' => e = .returned (.int .i64 (valL 10 Y)) ∧ Below W.heap.size W w') := fun W h => by rw [← vY0]; exact AbacusValue_any _ _ _ _ h
  have HOK : Hid (∀ W : World, Ints W W.heap.size ax cx X → Calls Try.prog 34 #[.slice ax X.length cx] W fun e w' => e = .returned (.bool true) ∧ Below W.heap.size W w') := fun W h => by rw [← hok]; exact AbacusOk_any _ _ _ _ h
  have HXY : Hid (∀ W : World, Ints W W.heap.size ax cx X → Ints W W.heap.size ay cy Y → Calls Try.prog 33 #[.slice ax X.length cx, .slice ay Y.length cy] W fun e w' => e = .returned (.int .i64 (beadS X Y)) ∧ Below W.heap.size W w') := fun W h h' => by rw [← b1]; exact BeadMoves_any _ _ _ _ _ _ _ h h'
  have HYX : Hid (∀ W : World, Ints W W.heap.size ax cx X → Ints W W.heap.size ay cy Y → Calls Try.prog 33 #[.slice ay Y.length cy, .slice ax X.length cx] W fun e w' => e = .returned (.int .i64 (beadS X Y)) ∧ Below W.heap.size W w') := fun W h h' => by rw [← hcm, ← c1]; exact BeadMoves_any _ _ _ _ _ _ _ h' h
  have HXZ : Hid (∀ W : World, Ints W W.heap.size ax cx X → Ints W W.heap.size az cz Z → Calls Try.prog 33 #[.slice ax X.length cx, .slice az Z.length cz] W fun e w' => e = .returned (.int .i64 (beadS X Z)) ∧ Below W.heap.size W w') := fun W h h' => by rw [← d1]; exact BeadMoves_any _ _ _ _ _ _ _ h h'
  have HZY : Hid (∀ W : World, Ints W W.heap.size az cz Z → Ints W W.heap.size ay cy Y → Calls Try.prog 33 #[.slice az Z.length cz, .slice ay Y.length cy] W fun e w' => e = .returned (.int .i64 (beadS Z Y)) ∧ Below W.heap.size W w') := fun W h h' => by rw [← e1]; exact BeadMoves_any _ _ _ _ _ _ _ h h'
  have HSM : Hid (∀ W : World, Ints W W.heap.size ax cx X → Ints W W.heap.size ay cy Y → Calls Try.prog 35 #[.slice ax X.length cx, .slice ay Y.length cy] W fun e w' => e = .returned (.bool (beadS X Y == 0)) ∧ Below W.heap.size W w') := fun W h h' => by rw [hsm]; exact same_any _ _ _ _ _ _ _ h h' HYL.out
  have HAD : Hid (∀ W : World, Ints W W.heap.size ax cx X → Calls Try.prog 36 #[.slice ax X.length cx, .int .i64 (valL 10 Y)] W (RetIIB W (addL X (valL 10 Y)) (addM X (valL 10 Y)) (decide (valL 10 X + valL 10 Y < 10 ^ X.length)))) := fun W h => by rw [← hao]; exact AbacusAdd_any _ _ _ _ _ h
  have HSB : Hid (∀ W : World, Ints W W.heap.size ax cx X → Ints W W.heap.size ay cy Y → Calls Try.prog 37 #[.slice ax X.length cx, .slice ay Y.length cy] W (RetIB W (subR X Y) (decide (valL 10 Y ≤ valL 10 X)))) := fun W h h' => by rw [← hso]; exact SubtractByNines_any _ _ _ _ _ _ _ h h'
  have HOF : Hid (∀ W : World, Calls Try.prog 38 #[.int .i64 (valL 10 X), .int .i64 X.length] W (RetIB W X true)) := fun W => by
    have h := AbacusOf_any (valL 10 X) X.length W
    rwa [ho1, ho2] at h
  have HNI : Hid (∀ W : World, Ints W W.heap.size ax cx X → Calls Try.prog 39 #[.slice ax X.length cx] W (RetI W (ninesR X))) := fun W h => NinesOf_any _ _ _ _ h
  have HNV : Hid (∀ (W : World) an cn, Ints W W.heap.size an cn (ninesR X) → Calls Try.prog 32 #[.slice an (ninesR X).length cn] W fun e w' => e = .returned (.int .i64 (10 ^ X.length - 1 - valL 10 X)) ∧ Below W.heap.size W w') := fun W an cn h => by rw [← hni]; exact AbacusValue_any _ _ _ _ h
  have HPW : Hid (∀ W : World, Calls Try.prog 8 #[.int .i64 10, .int .i64 X.length] W fun e w' => e = .returned (.int .i64 (10 ^ X.length)) ∧ W = w') := fun W => lpower_any 10 X.length W (by decide) (by omega) (by omega)
  have HWH : Hid (∀ W : World, Calls Try.prog 40 #[.int .i64 (valL 10 X), .int .i64 X.length] W fun e w' => e = .returned (.int .i64 (wheel (valL 10 X) X.length)) ∧ W = w') := fun W => WheelTurns_any _ _ W
  have HRI : Hid (∀ W : World, Calls Try.prog 42 #[.int .i64 (valL 10 X), .int .i64 X.length] W fun e w' => e = .returned (.int .i64 (digs (valL 10 X) 10).length) ∧ Below W.heap.size W w') := fun W => by rw [← hw2]; exact LongestRipple_any _ _ W
  have HDS : Hid (∀ W : World, Calls Try.prog 41 #[.int .i64 (valL 10 X), .int .i64 10] W fun e w' => e = .returned (.int .i64 (dsum (valL 10 X) 10)) ∧ Below W.heap.size W w') := fun W => DigitSum_a _ W hn12
  have HCD : Hid (∀ W : World, Calls Try.prog 43 #[.int .i64 (valL 10 X), .int .i64 10] W fun e w' => e = .returned (.int .i64 (digs (valL 10 X) 10).length) ∧ Below W.heap.size W w') := fun W => CountDigits_a _ W hn12
  have HSU : Hid (valL 10 Y ≤ valL 10 X → ∀ (W : World) ar cr, Ints W W.heap.size ar cr (subR X Y) → Calls Try.prog 32 #[.slice ar (subR X Y).length cr] W fun e w' => e = .returned (.int .i64 (valL 10 X - valL 10 Y)) ∧ Below W.heap.size W w') := fun h W ar cr hi => by rw [← hsu h]; exact AbacusValue_any _ _ _ _ hi
  have HAV : Hid (valL 10 X + valL 10 Y < 10 ^ X.length → (∀ (W : World) as' cs, Ints W W.heap.size as' cs (addL X (valL 10 Y)) → Calls Try.prog 32 #[.slice as' (addL X (valL 10 Y)).length cs] W fun e w' => e = .returned (.int .i64 (valL 10 X + valL 10 Y)) ∧ Below W.heap.size W w')) := fun h W as' cs hi => by rw [← (had h).1]; exact AbacusValue_any _ _ _ _ hi
  have HAB : Hid (valL 10 X + valL 10 Y < 10 ^ X.length → ∃ r : Int, r ≤ addM X (valL 10 Y) ∧ 0 ≤ addM X (valL 10 Y) ∧ addM X (valL 10 Y) ≤ 1000 ∧ (∀ (W : World) as' cs, Ints W W.heap.size ax cx X → Ints W W.heap.size as' cs (addL X (valL 10 Y)) → Calls Try.prog 33 #[.slice ax X.length cx, .slice as' (addL X (valL 10 Y)).length cs] W fun e w' => e = .returned (.int .i64 r) ∧ Below W.heap.size W w')) := fun h => ⟨_, (had h).2.1, (had h).2.2.2.1, (had h).2.2.2.2, fun W as' cs hi hj => BeadMoves_any _ _ _ _ _ _ _ hi hj⟩
  have HSX : Hid (∀ (W : World) ao co, Ints W W.heap.size ax cx X → Ints W W.heap.size ao co X → Calls Try.prog 35 #[.slice ao X.length co, .slice ax X.length cx] W fun e w' => e = .returned (.bool true) ∧ Below W.heap.size W w') := fun W ao co h h' => by
    have := same_any _ _ _ _ _ _ _ h' h rfl
    rwa [decide_eq_true (rfl : X = X)] at this
  have HW1 := Lib.hid hw1
  have hpk1 := hp.1
  have hpk2 := hp.2
  clear vX0 vY0 b1 c1 c2 c3 d1 e1 hsm hcm hok hao had hso hsu ho1 ho2 hni hw1 hw2 hn12 hp
  generalize beadS X Y = bXY at *
  generalize beadS X Z = bXZ at *
  generalize beadS Z Y = bZY at *
  generalize wheel (valL 10 X) X.length = wh at *
  generalize dsum (valL 10 X) 10 = ds at *
  generalize (digs (valL 10 X) 10).length = dl at *
  generalize addM X (valL 10 Y) = aM at *
  generalize addL X (valL 10 Y) = aL at *
  generalize subR X Y = sR at *
  generalize ninesR X = nR at *
  generalize valL 10 X = n at *
  generalize valL 10 Y = m at *
  generalize (10 : Int) ^ X.length = P at *
  go_wp2_with fail
  refine (HVX.out _ HOX4.out).mono ?_
  rintro e w5 ⟨rfl, hb⟩
  have HB5 := Lib.hid (HB4.out.trans (hb.mono HB4.out.size))
  have HOX5 := Lib.hid ((HOX4.out.below hb).mono hb.size)
  have HOY5 := Lib.hid ((HOY4.out.below hb).mono hb.size)
  have HOZ5 := Lib.hid ((HOZ.out.below hb).mono hb.size)
  clear hb HB4 HOX4 HOY4 HOZ
  go_wp2_with fail
  refine (HVY.out _ HOY5.out).mono ?_
  rintro e w6 ⟨rfl, hb⟩
  have HB6 := Lib.hid (HB5.out.trans (hb.mono HB5.out.size))
  have HOX6 := Lib.hid ((HOX5.out.below hb).mono hb.size)
  have HOY6 := Lib.hid ((HOY5.out.below hb).mono hb.size)
  have HOZ6 := Lib.hid ((HOZ5.out.below hb).mono hb.size)
  clear hb HB5 HOX5 HOY5 HOZ5
  go_wp2_with fail
  refine (HXY.out _ HOX6.out HOY6.out).mono ?_
  rintro e w7 ⟨rfl, hb⟩
  have HB7 := Lib.hid (HB6.out.trans (hb.mono HB6.out.size))
  have HOX7 := Lib.hid ((HOX6.out.below hb).mono hb.size)
  have HOY7 := Lib.hid ((HOY6.out.below hb).mono hb.size)
  have HOZ7 := Lib.hid ((HOZ6.out.below hb).mono hb.size)
  clear hb HB6 HOX6 HOY6 HOZ6
  go_wp2_with fail
  refine (HOK.out _ HOX7.out).mono ?_
  rintro e w8 ⟨rfl, hb⟩
  have HB8 := Lib.hid (HB7.out.trans (hb.mono HB7.out.size))
  have HOX8 := Lib.hid ((HOX7.out.below hb).mono hb.size)
  have HOY8 := Lib.hid ((HOY7.out.below hb).mono hb.size)
  have HOZ8 := Lib.hid ((HOZ7.out.below hb).mono hb.size)
  clear hb HB7 HOX7 HOY7 HOZ7
  go_wp2_with fail
  refine (HYX.out _ HOX8.out HOY8.out).mono ?_
  rintro e w9 ⟨rfl, hb⟩
  have HB9 := Lib.hid (HB8.out.trans (hb.mono HB8.out.size))
  have HOX9 := Lib.hid ((HOX8.out.below hb).mono hb.size)
  have HOY9 := Lib.hid ((HOY8.out.below hb).mono hb.size)
  have HOZ9 := Lib.hid ((HOZ8.out.below hb).mono hb.size)
  clear hb HB8 HOX8 HOY8 HOZ8
  go_wp2_with fail
  refine (HSM.out _ HOX9.out HOY9.out).mono ?_
  rintro e w10 ⟨rfl, hb⟩
  have HB10 := Lib.hid (HB9.out.trans (hb.mono HB9.out.size))
  have HOX10 := Lib.hid ((HOX9.out.below hb).mono hb.size)
  have HOY10 := Lib.hid ((HOY9.out.below hb).mono hb.size)
  have HOZ10 := Lib.hid ((HOZ9.out.below hb).mono hb.size)
  clear hb HB9 HOX9 HOY9 HOZ9
  go_wp2_with fail
  refine (HXZ.out _ HOX10.out HOZ10.out).mono ?_
  rintro e w11 ⟨rfl, hb⟩
  have HB11 := Lib.hid (HB10.out.trans (hb.mono HB10.out.size))
  have HOX11 := Lib.hid ((HOX10.out.below hb).mono hb.size)
  have HOY11 := Lib.hid ((HOY10.out.below hb).mono hb.size)
  have HOZ11 := Lib.hid ((HOZ10.out.below hb).mono hb.size)
  clear hb HB10 HOX10 HOY10 HOZ10
  go_wp2_with fail
  refine (HZY.out _ HOZ11.out HOY11.out).mono ?_
  rintro e w12 ⟨rfl, hb⟩
  have HB12 := Lib.hid (HB11.out.trans (hb.mono HB11.out.size))
  have HOX12 := Lib.hid ((HOX11.out.below hb).mono hb.size)
  have HOY12 := Lib.hid ((HOY11.out.below hb).mono hb.size)
  have HOZ12 := Lib.hid ((HOZ11.out.below hb).mono hb.size)
  clear hb HB11 HOX11 HOY11 HOZ11
  go_wp2_with fail
  refine (HAD.out _ HOX12.out).mono ?_
  rintro e w13 ⟨a5, c5, rfl, hown, hb⟩
  have HB13 := Lib.hid (HB12.out.trans (hb.mono HB12.out.size))
  have HOX13 := Lib.hid ((HOX12.out.below hb).mono hb.size)
  have HOY13 := Lib.hid ((HOY12.out.below hb).mono hb.size)
  have HOS13 := Lib.hid hown.ints
  clear hown
  clear hb HB12 HOX12 HOY12
  go_wp2_with fail
  refine (HPW.out _).mono ?_
  rintro e w' ⟨rfl, rfl⟩
  by_cases hsum : n + m < P
  · have hdec : decide (n + m < P) = true := decide_eq_true hsum
    rw [hdec]
    obtain ⟨rb, hr1, hr2, hr3, hr4⟩ := HAB.out hsum
    have HRB := Lib.hid hr4
    have HAV2 := Lib.hid (HAV.out hsum)
    clear hr4
    go_wp2_with fail
    refine (HAV2.out _ a5 c5 HOS13.out).mono ?_
    rintro e w14 ⟨rfl, hb⟩
    have HB14 := Lib.hid (HB13.out.trans (hb.mono HB13.out.size))
    have HOX14 := Lib.hid ((HOX13.out.below hb).mono hb.size)
    have HOY14 := Lib.hid ((HOY13.out.below hb).mono hb.size)
    have HOS14 := Lib.hid ((HOS13.out.below hb).mono hb.size)
    clear hb HB13 HOX13 HOY13 HOS13
    go_wp2_with fail
    refine (HRB.out _ a5 c5 HOX14.out HOS14.out).mono ?_
    rintro e w15 ⟨rfl, hb⟩
    have HB15 := Lib.hid (HB14.out.trans (hb.mono HB14.out.size))
    have HOX15 := Lib.hid ((HOX14.out.below hb).mono hb.size)
    have HOY15 := Lib.hid ((HOY14.out.below hb).mono hb.size)
    have HOS15 := Lib.hid ((HOS14.out.below hb).mono hb.size)
    clear hb HB14 HOX14 HOY14 HOS14
    go_wp2_with fail
    refine (HSB.out _ HOX15.out HOY15.out).mono ?_
    rintro e w16 ⟨a6, c6, rfl, hown, hb⟩
    have HB16 := Lib.hid (HB15.out.trans (hb.mono HB15.out.size))
    have HOX16 := Lib.hid ((HOX15.out.below hb).mono hb.size)
    have HOY16 := Lib.hid ((HOY15.out.below hb).mono hb.size)
    have HOS16 := Lib.hid ((HOS15.out.below hb).mono hb.size)
    have HOR16 := Lib.hid hown.ints
    clear hown
    clear hb HB15 HOX15 HOY15 HOS15
    go_wp2_with fail
    refine (HOF.out _).mono ?_
    rintro e w17 ⟨a7, c7, rfl, hown, hb⟩
    have HB17 := Lib.hid (HB16.out.trans (hb.mono HB16.out.size))
    have HOX17 := Lib.hid ((HOX16.out.below hb).mono hb.size)
    have HOY17 := Lib.hid ((HOY16.out.below hb).mono hb.size)
    have HOS17 := Lib.hid ((HOS16.out.below hb).mono hb.size)
    have HOR17 := Lib.hid ((HOR16.out.below hb).mono hb.size)
    have HOO17 := Lib.hid hown.ints
    clear hown
    clear hb HB16 HOX16 HOY16 HOS16 HOR16
    by_cases hge : m ≤ n
    · have hdg : decide (m ≤ n) = true := decide_eq_true hge
      rw [hdg]
      have HSU2 := Lib.hid (HSU.out hge)
      go_wp2_with fail
      refine (HSU2.out _ a6 c6 HOR17.out).mono ?_
      rintro e w18 ⟨rfl, hb⟩
      have HB18 := Lib.hid (HB17.out.trans (hb.mono HB17.out.size))
      have HOX18 := Lib.hid ((HOX17.out.below hb).mono hb.size)
      have HOY18 := Lib.hid ((HOY17.out.below hb).mono hb.size)
      have HOS18 := Lib.hid ((HOS17.out.below hb).mono hb.size)
      have HOR18 := Lib.hid ((HOR17.out.below hb).mono hb.size)
      have HOO18 := Lib.hid ((HOO17.out.below hb).mono hb.size)
      clear hb HB17 HOX17 HOY17 HOS17 HOR17 HOO17
      go_wp2_with fail
      refine (HSX.out _ a7 c7 HOX18.out HOO18.out).mono ?_
      rintro e w19 ⟨rfl, hb⟩
      have HB19 := Lib.hid (HB18.out.trans (hb.mono HB18.out.size))
      have HOX19 := Lib.hid ((HOX18.out.below hb).mono hb.size)
      have HOY19 := Lib.hid ((HOY18.out.below hb).mono hb.size)
      have HOS19 := Lib.hid ((HOS18.out.below hb).mono hb.size)
      have HOR19 := Lib.hid ((HOR18.out.below hb).mono hb.size)
      have HOO19 := Lib.hid ((HOO18.out.below hb).mono hb.size)
      clear hb HB18 HOX18 HOY18 HOS18 HOR18 HOO18
      go_wp2_with fail
      refine (HNI.out _ HOX19.out).mono ?_
      rintro e w20 ⟨a8, c8, rfl, hown, hb⟩
      have HB20 := Lib.hid (HB19.out.trans (hb.mono HB19.out.size))
      have HOX20 := Lib.hid ((HOX19.out.below hb).mono hb.size)
      have HOY20 := Lib.hid ((HOY19.out.below hb).mono hb.size)
      have HOS20 := Lib.hid ((HOS19.out.below hb).mono hb.size)
      have HOR20 := Lib.hid ((HOR19.out.below hb).mono hb.size)
      have HOO20 := Lib.hid ((HOO19.out.below hb).mono hb.size)
      have HON20 := Lib.hid hown.ints
      clear hown
      clear hb HB19 HOX19 HOY19 HOS19 HOR19 HOO19
      go_wp2_with fail
      refine (HNV.out _ a8 c8 HON20.out).mono ?_
      rintro e w21 ⟨rfl, hb⟩
      have HB21 := Lib.hid (HB20.out.trans (hb.mono HB20.out.size))
      have HOX21 := Lib.hid ((HOX20.out.below hb).mono hb.size)
      have HOY21 := Lib.hid ((HOY20.out.below hb).mono hb.size)
      have HOS21 := Lib.hid ((HOS20.out.below hb).mono hb.size)
      have HOR21 := Lib.hid ((HOR20.out.below hb).mono hb.size)
      have HOO21 := Lib.hid ((HOO20.out.below hb).mono hb.size)
      have HON21 := Lib.hid ((HON20.out.below hb).mono hb.size)
      clear hb HB20 HOX20 HOY20 HOS20 HOR20 HOO20 HON20
      go_wp2_with fail
      refine (HPW.out _).mono ?_
      rintro e w' ⟨rfl, rfl⟩
      go_wp2_with fail
      refine (HWH.out _).mono ?_
      rintro e w' ⟨rfl, rfl⟩
      go_wp2_with fail
      refine (HDS.out _).mono ?_
      rintro e w22 ⟨rfl, hb⟩
      have HB22 := Lib.hid (HB21.out.trans (hb.mono HB21.out.size))
      have HOX22 := Lib.hid ((HOX21.out.below hb).mono hb.size)
      have HOY22 := Lib.hid ((HOY21.out.below hb).mono hb.size)
      have HOS22 := Lib.hid ((HOS21.out.below hb).mono hb.size)
      have HOR22 := Lib.hid ((HOR21.out.below hb).mono hb.size)
      have HOO22 := Lib.hid ((HOO21.out.below hb).mono hb.size)
      have HON22 := Lib.hid ((HON21.out.below hb).mono hb.size)
      clear hb HB21 HOX21 HOY21 HOS21 HOR21 HOO21 HON21
      have hw1 := HW1.out
      go_wp2_with fail
      refine (HRI.out _).mono ?_
      rintro e w23 ⟨rfl, hb⟩
      have HB23 := Lib.hid (HB22.out.trans (hb.mono HB22.out.size))
      have HOX23 := Lib.hid ((HOX22.out.below hb).mono hb.size)
      have HOY23 := Lib.hid ((HOY22.out.below hb).mono hb.size)
      have HOS23 := Lib.hid ((HOS22.out.below hb).mono hb.size)
      have HOR23 := Lib.hid ((HOR22.out.below hb).mono hb.size)
      have HOO23 := Lib.hid ((HOO22.out.below hb).mono hb.size)
      have HON23 := Lib.hid ((HON22.out.below hb).mono hb.size)
      clear hb HB22 HOX22 HOY22 HOS22 HOR22 HOO22 HON22
      go_wp2_with fail
      refine (HCD.out _).mono ?_
      rintro e w24 ⟨rfl, hb⟩
      have HB24 := Lib.hid (HB23.out.trans (hb.mono HB23.out.size))
      have HOX24 := Lib.hid ((HOX23.out.below hb).mono hb.size)
      have HOY24 := Lib.hid ((HOY23.out.below hb).mono hb.size)
      have HOS24 := Lib.hid ((HOS23.out.below hb).mono hb.size)
      have HOR24 := Lib.hid ((HOR23.out.below hb).mono hb.size)
      have HOO24 := Lib.hid ((HOO23.out.below hb).mono hb.size)
      have HON24 := Lib.hid ((HON23.out.below hb).mono hb.size)
      clear hb HB23 HOX23 HOY23 HOS23 HOR23 HOO23 HON23
      go_wp2_with fail
      go_ret
      exact ⟨rfl, HB24.out⟩
    · have hdg : decide (m ≤ n) = false := decide_eq_false hge
      rw [hdg]
      go_wp2_with fail
      refine (HSX.out _ a7 c7 HOX17.out HOO17.out).mono ?_
      rintro e w18 ⟨rfl, hb⟩
      have HB18 := Lib.hid (HB17.out.trans (hb.mono HB17.out.size))
      have HOX18 := Lib.hid ((HOX17.out.below hb).mono hb.size)
      have HOY18 := Lib.hid ((HOY17.out.below hb).mono hb.size)
      have HOS18 := Lib.hid ((HOS17.out.below hb).mono hb.size)
      have HOR18 := Lib.hid ((HOR17.out.below hb).mono hb.size)
      have HOO18 := Lib.hid ((HOO17.out.below hb).mono hb.size)
      clear hb HB17 HOX17 HOY17 HOS17 HOR17 HOO17
      go_wp2_with fail
      refine (HNI.out _ HOX18.out).mono ?_
      rintro e w19 ⟨a8, c8, rfl, hown, hb⟩
      have HB19 := Lib.hid (HB18.out.trans (hb.mono HB18.out.size))
      have HOX19 := Lib.hid ((HOX18.out.below hb).mono hb.size)
      have HOY19 := Lib.hid ((HOY18.out.below hb).mono hb.size)
      have HOS19 := Lib.hid ((HOS18.out.below hb).mono hb.size)
      have HOR19 := Lib.hid ((HOR18.out.below hb).mono hb.size)
      have HOO19 := Lib.hid ((HOO18.out.below hb).mono hb.size)
      have HON19 := Lib.hid hown.ints
      clear hown
      clear hb HB18 HOX18 HOY18 HOS18 HOR18 HOO18
      go_wp2_with fail
      refine (HNV.out _ a8 c8 HON19.out).mono ?_
      rintro e w20 ⟨rfl, hb⟩
      have HB20 := Lib.hid (HB19.out.trans (hb.mono HB19.out.size))
      have HOX20 := Lib.hid ((HOX19.out.below hb).mono hb.size)
      have HOY20 := Lib.hid ((HOY19.out.below hb).mono hb.size)
      have HOS20 := Lib.hid ((HOS19.out.below hb).mono hb.size)
      have HOR20 := Lib.hid ((HOR19.out.below hb).mono hb.size)
      have HOO20 := Lib.hid ((HOO19.out.below hb).mono hb.size)
      have HON20 := Lib.hid ((HON19.out.below hb).mono hb.size)
      clear hb HB19 HOX19 HOY19 HOS19 HOR19 HOO19 HON19
      go_wp2_with fail
      refine (HPW.out _).mono ?_
      rintro e w' ⟨rfl, rfl⟩
      go_wp2_with fail
      refine (HWH.out _).mono ?_
      rintro e w' ⟨rfl, rfl⟩
      go_wp2_with fail
      refine (HDS.out _).mono ?_
      rintro e w21 ⟨rfl, hb⟩
      have HB21 := Lib.hid (HB20.out.trans (hb.mono HB20.out.size))
      have HOX21 := Lib.hid ((HOX20.out.below hb).mono hb.size)
      have HOY21 := Lib.hid ((HOY20.out.below hb).mono hb.size)
      have HOS21 := Lib.hid ((HOS20.out.below hb).mono hb.size)
      have HOR21 := Lib.hid ((HOR20.out.below hb).mono hb.size)
      have HOO21 := Lib.hid ((HOO20.out.below hb).mono hb.size)
      have HON21 := Lib.hid ((HON20.out.below hb).mono hb.size)
      clear hb HB20 HOX20 HOY20 HOS20 HOR20 HOO20 HON20
      have hw1 := HW1.out
      go_wp2_with fail
      refine (HRI.out _).mono ?_
      rintro e w22 ⟨rfl, hb⟩
      have HB22 := Lib.hid (HB21.out.trans (hb.mono HB21.out.size))
      have HOX22 := Lib.hid ((HOX21.out.below hb).mono hb.size)
      have HOY22 := Lib.hid ((HOY21.out.below hb).mono hb.size)
      have HOS22 := Lib.hid ((HOS21.out.below hb).mono hb.size)
      have HOR22 := Lib.hid ((HOR21.out.below hb).mono hb.size)
      have HOO22 := Lib.hid ((HOO21.out.below hb).mono hb.size)
      have HON22 := Lib.hid ((HON21.out.below hb).mono hb.size)
      clear hb HB21 HOX21 HOY21 HOS21 HOR21 HOO21 HON21
      go_wp2_with fail
      refine (HCD.out _).mono ?_
      rintro e w23 ⟨rfl, hb⟩
      have HB23 := Lib.hid (HB22.out.trans (hb.mono HB22.out.size))
      have HOX23 := Lib.hid ((HOX22.out.below hb).mono hb.size)
      have HOY23 := Lib.hid ((HOY22.out.below hb).mono hb.size)
      have HOS23 := Lib.hid ((HOS22.out.below hb).mono hb.size)
      have HOR23 := Lib.hid ((HOR22.out.below hb).mono hb.size)
      have HOO23 := Lib.hid ((HOO22.out.below hb).mono hb.size)
      have HON23 := Lib.hid ((HON22.out.below hb).mono hb.size)
      clear hb HB22 HOX22 HOY22 HOS22 HOR22 HOO22 HON22
      go_wp2_with fail
      go_ret
      exact ⟨rfl, HB23.out⟩
  · have hdec : decide (n + m < P) = false := decide_eq_false hsum
    rw [hdec]
    go_wp2_with fail
    refine (HSB.out _ HOX13.out HOY13.out).mono ?_
    rintro e w14 ⟨a6, c6, rfl, hown, hb⟩
    have HB14 := Lib.hid (HB13.out.trans (hb.mono HB13.out.size))
    have HOX14 := Lib.hid ((HOX13.out.below hb).mono hb.size)
    have HOY14 := Lib.hid ((HOY13.out.below hb).mono hb.size)
    have HOS14 := Lib.hid ((HOS13.out.below hb).mono hb.size)
    have HOR14 := Lib.hid hown.ints
    clear hown
    clear hb HB13 HOX13 HOY13 HOS13
    go_wp2_with fail
    refine (HOF.out _).mono ?_
    rintro e w15 ⟨a7, c7, rfl, hown, hb⟩
    have HB15 := Lib.hid (HB14.out.trans (hb.mono HB14.out.size))
    have HOX15 := Lib.hid ((HOX14.out.below hb).mono hb.size)
    have HOY15 := Lib.hid ((HOY14.out.below hb).mono hb.size)
    have HOS15 := Lib.hid ((HOS14.out.below hb).mono hb.size)
    have HOR15 := Lib.hid ((HOR14.out.below hb).mono hb.size)
    have HOO15 := Lib.hid hown.ints
    clear hown
    clear hb HB14 HOX14 HOY14 HOS14 HOR14
    by_cases hge : m ≤ n
    · have hdg : decide (m ≤ n) = true := decide_eq_true hge
      rw [hdg]
      have HSU2 := Lib.hid (HSU.out hge)
      go_wp2_with fail
      refine (HSU2.out _ a6 c6 HOR15.out).mono ?_
      rintro e w16 ⟨rfl, hb⟩
      have HB16 := Lib.hid (HB15.out.trans (hb.mono HB15.out.size))
      have HOX16 := Lib.hid ((HOX15.out.below hb).mono hb.size)
      have HOY16 := Lib.hid ((HOY15.out.below hb).mono hb.size)
      have HOS16 := Lib.hid ((HOS15.out.below hb).mono hb.size)
      have HOR16 := Lib.hid ((HOR15.out.below hb).mono hb.size)
      have HOO16 := Lib.hid ((HOO15.out.below hb).mono hb.size)
      clear hb HB15 HOX15 HOY15 HOS15 HOR15 HOO15
      go_wp2_with fail
      refine (HSX.out _ a7 c7 HOX16.out HOO16.out).mono ?_
      rintro e w17 ⟨rfl, hb⟩
      have HB17 := Lib.hid (HB16.out.trans (hb.mono HB16.out.size))
      have HOX17 := Lib.hid ((HOX16.out.below hb).mono hb.size)
      have HOY17 := Lib.hid ((HOY16.out.below hb).mono hb.size)
      have HOS17 := Lib.hid ((HOS16.out.below hb).mono hb.size)
      have HOR17 := Lib.hid ((HOR16.out.below hb).mono hb.size)
      have HOO17 := Lib.hid ((HOO16.out.below hb).mono hb.size)
      clear hb HB16 HOX16 HOY16 HOS16 HOR16 HOO16
      go_wp2_with fail
      refine (HNI.out _ HOX17.out).mono ?_
      rintro e w18 ⟨a8, c8, rfl, hown, hb⟩
      have HB18 := Lib.hid (HB17.out.trans (hb.mono HB17.out.size))
      have HOX18 := Lib.hid ((HOX17.out.below hb).mono hb.size)
      have HOY18 := Lib.hid ((HOY17.out.below hb).mono hb.size)
      have HOS18 := Lib.hid ((HOS17.out.below hb).mono hb.size)
      have HOR18 := Lib.hid ((HOR17.out.below hb).mono hb.size)
      have HOO18 := Lib.hid ((HOO17.out.below hb).mono hb.size)
      have HON18 := Lib.hid hown.ints
      clear hown
      clear hb HB17 HOX17 HOY17 HOS17 HOR17 HOO17
      go_wp2_with fail
      refine (HNV.out _ a8 c8 HON18.out).mono ?_
      rintro e w19 ⟨rfl, hb⟩
      have HB19 := Lib.hid (HB18.out.trans (hb.mono HB18.out.size))
      have HOX19 := Lib.hid ((HOX18.out.below hb).mono hb.size)
      have HOY19 := Lib.hid ((HOY18.out.below hb).mono hb.size)
      have HOS19 := Lib.hid ((HOS18.out.below hb).mono hb.size)
      have HOR19 := Lib.hid ((HOR18.out.below hb).mono hb.size)
      have HOO19 := Lib.hid ((HOO18.out.below hb).mono hb.size)
      have HON19 := Lib.hid ((HON18.out.below hb).mono hb.size)
      clear hb HB18 HOX18 HOY18 HOS18 HOR18 HOO18 HON18
      go_wp2_with fail
      refine (HPW.out _).mono ?_
      rintro e w' ⟨rfl, rfl⟩
      go_wp2_with fail
      refine (HWH.out _).mono ?_
      rintro e w' ⟨rfl, rfl⟩
      go_wp2_with fail
      refine (HDS.out _).mono ?_
      rintro e w20 ⟨rfl, hb⟩
      have HB20 := Lib.hid (HB19.out.trans (hb.mono HB19.out.size))
      have HOX20 := Lib.hid ((HOX19.out.below hb).mono hb.size)
      have HOY20 := Lib.hid ((HOY19.out.below hb).mono hb.size)
      have HOS20 := Lib.hid ((HOS19.out.below hb).mono hb.size)
      have HOR20 := Lib.hid ((HOR19.out.below hb).mono hb.size)
      have HOO20 := Lib.hid ((HOO19.out.below hb).mono hb.size)
      have HON20 := Lib.hid ((HON19.out.below hb).mono hb.size)
      clear hb HB19 HOX19 HOY19 HOS19 HOR19 HOO19 HON19
      have hw1 := HW1.out
      go_wp2_with fail
      refine (HRI.out _).mono ?_
      rintro e w21 ⟨rfl, hb⟩
      have HB21 := Lib.hid (HB20.out.trans (hb.mono HB20.out.size))
      have HOX21 := Lib.hid ((HOX20.out.below hb).mono hb.size)
      have HOY21 := Lib.hid ((HOY20.out.below hb).mono hb.size)
      have HOS21 := Lib.hid ((HOS20.out.below hb).mono hb.size)
      have HOR21 := Lib.hid ((HOR20.out.below hb).mono hb.size)
      have HOO21 := Lib.hid ((HOO20.out.below hb).mono hb.size)
      have HON21 := Lib.hid ((HON20.out.below hb).mono hb.size)
      clear hb HB20 HOX20 HOY20 HOS20 HOR20 HOO20 HON20
      go_wp2_with fail
      refine (HCD.out _).mono ?_
      rintro e w22 ⟨rfl, hb⟩
      have HB22 := Lib.hid (HB21.out.trans (hb.mono HB21.out.size))
      have HOX22 := Lib.hid ((HOX21.out.below hb).mono hb.size)
      have HOY22 := Lib.hid ((HOY21.out.below hb).mono hb.size)
      have HOS22 := Lib.hid ((HOS21.out.below hb).mono hb.size)
      have HOR22 := Lib.hid ((HOR21.out.below hb).mono hb.size)
      have HOO22 := Lib.hid ((HOO21.out.below hb).mono hb.size)
      have HON22 := Lib.hid ((HON21.out.below hb).mono hb.size)
      clear hb HB21 HOX21 HOY21 HOS21 HOR21 HOO21 HON21
      go_wp2_with fail
      go_ret
      exact ⟨rfl, HB22.out⟩
    · have hdg : decide (m ≤ n) = false := decide_eq_false hge
      rw [hdg]
      go_wp2_with fail
      refine (HSX.out _ a7 c7 HOX15.out HOO15.out).mono ?_
      rintro e w16 ⟨rfl, hb⟩
      have HB16 := Lib.hid (HB15.out.trans (hb.mono HB15.out.size))
      have HOX16 := Lib.hid ((HOX15.out.below hb).mono hb.size)
      have HOY16 := Lib.hid ((HOY15.out.below hb).mono hb.size)
      have HOS16 := Lib.hid ((HOS15.out.below hb).mono hb.size)
      have HOR16 := Lib.hid ((HOR15.out.below hb).mono hb.size)
      have HOO16 := Lib.hid ((HOO15.out.below hb).mono hb.size)
      clear hb HB15 HOX15 HOY15 HOS15 HOR15 HOO15
      go_wp2_with fail
      refine (HNI.out _ HOX16.out).mono ?_
      rintro e w17 ⟨a8, c8, rfl, hown, hb⟩
      have HB17 := Lib.hid (HB16.out.trans (hb.mono HB16.out.size))
      have HOX17 := Lib.hid ((HOX16.out.below hb).mono hb.size)
      have HOY17 := Lib.hid ((HOY16.out.below hb).mono hb.size)
      have HOS17 := Lib.hid ((HOS16.out.below hb).mono hb.size)
      have HOR17 := Lib.hid ((HOR16.out.below hb).mono hb.size)
      have HOO17 := Lib.hid ((HOO16.out.below hb).mono hb.size)
      have HON17 := Lib.hid hown.ints
      clear hown
      clear hb HB16 HOX16 HOY16 HOS16 HOR16 HOO16
      go_wp2_with fail
      refine (HNV.out _ a8 c8 HON17.out).mono ?_
      rintro e w18 ⟨rfl, hb⟩
      have HB18 := Lib.hid (HB17.out.trans (hb.mono HB17.out.size))
      have HOX18 := Lib.hid ((HOX17.out.below hb).mono hb.size)
      have HOY18 := Lib.hid ((HOY17.out.below hb).mono hb.size)
      have HOS18 := Lib.hid ((HOS17.out.below hb).mono hb.size)
      have HOR18 := Lib.hid ((HOR17.out.below hb).mono hb.size)
      have HOO18 := Lib.hid ((HOO17.out.below hb).mono hb.size)
      have HON18 := Lib.hid ((HON17.out.below hb).mono hb.size)
      clear hb HB17 HOX17 HOY17 HOS17 HOR17 HOO17 HON17
      go_wp2_with fail
      refine (HPW.out _).mono ?_
      rintro e w' ⟨rfl, rfl⟩
      go_wp2_with fail
      refine (HWH.out _).mono ?_
      rintro e w' ⟨rfl, rfl⟩
      go_wp2_with fail
      refine (HDS.out _).mono ?_
      rintro e w19 ⟨rfl, hb⟩
      have HB19 := Lib.hid (HB18.out.trans (hb.mono HB18.out.size))
      have HOX19 := Lib.hid ((HOX18.out.below hb).mono hb.size)
      have HOY19 := Lib.hid ((HOY18.out.below hb).mono hb.size)
      have HOS19 := Lib.hid ((HOS18.out.below hb).mono hb.size)
      have HOR19 := Lib.hid ((HOR18.out.below hb).mono hb.size)
      have HOO19 := Lib.hid ((HOO18.out.below hb).mono hb.size)
      have HON19 := Lib.hid ((HON18.out.below hb).mono hb.size)
      clear hb HB18 HOX18 HOY18 HOS18 HOR18 HOO18 HON18
      have hw1 := HW1.out
      go_wp2_with fail
      refine (HRI.out _).mono ?_
      rintro e w20 ⟨rfl, hb⟩
      have HB20 := Lib.hid (HB19.out.trans (hb.mono HB19.out.size))
      have HOX20 := Lib.hid ((HOX19.out.below hb).mono hb.size)
      have HOY20 := Lib.hid ((HOY19.out.below hb).mono hb.size)
      have HOS20 := Lib.hid ((HOS19.out.below hb).mono hb.size)
      have HOR20 := Lib.hid ((HOR19.out.below hb).mono hb.size)
      have HOO20 := Lib.hid ((HOO19.out.below hb).mono hb.size)
      have HON20 := Lib.hid ((HON19.out.below hb).mono hb.size)
      clear hb HB19 HOX19 HOY19 HOS19 HOR19 HOO19 HON19
      go_wp2_with fail
      refine (HCD.out _).mono ?_
      rintro e w21 ⟨rfl, hb⟩
      have HB21 := Lib.hid (HB20.out.trans (hb.mono HB20.out.size))
      have HOX21 := Lib.hid ((HOX20.out.below hb).mono hb.size)
      have HOY21 := Lib.hid ((HOY20.out.below hb).mono hb.size)
      have HOS21 := Lib.hid ((HOS20.out.below hb).mono hb.size)
      have HOR21 := Lib.hid ((HOR20.out.below hb).mono hb.size)
      have HOO21 := Lib.hid ((HOO20.out.below hb).mono hb.size)
      have HON21 := Lib.hid ((HON20.out.below hb).mono hb.size)
      clear hb HB20 HOX20 HOY20 HOS20 HOR20 HOO20 HON20
      go_wp2_with fail
      go_ret
      exact ⟨rfl, HB21.out⟩

end Go.Proofs.Ytkcjjhdmklhepaa
