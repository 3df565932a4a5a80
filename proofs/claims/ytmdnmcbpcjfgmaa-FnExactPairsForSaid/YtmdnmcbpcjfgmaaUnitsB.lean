/- The greedy expansion and sums of unit fractions: program and reference. Conditions: those of each contract. -/
import Derived.Test.YtmdnmcbpcjfgmaaUnitsA
namespace Go.Proofs.Ytmdnmcbpcjfgmaa
set_option linter.unusedVariables false
open Go.RowKit

theorem mul_e9 (q n : Int) (h1 : 1 ≤ q) (h2 : q ≤ 1000000000) (h3 : 1 ≤ n) (h4 : n ≤ 1000000000) : 1 ≤ q * n ∧ q * n ≤ 1000000000000000000 := by
  have h5 : 1 * 1 ≤ q * n := Int.mul_le_mul h1 h3 (by omega) (by omega)
  have h6 : q * n ≤ 1000000000 * 1000000000 := Int.mul_le_mul h2 h4 (by omega) (by omega)
  omega
theorem div_le0 (p g : Int) (h1 : 0 ≤ p) (h2 : 1 ≤ g) : 0 ≤ p / g ∧ p / g ≤ p := ⟨Int.ediv_nonneg h1 (by omega), Int.ediv_le_self _ h1⟩
set_option maxHeartbeats 1000000 in
theorem GreedyUnits_any (p q : Int) (w : World) : Calls Try.prog 34 #[.int .i64 p, .int .i64 q] w (RetIB w (grL p q) (grB p q)) := by
  cases hu : unitOk p q
  · have HF : Hid (grL p q = []) := by show _ = _; simp [grL, grO, hu]
    have HF2 : Hid (grB p q = false) := by show _ = _; simp [grB, grO, hu]
    rw [HF.out, HF2.out]
    go_enter Try.func34, Try.ntmps34
    go_wp2_with (go_at_call 42; refine (isUnitSum_any _ _ _).mono ?_; rintro e w' ⟨rfl, rfl⟩)
    go_ret2
    exact ⟨none, 0, rfl, OwnV.nil _ _, Below.refl _ _⟩
  have HF : Hid (grO p q = greedy 9 p q []) := by show _ = _; simp [grO, hu]
  have hu' := hu
  simp only [unitOk, Bool.and_eq_true, inB_t] at hu'
  obtain ⟨⟨hq1, hq2⟩, hp1, hp2⟩ := hu'
  have HNONE : Hid (∀ (W : World), grO p q = none → Below w.heap.size w W → RetIB w (grL p q) (grB p q) (.returned (.tuple #[.slice none 0 0, .bool false])) W) := by
    intro W h hb
    have e1 : grL p q = [] := by simp [grL, h]
    have e2 : grB p q = false := by simp [grB, h]
    rw [e1, e2]
    exact ⟨none, 0, rfl, OwnV.nil _ _, hb⟩
  go_enter Try.func34, Try.ntmps34
  go_wp2_with (go_at_call 42; refine (isUnitSum_any _ _ _).mono ?_; rintro e w' ⟨rfl, rfl⟩)
  clear hu
  go_loopw [0, 1, 6] (fun x yv v wr => ∃ (y z : Int) (f : Nat) (out : List Int), x = .int .i64 y ∧ yv = .int .i64 z ∧ 0 ≤ y ∧ y ≤ 1000 ∧ 1 ≤ z ∧ z ≤ 1000000000 ∧ f + out.length = 8 ∧ greedy (f + 1) y z out = grO p q ∧ (∃ (a : Option Addr) (c : Nat), v = .slice a out.length c ∧ OwnI wr w.heap.size a c out) ∧ Below w.heap.size w wr) (fun x _ _ _ => (intOf x).toNat)
  case atStart => exact ⟨p, q, 8, [], rfl, rfl, by omega, by omega, by omega, by omega, rfl, HF.out.symm, ⟨none, 0, rfl, OwnV.nil _ _⟩, Below.refl _ _⟩
  case round =>
    obtain ⟨y, z, f, out, rfl, rfl, hy0, hy1, hz1, hz2, hfo, hgr, ⟨a, c, rfl, ho⟩, hbl⟩ := hrel
    have hsz := hbl.size
    have HBL := Lib.hid hbl; clear hbl
    have HGR := Lib.hid hgr; clear hgr
    have hown : OwnV wr w.heap.size (.slice a out.length c) out := ho
    have HO := Lib.hid ho; clear ho
    have hol : out.length ≤ 8 := by omega
    have HFO := Lib.hid hfo; clear hfo
    by_cases hpos : 0 < y
    · obtain ⟨c1, c2, c3, c4⟩ := ceil_bd y z hpos hz1
      have HFAIL := Lib.hid (greedy_fail f y z out hpos)
      have HBIG := Lib.hid (fun n g => greedy_big f y z n g out hpos)
      have HGO := Lib.hid (fun n g => greedy_go f y z n g out hpos)
      generalize hN : (z + y - 1) / y = n at *
      have hNr : (z + y - 1) / y = n := hN
      clear hN
      by_cases hn9 : 1000000000 < n
      · have HX := Lib.hid (HFAIL.out (Or.inl hn9))
        go_wp2
        go_ret2
        exact HNONE.out _ (by rw [← HGR.out, HX.out]) HBL.out
      by_cases hl8 : out.length = 8
      · have HX := Lib.hid (HFAIL.out (Or.inr hl8))
        have hb8 : ((out.length : Int) == 8) = true := by rw [beq_iff_eq]; omega
        clear hl8
        go_wp2
        go_ret2
        exact HNONE.out _ (by rw [← HGR.out, HX.out]) HBL.out
      obtain ⟨f, rfl⟩ : ∃ f', f = f' + 1 := ⟨f - 1, by have := HFO.out; omega⟩
      have hp10 : 0 ≤ y * n - z := by omega
      have hp11 : y * n - z < y := by omega
      obtain ⟨m1, m2⟩ := mul_e9 z n hz1 hz2 c1 (by omega)
      obtain ⟨g1, g2⟩ := gcdZ_bd (y * n - z) (z * n) (by omega) (by omega)
      have hb8 : ((out.length : Int) == 8) = false := by rw [beq_eq_false_iff_ne]; omega
      obtain ⟨d1, d2⟩ := div_le0 (y * n - z) (gcdZ (y * n - z) (z * n)) (by omega) g1
      obtain ⟨d3, d4⟩ := div_pos_le (z * n) (gcdZ (y * n - z) (z * n)) g1 g2
      have HGO2 := Lib.hid (HGO.out n _ rfl rfl (by omega) hl8)
      have HBIG2 := Lib.hid (HBIG.out n _ rfl rfl)
      clear hl8
      go_wp2_with (at_builtin; refine wpList_append_int rfl _ _ rfl w.heap.size _ _ rfl hown _ rfl (by omega) (by omega) ?_; intro v' w2 hown2 hbl2)
      have hs2 := hbl2.size
      have HB2 := Lib.hid (HBL.out.trans hbl2); clear hbl2
      obtain ⟨a2, c2', rfl, ho2⟩ := hown2.own
      have HO2 := Lib.hid ho2
      clear ho2 hown2 hown
      go_wp2_with fail
      refine (gcd_any _ _ _ (by omega) (by omega) (by omega) (by omega)).mono ?_
      rintro e w3 ⟨rfl, hb3⟩
      have hs3 := hb3.size
      have HB3 := Lib.hid (HB2.out.trans (hb3.mono (by omega)))
      have HO3 := Lib.hid (HO2.out.kept hb3)
      clear hb3
      have HLEN : Hid ((out ++ [n]).length = out.length + 1) := by show _ = _; simp
      generalize gcdZ (y * n - z) (z * n) = g at *
      generalize y * n - z = p1 at *
      generalize z * n = q1 at *
      by_cases hbig : 1000000000 < q1 / g
      · go_wp2
        go_region
        all_goals
          go_wp2
          go_ret2
          exact HNONE.out _ (by rw [← HGR.out]; exact HBIG2.out hbig) HB3.out.drew
      · have HGO3 := Lib.hid (HGO2.out (by omega))
        go_wp2
        go_region
        all_goals
          go_wp2
          go_roundw
          case rel => exact ⟨p1 / g, q1 / g, f, out ++ [n], rfl, rfl, by omega, by omega, by omega, by omega, by rw [HLEN.out]; have := HFO.out; omega, by rw [← HGO3.out, HGR.out], ⟨a2, c2', by rw [HLEN.out], World.ownsRow.drew HO3.out⟩, HB3.out.drew⟩
          case measure => simp [intOf] <;> omega
    · have HZ := Lib.hid (greedy_done f y z out (by omega))
      go_wp2
      go_ret2
      have h : grO p q = some out := by rw [← HGR.out, HZ.out]
      have e1 : grL p q = out := by simp [grL, h]
      have e2 : grB p q = true := by simp [grB, h]
      rw [e1, e2]
      exact ⟨a, c, rfl, HO.out, HBL.out⟩
set_option maxHeartbeats 1000000 in
theorem sGreedyUnits_any (p q : Int) (w : World) : Calls Try.prog 33 #[.int .i64 p, .int .i64 q] w (RetIB w (grL p q) (grB p q)) := by
  cases hu : unitOk p q
  · have HF : Hid (grL p q = []) := by show _ = _; simp [grL, grO, hu]
    have HF2 : Hid (grB p q = false) := by show _ = _; simp [grB, grO, hu]
    rw [HF.out, HF2.out]
    go_enter Try.func33, Try.ntmps33
    go_wp2_with (go_at_call 40; refine (l26Ok_any _ _ _).mono ?_; rintro e w' ⟨rfl, rfl⟩)
    go_ret2
    exact ⟨none, 0, rfl, OwnV.nil _ _, Below.refl _ _⟩
  have HF : Hid (grO p q = greedy 9 p q []) := by show _ = _; simp [grO, hu]
  have hu' := hu
  simp only [unitOk, Bool.and_eq_true, inB_t] at hu'
  obtain ⟨⟨hq1, hq2⟩, hp1, hp2⟩ := hu'
  have HNONE : Hid (∀ (W : World), grO p q = none → Below w.heap.size w W → RetIB w (grL p q) (grB p q) (.returned (.tuple #[.slice none 0 0, .bool false])) W) := by
    intro W h hb
    have e1 : grL p q = [] := by simp [grL, h]
    have e2 : grB p q = false := by simp [grB, h]
    rw [e1, e2]
    exact ⟨none, 0, rfl, OwnV.nil _ _, hb⟩
  go_enter Try.func33, Try.ntmps33
  go_wp2_with (go_at_call 40; refine (l26Ok_any _ _ _).mono ?_; rintro e w' ⟨rfl, rfl⟩)
  clear hu
  go_loopw [0, 1, 6] (fun x yv v wr => ∃ (y z : Int) (f : Nat) (out : List Int), x = .int .i64 y ∧ yv = .int .i64 z ∧ 0 ≤ y ∧ y ≤ 1000 ∧ 1 ≤ z ∧ (0 < y → z ≤ 1000000000) ∧ f + out.length = 8 ∧ greedy (f + 1) y z out = grO p q ∧ (∃ (a : Option Addr) (c : Nat), v = .slice a out.length c ∧ OwnI wr w.heap.size a c out) ∧ Below w.heap.size w wr) (fun x _ _ _ => (intOf x).toNat)
  case atStart => exact ⟨p, q, 8, [], rfl, rfl, by omega, by omega, by omega, fun _ => by omega, rfl, HF.out.symm, ⟨_, _, rfl, OwnV.lit0 _ _ (Nat.le_refl _)⟩, (Below.refl _ _).alloc (Nat.le_refl _) _⟩
  case round =>
    obtain ⟨y, z, f, out, rfl, rfl, hy0, hy1, hz1, hz2, hfo, hgr, ⟨a, c, rfl, ho⟩, hbl⟩ := hrel
    have hsz := hbl.size
    have HBL := Lib.hid hbl; clear hbl
    have HGR := Lib.hid hgr; clear hgr
    have hown : OwnV wr w.heap.size (.slice a out.length c) out := ho
    have HO := Lib.hid ho; clear ho
    have hol : out.length ≤ 8 := by omega
    have HFO := Lib.hid hfo; clear hfo
    by_cases hpos : 0 < y
    · replace hz2 := hz2 hpos
      obtain ⟨c1, c2, c3, c4⟩ := ceil_bd y z hpos hz1
      have HFAIL := Lib.hid (greedy_fail f y z out hpos)
      have HBIG := Lib.hid (fun n g => greedy_big f y z n g out hpos)
      have HGO := Lib.hid (fun n g => greedy_go f y z n g out hpos)
      generalize hN : (z + y - 1) / y = n at *
      have hNr : (z + y - 1) / y = n := hN
      clear hN
      by_cases hn9 : 1000000000 < n
      · have HX := Lib.hid (HFAIL.out (Or.inl hn9))
        go_wp2
        go_ret2
        exact HNONE.out _ (by rw [← HGR.out, HX.out]) HBL.out
      by_cases hl8 : out.length = 8
      · have HX := Lib.hid (HFAIL.out (Or.inr hl8))
        have hb8 : ((out.length : Int) == 8) = true := by rw [beq_iff_eq]; omega
        clear hl8
        go_wp2
        go_ret2
        exact HNONE.out _ (by rw [← HGR.out, HX.out]) HBL.out
      obtain ⟨f, rfl⟩ : ∃ f', f = f' + 1 := ⟨f - 1, by have := HFO.out; omega⟩
      have hp10 : 0 ≤ y * n - z := by omega
      have hp11 : y * n - z < y := by omega
      obtain ⟨m1, m2⟩ := mul_e9 z n hz1 hz2 c1 (by omega)
      obtain ⟨g1, g2⟩ := gcdZ_bd (y * n - z) (z * n) (by omega) (by omega)
      have hb8 : ((out.length : Int) == 8) = false := by rw [beq_eq_false_iff_ne]; omega
      obtain ⟨d1, d2⟩ := div_le0 (y * n - z) (gcdZ (y * n - z) (z * n)) (by omega) g1
      obtain ⟨d3, d4⟩ := div_pos_le (z * n) (gcdZ (y * n - z) (z * n)) g1 g2
      have HGO2 := Lib.hid (HGO.out n _ rfl rfl (by omega) hl8)
      have HBIG2 := Lib.hid (HBIG.out n _ rfl rfl)
      have HZG := Lib.hid (gcdZ_zero_left (z * n) (by omega))
      clear hl8
      have HLEN : Hid ((out ++ [n]).length = out.length + 1) := by show _ = _; simp
      by_cases hz0 : 0 < y * n - z
      · go_wp2_with (at_builtin; refine wpList_append_int rfl _ _ rfl w.heap.size _ _ rfl hown _ rfl (by omega) (by omega) ?_; intro v' w2 hown2 hbl2)
        have hs2 := hbl2.size
        have HB2 := Lib.hid (HBL.out.trans hbl2); clear hbl2
        obtain ⟨a2, c2', rfl, ho2⟩ := hown2.own
        have HO2 := Lib.hid ho2
        clear ho2 hown2 hown
        go_wp2_with fail
        refine (l13Gcd_any _ _ _ (by omega) (by omega) (by omega) (by omega)).mono ?_
        rintro e w' ⟨rfl, rfl⟩
        generalize gcdZ (y * n - z) (z * n) = g at *
        generalize y * n - z = p1 at *
        generalize z * n = q1 at *
        by_cases hbig : 1000000000 < q1 / g
        · go_wp2
          go_ret2
          exact HNONE.out _ (by rw [← HGR.out]; exact HBIG2.out hbig) HB2.out
        · have HGO3 := Lib.hid (HGO2.out (by omega))
          go_wp2
          go_roundw
          case rel => exact ⟨p1 / g, q1 / g, f, out ++ [n], rfl, rfl, by omega, by omega, by omega, fun _ => by omega, by rw [HLEN.out]; have := HFO.out; omega, by rw [← HGO3.out, HGR.out], ⟨a2, c2', by rw [HLEN.out], HO2.out⟩, HB2.out⟩
          case measure => simp [intOf] <;> omega
      · have hz00 : y * n - z = 0 := by omega
        have HZ0 := Lib.hid hz00
        have HDONE : Hid (greedy (f + 1) 0 (z * n) (out ++ [n]) = grO p q) := by
          show _ = _
          have hg := HZG.out
          have h1 := HGO2.out
          rw [hz00, hg] at h1
          have hq1 : z * n / (z * n) = 1 := Int.ediv_self (by omega)
          rw [hq1] at h1
          have h2 := h1 (by omega)
          rw [Int.zero_ediv, greedy_done f 0 1 (out ++ [n]) (by omega), HGR.out] at h2
          rw [greedy_done f 0 (z * n) (out ++ [n]) (by omega)]
          exact h2.symm
        clear hz00
        go_wp2_with (at_builtin; refine wpList_append_int rfl _ _ rfl w.heap.size _ _ rfl hown _ rfl (by omega) (by omega) ?_; intro v' w2 hown2 hbl2)
        have hs2 := hbl2.size
        have HB2 := Lib.hid (HBL.out.trans hbl2); clear hbl2
        obtain ⟨a2, c2', rfl, ho2⟩ := hown2.own
        have HO2 := Lib.hid ho2
        clear ho2 hown2 hown
        go_wp2_with fail
        go_roundw
        case rel => exact ⟨y * n - z, z * n, f, out ++ [n], rfl, rfl, by omega, by omega, by omega, fun h => by omega, by rw [HLEN.out]; have := HFO.out; omega, by rw [HZ0.out]; exact HDONE.out, ⟨a2, c2', by rw [HLEN.out], HO2.out⟩, HB2.out⟩
        case measure => simp [intOf] <;> omega
    · have HZ := Lib.hid (greedy_done f y z out (by omega))
      clear hz2
      go_wp2
      go_ret2
      have h : grO p q = some out := by rw [← HGR.out, HZ.out]
      have e1 : grL p q = out := by simp [grL, h]
      have e2 : grB p q = true := by simp [grB, h]
      rw [e1, e2]
      exact ⟨a, c, rfl, HO.out, HBL.out⟩
set_option maxHeartbeats 2000000 in
theorem law_FnExactGreedyUnits (p : Int) (q : Int) (w : World) (fp : (Lit.int .i64 p).wf = true) (fq : (Lit.int .i64 q).wf = true) :
    Calls Try.prog 10 #[.int .i64 p, .int .i64 q] w fun e w' => e = .returned (.bool true) ∧ Below w.heap.size w w' := by
  have hlen : (grL p q).length ≤ 1152921504606846976 := by have := grL_len p q; omega
  have HLEN := Lib.hid hlen; clear hlen
  have HB0 : Hid (Below w.heap.size w w) := Below.refl _ _
  go_enter Try.func10, Try.ntmps10
  go_wp2_with fail
  refine (sGreedyUnits_any p q _).mono ?_
  rintro e w1 ⟨aW, cW, rfl, ho, hb⟩
  have hu := Below.upd hb
  have HNW : Hid (OwnR w1 w.heap.size w1.heap.size aW cW (grL p q)) := OwnI.ownR ho
  clear ho hb
  have hs1 := hu.size
  have HB1 : Hid (Below w.heap.size w w1) := HB0.out.trans (hu.below (by omega) (by omega))
  clear hu
  have HOW1 := HNW; clear HNW
  go_wp2_with fail
  refine (GreedyUnits_any p q _).mono ?_
  rintro e w2 ⟨aG, cG, rfl, ho, hb⟩
  have hu := Below.upd hb
  have HNG : Hid (OwnR w2 w1.heap.size w2.heap.size aG cG (grL p q)) := OwnI.ownR ho
  clear ho hb
  have hs2 := hu.size
  have HB2 : Hid (Below w.heap.size w w2) := HB1.out.trans (hu.below (by omega) (by omega))
  have HOW2 : Hid (OwnR w2 w.heap.size w1.heap.size aW cW (grL p q)) := HOW1.out.upd hu (by omega); clear HOW1
  clear hu
  have HOG2 := HNG; clear HNG
  go_wp2_with fail
  refine (eqIntS_same _ _ _ _ (grL p q) _ (HOG2.out.ints) (HOW2.out.ints)).mono ?_
  rintro e w3 ⟨rfl, hb⟩
  have hu := Below.upd hb; clear hb
  have hs3 := hu.size
  have HB3 : Hid (Below w.heap.size w w3) := HB2.out.trans (hu.below (by omega) (by omega))
  have HOW3 : Hid (OwnR w3 w.heap.size w1.heap.size aW cW (grL p q)) := HOW2.out.upd hu (by omega); clear HOW2
  have HOG3 : Hid (OwnR w3 w1.heap.size w2.heap.size aG cG (grL p q)) := HOG2.out.upd hu (by omega); clear HOG2
  clear hu
  go_wp2_with fail
  refine (markR_any w1.heap.size w2.heap.size _ _ (grL p q) (1) _ HOG3.out (by omega) (by first | omega | (have := HLEN.out; omega))).mono ?_
  rintro e w4 ⟨rfl, ho, hu⟩
  have HNG : Hid (OwnR w4 w1.heap.size w2.heap.size aG cG (marks (1) (grL p q).length)) := ho
  clear ho
  have hs4 := hu.size
  have HB4 : Hid (Below w.heap.size w w4) := HB3.out.trans (hu.below (by omega) (by omega))
  have HOW4 : Hid (OwnR w4 w.heap.size w1.heap.size aW cW (grL p q)) := HOW3.out.upd hu (by omega); clear HOW3
  clear hu
  have HOG4 := HNG; clear HNG
  have hp1 : (0 : Int) ≤ 1 + ((grL p q).length : Int) := by omega
  go_wp2_with fail
  refine (heldIntS_any _ _ (1) (grL p q).length _ (HOG4.out.ints) (by omega) (by first | omega | (have := HLEN.out; omega))).mono ?_
  rintro e w' ⟨rfl, rfl⟩
  go_wp2_with fail
  refine (GreedyUnits_any p q _).mono ?_
  rintro e w5 ⟨aH, cH, rfl, ho, hb⟩
  have hu := Below.upd hb
  have HNH : Hid (OwnR w5 w4.heap.size w5.heap.size aH cH (grL p q)) := OwnI.ownR ho
  clear ho hb
  have hs5 := hu.size
  have HB5 : Hid (Below w.heap.size w w5) := HB4.out.trans (hu.below (by omega) (by omega))
  have HOW5 : Hid (OwnR w5 w.heap.size w1.heap.size aW cW (grL p q)) := HOW4.out.upd hu (by omega); clear HOW4
  have HOG5 : Hid (OwnR w5 w1.heap.size w2.heap.size aG cG (marks (1) (grL p q).length)) := HOG4.out.upd hu (by omega); clear HOG4
  clear hu
  have HOH5 := HNH; clear HNH
  go_wp2_with fail
  refine (eqIntS_same _ _ _ _ (grL p q) _ (HOH5.out.ints) (HOW5.out.ints)).mono ?_
  rintro e w6 ⟨rfl, hb⟩
  have hu := Below.upd hb; clear hb
  have hs6 := hu.size
  have HB6 : Hid (Below w.heap.size w w6) := HB5.out.trans (hu.below (by omega) (by omega))
  have HOW6 : Hid (OwnR w6 w.heap.size w1.heap.size aW cW (grL p q)) := HOW5.out.upd hu (by omega); clear HOW5
  have HOG6 : Hid (OwnR w6 w1.heap.size w2.heap.size aG cG (marks (1) (grL p q).length)) := HOG5.out.upd hu (by omega); clear HOG5
  have HOH6 : Hid (OwnR w6 w4.heap.size w5.heap.size aH cH (grL p q)) := HOH5.out.upd hu (by omega); clear HOH5
  clear hu
  go_wp2_with fail
  refine (heldIntS_any _ _ (1) (grL p q).length _ (HOG6.out.ints) (by omega) (by first | omega | (have := HLEN.out; omega))).mono ?_
  rintro e w' ⟨rfl, rfl⟩
  go_wp2_with fail
  go_ret
  exact ⟨rfl, HB6.out⟩
/-- the loop's state: the sum of the rest, begun at p / q -/
theorem usum_step (xs : List Int) (k : Nat) (h : k < xs.length) : xs.drop k = xs[k] :: xs.drop (k + 1) := List.drop_eq_getElem_cons h
theorem mul_7e9 (p q n i : Int) (h0 : 0 ≤ p) (h1 : p ≤ i * q) (hi : i ≤ 7) (hi0 : 0 ≤ i) (hq1 : 1 ≤ q) (hq2 : q ≤ 1000000000) (hn1 : 1 ≤ n) (hn2 : n ≤ 1000000000) : 0 ≤ p * n ∧ p * n ≤ 7000000000000000000 ∧ p ≤ 7000000000 := by
  have h2 : i * q ≤ 7 * 1000000000 := Int.mul_le_mul hi hq2 (by omega) (by omega)
  have h3 : p * n ≤ 7000000000 * 1000000000 := Int.mul_le_mul (by omega) hn2 (by omega) (by omega)
  exact ⟨Int.mul_nonneg h0 (by omega), by omega, by omega⟩
set_option maxHeartbeats 1000000 in
theorem UnitSum_any (a : Option Addr) (cap : Nat) (xs : List Int) (w : World) (hx : Ints w w.heap.size a cap xs) :
    Calls Try.prog 25 #[.slice a xs.length cap] w fun e w' => e = .returned (.tuple #[.int .i64 (usP xs), .int .i64 (usQ xs), .bool (usB xs)]) ∧ Below w.heap.size w w' := by
  have hl := hx.len
  by_cases h8 : 8 < xs.length
  · have h : usO xs = none := by simp [usO, h8]
    have HP : Hid (usP xs = 0 ∧ usQ xs = 0 ∧ usB xs = false) := by show _ ∧ _; simp [usP, usQ, usB, h]
    rw [HP.out.1, HP.out.2.1, HP.out.2.2]
    clear h hx
    go_enter Try.func25, Try.ntmps25
    go_wp2
    go_ret3
    exact ⟨rfl, Below.refl _ _⟩
  have HF : Hid (usO xs = usum xs 0 1) := by show _ = _; simp [usO, h8]
  have HNONE : Hid (usO xs = none → usP xs = 0 ∧ usQ xs = 0 ∧ usB xs = false) := by intro h; simp [usP, usQ, usB, h]
  have HSOME : Hid (∀ x y, usO xs = some (x, y) → usP xs = x ∧ usQ xs = y ∧ usB xs = true) := by intro x y h; simp [usP, usQ, usB, h]
  obtain ⟨-, -, b, off, ha, hc⟩ := hx
  have Ha := Lib.hid ha; clear ha
  have Hc := Lib.hid hc; clear hc
  go_enter Try.func25, Try.ntmps25
  go_wp2
  go_loopw [5, 6, 15] (fun pv qv iv wr => ∃ (k : Nat) (p q : Int), pv = .int .i64 p ∧ qv = .int .i64 q ∧ iv = .int .i64 k ∧ k ≤ xs.length ∧ 0 ≤ p ∧ p ≤ (k : Int) * q ∧ 1 ≤ q ∧ q ≤ 1000000000 ∧ usum (xs.drop k) p q = usO xs ∧ Below w.heap.size w wr) (fun _ _ iv _ => xs.length - (intOf iv).toNat)
  case atStart => exact ⟨0, 0, 1, rfl, rfl, rfl, Nat.zero_le _, by omega, by simp, by omega, by omega, HF.out.symm, Below.refl _ _⟩
  case round =>
    obtain ⟨k, p, q, rfl, rfl, rfl, hk, hp0, hpk, hq1, hq2, hus, hbl⟩ := hrel
    have HPK := Lib.hid hpk; clear hpk
    have HUS := Lib.hid hus; clear hus
    have hsz := hbl.size
    by_cases hlt : k < xs.length
    · obtain ⟨rfl, hbb⟩ := Ha.out (by omega)
      have hcx := (hbl.cell (p := ⟨b, off + k, none⟩) hbb).trans (Hc.out k hlt)
      have HBL := Lib.hid hbl; clear hbl
      have HU : Hid (usum (xs[k] :: xs.drop (k + 1)) p q = usO xs) := by show _ = _; rw [← usum_step xs k hlt]; exact HUS.out
      generalize xs[k] = n at *
      cases hin : inB n 1 1000000000
      · have HN := Lib.hid (usum_out n (xs.drop (k + 1)) p q hin)
        go_wp2_with (go_at_call 39; refine (within_any _ _ _ _).mono ?_; rintro e w' ⟨rfl, rfl⟩)
        go_ret3
        obtain ⟨e1, e2, e3⟩ := HNONE.out (by rw [← HU.out, HN.out])
        exact ⟨by rw [e1, e2, e3] <;> rfl, HBL.out⟩
      · obtain ⟨hn1, hn2⟩ := inB_t.1 hin
        have hk7 : k ≤ 7 := by omega
        obtain ⟨t1, t2, t3⟩ := mul_7e9 p q n k hp0 HPK.out (by omega) (by omega) hq1 hq2 hn1 hn2
        obtain ⟨m1, m2⟩ := mul_e9 q n hq1 hq2 hn1 hn2
        obtain ⟨g1, g2⟩ := gcdZ_bd (p * n + q) (q * n) (by omega) (by omega)
        obtain ⟨d1, d2⟩ := div_le0 (p * n + q) (gcdZ (p * n + q) (q * n)) (by omega) g1
        obtain ⟨d3, d4⟩ := div_pos_le (q * n) (gcdZ (p * n + q) (q * n)) g1 g2
        have HTS := Lib.hid (top_small p q n _ k hp0 hq1 hn1 (by omega) HPK.out rfl)
        have HBIG := Lib.hid (usum_big n (xs.drop (k + 1)) p q _ hin rfl)
        have HGO := Lib.hid (usum_go n (xs.drop (k + 1)) p q _ hin rfl)
        have hp10 : 0 ≤ p * n + q := by omega
        have hp11 : p * n + q ≤ 7000000001000000000 := by omega
        go_wp2_with (go_at_call 39; refine (within_any _ _ _ _).mono ?_; rintro e w' ⟨rfl, rfl⟩)
        refine (gcd_any _ _ _ (by omega) (by omega) (by omega) (by omega)).mono ?_
        rintro e w3 ⟨rfl, hb3⟩
        have hs3 := hb3.size
        have HB3 := Lib.hid (HBL.out.trans (hb3.mono (by omega)))
        clear hb3 hin
        generalize gcdZ (p * n + q) (q * n) = g at *
        generalize p * n + q = p1 at *
        generalize q * n = q1 at *
        by_cases hbig : 1000000000 < q1 / g
        · go_wp2
          go_region
          all_goals
            go_wp2
            go_ret3
            obtain ⟨e1, e2, e3⟩ := HNONE.out (by rw [← HU.out]; exact HBIG.out hbig)
            exact ⟨by rw [e1, e2, e3] <;> rfl, HB3.out.drew⟩
        · have HGO3 := Lib.hid (HGO.out (by omega))
          go_wp2
          go_region
          all_goals
            go_wp2
            go_roundw
            case rel => exact ⟨k + 1, p1 / g, q1 / g, rfl, rfl, by go_num, by omega, by omega, HTS.out, by omega, by omega, by rw [← HGO3.out, HU.out], HB3.out.drew⟩
            case measure => simp [intOf] <;> omega
    · have HBL := Lib.hid hbl; clear hbl
      obtain rfl : k = xs.length := by omega
      have HD : Hid (usO xs = some (p, q)) := by show _ = _; rw [← HUS.out, List.drop_length]; rfl
      go_wp2
      go_ret3
      obtain ⟨e1, e2, e3⟩ := HSOME.out p q HD.out
      exact ⟨by rw [e1, e2, e3] <;> rfl, HBL.out⟩
set_option maxHeartbeats 1000000 in
theorem sUnitSum_any (a : Option Addr) (cap : Nat) (xs : List Int) (w : World) (hx : Ints w w.heap.size a cap xs) :
    Calls Try.prog 23 #[.slice a xs.length cap] w fun e w' => e = .returned (.tuple #[.int .i64 (usP xs), .int .i64 (usQ xs), .bool (usB xs)]) ∧ Below w.heap.size w w' := by
  have hl := hx.len
  by_cases h8 : 8 < xs.length
  · have h : usO xs = none := by simp [usO, h8]
    have HP : Hid (usP xs = 0 ∧ usQ xs = 0 ∧ usB xs = false) := by show _ ∧ _; simp [usP, usQ, usB, h]
    rw [HP.out.1, HP.out.2.1, HP.out.2.2]
    clear h hx
    go_enter Try.func23, Try.ntmps23
    go_wp2
    go_ret3
    exact ⟨rfl, Below.refl _ _⟩
  have HF : Hid (usO xs = usum xs 0 1) := by show _ = _; simp [usO, h8]
  have HNONE : Hid (usO xs = none → usP xs = 0 ∧ usQ xs = 0 ∧ usB xs = false) := by intro h; simp [usP, usQ, usB, h]
  have HSOME : Hid (∀ x y, usO xs = some (x, y) → usP xs = x ∧ usQ xs = y ∧ usB xs = true) := by intro x y h; simp [usP, usQ, usB, h]
  obtain ⟨-, -, b, off, ha, hc⟩ := hx
  have Ha := Lib.hid ha; clear ha
  have Hc := Lib.hid hc; clear hc
  go_enter Try.func23, Try.ntmps23
  go_wp2
  go_loopw [5, 6, 15] (fun pv qv iv wr => ∃ (k : Nat) (p q : Int), pv = .int .i64 p ∧ qv = .int .i64 q ∧ iv = .int .i64 k ∧ k ≤ xs.length ∧ 0 ≤ p ∧ p ≤ (k : Int) * q ∧ 1 ≤ q ∧ q ≤ 1000000000 ∧ usum (xs.drop k) p q = usO xs ∧ Below w.heap.size w wr) (fun _ _ iv _ => xs.length - (intOf iv).toNat)
  case atStart => exact ⟨0, 0, 1, rfl, rfl, rfl, Nat.zero_le _, by omega, by simp, by omega, by omega, HF.out.symm, Below.refl _ _⟩
  case round =>
    obtain ⟨k, p, q, rfl, rfl, rfl, hk, hp0, hpk, hq1, hq2, hus, hbl⟩ := hrel
    have HPK := Lib.hid hpk; clear hpk
    have HUS := Lib.hid hus; clear hus
    have hsz := hbl.size
    by_cases hlt : k < xs.length
    · obtain ⟨rfl, hbb⟩ := Ha.out (by omega)
      have hcx := (hbl.cell (p := ⟨b, off + k, none⟩) hbb).trans (Hc.out k hlt)
      have HBL := Lib.hid hbl; clear hbl
      have HU : Hid (usum (xs[k] :: xs.drop (k + 1)) p q = usO xs) := by show _ = _; rw [← usum_step xs k hlt]; exact HUS.out
      generalize xs[k] = n at *
      cases hin : inB n 1 1000000000
      · have HN := Lib.hid (usum_out n (xs.drop (k + 1)) p q hin)
        go_wp2_with (go_at_call 38; refine (l01In_any _ _ _ _).mono ?_; rintro e w' ⟨rfl, rfl⟩)
        go_ret3
        obtain ⟨e1, e2, e3⟩ := HNONE.out (by rw [← HU.out, HN.out])
        exact ⟨by rw [e1, e2, e3] <;> rfl, HBL.out⟩
      · obtain ⟨hn1, hn2⟩ := inB_t.1 hin
        have hk7 : k ≤ 7 := by omega
        obtain ⟨t1, t2, t3⟩ := mul_7e9 p q n k hp0 HPK.out (by omega) (by omega) hq1 hq2 hn1 hn2
        obtain ⟨m1, m2⟩ := mul_e9 q n hq1 hq2 hn1 hn2
        obtain ⟨g1, g2⟩ := gcdZ_bd (p * n + q) (q * n) (by omega) (by omega)
        obtain ⟨d1, d2⟩ := div_le0 (p * n + q) (gcdZ (p * n + q) (q * n)) (by omega) g1
        obtain ⟨d3, d4⟩ := div_pos_le (q * n) (gcdZ (p * n + q) (q * n)) g1 g2
        have HTS := Lib.hid (top_small p q n _ k hp0 hq1 hn1 (by omega) HPK.out rfl)
        have HBIG := Lib.hid (usum_big n (xs.drop (k + 1)) p q _ hin rfl)
        have HGO := Lib.hid (usum_go n (xs.drop (k + 1)) p q _ hin rfl)
        have hp10 : 0 ≤ p * n + q := by omega
        have hp11 : p * n + q ≤ 7000000001000000000 := by omega
        go_wp2_with (go_at_call 38; refine (l01In_any _ _ _ _).mono ?_; rintro e w' ⟨rfl, rfl⟩)
        refine (l13Gcd_any _ _ _ (by omega) (by omega) (by omega) (by omega)).mono ?_
        rintro e w' ⟨rfl, rfl⟩
        have HB3 := HBL
        clear hin
        generalize gcdZ (p * n + q) (q * n) = g at *
        generalize p * n + q = p1 at *
        generalize q * n = q1 at *
        by_cases hbig : 1000000000 < q1 / g
        · go_wp2
          go_ret3
          obtain ⟨e1, e2, e3⟩ := HNONE.out (by rw [← HU.out]; exact HBIG.out hbig)
          exact ⟨by rw [e1, e2, e3] <;> rfl, HB3.out⟩
        · have HGO3 := Lib.hid (HGO.out (by omega))
          go_wp2
          go_roundw
          case rel => exact ⟨k + 1, p1 / g, q1 / g, rfl, rfl, by go_num, by omega, by omega, HTS.out, by omega, by omega, by rw [← HGO3.out, HU.out], HB3.out⟩
          case measure => simp [intOf] <;> omega
    · have HBL := Lib.hid hbl; clear hbl
      obtain rfl : k = xs.length := by omega
      have HD : Hid (usO xs = some (p, q)) := by show _ = _; rw [← HUS.out, List.drop_length]; rfl
      go_wp2
      go_ret3
      obtain ⟨e1, e2, e3⟩ := HSOME.out p q HD.out
      exact ⟨by rw [e1, e2, e3] <;> rfl, HBL.out⟩
set_option maxHeartbeats 2000000 in
theorem law_FnExactUnitSum (alist : Option Addr) (llist clist : Nat) (zlist : List Int) (w : World) (flist : IsRow .i64 w alist llist clist zlist) :
    Calls Try.prog 7 #[.slice alist llist clist] w fun e w' => e = .returned (.bool true) ∧ Below w.heap.size w w' := by
  obtain ⟨list, rfl, hxlist⟩ := flist.op
  have HXlist := Lib.hid hxlist; clear hxlist flist
  by_cases hbiglist : 1048576 < list.length
  · go_enter Try.func7, Try.ntmps7
    go_wp2_with fail
    go_ret
    exact ⟨rfl, Below.refl _ _⟩
  have hslist : list.length ≤ 1048576 := by omega
  clear hbiglist
  have HB0 : Hid (Below w.heap.size w w) := Below.refl _ _
  go_enter Try.func7, Try.ntmps7
  go_wp2_with fail
  refine (toIntS_any _ _ list _ ((HXlist.out.below HB0.out).mono (by omega)) (by omega)).mono ?_
  rintro e w1 ⟨atlist, ctlist, rfl, ho, hb⟩
  have hu := Below.upd hb
  have HNtlist : Hid (OwnR w1 w.heap.size w1.heap.size atlist ctlist (list)) := OwnI.ownR ho
  clear ho hb
  have hs1 := hu.size
  have HB1 : Hid (Below w.heap.size w w1) := HB0.out.trans (hu.below (by omega) (by omega))
  clear hu
  have HOtlist1 := HNtlist; clear HNtlist
  go_wp2_with fail
  refine (sUnitSum_any _ _ list _ (HOtlist1.out.ints)).mono ?_
  rintro e w2 ⟨rfl, hb⟩
  have hu := Below.upd hb; clear hb
  have hs2 := hu.size
  have HB2 : Hid (Below w.heap.size w w2) := HB1.out.trans (hu.below (by omega) (by omega))
  have HOtlist2 : Hid (OwnR w2 w.heap.size w1.heap.size atlist ctlist (list)) := HOtlist1.out.upd hu (by omega); clear HOtlist1
  clear hu
  go_wp2_with fail
  refine (toIntS_any _ _ list _ ((HXlist.out.below HB2.out).mono (by omega)) (by omega)).mono ?_
  rintro e w3 ⟨axlist, cxlist, rfl, ho, hb⟩
  have hu := Below.upd hb
  have HNxlist : Hid (OwnR w3 w2.heap.size w3.heap.size axlist cxlist (list)) := OwnI.ownR ho
  clear ho hb
  have hs3 := hu.size
  have HB3 : Hid (Below w.heap.size w w3) := HB2.out.trans (hu.below (by omega) (by omega))
  clear hu
  have HOxlist3 := HNxlist; clear HNxlist
  go_wp2_with fail
  refine (UnitSum_any _ _ list _ (HOxlist3.out.ints)).mono ?_
  rintro e w4 ⟨rfl, hb⟩
  have hu := Below.upd hb; clear hb
  have hs4 := hu.size
  have HB4 : Hid (Below w.heap.size w w4) := HB3.out.trans (hu.below (by omega) (by omega))
  have HOxlist4 : Hid (OwnR w4 w2.heap.size w3.heap.size axlist cxlist (list)) := HOxlist3.out.upd hu (by omega); clear HOxlist3
  clear hu
  go_wp2_with fail
  refine (toIntS_any _ _ list _ ((HXlist.out.below HB4.out).mono (by omega)) (by omega)).mono ?_
  rintro e w5 ⟨aylist, cylist, rfl, ho, hb⟩
  have hu := Below.upd hb
  have HNylist : Hid (OwnR w5 w4.heap.size w5.heap.size aylist cylist (list)) := OwnI.ownR ho
  clear ho hb
  have hs5 := hu.size
  have HB5 : Hid (Below w.heap.size w w5) := HB4.out.trans (hu.below (by omega) (by omega))
  have HOxlist5 : Hid (OwnR w5 w2.heap.size w3.heap.size axlist cxlist (list)) := HOxlist4.out.upd hu (by omega); clear HOxlist4
  clear hu
  have HOylist5 := HNylist; clear HNylist
  go_wp2_with fail
  refine (eqIntS_same _ _ _ _ (list) _ (HOxlist5.out.ints) (HOylist5.out.ints)).mono ?_
  rintro e w6 ⟨rfl, hb⟩
  have hu := Below.upd hb; clear hb
  have hs6 := hu.size
  have HB6 : Hid (Below w.heap.size w w6) := HB5.out.trans (hu.below (by omega) (by omega))
  have HOxlist6 : Hid (OwnR w6 w2.heap.size w3.heap.size axlist cxlist (list)) := HOxlist5.out.upd hu (by omega); clear HOxlist5
  have HOylist6 : Hid (OwnR w6 w4.heap.size w5.heap.size aylist cylist (list)) := HOylist5.out.upd hu (by omega); clear HOylist5
  clear hu
  go_wp2_with fail
  go_ret
  exact ⟨rfl, HB6.out⟩

end Go.Proofs.Ytmdnmcbpcjfgmaa
