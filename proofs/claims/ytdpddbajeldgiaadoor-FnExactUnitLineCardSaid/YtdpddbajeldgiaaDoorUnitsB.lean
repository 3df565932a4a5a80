/- The greedy expansion and sums of unit fractions: program and reference. Conditions: those of each contract. -/
import Derived.Test.YtdpddbajeldgiaaDoorUnitsA
namespace Go.Proofs.YtdpddbajeldgiaaDoor
set_option linter.unusedVariables false
open Go.RowKit

theorem mul_e9 (q n : Int) (h1 : 1 ≤ q) (h2 : q ≤ 1000000000) (h3 : 1 ≤ n) (h4 : n ≤ 1000000000) : 1 ≤ q * n ∧ q * n ≤ 1000000000000000000 := by
  have h5 : 1 * 1 ≤ q * n := Int.mul_le_mul h1 h3 (by omega) (by omega)
  have h6 : q * n ≤ 1000000000 * 1000000000 := Int.mul_le_mul h2 h4 (by omega) (by omega)
  omega
theorem div_le0 (p g : Int) (h1 : 0 ≤ p) (h2 : 1 ≤ g) : 0 ≤ p / g ∧ p / g ≤ p := ⟨Int.ediv_nonneg h1 (by omega), Int.ediv_le_self _ h1⟩
set_option maxHeartbeats 1000000 in
theorem GreedyUnits_any (p q : Int) (w : World) : Calls Tryd.prog 42 #[.int .i64 p, .int .i64 q] w (RetIB w (grL p q) (grB p q)) := by
  cases hu : unitOk p q
  · have HF : Hid (grL p q = []) := by show _ = _; simp [grL, grO, hu]
    have HF2 : Hid (grB p q = false) := by show _ = _; simp [grB, grO, hu]
    rw [HF.out, HF2.out]
    go_enter Tryd.func42, Tryd.ntmps42
    go_wp2_with (go_at_call 81; refine (isUnitSum_any _ _ _).mono ?_; rintro e w' ⟨rfl, rfl⟩)
    go_ret2
    exact ⟨none, 0, rfl, OwnV.nil _ _, Below.refl _ _⟩
  have HF : Hid (grO p q = greedy 9 p q []) := by show _ = _; simp [grO, hu]
  have hu' := hu
  simp only [unitOk, Bool.and_eq_true, inB_t] at hu'
  obtain ⟨⟨hq1, hq2⟩, hp1, hp2⟩ := hu'
  have HNONE : Hid (∀ (W : World), grO p q = none → Below w.heap.size w W → RetIB w (grL p q) (grB p q) (.returned (.tuple #[.slice none 0 0, .bool false])) W) := by
    intro W h hb
    have e1 : grL p q = [] := by simp [grL, h]
    have e2 : grB p q = false := by simp [grB, h]
    rw [e1, e2]
    exact ⟨none, 0, rfl, OwnV.nil _ _, hb⟩
  go_enter Tryd.func42, Tryd.ntmps42
  go_wp2_with (go_at_call 81; refine (isUnitSum_any _ _ _).mono ?_; rintro e w' ⟨rfl, rfl⟩)
  clear hu
  go_loopw [0, 1, 6] (fun x yv v wr => ∃ (y z : Int) (f : Nat) (out : List Int), x = .int .i64 y ∧ yv = .int .i64 z ∧ 0 ≤ y ∧ y ≤ 1000 ∧ 1 ≤ z ∧ z ≤ 1000000000 ∧ f + out.length = 8 ∧ greedy (f + 1) y z out = grO p q ∧ (∃ (a : Option Addr) (c : Nat), v = .slice a out.length c ∧ OwnI wr w.heap.size a c out) ∧ Below w.heap.size w wr) (fun x _ _ _ => (intOf x).toNat)
  case atStart => exact ⟨p, q, 8, [], rfl, rfl, by omega, by omega, by omega, by omega, rfl, HF.out.symm, ⟨none, 0, rfl, OwnV.nil _ _⟩, Below.refl _ _⟩
  case round =>
    obtain ⟨y, z, f, out, rfl, rfl, hy0, hy1, hz1, hz2, hfo, hgr, ⟨a, c, rfl, ho⟩, hbl⟩ := hrel
    have hsz := hbl.size
    have HBL := Lib.hid hbl; clear hbl
    have HGR := Lib.hid hgr; clear hgr
    have hown : OwnV wr w.heap.size (.slice a out.length c) out := ho
    have HO := Lib.hid ho; clear ho
    have hol : out.length ≤ 8 := by omega
    have HFO := Lib.hid hfo; clear hfo
    by_cases hpos : 0 < y
    · obtain ⟨c1, c2, c3, c4⟩ := ceil_bd y z hpos hz1
      have HFAIL := Lib.hid (greedy_fail f y z out hpos)
      have HBIG := Lib.hid (fun n g => greedy_big f y z n g out hpos)
      have HGO := Lib.hid (fun n g => greedy_go f y z n g out hpos)
      generalize hN : (z + y - 1) / y = n at *
      have hNr : (z + y - 1) / y = n := hN
      clear hN
      by_cases hn9 : 1000000000 < n
      · have HX := Lib.hid (HFAIL.out (Or.inl hn9))
        go_wp2
        go_ret2
        exact HNONE.out _ (by rw [← HGR.out, HX.out]) HBL.out
      by_cases hl8 : out.length = 8
      · have HX := Lib.hid (HFAIL.out (Or.inr hl8))
        have hb8 : ((out.length : Int) == 8) = true := by rw [beq_iff_eq]; omega
        clear hl8
        go_wp2
        go_ret2
        exact HNONE.out _ (by rw [← HGR.out, HX.out]) HBL.out
      obtain ⟨f, rfl⟩ : ∃ f', f = f' + 1 := ⟨f - 1, by have := HFO.out; omega⟩
      have hp10 : 0 ≤ y * n - z := by omega
      have hp11 : y * n - z < y := by omega
      obtain ⟨m1, m2⟩ := mul_e9 z n hz1 hz2 c1 (by omega)
      obtain ⟨g1, g2⟩ := gcdZ_bd (y * n - z) (z * n) (by omega) (by omega)
      have hb8 : ((out.length : Int) == 8) = false := by rw [beq_eq_false_iff_ne]; omega
      obtain ⟨d1, d2⟩ := div_le0 (y * n - z) (gcdZ (y * n - z) (z * n)) (by omega) g1
      obtain ⟨d3, d4⟩ := div_pos_le (z * n) (gcdZ (y * n - z) (z * n)) g1 g2
      have HGO2 := Lib.hid (HGO.out n _ rfl rfl (by omega) hl8)
      have HBIG2 := Lib.hid (HBIG.out n _ rfl rfl)
      clear hl8
      go_wp2_with (at_builtin; refine wpList_append_int rfl _ _ rfl w.heap.size _ _ rfl hown _ rfl (by omega) (by omega) ?_; intro v' w2 hown2 hbl2)
      have hs2 := hbl2.size
      have HB2 := Lib.hid (HBL.out.trans hbl2); clear hbl2
      obtain ⟨a2, c2', rfl, ho2⟩ := hown2.own
      have HO2 := Lib.hid ho2
      clear ho2 hown2 hown
      go_wp2_with fail
      refine (gcd_any _ _ _ (by omega) (by omega) (by omega) (by omega)).mono ?_
      rintro e w3 ⟨rfl, hb3⟩
      have hs3 := hb3.size
      have HB3 := Lib.hid (HB2.out.trans (hb3.mono (by omega)))
      have HO3 := Lib.hid (HO2.out.kept hb3)
      clear hb3
      have HLEN : Hid ((out ++ [n]).length = out.length + 1) := by show _ = _; simp
      generalize gcdZ (y * n - z) (z * n) = g at *
      generalize y * n - z = p1 at *
      generalize z * n = q1 at *
      by_cases hbig : 1000000000 < q1 / g
      · go_wp2
        go_region
        all_goals
          go_wp2
          go_ret2
          exact HNONE.out _ (by rw [← HGR.out]; exact HBIG2.out hbig) HB3.out.drew
      · have HGO3 := Lib.hid (HGO2.out (by omega))
        go_wp2
        go_region
        all_goals
          go_wp2
          go_roundw
          case rel => exact ⟨p1 / g, q1 / g, f, out ++ [n], rfl, rfl, by omega, by omega, by omega, by omega, by rw [HLEN.out]; have := HFO.out; omega, by rw [← HGO3.out, HGR.out], ⟨a2, c2', by rw [HLEN.out], World.ownsRow.drew HO3.out⟩, HB3.out.drew⟩
          case measure => simp [intOf] <;> omega
    · have HZ := Lib.hid (greedy_done f y z out (by omega))
      go_wp2
      go_ret2
      have h : grO p q = some out := by rw [← HGR.out, HZ.out]
      have e1 : grL p q = out := by simp [grL, h]
      have e2 : grB p q = true := by simp [grB, h]
      rw [e1, e2]
      exact ⟨a, c, rfl, HO.out, HBL.out⟩
set_option maxHeartbeats 1000000 in
theorem sGreedyUnits_any (p q : Int) (w : World) : Calls Tryd.prog 40 #[.int .i64 p, .int .i64 q] w (RetIB w (grL p q) (grB p q)) := by
  cases hu : unitOk p q
  · have HF : Hid (grL p q = []) := by show _ = _; simp [grL, grO, hu]
    have HF2 : Hid (grB p q = false) := by show _ = _; simp [grB, grO, hu]
    rw [HF.out, HF2.out]
    go_enter Tryd.func40, Tryd.ntmps40
    go_wp2_with (go_at_call 79; refine (l26Ok_any _ _ _).mono ?_; rintro e w' ⟨rfl, rfl⟩)
    go_ret2
    exact ⟨none, 0, rfl, OwnV.nil _ _, Below.refl _ _⟩
  have HF : Hid (grO p q = greedy 9 p q []) := by show _ = _; simp [grO, hu]
  have hu' := hu
  simp only [unitOk, Bool.and_eq_true, inB_t] at hu'
  obtain ⟨⟨hq1, hq2⟩, hp1, hp2⟩ := hu'
  have HNONE : Hid (∀ (W : World), grO p q = none → Below w.heap.size w W → RetIB w (grL p q) (grB p q) (.returned (.tuple #[.slice none 0 0, .bool false])) W) := by
    intro W h hb
    have e1 : grL p q = [] := by simp [grL, h]
    have e2 : grB p q = false := by simp [grB, h]
    rw [e1, e2]
    exact ⟨none, 0, rfl, OwnV.nil _ _, hb⟩
  go_enter Tryd.func40, Tryd.ntmps40
  go_wp2_with (go_at_call 79; refine (l26Ok_any _ _ _).mono ?_; rintro e w' ⟨rfl, rfl⟩)
  clear hu
  go_loopw [0, 1, 6] (fun x yv v wr => ∃ (y z : Int) (f : Nat) (out : List Int), x = .int .i64 y ∧ yv = .int .i64 z ∧ 0 ≤ y ∧ y ≤ 1000 ∧ 1 ≤ z ∧ (0 < y → z ≤ 1000000000) ∧ f + out.length = 8 ∧ greedy (f + 1) y z out = grO p q ∧ (∃ (a : Option Addr) (c : Nat), v = .slice a out.length c ∧ OwnI wr w.heap.size a c out) ∧ Below w.heap.size w wr) (fun x _ _ _ => (intOf x).toNat)
  case atStart => exact ⟨p, q, 8, [], rfl, rfl, by omega, by omega, by omega, fun _ => by omega, rfl, HF.out.symm, ⟨_, _, rfl, OwnV.lit0 _ _ (Nat.le_refl _)⟩, (Below.refl _ _).alloc (Nat.le_refl _) _⟩
  case round =>
    obtain ⟨y, z, f, out, rfl, rfl, hy0, hy1, hz1, hz2, hfo, hgr, ⟨a, c, rfl, ho⟩, hbl⟩ := hrel
    have hsz := hbl.size
    have HBL := Lib.hid hbl; clear hbl
    have HGR := Lib.hid hgr; clear hgr
    have hown : OwnV wr w.heap.size (.slice a out.length c) out := ho
    have HO := Lib.hid ho; clear ho
    have hol : out.length ≤ 8 := by omega
    have HFO := Lib.hid hfo; clear hfo
    by_cases hpos : 0 < y
    · replace hz2 := hz2 hpos
      obtain ⟨c1, c2, c3, c4⟩ := ceil_bd y z hpos hz1
      have HFAIL := Lib.hid (greedy_fail f y z out hpos)
      have HBIG := Lib.hid (fun n g => greedy_big f y z n g out hpos)
      have HGO := Lib.hid (fun n g => greedy_go f y z n g out hpos)
      generalize hN : (z + y - 1) / y = n at *
      have hNr : (z + y - 1) / y = n := hN
      clear hN
      by_cases hn9 : 1000000000 < n
      · have HX := Lib.hid (HFAIL.out (Or.inl hn9))
        go_wp2
        go_ret2
        exact HNONE.out _ (by rw [← HGR.out, HX.out]) HBL.out
      by_cases hl8 : out.length = 8
      · have HX := Lib.hid (HFAIL.out (Or.inr hl8))
        have hb8 : ((out.length : Int) == 8) = true := by rw [beq_iff_eq]; omega
        clear hl8
        go_wp2
        go_ret2
        exact HNONE.out _ (by rw [← HGR.out, HX.out]) HBL.out
      obtain ⟨f, rfl⟩ : ∃ f', f = f' + 1 := ⟨f - 1, by have := HFO.out; omega⟩
      have hp10 : 0 ≤ y * n - z := by omega
      have hp11 : y * n - z < y := by omega
      obtain ⟨m1, m2⟩ := mul_e9 z n hz1 hz2 c1 (by omega)
      obtain ⟨g1, g2⟩ := gcdZ_bd (y * n - z) (z * n) (by omega) (by omega)
      have hb8 : ((out.length : Int) == 8) = false := by rw [beq_eq_false_iff_ne]; omega
      obtain ⟨d1, d2⟩ := div_le0 (y * n - z) (gcdZ (y * n - z) (z * n)) (by omega) g1
      obtain ⟨d3, d4⟩ := div_pos_le (z * n) (gcdZ (y * n - z) (z * n)) g1 g2
      have HGO2 := Lib.hid (HGO.out n _ rfl rfl (by omega) hl8)
      have HBIG2 := Lib.hid (HBIG.out n _ rfl rfl)
      have HZG := Lib.hid (gcdZ_zero_left (z * n) (by omega))
      clear hl8
      have HLEN : Hid ((out ++ [n]).length = out.length + 1) := by show _ = _; simp
      by_cases hz0 : 0 < y * n - z
      · go_wp2_with (at_builtin; refine wpList_append_int rfl _ _ rfl w.heap.size _ _ rfl hown _ rfl (by omega) (by omega) ?_; intro v' w2 hown2 hbl2)
        have hs2 := hbl2.size
        have HB2 := Lib.hid (HBL.out.trans hbl2); clear hbl2
        obtain ⟨a2, c2', rfl, ho2⟩ := hown2.own
        have HO2 := Lib.hid ho2
        clear ho2 hown2 hown
        go_wp2_with fail
        refine (l13Gcd_any _ _ _ (by omega) (by omega) (by omega) (by omega)).mono ?_
        rintro e w' ⟨rfl, rfl⟩
        generalize gcdZ (y * n - z) (z * n) = g at *
        generalize y * n - z = p1 at *
        generalize z * n = q1 at *
        by_cases hbig : 1000000000 < q1 / g
        · go_wp2
          go_ret2
          exact HNONE.out _ (by rw [← HGR.out]; exact HBIG2.out hbig) HB2.out
        · have HGO3 := Lib.hid (HGO2.out (by omega))
          go_wp2
          go_roundw
          case rel => exact ⟨p1 / g, q1 / g, f, out ++ [n], rfl, rfl, by omega, by omega, by omega, fun _ => by omega, by rw [HLEN.out]; have := HFO.out; omega, by rw [← HGO3.out, HGR.out], ⟨a2, c2', by rw [HLEN.out], HO2.out⟩, HB2.out⟩
          case measure => simp [intOf] <;> omega
      · have hz00 : y * n - z = 0 := by omega
        have HZ0 := Lib.hid hz00
        have HDONE : Hid (greedy (f + 1) 0 (z * n) (out ++ [n]) = grO p q) := by
          show _ = _
          have hg := HZG.out
          have h1 := HGO2.out
          rw [hz00, hg] at h1
          have hq1 : z * n / (z * n) = 1 := Int.ediv_self (by omega)
          rw [hq1] at h1
          have h2 := h1 (by omega)
          rw [Int.zero_ediv, greedy_done f 0 1 (out ++ [n]) (by omega), HGR.out] at h2
          rw [greedy_done f 0 (z * n) (out ++ [n]) (by omega)]
          exact h2.symm
        clear hz00
        go_wp2_with (at_builtin; refine wpList_append_int rfl _ _ rfl w.heap.size _ _ rfl hown _ rfl (by omega) (by omega) ?_; intro v' w2 hown2 hbl2)
        have hs2 := hbl2.size
        have HB2 := Lib.hid (HBL.out.trans hbl2); clear hbl2
        obtain ⟨a2, c2', rfl, ho2⟩ := hown2.own
        have HO2 := Lib.hid ho2
        clear ho2 hown2 hown
        go_wp2_with fail
        go_roundw
        case rel => exact ⟨y * n - z, z * n, f, out ++ [n], rfl, rfl, by omega, by omega, by omega, fun h => by omega, by rw [HLEN.out]; have := HFO.out; omega, by rw [HZ0.out]; exact HDONE.out, ⟨a2, c2', by rw [HLEN.out], HO2.out⟩, HB2.out⟩
        case measure => simp [intOf] <;> omega
    · have HZ := Lib.hid (greedy_done f y z out (by omega))
      clear hz2
      go_wp2
      go_ret2
      have h : grO p q = some out := by rw [← HGR.out, HZ.out]
      have e1 : grL p q = out := by simp [grL, h]
      have e2 : grB p q = true := by simp [grB, h]
      rw [e1, e2]
      exact ⟨a, c, rfl, HO.out, HBL.out⟩

end Go.Proofs.YtdpddbajeldgiaaDoor
