/- The greedy expansion and sums of unit fractions: program and reference. Conditions: those of each contract. -/
import Derived.Test.YtkcjjhdmklhepaaUnitsA
namespace Go.Proofs.Ytkcjjhdmklhepaa
set_option linter.unusedVariables false
open Go.RowKit

theorem mul_e9 (q n : Int) (h1 : 1 ≤ q) (h2 : q ≤ 1000000000) (h3 : 1 ≤ n) (h4 : n ≤ 1000000000) : 1 ≤ q * n ∧ q * n ≤ 1000000000000000000 := by
  have h5 : 1 * 1 ≤ q * n := Int.mul_le_mul h1 h3 (by omega) (by omega)
  have h6 : q * n ≤ 1000000000 * 1000000000 := Int.mul_le_mul h2 h4 (by omega) (by omega)
  omega
theorem div_le0 (p g : Int) (h1 : 0 ≤ p) (h2 : 1 ≤ g) : 0 ≤ p / g ∧ p / g ≤ p := ⟨Int.ediv_nonneg h1 (by omega), Int.ediv_le_self _ h1⟩
set_option maxHeartbeats 1000000 in
theorem GreedyUnits_any (p q : Int) (w : World) : Calls Try.prog 25 #[.int .i64 p, .int .i64 q] w (RetIB w (grL p q) (grB p q)) := by
  cases hu : unitOk p q
  · have HF : Hid (grL p q = []) := by show _ = _; simp [grL, grO, hu]
    have HF2 : Hid (grB p q = false) := by show _ = _; simp [grB, grO, hu]
    rw [HF.out, HF2.out]
    go_enter Try.func25, Try.ntmps25
    go_wp2_with (go_at_call 58; refine (isUnitSum_any _ _ _).mono ?_; rintro e w' ⟨rfl, rfl⟩)
    go_ret2
    exact ⟨none, 0, rfl, OwnV.nil _ _, Below.refl _ _⟩
  have HF : Hid (grO p q = greedy 9 p q []) := by show _ = _; simp [grO, hu]
  have hu' := hu
  simp only [unitOk, Bool.and_eq_true, inB_t] at hu'
  obtain ⟨⟨hq1, hq2⟩, hp1, hp2⟩ := hu'
  have HNONE : Hid (∀ (W : World), grO p q = none → Below w.heap.size w W → RetIB w (grL p q) (grB p q) (.returned (.tuple #[.slice none 0 0, .bool false])) W) := by
    intro W h hb
    have e1 : grL p q = [] := by simp [grL, h]
    have e2 : grB p q = false := by simp [grB, h]
    rw [e1, e2]
    exact ⟨none, 0, rfl, OwnV.nil _ _, hb⟩
  go_enter Try.func25, Try.ntmps25
  go_wp2_with (go_at_call 58; refine (isUnitSum_any _ _ _).mono ?_; rintro e w' ⟨rfl, rfl⟩)
  clear hu
  go_loopw [0, 1, 6] (fun x yv v wr => ∃ (y z : Int) (f : Nat) (out : List Int), x = .int .i64 y ∧ yv = .int .i64 z ∧ 0 ≤ y ∧ y ≤ 1000 ∧ 1 ≤ z ∧ z ≤ 1000000000 ∧ f + out.length = 8 ∧ greedy (f + 1) y z out = grO p q ∧ (∃ (a : Option Addr) (c : Nat), v = .slice a out.length c ∧ OwnI wr w.heap.size a c out) ∧ Below w.heap.size w wr) (fun x _ _ _ => (intOf x).toNat)
  case atStart => exact ⟨p, q, 8, [], rfl, rfl, by omega, by omega, by omega, by omega, rfl, HF.out.symm, ⟨none, 0, rfl, OwnV.nil _ _⟩, Below.refl _ _⟩
  case round =>
    obtain ⟨y, z, f, out, rfl, rfl, hy0, hy1, hz1, hz2, hfo, hgr, ⟨a, c, rfl, ho⟩, hbl⟩ := hrel
    have hsz := hbl.size
    have HBL := Lib.hid hbl; clear hbl
    have HGR := Lib.hid hgr; clear hgr
    have hown : OwnV wr w.heap.size (.slice a out.length c) out := ho
    have HO := Lib.hid ho; clear ho
    have hol : out.length ≤ 8 := by omega
    have HFO := Lib.hid hfo; clear hfo
    by_cases hpos : 0 < y
    · obtain ⟨c1, c2, c3, c4⟩ := ceil_bd y z hpos hz1
      have HFAIL := Lib.hid (greedy_fail f y z out hpos)
      have HBIG := Lib.hid (fun n g => greedy_big f y z n g out hpos)
      have HGO := Lib.hid (fun n g => greedy_go f y z n g out hpos)
      generalize hN : (z + y - 1) / y = n at *
      have hNr : (z + y - 1) / y = n := hN
      clear hN
      by_cases hn9 : 1000000000 < n
      · have HX := Lib.hid (HFAIL.out (Or.inl hn9))
        go_wp2
        go_ret2
        exact HNONE.out _ (by rw [← HGR.out, HX.out]) HBL.out
      by_cases hl8 : out.length = 8
      · have HX := Lib.hid (HFAIL.out (Or.inr hl8))
        have hb8 : ((out.length : Int) == 8) = true := by rw [beq_iff_eq]; omega
        clear hl8
        go_wp2
        go_ret2
        exact HNONE.out _ (by rw [← HGR.out, HX.out]) HBL.out
      obtain ⟨f, rfl⟩ : ∃ f', f = f' + 1 := ⟨f - 1, by have := HFO.out; omega⟩
      have hp10 : 0 ≤ y * n - z := by omega
      have hp11 : y * n - z < y := by omega
      obtain ⟨m1, m2⟩ := mul_e9 z n hz1 hz2 c1 (by omega)
      obtain ⟨g1, g2⟩ := gcdZ_bd (y * n - z) (z * n) (by omega) (by omega)
      have hb8 : ((out.length : Int) == 8) = false := by rw [beq_eq_false_iff_ne]; omega
      obtain ⟨d1, d2⟩ := div_le0 (y * n - z) (gcdZ (y * n - z) (z * n)) (by omega) g1
      obtain ⟨d3, d4⟩ := div_pos_le (z * n) (gcdZ (y * n - z) (z * n)) g1 g2
      have HGO2 := Lib.hid (HGO.out n _ rfl rfl (by omega) hl8)
      have HBIG2 := Lib.hid (HBIG.out n _ rfl rfl)
      clear hl8
      go_wp2_with (at_builtin; refine wpList_append_int rfl _ _ rfl w.heap.size _ _ rfl hown _ rfl (by omega) (by omega) ?_; intro v' w2 hown2 hbl2)
      have hs2 := hbl2.size
      have HB2 := Lib.hid (HBL.out.trans hbl2); clear hbl2
      obtain ⟨a2, c2', rfl, ho2⟩ := hown2.own
      have HO2 := Lib.hid ho2
      clear ho2 hown2 hown
      go_wp2_with fail
      refine (gcd_any _ _ _ (by omega) (by omega) (by omega) (by omega)).mono ?_
      rintro e w3 ⟨rfl, hb3⟩
      have hs3 := hb3.size
      have HB3 := Lib.hid (HB2.out.trans (hb3.mono (by omega)))
      have HO3 := Lib.hid (HO2.out.kept hb3)
      clear hb3
      have HLEN : Hid ((out ++ [n]).length = out.length + 1) := by show _ = _; simp
      generalize gcdZ (y * n - z) (z * n) = g at *
      generalize y * n - z = p1 at *
      generalize z * n = q1 at *
      by_cases hbig : 1000000000 < q1 / g
      · go_wp2
        go_region
        all_goals
          go_wp2
          go_ret2
          exact HNONE.out _ (by rw [← HGR.out]; exact HBIG2.out hbig) HB3.out.drew
      · have HGO3 := Lib.hid (HGO2.out (by omega))
        go_wp2
        go_region
        all_goals
          go_wp2
          go_roundw
          case rel => exact ⟨p1 / g, q1 / g, f, out ++ [n], rfl, rfl, by omega, by omega, by omega, by omega, by rw [HLEN.out]; have := HFO.out; omega, by rw [← HGO3.out, HGR.out], ⟨a2, c2', by rw [HLEN.out], World.ownsRow.drew HO3.out⟩, HB3.out.drew⟩
          case measure => simp [intOf] <;> omega
    · have HZ := Lib.hid (greedy_done f y z out (by omega))
      go_wp2
      go_ret2
      have h : grO p q = some out := by rw [← HGR.out, HZ.out]
      have e1 : grL p q = out := by simp [grL, h]
      have e2 : grB p q = true := by simp [grB, h]
      rw [e1, e2]
      exact ⟨a, c, rfl, HO.out, HBL.out⟩
/-- the loop's state: the sum of the rest, begun at p / q -/
theorem usum_step (xs : List Int) (k : Nat) (h : k < xs.length) : xs.drop k = xs[k] :: xs.drop (k + 1) := List.drop_eq_getElem_cons h
theorem mul_7e9 (p q n i : Int) (h0 : 0 ≤ p) (h1 : p ≤ i * q) (hi : i ≤ 7) (hi0 : 0 ≤ i) (hq1 : 1 ≤ q) (hq2 : q ≤ 1000000000) (hn1 : 1 ≤ n) (hn2 : n ≤ 1000000000) : 0 ≤ p * n ∧ p * n ≤ 7000000000000000000 ∧ p ≤ 7000000000 := by
  have h2 : i * q ≤ 7 * 1000000000 := Int.mul_le_mul hi hq2 (by omega) (by omega)
  have h3 : p * n ≤ 7000000000 * 1000000000 := Int.mul_le_mul (by omega) hn2 (by omega) (by omega)
  exact ⟨Int.mul_nonneg h0 (by omega), by omega, by omega⟩
set_option maxHeartbeats 1000000 in
theorem UnitSum_any (a : Option Addr) (cap : Nat) (xs : List Int) (w : World) (hx : Ints w w.heap.size a cap xs) :
    Calls Try.prog 26 #[.slice a xs.length cap] w fun e w' => e = .returned (.tuple #[.int .i64 (usP xs), .int .i64 (usQ xs), .bool (usB xs)]) ∧ Below w.heap.size w w' := by
  have hl := hx.len
  by_cases h8 : 8 < xs.length
  · have h : usO xs = none := by simp [usO, h8]
    have HP : Hid (usP xs = 0 ∧ usQ xs = 0 ∧ usB xs = false) := by show _ ∧ _; simp [usP, usQ, usB, h]
    rw [HP.out.1, HP.out.2.1, HP.out.2.2]
    clear h hx
    go_enter Try.func26, Try.ntmps26
    go_wp2
    go_ret3
    exact ⟨rfl, Below.refl _ _⟩
  have HF : Hid (usO xs = usum xs 0 1) := by show _ = _; simp [usO, h8]
  have HNONE : Hid (usO xs = none → usP xs = 0 ∧ usQ xs = 0 ∧ usB xs = false) := by intro h; simp [usP, usQ, usB, h]
  have HSOME : Hid (∀ x y, usO xs = some (x, y) → usP xs = x ∧ usQ xs = y ∧ usB xs = true) := by intro x y h; simp [usP, usQ, usB, h]
  obtain ⟨-, -, b, off, ha, hc⟩ := hx
  have Ha := Lib.hid ha; clear ha
  have Hc := Lib.hid hc; clear hc
  go_enter Try.func26, Try.ntmps26
  go_wp2
  go_loopw [5, 6, 15] (fun pv qv iv wr => ∃ (k : Nat) (p q : Int), pv = .int .i64 p ∧ qv = .int .i64 q ∧ iv = .int .i64 k ∧ k ≤ xs.length ∧ 0 ≤ p ∧ p ≤ (k : Int) * q ∧ 1 ≤ q ∧ q ≤ 1000000000 ∧ usum (xs.drop k) p q = usO xs ∧ Below w.heap.size w wr) (fun _ _ iv _ => xs.length - (intOf iv).toNat)
  case atStart => exact ⟨0, 0, 1, rfl, rfl, rfl, Nat.zero_le _, by omega, by simp, by omega, by omega, HF.out.symm, Below.refl _ _⟩
  case round =>
    obtain ⟨k, p, q, rfl, rfl, rfl, hk, hp0, hpk, hq1, hq2, hus, hbl⟩ := hrel
    have HPK := Lib.hid hpk; clear hpk
    have HUS := Lib.hid hus; clear hus
    have hsz := hbl.size
    by_cases hlt : k < xs.length
    · obtain ⟨rfl, hbb⟩ := Ha.out (by omega)
      have hcx := (hbl.cell (p := ⟨b, off + k, none⟩) hbb).trans (Hc.out k hlt)
      have HBL := Lib.hid hbl; clear hbl
      have HU : Hid (usum (xs[k] :: xs.drop (k + 1)) p q = usO xs) := by show _ = _; rw [← usum_step xs k hlt]; exact HUS.out
      generalize xs[k] = n at *
      cases hin : inB n 1 1000000000
      · have HN := Lib.hid (usum_out n (xs.drop (k + 1)) p q hin)
        go_wp2_with (go_at_call 47; refine (within_any _ _ _ _).mono ?_; rintro e w' ⟨rfl, rfl⟩)
        go_ret3
        obtain ⟨e1, e2, e3⟩ := HNONE.out (by rw [← HU.out, HN.out])
        exact ⟨by rw [e1, e2, e3] <;> rfl, HBL.out⟩
      · obtain ⟨hn1, hn2⟩ := inB_t.1 hin
        have hk7 : k ≤ 7 := by omega
        obtain ⟨t1, t2, t3⟩ := mul_7e9 p q n k hp0 HPK.out (by omega) (by omega) hq1 hq2 hn1 hn2
        obtain ⟨m1, m2⟩ := mul_e9 q n hq1 hq2 hn1 hn2
        obtain ⟨g1, g2⟩ := gcdZ_bd (p * n + q) (q * n) (by omega) (by omega)
        obtain ⟨d1, d2⟩ := div_le0 (p * n + q) (gcdZ (p * n + q) (q * n)) (by omega) g1
        obtain ⟨d3, d4⟩ := div_pos_le (q * n) (gcdZ (p * n + q) (q * n)) g1 g2
        have HTS := Lib.hid (top_small p q n _ k hp0 hq1 hn1 (by omega) HPK.out rfl)
        have HBIG := Lib.hid (usum_big n (xs.drop (k + 1)) p q _ hin rfl)
        have HGO := Lib.hid (usum_go n (xs.drop (k + 1)) p q _ hin rfl)
        have hp10 : 0 ≤ p * n + q := by omega
        have hp11 : p * n + q ≤ 7000000001000000000 := by omega
        go_wp2_with (go_at_call 47; refine (within_any _ _ _ _).mono ?_; rintro e w' ⟨rfl, rfl⟩)
        refine (gcd_any _ _ _ (by omega) (by omega) (by omega) (by omega)).mono ?_
        rintro e w3 ⟨rfl, hb3⟩
        have hs3 := hb3.size
        have HB3 := Lib.hid (HBL.out.trans (hb3.mono (by omega)))
        clear hb3 hin
        generalize gcdZ (p * n + q) (q * n) = g at *
        generalize p * n + q = p1 at *
        generalize q * n = q1 at *
        by_cases hbig : 1000000000 < q1 / g
        · go_wp2
          go_region
          all_goals
            go_wp2
            go_ret3
            obtain ⟨e1, e2, e3⟩ := HNONE.out (by rw [← HU.out]; exact HBIG.out hbig)
            exact ⟨by rw [e1, e2, e3] <;> rfl, HB3.out.drew⟩
        · have HGO3 := Lib.hid (HGO.out (by omega))
          go_wp2
          go_region
          all_goals
            go_wp2
            go_roundw
            case rel => exact ⟨k + 1, p1 / g, q1 / g, rfl, rfl, by go_num, by omega, by omega, HTS.out, by omega, by omega, by rw [← HGO3.out, HU.out], HB3.out.drew⟩
            case measure => simp [intOf] <;> omega
    · have HBL := Lib.hid hbl; clear hbl
      obtain rfl : k = xs.length := by omega
      have HD : Hid (usO xs = some (p, q)) := by show _ = _; rw [← HUS.out, List.drop_length]; rfl
      go_wp2
      go_ret3
      obtain ⟨e1, e2, e3⟩ := HSOME.out p q HD.out
      exact ⟨by rw [e1, e2, e3] <;> rfl, HBL.out⟩

end Go.Proofs.Ytkcjjhdmklhepaa
