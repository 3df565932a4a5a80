/- Engel's expansion, Sylvester's numbers, greatest common divisors: program and reference. Conditions: those of each contract. -/
import Derived.Test.YtkcjjhdmklhepaaLawKit
import Derived.Test.YtkcjjhdmklhepaaUnitsP
import Derived.RegionTactic
namespace Go.Proofs.Ytkcjjhdmklhepaa
set_option linter.unusedVariables false
open Go.RowKit

/-- A call returns a new slice of the integers xs, and a bool. -/
def RetIB (w : World) (xs : List Int) (ok : Bool) (e : Ending) (w' : World) : Prop := ∃ a cap, e = .returned (.tuple #[.slice a xs.length cap, .bool ok]) ∧ OwnI w' w.heap.size a cap xs ∧ Below w.heap.size w w'
theorem gcd_any (a b : Int) (w : World) (ha : 0 ≤ a) (hb : 0 ≤ b) (ha2 : a ≤ 9223372036854775807) (hb2 : b ≤ 9223372036854775807) :
    Calls Try.prog 57 #[.int .i64 a, .int .i64 b] w fun e w' => e = .returned (.int .i64 (gcdZ a b)) ∧ Below w.heap.size w w' := by
  go_enter Try.func57, Try.ntmps57
  go_wp2
  go_loopw [0, 1] (fun x y wr => ∃ p q : Int, x = .int .i64 p ∧ y = .int .i64 q ∧ 0 ≤ p ∧ 0 ≤ q ∧ p ≤ 9223372036854775807 ∧ q ≤ 9223372036854775807 ∧ gcdZ p q = gcdZ a b ∧ Below w.heap.size w wr) (fun _ y _ => (intOf y).toNat)
  case atStart => exact ⟨a, b, rfl, rfl, ha, hb, ha2, hb2, rfl, Below.refl _ _⟩
  case round =>
    obtain ⟨p, q, rfl, rfl, hp, hq, hp2, hq2, hg, hbl⟩ := hrel
    have HG := Lib.hid hg; have HBL := Lib.hid hbl
    clear hg hbl
    by_cases hz : 0 < q
    · have hne : (q != 0) = true := by rw [bne_iff_ne]; omega
      have hne2 : ¬ q = 0 := by omega
      have HS := Lib.hid (gcdZ_step p q hp hz)
      obtain ⟨hm0, hm1⟩ := mod_bd p q (by omega)
      go_wp2
      go_region
      all_goals
        go_wp2
        go_roundw
        case rel => exact ⟨q, p % q, rfl, rfl, by omega, by omega, by omega, by omega, by rw [← HG.out, HS.out], HBL.out.drew⟩
        case measure => simp [intOf] <;> omega
    · have hq0 : q = 0 := by omega
      subst hq0
      have HZ := Lib.hid (gcdZ_zero p hp)
      go_wp2
      all_goals
        go_ret
        exact ⟨by rw [← HG.out, HZ.out] <;> go_num, HBL.out⟩
theorem isUnitSum_any (p q : Int) (w : World) :
    Calls Try.prog 58 #[.int .i64 p, .int .i64 q] w fun e w' => e = .returned (.bool (unitOk p q)) ∧ w = w' := by
  cases hq : inB q 1 1000
  all_goals
    go_enter Try.func58, Try.ntmps58
    go_wp2_with (go_at_call 47; refine (within_any _ _ _ _).mono ?_; rintro e w' ⟨rfl, rfl⟩)
    go_ret
    exact ⟨by simp [unitOk, hq], rfl⟩
set_option maxHeartbeats 400000 in
theorem EngelOf_any (p q : Int) (w : World) : Calls Try.prog 23 #[.int .i64 p, .int .i64 q] w (RetIB w (engelR p q) (unitOk p q)) := by
  cases hu : unitOk p q
  · have HF : Hid (engelR p q = []) := by show _ = _; simp [engelR, hu]
    rw [HF.out]
    go_enter Try.func23, Try.ntmps23
    go_wp2_with (go_at_call 58; refine (isUnitSum_any _ _ _).mono ?_; rintro e w' ⟨rfl, rfl⟩)
    go_ret2
    exact ⟨none, 0, rfl, OwnV.nil _ _, Below.refl _ _⟩
  have HF : Hid (engelR p q = engel q p) := by show _ = _; simp [engelR, hu]
  have hl := engelR_len p q
  rw [HF.out] at hl
  have hu' := hu
  simp only [unitOk, Bool.and_eq_true, inB_t] at hu'
  obtain ⟨⟨hq1, hq2⟩, hp1, hp2⟩ := hu'
  rw [HF.out]
  go_enter Try.func23, Try.ntmps23
  go_wp2_with (go_at_call 58; refine (isUnitSum_any _ _ _).mono ?_; rintro e w' ⟨rfl, rfl⟩)
  clear hu
  go_loopw [0, 6] (fun x v wr => ∃ (y : Int) (out : List Int), x = .int .i64 y ∧ 0 ≤ y ∧ y ≤ q ∧ out ++ engel q y = engel q p ∧ OwnV wr w.heap.size v out ∧ Below w.heap.size w wr) (fun x _ _ => (intOf x).toNat)
  case atStart => exact ⟨p, [], rfl, by omega, by omega, rfl, OwnV.nil _ _, Below.refl _ _⟩
  case round =>
    obtain ⟨y, out, rfl, hy0, hy1, hout, hown, hbl⟩ := hrel
    have hsz := hbl.size
    have HBL := Lib.hid hbl; clear hbl
    have hol : out.length ≤ 1000 := by rw [← hout] at hl; simp at hl; omega
    by_cases hpos : 0 < y
    · obtain ⟨c1, c2, c3, c4⟩ := ceil_bd y q hpos hq1
      have HST : Hid ((out ++ [(q + y - 1) / y]) ++ engel q (y * ((q + y - 1) / y) - q) = engel q p) := by
        show _ = _; rw [← hout, engel_pos q y hpos hq1]; simp
      clear hout hl
      generalize hN : (q + y - 1) / y = n at *
      have HN := Lib.hid hN; clear hN
      have hNr : (q + y - 1) / y = n := HN.out
      go_wp2_with (at_builtin; refine wpList_append_int rfl _ _ rfl w.heap.size _ _ rfl hown _ rfl (by omega) (by omega) ?_; intro v' w2 hown2 hbl2)
      have HB2 := Lib.hid hbl2; clear hbl2
      go_roundw
      case rel => exact ⟨y * n - q, out ++ [n], rfl, by omega, by omega, HST.out, hown2, HBL.out.trans HB2.out⟩
      case measure => simp [intOf] <;> omega
    · have HZ := Lib.hid (engel_zero q y (by omega))
      have HO := Lib.hid hout; clear hout
      go_wp2
      go_ret2
      have h := HO.out
      rw [HZ.out, List.append_nil] at h
      rw [← h]
      obtain ⟨a9, c9, rfl, ho9⟩ := hown.own
      exact ⟨a9, c9, rfl, ho9, HBL.out⟩
theorem product_any (a : Option Addr) (cap : Nat) (xs : List Int) (w : World) (hx : Ints w w.heap.size a cap xs) (h0 : ∀ x ∈ xs, 1 ≤ x) (h1 : prodL xs ≤ 4611686018427387904) :
    Calls Try.prog 60 #[.slice a xs.length cap] w fun e w' => e = .returned (.int .i64 (prodL xs)) ∧ w = w' := by
  have hl := hx.len
  obtain ⟨-, -, b, off, ha, hc⟩ := hx
  have Ha := Lib.hid ha; clear ha
  have Hc := Lib.hid hc; clear hc
  have H0 := Lib.hid h0; clear h0
  go_enter Try.func60, Try.ntmps60
  go_wp2
  go_loop [3, 8] (fun s i => ∃ k : Nat, k ≤ xs.length ∧ i = .int .i64 k ∧ s = .int .i64 (prodL (xs.take k))) (fun _ i => xs.length - (intOf i).toNat)
  case atStart => exact ⟨0, Nat.zero_le _, rfl, rfl⟩
  case round =>
    obtain ⟨k, hk, rfl, rfl⟩ := hrel
    by_cases hlt : k < xs.length
    · obtain ⟨s1, s2, s3, s4, s5⟩ := prodL_step xs H0.out k hlt
      have S2 := Lib.hid s2; clear s2
      obtain ⟨rfl, -⟩ := Ha.out (by omega)
      have hcx := Hc.out k hlt
      go_wp2
      go_round
      case rel => exact ⟨k + 1, by omega, by go_num, by rw [S2.out]⟩
      case measure => simp [intOf] <;> omega
    · go_wp2
      go_ret
      obtain rfl : k = xs.length := by omega
      exact ⟨by rw [List.take_length] <;> rfl, rfl⟩
set_option maxHeartbeats 400000 in
theorem SylvesterPlaces_any (k : Int) (w : World) : Calls Try.prog 28 #[.int .i64 k] w (RetI w (sylvR k)) := by
  cases hk : inB k 0 6
  · have HF : Hid (sylvR k = []) := by show _ = _; simp [sylvR, hk]
    rw [HF.out]
    go_enter Try.func28, Try.ntmps28
    go_wp2_with (go_at_call 47; refine (within_any _ _ _ _).mono ?_; rintro e w' ⟨rfl, rfl⟩)
    go_ret
    exact (OwnV.nil _ _).ret (Below.refl _ _)
  obtain ⟨hk1, hk2⟩ := inB_t.1 hk
  obtain ⟨k, rfl⟩ := Int.eq_ofNat_of_zero_le hk1
  have HF : Hid (sylvR k = sylv k) := by show _ = _; simp [sylvR, hk]
  rw [HF.out]
  go_enter Try.func28, Try.ntmps28
  go_wp2_with (go_at_call 47; refine (within_any _ _ _ _).mono ?_; rintro e w' ⟨rfl, rfl⟩)
  clear hk
  go_loopw [3, 8] (fun v i wr => ∃ j : Nat, j ≤ k ∧ i = .int .i64 j ∧ OwnV wr w.heap.size v (sylv j) ∧ Below w.heap.size w wr) (fun _ i _ => k - (intOf i).toNat)
  case atStart => exact ⟨0, Nat.zero_le _, rfl, OwnV.nil _ _, Below.refl _ _⟩
  case round =>
    obtain ⟨j, hj, rfl, hown, hbl⟩ := hrel
    have hsz := hbl.size
    have HBL := Lib.hid hbl; clear hbl
    by_cases hlt : j < k
    · obtain ⟨p1, p2, p3⟩ := sylv_ok j (by omega)
      have P3 := Lib.hid p3; clear p3
      have hll := sylv_len j
      have hl6 : (sylv j).length ≤ 6 := by omega
      have HS : Hid (sylv (j + 1) = sylv j ++ [prodL (sylv j) + 1]) := rfl
      clear hll
      obtain ⟨a, c, rfl, ho⟩ := hown.own
      have HO := Lib.hid ho; clear ho
      go_wp2_with fail
      refine (product_any _ _ _ _ HO.out.ints P3.out p2).mono ?_
      rintro e w' ⟨rfl, rfl⟩
      go_wp2_with (at_builtin; refine wpList_append_int rfl _ _ rfl w.heap.size _ _ rfl hown _ rfl (by omega) (by omega) ?_; intro v' w2 hown2 hbl2)
      have HB2 := Lib.hid hbl2; clear hbl2
      go_roundw
      case rel => exact ⟨j + 1, by omega, by go_num, by rw [HS.out]; exact hown2, HBL.out.trans HB2.out⟩
      case measure => simp [intOf] <;> omega
    · go_wp2
      go_ret
      obtain rfl : j = k := by omega
      exact hown.ret HBL.out

end Go.Proofs.Ytkcjjhdmklhepaa
