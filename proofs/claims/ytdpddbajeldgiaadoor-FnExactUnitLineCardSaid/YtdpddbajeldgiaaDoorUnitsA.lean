/- Engel's expansion, Sylvester's numbers, greatest common divisors: program and reference. Conditions: those of each contract. -/
import Derived.Test.YtdpddbajeldgiaaDoorLawKit
import Derived.Test.YtdpddbajeldgiaaDoorUnitsP
import Derived.RegionTactic
namespace Go.Proofs.YtdpddbajeldgiaaDoor
set_option linter.unusedVariables false
open Go.RowKit

/-- A call returns a new slice of the integers xs, and a bool. -/
def RetIB (w : World) (xs : List Int) (ok : Bool) (e : Ending) (w' : World) : Prop := ∃ a cap, e = .returned (.tuple #[.slice a xs.length cap, .bool ok]) ∧ OwnI w' w.heap.size a cap xs ∧ Below w.heap.size w w'
theorem gcd_any (a b : Int) (w : World) (ha : 0 ≤ a) (hb : 0 ≤ b) (ha2 : a ≤ 9223372036854775807) (hb2 : b ≤ 9223372036854775807) :
    Calls Tryd.prog 82 #[.int .i64 a, .int .i64 b] w fun e w' => e = .returned (.int .i64 (gcdZ a b)) ∧ Below w.heap.size w w' := by
  go_enter Tryd.func82, Tryd.ntmps82
  go_wp2
  go_loopw [0, 1] (fun x y wr => ∃ p q : Int, x = .int .i64 p ∧ y = .int .i64 q ∧ 0 ≤ p ∧ 0 ≤ q ∧ p ≤ 9223372036854775807 ∧ q ≤ 9223372036854775807 ∧ gcdZ p q = gcdZ a b ∧ Below w.heap.size w wr) (fun _ y _ => (intOf y).toNat)
  case atStart => exact ⟨a, b, rfl, rfl, ha, hb, ha2, hb2, rfl, Below.refl _ _⟩
  case round =>
    obtain ⟨p, q, rfl, rfl, hp, hq, hp2, hq2, hg, hbl⟩ := hrel
    have HG := Lib.hid hg; have HBL := Lib.hid hbl
    clear hg hbl
    by_cases hz : 0 < q
    · have hne : (q != 0) = true := by rw [bne_iff_ne]; omega
      have hne2 : ¬ q = 0 := by omega
      have HS := Lib.hid (gcdZ_step p q hp hz)
      obtain ⟨hm0, hm1⟩ := mod_bd p q (by omega)
      go_wp2
      go_region
      all_goals
        go_wp2
        go_roundw
        case rel => exact ⟨q, p % q, rfl, rfl, by omega, by omega, by omega, by omega, by rw [← HG.out, HS.out], HBL.out.drew⟩
        case measure => simp [intOf] <;> omega
    · have hq0 : q = 0 := by omega
      subst hq0
      have HZ := Lib.hid (gcdZ_zero p hp)
      go_wp2
      all_goals
        go_ret
        exact ⟨by rw [← HG.out, HZ.out] <;> go_num, HBL.out⟩
theorem l13Gcd_any (a b : Int) (w : World) (ha : 0 ≤ a) (hb : 0 ≤ b) (ha2 : a ≤ 9223372036854775807) (hb2 : b ≤ 9223372036854775807) :
    Calls Tryd.prog 80 #[.int .i64 a, .int .i64 b] w fun e w' => e = .returned (.int .i64 (gcdZ a b)) ∧ w = w' := by
  go_enter Tryd.func80, Tryd.ntmps80
  go_wp2
  go_loop [0, 1] (fun x y => ∃ p q : Int, x = .int .i64 p ∧ y = .int .i64 q ∧ 0 ≤ p ∧ 0 ≤ q ∧ p ≤ 9223372036854775807 ∧ q ≤ 9223372036854775807 ∧ gcdZ p q = gcdZ a b) (fun _ y => (intOf y).toNat)
  case atStart => exact ⟨a, b, rfl, rfl, ha, hb, ha2, hb2, rfl⟩
  case round =>
    obtain ⟨p, q, rfl, rfl, hp, hq, hp2, hq2, hg⟩ := hrel
    have HG := Lib.hid hg
    clear hg
    by_cases hz : 0 < q
    · have HS := Lib.hid (gcdZ_step p q hp hz)
      obtain ⟨hm0, hm1⟩ := mod_bd p q (by omega)
      go_wp2
      go_round
      case rel => exact ⟨q, p % q, rfl, rfl, by omega, by omega, by omega, by omega, by rw [← HG.out, HS.out]⟩
      case measure => simp [intOf] <;> omega
    · have hq0 : q = 0 := by omega
      subst hq0
      have HZ := Lib.hid (gcdZ_zero p hp)
      go_wp2
      go_ret
      exact ⟨by rw [← HG.out, HZ.out] <;> rfl, rfl⟩
theorem isUnitSum_any (p q : Int) (w : World) :
    Calls Tryd.prog 81 #[.int .i64 p, .int .i64 q] w fun e w' => e = .returned (.bool (unitOk p q)) ∧ w = w' := by
  cases hq : inB q 1 1000
  all_goals
    go_enter Tryd.func81, Tryd.ntmps81
    go_wp2_with (go_at_call 87; refine (within_any _ _ _ _).mono ?_; rintro e w' ⟨rfl, rfl⟩)
    go_ret
    exact ⟨by simp [unitOk, hq], rfl⟩
theorem l26Ok_any (p q : Int) (w : World) :
    Calls Tryd.prog 79 #[.int .i64 p, .int .i64 q] w fun e w' => e = .returned (.bool (unitOk p q)) ∧ w = w' := by
  cases hq : inB q 1 1000
  all_goals
    go_enter Tryd.func79, Tryd.ntmps79
    go_wp2_with (go_at_call 84; refine (l01In_any _ _ _ _).mono ?_; rintro e w' ⟨rfl, rfl⟩)
    go_ret
    exact ⟨by simp [unitOk, hq], rfl⟩
set_option maxHeartbeats 400000 in
theorem EngelOf_any (p q : Int) (w : World) : Calls Tryd.prog 41 #[.int .i64 p, .int .i64 q] w (RetIB w (engelR p q) (unitOk p q)) := by
  cases hu : unitOk p q
  · have HF : Hid (engelR p q = []) := by show _ = _; simp [engelR, hu]
    rw [HF.out]
    go_enter Tryd.func41, Tryd.ntmps41
    go_wp2_with (go_at_call 81; refine (isUnitSum_any _ _ _).mono ?_; rintro e w' ⟨rfl, rfl⟩)
    go_ret2
    exact ⟨none, 0, rfl, OwnV.nil _ _, Below.refl _ _⟩
  have HF : Hid (engelR p q = engel q p) := by show _ = _; simp [engelR, hu]
  have hl := engelR_len p q
  rw [HF.out] at hl
  have hu' := hu
  simp only [unitOk, Bool.and_eq_true, inB_t] at hu'
  obtain ⟨⟨hq1, hq2⟩, hp1, hp2⟩ := hu'
  rw [HF.out]
  go_enter Tryd.func41, Tryd.ntmps41
  go_wp2_with (go_at_call 81; refine (isUnitSum_any _ _ _).mono ?_; rintro e w' ⟨rfl, rfl⟩)
  clear hu
  go_loopw [0, 6] (fun x v wr => ∃ (y : Int) (out : List Int), x = .int .i64 y ∧ 0 ≤ y ∧ y ≤ q ∧ out ++ engel q y = engel q p ∧ OwnV wr w.heap.size v out ∧ Below w.heap.size w wr) (fun x _ _ => (intOf x).toNat)
  case atStart => exact ⟨p, [], rfl, by omega, by omega, rfl, OwnV.nil _ _, Below.refl _ _⟩
  case round =>
    obtain ⟨y, out, rfl, hy0, hy1, hout, hown, hbl⟩ := hrel
    have hsz := hbl.size
    have HBL := Lib.hid hbl; clear hbl
    have hol : out.length ≤ 1000 := by rw [← hout] at hl; simp at hl; omega
    by_cases hpos : 0 < y
    · obtain ⟨c1, c2, c3, c4⟩ := ceil_bd y q hpos hq1
      have HST : Hid ((out ++ [(q + y - 1) / y]) ++ engel q (y * ((q + y - 1) / y) - q) = engel q p) := by
        show _ = _; rw [← hout, engel_pos q y hpos hq1]; simp
      clear hout hl
      generalize hN : (q + y - 1) / y = n at *
      have HN := Lib.hid hN; clear hN
      have hNr : (q + y - 1) / y = n := HN.out
      go_wp2_with (at_builtin; refine wpList_append_int rfl _ _ rfl w.heap.size _ _ rfl hown _ rfl (by omega) (by omega) ?_; intro v' w2 hown2 hbl2)
      have HB2 := Lib.hid hbl2; clear hbl2
      go_roundw
      case rel => exact ⟨y * n - q, out ++ [n], rfl, by omega, by omega, HST.out, hown2, HBL.out.trans HB2.out⟩
      case measure => simp [intOf] <;> omega
    · have HZ := Lib.hid (engel_zero q y (by omega))
      have HO := Lib.hid hout; clear hout
      go_wp2
      go_ret2
      have h := HO.out
      rw [HZ.out, List.append_nil] at h
      rw [← h]
      obtain ⟨a9, c9, rfl, ho9⟩ := hown.own
      exact ⟨a9, c9, rfl, ho9, HBL.out⟩
set_option maxHeartbeats 400000 in
theorem sEngelOf_any (p q : Int) (w : World) : Calls Tryd.prog 39 #[.int .i64 p, .int .i64 q] w (RetIB w (engelR p q) (unitOk p q)) := by
  cases hu : unitOk p q
  · have HF : Hid (engelR p q = []) := by show _ = _; simp [engelR, hu]
    rw [HF.out]
    go_enter Tryd.func39, Tryd.ntmps39
    go_wp2_with (go_at_call 79; refine (l26Ok_any _ _ _).mono ?_; rintro e w' ⟨rfl, rfl⟩)
    go_ret2
    exact ⟨none, 0, rfl, OwnV.nil _ _, Below.refl _ _⟩
  have HF : Hid (engelR p q = engel q p) := by show _ = _; simp [engelR, hu]
  have hl := engelR_len p q
  rw [HF.out] at hl
  have hu' := hu
  simp only [unitOk, Bool.and_eq_true, inB_t] at hu'
  obtain ⟨⟨hq1, hq2⟩, hp1, hp2⟩ := hu'
  rw [HF.out]
  go_enter Tryd.func39, Tryd.ntmps39
  go_wp2_with (go_at_call 79; refine (l26Ok_any _ _ _).mono ?_; rintro e w' ⟨rfl, rfl⟩)
  clear hu
  go_loopw [0, 6] (fun x v wr => ∃ (y : Int) (out : List Int), x = .int .i64 y ∧ 0 ≤ y ∧ y ≤ q ∧ out ++ engel q y = engel q p ∧ OwnV wr w.heap.size v out ∧ Below w.heap.size w wr) (fun x _ _ => (intOf x).toNat)
  case atStart => exact ⟨p, [], rfl, by omega, by omega, rfl, OwnV.lit0 _ _ (Nat.le_refl _), (Below.refl _ _).alloc (Nat.le_refl _) _⟩
  case round =>
    obtain ⟨y, out, rfl, hy0, hy1, hout, hown, hbl⟩ := hrel
    have hsz := hbl.size
    have HBL := Lib.hid hbl; clear hbl
    have hol : out.length ≤ 1000 := by rw [← hout] at hl; simp at hl; omega
    by_cases hpos : 0 < y
    · obtain ⟨c1, c2, c3, c4⟩ := ceil_bd y q hpos hq1
      have HST : Hid ((out ++ [(q + y - 1) / y]) ++ engel q (y * ((q + y - 1) / y) - q) = engel q p) := by
        show _ = _; rw [← hout, engel_pos q y hpos hq1]; simp
      clear hout hl
      generalize hN : (q + y - 1) / y = n at *
      have HN := Lib.hid hN; clear hN
      have hNr : (q + y - 1) / y = n := HN.out
      go_wp2_with (at_builtin; refine wpList_append_int rfl _ _ rfl w.heap.size _ _ rfl hown _ rfl (by omega) (by omega) ?_; intro v' w2 hown2 hbl2)
      have HB2 := Lib.hid hbl2; clear hbl2
      go_roundw
      case rel => exact ⟨y * n - q, out ++ [n], rfl, by omega, by omega, HST.out, hown2, HBL.out.trans HB2.out⟩
      case measure => simp [intOf] <;> omega
    · have HZ := Lib.hid (engel_zero q y (by omega))
      have HO := Lib.hid hout; clear hout
      go_wp2
      go_ret2
      have h := HO.out
      rw [HZ.out, List.append_nil] at h
      rw [← h]
      obtain ⟨a9, c9, rfl, ho9⟩ := hown.own
      exact ⟨a9, c9, rfl, ho9, HBL.out⟩

end Go.Proofs.YtdpddbajeldgiaaDoor
