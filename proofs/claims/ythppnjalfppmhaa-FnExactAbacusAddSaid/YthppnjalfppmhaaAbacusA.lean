/- Rods of an abacus and wheels of a counter: program and reference, first part. Conditions: those of each contract. -/
import Derived.Test.YthppnjalfppmhaaLawKit
import Derived.Test.YthppnjalfppmhaaDigs
import Derived.Test.YthppnjalfppmhaaRange
import Derived.Test.YthppnjalfppmhaaAbacusP
namespace Go.Proofs.Ythppnjalfppmhaa
set_option linter.unusedVariables false
open Go.RowKit

def abOk (xs : List Int) : Bool := inB xs.length 1 10 && allIn xs 0 9
theorem abOk_t {xs : List Int} (h : abOk xs = true) : 1 ≤ xs.length ∧ xs.length ≤ 10 ∧ ∀ d ∈ xs, 0 ≤ d ∧ d < 10 := by
  simp only [abOk, Bool.and_eq_true, inB_t, allIn_t] at h
  refine ⟨by omega, by omega, fun d hd => ?_⟩
  have := h.2 d hd
  omega
theorem AbacusOk_any (a : Option Addr) (cap : Nat) (xs : List Int) (w : World) (hx : Ints w w.heap.size a cap xs) :
    Calls Try.prog 19 #[.slice a xs.length cap] w fun e w' => e = .returned (.bool (abOk xs)) ∧ Below w.heap.size w w' := by
  have HX := Lib.hid hx; clear hx
  cases hl : inB xs.length 1 10
  · go_enter Try.func19, Try.ntmps19
    go_wp2_with (go_at_call 47; refine (within_any _ _ _ _).mono ?_; rintro e w' ⟨rfl, rfl⟩)
    go_ret
    exact ⟨by simp [abOk, hl], Below.refl _ _⟩
  · go_enter Try.func19, Try.ntmps19
    go_wp2_with (go_at_call 47; refine (within_any _ _ _ _).mono ?_; rintro e w' ⟨rfl, rfl⟩)
    refine (allWithin_any _ _ _ _ _ _ HX.out).mono ?_
    rintro e w1 ⟨rfl, hbl⟩
    have HB := Lib.hid hbl; clear hbl
    go_wp2_with fail
    go_ret
    exact ⟨by simp [abOk, hl], HB.out⟩
theorem sAbacusOk_any (a : Option Addr) (cap : Nat) (xs : List Int) (w : World) (hx : Ints w w.heap.size a cap xs) :
    Calls Try.prog 17 #[.slice a xs.length cap] w fun e w' => e = .returned (.bool (abOk xs)) ∧ w = w' := by
  have hlx := hx.len
  obtain ⟨-, -, b, off, ha, hc⟩ := hx
  have Ha := Lib.hid ha; clear ha
  have Hc := Lib.hid hc; clear hc
  cases hl : inB xs.length 1 10
  · go_enter Try.func17, Try.ntmps17
    go_wp2_with (go_at_call 46; refine (l01In_any _ _ _ _).mono ?_; rintro e w' ⟨rfl, rfl⟩)
    go_ret
    exact ⟨by simp [abOk, hl], rfl⟩
  · have HF : Hid (abOk xs = allIn xs 0 9) := by show _ = _; simp [abOk, hl]
    go_enter Try.func17, Try.ntmps17
    go_wp2_with (go_at_call 46; refine (l01In_any _ _ _ _).mono ?_; rintro e w' ⟨rfl, rfl⟩)
    clear hl
    go_loop [11] (fun i => ∃ k : Nat, k ≤ xs.length ∧ i = .int .i64 k ∧ allIn (xs.take k) 0 9 = true) (fun i => xs.length - (intOf i).toNat)
    case atStart => exact ⟨0, Nat.zero_le _, rfl, rfl⟩
    case round =>
      obtain ⟨k, hk, rfl, hall⟩ := hrel
      have HA := Lib.hid hall; clear hall
      by_cases hlt : k < xs.length
      · obtain ⟨rfl, -⟩ := Ha.out (by omega)
        have hcx := Hc.out k hlt
        cases hin : inB xs[k] 0 9
        · have HN := Lib.hid (allIn_no hlt hin)
          go_wp2_with (go_at_call 46; refine (l01In_any _ _ _ _).mono ?_; rintro e w' ⟨rfl, rfl⟩)
          go_ret
          exact ⟨by rw [HF.out, HN.out] <;> rfl, rfl⟩
        · have HY := Lib.hid (allIn_next hlt HA.out hin)
          go_wp2_with (go_at_call 46; refine (l01In_any _ _ _ _).mono ?_; rintro e w' ⟨rfl, rfl⟩)
          go_round
          case rel => exact ⟨k + 1, by omega, by go_num, HY.out⟩
          case measure => simp [intOf] <;> omega
      · go_wp2
        go_ret
        obtain rfl : k = xs.length := by omega
        have h := HA.out
        rw [allIn_take_all] at h
        exact ⟨by rw [HF.out, h] <;> rfl, rfl⟩
theorem sAbacusOk_b (a : Option Addr) (cap : Nat) (xs : List Int) (w : World) (hx : Ints w w.heap.size a cap xs) :
    Calls Try.prog 17 #[.slice a xs.length cap] w fun e w' => e = .returned (.bool (abOk xs)) ∧ Below w.heap.size w w' :=
  (sAbacusOk_any a cap xs w hx).mono fun _ _ ⟨h1, h2⟩ => ⟨h1, h2 ▸ Below.refl _ _⟩
set_option maxHeartbeats 2000000 in
theorem law_FnExactAbacusOk (arods : Option Addr) (lrods crods : Nat) (zrods : List Int) (w : World) (frods : IsRow .i64 w arods lrods crods zrods) :
    Calls Try.prog 5 #[.slice arods lrods crods] w fun e w' => e = .returned (.bool true) ∧ Below w.heap.size w w' := by
  obtain ⟨rods, rfl, hxrods⟩ := frods.op
  have HXrods := Lib.hid hxrods; clear hxrods frods
  by_cases hbigrods : 1048576 < rods.length
  · go_enter Try.func5, Try.ntmps5
    go_wp2_with fail
    go_ret
    exact ⟨rfl, Below.refl _ _⟩
  have hsrods : rods.length ≤ 1048576 := by omega
  clear hbigrods
  have HB0 : Hid (Below w.heap.size w w) := Below.refl _ _
  go_enter Try.func5, Try.ntmps5
  go_wp2_with fail
  refine (toIntS_any _ _ rods _ ((HXrods.out.below HB0.out).mono (by omega)) (by omega)).mono ?_
  rintro e w1 ⟨atrods, ctrods, rfl, ho, hb⟩
  have hu := Below.upd hb
  have HNtrods : Hid (OwnR w1 w.heap.size w1.heap.size atrods ctrods (rods)) := OwnI.ownR ho
  clear ho hb
  have hs1 := hu.size
  have HB1 : Hid (Below w.heap.size w w1) := HB0.out.trans (hu.below (by omega) (by omega))
  clear hu
  have HOtrods1 := HNtrods; clear HNtrods
  go_wp2_with fail
  refine (sAbacusOk_b _ _ rods _ (HOtrods1.out.ints)).mono ?_
  rintro e w2 ⟨rfl, hb⟩
  have hu := Below.upd hb; clear hb
  have hs2 := hu.size
  have HB2 : Hid (Below w.heap.size w w2) := HB1.out.trans (hu.below (by omega) (by omega))
  have HOtrods2 : Hid (OwnR w2 w.heap.size w1.heap.size atrods ctrods (rods)) := HOtrods1.out.upd hu (by omega); clear HOtrods1
  clear hu
  go_wp2_with fail
  refine (toIntS_any _ _ rods _ ((HXrods.out.below HB2.out).mono (by omega)) (by omega)).mono ?_
  rintro e w3 ⟨axrods, cxrods, rfl, ho, hb⟩
  have hu := Below.upd hb
  have HNxrods : Hid (OwnR w3 w2.heap.size w3.heap.size axrods cxrods (rods)) := OwnI.ownR ho
  clear ho hb
  have hs3 := hu.size
  have HB3 : Hid (Below w.heap.size w w3) := HB2.out.trans (hu.below (by omega) (by omega))
  clear hu
  have HOxrods3 := HNxrods; clear HNxrods
  go_wp2_with fail
  refine (AbacusOk_any _ _ rods _ (HOxrods3.out.ints)).mono ?_
  rintro e w4 ⟨rfl, hb⟩
  have hu := Below.upd hb; clear hb
  have hs4 := hu.size
  have HB4 : Hid (Below w.heap.size w w4) := HB3.out.trans (hu.below (by omega) (by omega))
  have HOxrods4 : Hid (OwnR w4 w2.heap.size w3.heap.size axrods cxrods (rods)) := HOxrods3.out.upd hu (by omega); clear HOxrods3
  clear hu
  go_wp2_with fail
  refine (toIntS_any _ _ rods _ ((HXrods.out.below HB4.out).mono (by omega)) (by omega)).mono ?_
  rintro e w5 ⟨ayrods, cyrods, rfl, ho, hb⟩
  have hu := Below.upd hb
  have HNyrods : Hid (OwnR w5 w4.heap.size w5.heap.size ayrods cyrods (rods)) := OwnI.ownR ho
  clear ho hb
  have hs5 := hu.size
  have HB5 : Hid (Below w.heap.size w w5) := HB4.out.trans (hu.below (by omega) (by omega))
  have HOxrods5 : Hid (OwnR w5 w2.heap.size w3.heap.size axrods cxrods (rods)) := HOxrods4.out.upd hu (by omega); clear HOxrods4
  clear hu
  have HOyrods5 := HNyrods; clear HNyrods
  go_wp2_with fail
  refine (eqIntS_same _ _ _ _ (rods) _ (HOxrods5.out.ints) (HOyrods5.out.ints)).mono ?_
  rintro e w6 ⟨rfl, hb⟩
  have hu := Below.upd hb; clear hb
  have hs6 := hu.size
  have HB6 : Hid (Below w.heap.size w w6) := HB5.out.trans (hu.below (by omega) (by omega))
  have HOxrods6 : Hid (OwnR w6 w2.heap.size w3.heap.size axrods cxrods (rods)) := HOxrods5.out.upd hu (by omega); clear HOxrods5
  have HOyrods6 : Hid (OwnR w6 w4.heap.size w5.heap.size ayrods cyrods (rods)) := HOyrods5.out.upd hu (by omega); clear HOyrods5
  clear hu
  go_wp2_with fail
  go_ret
  exact ⟨rfl, HB6.out⟩

end Go.Proofs.Ythppnjalfppmhaa
