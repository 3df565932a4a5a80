/- Rods of an abacus and wheels of a counter: program and reference, second part. Conditions: those of each contract. -/
import Derived.Test.YthppnjalfppmhaaAbacusA
import Derived.Test.YthppnjalfppmhaaPlaces
namespace Go.Proofs.Ythppnjalfppmhaa
set_option linter.unusedVariables false
open Go.RowKit

/-- A call returns a new slice of the integers xs, and a bool. -/
def RetIB (w : World) (xs : List Int) (ok : Bool) (e : Ending) (w' : World) : Prop := ∃ a cap, e = .returned (.tuple #[.slice a xs.length cap, .bool ok]) ∧ OwnI w' w.heap.size a cap xs ∧ Below w.heap.size w w'

def ctrB (n k : Int) : Bool := inB k 1 10 && inB n 0 (10 ^ k.toNat - 1)
theorem pow10 (k : Nat) (hk : k ≤ 10) : 1 ≤ (10 : Int) ^ k ∧ (10 : Int) ^ k ≤ 10000000000 := by
  refine ⟨Int.pow_pos (by omega), ?_⟩
  have : ∀ j : Fin 11, (10 : Int) ^ j.val ≤ 10000000000 := by decide
  exact this ⟨k, by omega⟩
theorem ctrB_t {n k : Int} (h : ctrB n k = true) : ∃ j : Nat, k = j ∧ 1 ≤ j ∧ j ≤ 10 ∧ 0 ≤ n ∧ n < 10 ^ j ∧ n < 10000000000 := by
  simp only [ctrB, Bool.and_eq_true, inB_t] at h
  obtain ⟨j, rfl⟩ := Int.eq_ofNat_of_zero_le (show 0 ≤ k by omega)
  have hp := pow10 j (by omega)
  obtain ⟨⟨hk1, hk2⟩, h1, h2⟩ := h
  simp only [Int.toNat_natCast] at h2
  exact ⟨j, rfl, by omega, by omega, h1, by omega, by omega⟩
theorem isCounter_any (n k : Int) (w : World) :
    Calls Try.prog 42 #[.int .i64 n, .int .i64 k] w fun e w' => e = .returned (.bool (ctrB n k)) ∧ w = w' := by
  cases hk : inB k 1 10
  · go_enter Try.func42, Try.ntmps42
    go_wp2_with (go_at_call 47; refine (within_any _ _ _ _).mono ?_; rintro e w' ⟨rfl, rfl⟩)
    go_ret
    exact ⟨by simp [ctrB, hk], rfl⟩
  obtain ⟨hk1, hk2⟩ := inB_t.1 hk
  obtain ⟨k, rfl⟩ := Int.eq_ofNat_of_zero_le (show 0 ≤ k by omega)
  obtain ⟨hp1, hp2⟩ := pow10 k (by omega)
  go_enter Try.func42, Try.ntmps42
  go_wp2_with (first | (go_at_call 47; refine (within_any _ _ _ _).mono ?_; rintro e w' ⟨rfl, rfl⟩) | (go_at_call 43; refine (power_any _ _ _ (by omega) (by omega) (by omega)).mono ?_; rintro e w' ⟨rfl, rfl⟩))
  go_ret
  exact ⟨by simp [ctrB, hk], rfl⟩
theorem l28Ok_any (n k : Int) (w : World) :
    Calls Try.prog 41 #[.int .i64 n, .int .i64 k] w fun e w' => e = .returned (.bool (ctrB n k)) ∧ w = w' := by
  cases hk : inB k 1 10
  · go_enter Try.func41, Try.ntmps41
    go_wp2_with (go_at_call 46; refine (l01In_any _ _ _ _).mono ?_; rintro e w' ⟨rfl, rfl⟩)
    go_ret
    exact ⟨by simp [ctrB, hk], rfl⟩
  obtain ⟨hk1, hk2⟩ := inB_t.1 hk
  obtain ⟨k, rfl⟩ := Int.eq_ofNat_of_zero_le (show 0 ≤ k by omega)
  obtain ⟨hp1, hp2⟩ := pow10 k (by omega)
  go_enter Try.func41, Try.ntmps41
  go_wp2_with (first | (go_at_call 46; refine (l01In_any _ _ _ _).mono ?_; rintro e w' ⟨rfl, rfl⟩) | (go_at_call 50; refine (l14Power_any _ _ _ (by omega) (by omega) (by omega)).mono ?_; rintro e w' ⟨rfl, rfl⟩))
  go_ret
  exact ⟨by simp [ctrB, hk], rfl⟩
def abOf (n k : Int) : List Int := if ctrB n k then plcd n 10 k.toNat else []
theorem abOf_len (n k : Int) : (abOf n k).length ≤ 10 := by
  unfold abOf
  split
  · rename_i h
    obtain ⟨j, rfl, h1, h2, -⟩ := ctrB_t h
    rw [plcd_length]; simp; omega
  · simp
theorem AbacusOf_any (n k : Int) (w : World) : Calls Try.prog 24 #[.int .i64 n, .int .i64 k] w (RetIB w (abOf n k) (ctrB n k)) := by
  cases hc : ctrB n k
  · have HF : Hid (abOf n k = []) := by show _ = _; simp [abOf, hc]
    rw [HF.out]
    go_enter Try.func24, Try.ntmps24
    go_wp2_with (go_at_call 42; refine (isCounter_any _ _ _).mono ?_; rintro e w' ⟨rfl, rfl⟩)
    go_ret2
    exact ⟨none, 0, rfl, OwnV.nil _ _, Below.refl _ _⟩
  obtain ⟨j, rfl, h1, h2, h3, h4, h5⟩ := ctrB_t hc
  have HF : Hid (abOf n j = plcd n 10 j) := by show _ = _; simp [abOf, hc]
  rw [HF.out]
  go_enter Try.func24, Try.ntmps24
  go_wp2_with (go_at_call 42; refine (isCounter_any _ _ _).mono ?_; rintro e w' ⟨rfl, rfl⟩)
  refine (placed_any n 10 j _ (by omega) (by omega) (by omega) (by omega) (by omega)).mono ?_
  rintro e w1 ⟨a, c, rfl, ho, hb⟩
  have HO := Lib.hid ho; have HB := Lib.hid hb; clear ho hb
  go_wp2_with fail
  go_ret2
  exact ⟨a, c, rfl, HO.out, HB.out⟩
set_option maxHeartbeats 400000 in
theorem sAbacusOf_any (n k : Int) (w : World) : Calls Try.prog 23 #[.int .i64 n, .int .i64 k] w (RetIB w (abOf n k) (ctrB n k)) := by
  cases hk : inB k 1 10
  · have hc : ctrB n k = false := by simp [ctrB, hk]
    have HF : Hid (abOf n k = []) := by show _ = _; simp [abOf, hc]
    rw [HF.out, hc]
    clear hc
    go_enter Try.func23, Try.ntmps23
    go_wp2_with (go_at_call 46; refine (l01In_any _ _ _ _).mono ?_; rintro e w' ⟨rfl, rfl⟩)
    go_ret2
    exact ⟨none, 0, rfl, OwnV.nil _ _, Below.refl _ _⟩
  obtain ⟨hk1, hk2⟩ := inB_t.1 hk
  obtain ⟨k, rfl⟩ := Int.eq_ofNat_of_zero_le (show 0 ≤ k by omega)
  obtain ⟨hp1, hp2⟩ := pow10 k (by omega)
  cases hn : inB n 0 (10 ^ k - 1)
  · have hc : ctrB n k = false := by simp [ctrB, hk, hn]
    have HF : Hid (abOf n k = []) := by show _ = _; simp [abOf, hc]
    rw [HF.out, hc]
    clear hc
    go_enter Try.func23, Try.ntmps23
    go_wp2_with (first | (go_at_call 46; refine (l01In_any _ _ _ _).mono ?_; rintro e w' ⟨rfl, rfl⟩) | (go_at_call 50; refine (l14Power_any _ _ _ (by omega) (by omega) (by omega)).mono ?_; rintro e w' ⟨rfl, rfl⟩))
    go_ret2
    exact ⟨none, 0, rfl, OwnV.nil _ _, Below.refl _ _⟩
  have hc : ctrB n k = true := by simp [ctrB, hk, hn]
  obtain ⟨hn1, hn2⟩ := inB_t.1 hn
  have HF : Hid (abOf n k = plcd n 10 k) := by show _ = _; simp [abOf, hc]
  rw [HF.out, hc]
  clear hc
  go_enter Try.func23, Try.ntmps23
  go_wp2_with (first | (go_at_call 46; refine (l01In_any _ _ _ _).mono ?_; rintro e w' ⟨rfl, rfl⟩) | (go_at_call 50; refine (l14Power_any _ _ _ (by omega) (by omega) (by omega)).mono ?_; rintro e w' ⟨rfl, rfl⟩))
  refine (l15Digits_any n 10 k _ (by omega) (by omega) (by omega) (by omega) (by omega)).mono ?_
  rintro e w1 ⟨a, c, rfl, ho, hb⟩
  have HO := Lib.hid ho; have HB := Lib.hid hb; clear ho hb
  go_wp2_with fail
  go_ret2
  exact ⟨a, c, rfl, HO.out, HB.out⟩
set_option maxHeartbeats 2000000 in
theorem law_FnExactAbacusOf (n : Int) (k : Int) (w : World) (fn : (Lit.int .i64 n).wf = true) (fk : (Lit.int .i64 k).wf = true) :
    Calls Try.prog 7 #[.int .i64 n, .int .i64 k] w fun e w' => e = .returned (.bool true) ∧ Below w.heap.size w w' := by
  have hlen : (abOf n k).length ≤ 1152921504606846976 := by have := abOf_len n k; omega
  have HLEN := Lib.hid hlen; clear hlen
  have HB0 : Hid (Below w.heap.size w w) := Below.refl _ _
  go_enter Try.func7, Try.ntmps7
  go_wp2_with fail
  refine (sAbacusOf_any n k _).mono ?_
  rintro e w1 ⟨aW, cW, rfl, ho, hb⟩
  have hu := Below.upd hb
  have HNW : Hid (OwnR w1 w.heap.size w1.heap.size aW cW (abOf n k)) := OwnI.ownR ho
  clear ho hb
  have hs1 := hu.size
  have HB1 : Hid (Below w.heap.size w w1) := HB0.out.trans (hu.below (by omega) (by omega))
  clear hu
  have HOW1 := HNW; clear HNW
  go_wp2_with fail
  refine (AbacusOf_any n k _).mono ?_
  rintro e w2 ⟨aG, cG, rfl, ho, hb⟩
  have hu := Below.upd hb
  have HNG : Hid (OwnR w2 w1.heap.size w2.heap.size aG cG (abOf n k)) := OwnI.ownR ho
  clear ho hb
  have hs2 := hu.size
  have HB2 : Hid (Below w.heap.size w w2) := HB1.out.trans (hu.below (by omega) (by omega))
  have HOW2 : Hid (OwnR w2 w.heap.size w1.heap.size aW cW (abOf n k)) := HOW1.out.upd hu (by omega); clear HOW1
  clear hu
  have HOG2 := HNG; clear HNG
  go_wp2_with fail
  refine (eqIntS_same _ _ _ _ (abOf n k) _ (HOG2.out.ints) (HOW2.out.ints)).mono ?_
  rintro e w3 ⟨rfl, hb⟩
  have hu := Below.upd hb; clear hb
  have hs3 := hu.size
  have HB3 : Hid (Below w.heap.size w w3) := HB2.out.trans (hu.below (by omega) (by omega))
  have HOW3 : Hid (OwnR w3 w.heap.size w1.heap.size aW cW (abOf n k)) := HOW2.out.upd hu (by omega); clear HOW2
  have HOG3 : Hid (OwnR w3 w1.heap.size w2.heap.size aG cG (abOf n k)) := HOG2.out.upd hu (by omega); clear HOG2
  clear hu
  go_wp2_with fail
  refine (markR_any w1.heap.size w2.heap.size _ _ (abOf n k) (1) _ HOG3.out (by omega) (by first | omega | (have := HLEN.out; omega))).mono ?_
  rintro e w4 ⟨rfl, ho, hu⟩
  have HNG : Hid (OwnR w4 w1.heap.size w2.heap.size aG cG (marks (1) (abOf n k).length)) := ho
  clear ho
  have hs4 := hu.size
  have HB4 : Hid (Below w.heap.size w w4) := HB3.out.trans (hu.below (by omega) (by omega))
  have HOW4 : Hid (OwnR w4 w.heap.size w1.heap.size aW cW (abOf n k)) := HOW3.out.upd hu (by omega); clear HOW3
  clear hu
  have HOG4 := HNG; clear HNG
  have hp1 : (0 : Int) ≤ 1 + ((abOf n k).length : Int) := by omega
  go_wp2_with fail
  refine (heldIntS_any _ _ (1) (abOf n k).length _ (HOG4.out.ints) (by omega) (by first | omega | (have := HLEN.out; omega))).mono ?_
  rintro e w' ⟨rfl, rfl⟩
  go_wp2_with fail
  refine (AbacusOf_any n k _).mono ?_
  rintro e w5 ⟨aH, cH, rfl, ho, hb⟩
  have hu := Below.upd hb
  have HNH : Hid (OwnR w5 w4.heap.size w5.heap.size aH cH (abOf n k)) := OwnI.ownR ho
  clear ho hb
  have hs5 := hu.size
  have HB5 : Hid (Below w.heap.size w w5) := HB4.out.trans (hu.below (by omega) (by omega))
  have HOW5 : Hid (OwnR w5 w.heap.size w1.heap.size aW cW (abOf n k)) := HOW4.out.upd hu (by omega); clear HOW4
  have HOG5 : Hid (OwnR w5 w1.heap.size w2.heap.size aG cG (marks (1) (abOf n k).length)) := HOG4.out.upd hu (by omega); clear HOG4
  clear hu
  have HOH5 := HNH; clear HNH
  go_wp2_with fail
  refine (eqIntS_same _ _ _ _ (abOf n k) _ (HOH5.out.ints) (HOW5.out.ints)).mono ?_
  rintro e w6 ⟨rfl, hb⟩
  have hu := Below.upd hb; clear hb
  have hs6 := hu.size
  have HB6 : Hid (Below w.heap.size w w6) := HB5.out.trans (hu.below (by omega) (by omega))
  have HOW6 : Hid (OwnR w6 w.heap.size w1.heap.size aW cW (abOf n k)) := HOW5.out.upd hu (by omega); clear HOW5
  have HOG6 : Hid (OwnR w6 w1.heap.size w2.heap.size aG cG (marks (1) (abOf n k).length)) := HOG5.out.upd hu (by omega); clear HOG5
  have HOH6 : Hid (OwnR w6 w4.heap.size w5.heap.size aH cH (abOf n k)) := HOH5.out.upd hu (by omega); clear HOH5
  clear hu
  go_wp2_with fail
  refine (heldIntS_any _ _ (1) (abOf n k).length _ (HOG6.out.ints) (by omega) (by first | omega | (have := HLEN.out; omega))).mono ?_
  rintro e w' ⟨rfl, rfl⟩
  go_wp2_with fail
  go_ret
  exact ⟨rfl, HB6.out⟩
def abVal (xs : List Int) : Int := if abOk xs then valL 10 xs else -1
theorem abOk_pow {xs : List Int} (h : abOk xs = true) : (10 : Int) ^ xs.length ≤ 10000000000 := (pow10 _ (abOk_t h).2.1).2
theorem AbacusValue_any (a : Option Addr) (cap : Nat) (xs : List Int) (w : World) (hx : Ints w w.heap.size a cap xs) :
    Calls Try.prog 28 #[.slice a xs.length cap] w fun e w' => e = .returned (.int .i64 (abVal xs)) ∧ Below w.heap.size w w' := by
  have HX := Lib.hid hx; clear hx
  cases hc : abOk xs
  · have HF : Hid (abVal xs = -1) := by show _ = _; simp [abVal, hc]
    go_enter Try.func28, Try.ntmps28
    go_wp2_with fail
    refine (AbacusOk_any _ _ _ _ HX.out).mono ?_
    rintro e w1 ⟨rfl, hb⟩
    have HB := Lib.hid hb; clear hb
    go_wp2_with fail
    go_ret
    exact ⟨by rw [HF.out] <;> rfl, HB.out⟩
  · have HF : Hid (abVal xs = valL 10 xs) := by show _ = _; simp [abVal, hc]
    have HT := Lib.hid (abOk_t hc)
    have HP := Lib.hid (abOk_pow hc)
    go_enter Try.func28, Try.ntmps28
    go_wp2_with fail
    refine (AbacusOk_any _ _ _ _ HX.out).mono ?_
    rintro e w1 ⟨rfl, hb⟩
    have HB := Lib.hid hb
    have hs := hb.size
    clear hb
    go_wp2_with fail
    refine (valueOf_any _ _ xs 10 _ ((HX.out.below HB.out).mono hs) HT.out.2.2 (by omega) (Int.le_trans HP.out (by omega))).mono ?_
    rintro e w' ⟨rfl, rfl⟩
    go_wp2_with fail
    go_ret
    exact ⟨by rw [HF.out] <;> rfl, HB.out⟩
theorem sAbacusValue_any (a : Option Addr) (cap : Nat) (xs : List Int) (w : World) (hx : Ints w w.heap.size a cap xs) :
    Calls Try.prog 27 #[.slice a xs.length cap] w fun e w' => e = .returned (.int .i64 (abVal xs)) ∧ Below w.heap.size w w' := by
  have HX := Lib.hid hx; clear hx
  cases hc : abOk xs
  · have HF : Hid (abVal xs = -1) := by show _ = _; simp [abVal, hc]
    go_enter Try.func27, Try.ntmps27
    go_wp2_with fail
    refine (sAbacusOk_any _ _ _ _ HX.out).mono ?_
    rintro e w' ⟨rfl, rfl⟩
    go_wp2_with fail
    go_ret
    exact ⟨by rw [HF.out] <;> rfl, Below.refl _ _⟩
  · have HF : Hid (abVal xs = valL 10 xs) := by show _ = _; simp [abVal, hc]
    have HT := Lib.hid (abOk_t hc)
    have HP := Lib.hid (abOk_pow hc)
    go_enter Try.func27, Try.ntmps27
    go_wp2_with fail
    refine (sAbacusOk_any _ _ _ _ HX.out).mono ?_
    rintro e w' ⟨rfl, rfl⟩
    go_wp2_with fail
    refine (l18Value_any _ _ xs 10 _ HX.out HT.out.2.2 (by omega) (Int.le_trans HP.out (by omega))).mono ?_
    rintro e w' ⟨rfl, rfl⟩
    go_wp2_with fail
    go_ret
    exact ⟨by rw [HF.out] <;> rfl, Below.refl _ _⟩
set_option maxHeartbeats 2000000 in
theorem law_FnExactAbacusValue (arods : Option Addr) (lrods crods : Nat) (zrods : List Int) (w : World) (frods : IsRow .i64 w arods lrods crods zrods) :
    Calls Try.prog 8 #[.slice arods lrods crods] w fun e w' => e = .returned (.bool true) ∧ Below w.heap.size w w' := by
  obtain ⟨rods, rfl, hxrods⟩ := frods.op
  have HXrods := Lib.hid hxrods; clear hxrods frods
  by_cases hbigrods : 1048576 < rods.length
  · go_enter Try.func8, Try.ntmps8
    go_wp2_with fail
    go_ret
    exact ⟨rfl, Below.refl _ _⟩
  have hsrods : rods.length ≤ 1048576 := by omega
  clear hbigrods
  have HB0 : Hid (Below w.heap.size w w) := Below.refl _ _
  go_enter Try.func8, Try.ntmps8
  go_wp2_with fail
  refine (toIntS_any _ _ rods _ ((HXrods.out.below HB0.out).mono (by omega)) (by omega)).mono ?_
  rintro e w1 ⟨atrods, ctrods, rfl, ho, hb⟩
  have hu := Below.upd hb
  have HNtrods : Hid (OwnR w1 w.heap.size w1.heap.size atrods ctrods (rods)) := OwnI.ownR ho
  clear ho hb
  have hs1 := hu.size
  have HB1 : Hid (Below w.heap.size w w1) := HB0.out.trans (hu.below (by omega) (by omega))
  clear hu
  have HOtrods1 := HNtrods; clear HNtrods
  go_wp2_with fail
  refine (sAbacusValue_any _ _ rods _ (HOtrods1.out.ints)).mono ?_
  rintro e w2 ⟨rfl, hb⟩
  have hu := Below.upd hb; clear hb
  have hs2 := hu.size
  have HB2 : Hid (Below w.heap.size w w2) := HB1.out.trans (hu.below (by omega) (by omega))
  have HOtrods2 : Hid (OwnR w2 w.heap.size w1.heap.size atrods ctrods (rods)) := HOtrods1.out.upd hu (by omega); clear HOtrods1
  clear hu
  go_wp2_with fail
  refine (toIntS_any _ _ rods _ ((HXrods.out.below HB2.out).mono (by omega)) (by omega)).mono ?_
  rintro e w3 ⟨axrods, cxrods, rfl, ho, hb⟩
  have hu := Below.upd hb
  have HNxrods : Hid (OwnR w3 w2.heap.size w3.heap.size axrods cxrods (rods)) := OwnI.ownR ho
  clear ho hb
  have hs3 := hu.size
  have HB3 : Hid (Below w.heap.size w w3) := HB2.out.trans (hu.below (by omega) (by omega))
  clear hu
  have HOxrods3 := HNxrods; clear HNxrods
  go_wp2_with fail
  refine (AbacusValue_any _ _ rods _ (HOxrods3.out.ints)).mono ?_
  rintro e w4 ⟨rfl, hb⟩
  have hu := Below.upd hb; clear hb
  have hs4 := hu.size
  have HB4 : Hid (Below w.heap.size w w4) := HB3.out.trans (hu.below (by omega) (by omega))
  have HOxrods4 : Hid (OwnR w4 w2.heap.size w3.heap.size axrods cxrods (rods)) := HOxrods3.out.upd hu (by omega); clear HOxrods3
  clear hu
  go_wp2_with fail
  refine (toIntS_any _ _ rods _ ((HXrods.out.below HB4.out).mono (by omega)) (by omega)).mono ?_
  rintro e w5 ⟨ayrods, cyrods, rfl, ho, hb⟩
  have hu := Below.upd hb
  have HNyrods : Hid (OwnR w5 w4.heap.size w5.heap.size ayrods cyrods (rods)) := OwnI.ownR ho
  clear ho hb
  have hs5 := hu.size
  have HB5 : Hid (Below w.heap.size w w5) := HB4.out.trans (hu.below (by omega) (by omega))
  have HOxrods5 : Hid (OwnR w5 w2.heap.size w3.heap.size axrods cxrods (rods)) := HOxrods4.out.upd hu (by omega); clear HOxrods4
  clear hu
  have HOyrods5 := HNyrods; clear HNyrods
  go_wp2_with fail
  refine (eqIntS_same _ _ _ _ (rods) _ (HOxrods5.out.ints) (HOyrods5.out.ints)).mono ?_
  rintro e w6 ⟨rfl, hb⟩
  have hu := Below.upd hb; clear hb
  have hs6 := hu.size
  have HB6 : Hid (Below w.heap.size w w6) := HB5.out.trans (hu.below (by omega) (by omega))
  have HOxrods6 : Hid (OwnR w6 w2.heap.size w3.heap.size axrods cxrods (rods)) := HOxrods5.out.upd hu (by omega); clear HOxrods5
  have HOyrods6 : Hid (OwnR w6 w4.heap.size w5.heap.size ayrods cyrods (rods)) := HOyrods5.out.upd hu (by omega); clear HOyrods5
  clear hu
  go_wp2_with fail
  go_ret
  exact ⟨rfl, HB6.out⟩
def ripl (n k : Int) : Int := if ctrB n k then (digs n 10).length else -1
theorem LongestRipple_any (n k : Int) (w : World) : Calls Try.prog 16 #[.int .i64 n, .int .i64 k] w fun e w' => e = .returned (.int .i64 (ripl n k)) ∧ Below w.heap.size w w' := by
  cases hc : ctrB n k
  · go_enter Try.func16, Try.ntmps16
    go_wp2_with (go_at_call 42; refine (isCounter_any _ _ _).mono ?_; rintro e w' ⟨rfl, rfl⟩)
    go_ret
    exact ⟨by simp [ripl, hc], Below.refl _ _⟩
  obtain ⟨j, rfl, h1, h2, h3, h4, h5⟩ := ctrB_t hc
  have HF : Hid (ripl n j = (digs n 10).length) := by show _ = _; simp [ripl, hc]
  go_enter Try.func16, Try.ntmps16
  go_wp2_with (go_at_call 42; refine (isCounter_any _ _ _).mono ?_; rintro e w' ⟨rfl, rfl⟩)
  refine (digitsOf_any _ _ _ (by omega) (by omega) (by omega)).mono ?_
  rintro e w1 ⟨a, c, rfl, ho, hb⟩
  have HB := Lib.hid hb; clear ho hb
  go_wp2_with fail
  go_ret
  exact ⟨by rw [HF.out] <;> rfl, HB.out⟩
theorem sLongestRipple_any (n k : Int) (w : World) : Calls Try.prog 15 #[.int .i64 n, .int .i64 k] w fun e w' => e = .returned (.int .i64 (ripl n k)) ∧ Below w.heap.size w w' := by
  cases hc : ctrB n k
  · go_enter Try.func15, Try.ntmps15
    go_wp2_with (go_at_call 41; refine (l28Ok_any _ _ _).mono ?_; rintro e w' ⟨rfl, rfl⟩)
    go_ret
    exact ⟨by simp [ripl, hc], Below.refl _ _⟩
  obtain ⟨j, rfl, h1, h2, h3, h4, h5⟩ := ctrB_t hc
  have HF : Hid (ripl n j = (digs n 10).length) := by show _ = _; simp [ripl, hc]
  go_enter Try.func15, Try.ntmps15
  go_wp2_with (go_at_call 41; refine (l28Ok_any _ _ _).mono ?_; rintro e w' ⟨rfl, rfl⟩)
  refine (l02Digits_any _ _ _ (by omega) (by omega) (by omega)).mono ?_
  rintro e w1 ⟨a, c, rfl, ho, hb⟩
  have HB := Lib.hid hb; clear ho hb
  go_wp2_with fail
  go_ret
  exact ⟨by rw [HF.out] <;> rfl, HB.out⟩
set_option maxHeartbeats 2000000 in
theorem law_FnExactLongestRipple (n : Int) (k : Int) (w : World) (fn : (Lit.int .i64 n).wf = true) (fk : (Lit.int .i64 k).wf = true) :
    Calls Try.prog 4 #[.int .i64 n, .int .i64 k] w fun e w' => e = .returned (.bool true) ∧ Below w.heap.size w w' := by
  have HB0 : Hid (Below w.heap.size w w) := Below.refl _ _
  go_enter Try.func4, Try.ntmps4
  go_wp2_with fail
  refine (sLongestRipple_any n k _).mono ?_
  rintro e w1 ⟨rfl, hb⟩
  have hu := Below.upd hb; clear hb
  have hs1 := hu.size
  have HB1 : Hid (Below w.heap.size w w1) := HB0.out.trans (hu.below (by omega) (by omega))
  clear hu
  go_wp2_with fail
  refine (LongestRipple_any n k _).mono ?_
  rintro e w2 ⟨rfl, hb⟩
  have hu := Below.upd hb; clear hb
  have hs2 := hu.size
  have HB2 : Hid (Below w.heap.size w w2) := HB1.out.trans (hu.below (by omega) (by omega))
  clear hu
  go_wp2_with fail
  go_ret
  exact ⟨rfl, HB2.out⟩

end Go.Proofs.Ythppnjalfppmhaa
