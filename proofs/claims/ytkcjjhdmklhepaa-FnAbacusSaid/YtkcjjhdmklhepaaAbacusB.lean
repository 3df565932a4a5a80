/- Rods of an abacus and wheels of a counter: program and reference, second part. Conditions: those of each contract. -/
import Derived.Test.YtkcjjhdmklhepaaAbacusA
import Derived.Test.YtkcjjhdmklhepaaPlaces
namespace Go.Proofs.Ytkcjjhdmklhepaa
set_option linter.unusedVariables false
open Go.RowKit

/-- A call returns a new slice of the integers xs, and a bool. -/
def RetIB (w : World) (xs : List Int) (ok : Bool) (e : Ending) (w' : World) : Prop := ∃ a cap, e = .returned (.tuple #[.slice a xs.length cap, .bool ok]) ∧ OwnI w' w.heap.size a cap xs ∧ Below w.heap.size w w'

def ctrB (n k : Int) : Bool := inB k 1 10 && inB n 0 (10 ^ k.toNat - 1)
theorem pow10 (k : Nat) (hk : k ≤ 10) : 1 ≤ (10 : Int) ^ k ∧ (10 : Int) ^ k ≤ 10000000000 := by
  refine ⟨Int.pow_pos (by omega), ?_⟩
  have : ∀ j : Fin 11, (10 : Int) ^ j.val ≤ 10000000000 := by decide
  exact this ⟨k, by omega⟩
theorem ctrB_t {n k : Int} (h : ctrB n k = true) : ∃ j : Nat, k = j ∧ 1 ≤ j ∧ j ≤ 10 ∧ 0 ≤ n ∧ n < 10 ^ j ∧ n < 10000000000 := by
  simp only [ctrB, Bool.and_eq_true, inB_t] at h
  obtain ⟨j, rfl⟩ := Int.eq_ofNat_of_zero_le (show 0 ≤ k by omega)
  have hp := pow10 j (by omega)
  obtain ⟨⟨hk1, hk2⟩, h1, h2⟩ := h
  simp only [Int.toNat_natCast] at h2
  exact ⟨j, rfl, by omega, by omega, h1, by omega, by omega⟩
theorem isCounter_any (n k : Int) (w : World) :
    Calls Try.prog 64 #[.int .i64 n, .int .i64 k] w fun e w' => e = .returned (.bool (ctrB n k)) ∧ w = w' := by
  cases hk : inB k 1 10
  · go_enter Try.func64, Try.ntmps64
    go_wp2_with (go_at_call 47; refine (within_any _ _ _ _).mono ?_; rintro e w' ⟨rfl, rfl⟩)
    go_ret
    exact ⟨by simp [ctrB, hk], rfl⟩
  obtain ⟨hk1, hk2⟩ := inB_t.1 hk
  obtain ⟨k, rfl⟩ := Int.eq_ofNat_of_zero_le (show 0 ≤ k by omega)
  obtain ⟨hp1, hp2⟩ := pow10 k (by omega)
  go_enter Try.func64, Try.ntmps64
  go_wp2_with (first | (go_at_call 47; refine (within_any _ _ _ _).mono ?_; rintro e w' ⟨rfl, rfl⟩) | (go_at_call 48; refine (power_any _ _ _ (by omega) (by omega) (by omega)).mono ?_; rintro e w' ⟨rfl, rfl⟩))
  go_ret
  exact ⟨by simp [ctrB, hk], rfl⟩
def abOf (n k : Int) : List Int := if ctrB n k then plcd n 10 k.toNat else []
theorem abOf_len (n k : Int) : (abOf n k).length ≤ 10 := by
  unfold abOf
  split
  · rename_i h
    obtain ⟨j, rfl, h1, h2, -⟩ := ctrB_t h
    rw [plcd_length]; simp; omega
  · simp
theorem AbacusOf_any (n k : Int) (w : World) : Calls Try.prog 38 #[.int .i64 n, .int .i64 k] w (RetIB w (abOf n k) (ctrB n k)) := by
  cases hc : ctrB n k
  · have HF : Hid (abOf n k = []) := by show _ = _; simp [abOf, hc]
    rw [HF.out]
    go_enter Try.func38, Try.ntmps38
    go_wp2_with (go_at_call 64; refine (isCounter_any _ _ _).mono ?_; rintro e w' ⟨rfl, rfl⟩)
    go_ret2
    exact ⟨none, 0, rfl, OwnV.nil _ _, Below.refl _ _⟩
  obtain ⟨j, rfl, h1, h2, h3, h4, h5⟩ := ctrB_t hc
  have HF : Hid (abOf n j = plcd n 10 j) := by show _ = _; simp [abOf, hc]
  rw [HF.out]
  go_enter Try.func38, Try.ntmps38
  go_wp2_with (go_at_call 64; refine (isCounter_any _ _ _).mono ?_; rintro e w' ⟨rfl, rfl⟩)
  refine (placed_any n 10 j _ (by omega) (by omega) (by omega) (by omega) (by omega)).mono ?_
  rintro e w1 ⟨a, c, rfl, ho, hb⟩
  have HO := Lib.hid ho; have HB := Lib.hid hb; clear ho hb
  go_wp2_with fail
  go_ret2
  exact ⟨a, c, rfl, HO.out, HB.out⟩
def abVal (xs : List Int) : Int := if abOk xs then valL 10 xs else -1
theorem abOk_pow {xs : List Int} (h : abOk xs = true) : (10 : Int) ^ xs.length ≤ 10000000000 := (pow10 _ (abOk_t h).2.1).2
theorem AbacusValue_any (a : Option Addr) (cap : Nat) (xs : List Int) (w : World) (hx : Ints w w.heap.size a cap xs) :
    Calls Try.prog 32 #[.slice a xs.length cap] w fun e w' => e = .returned (.int .i64 (abVal xs)) ∧ Below w.heap.size w w' := by
  have HX := Lib.hid hx; clear hx
  cases hc : abOk xs
  · have HF : Hid (abVal xs = -1) := by show _ = _; simp [abVal, hc]
    go_enter Try.func32, Try.ntmps32
    go_wp2_with fail
    refine (AbacusOk_any _ _ _ _ HX.out).mono ?_
    rintro e w1 ⟨rfl, hb⟩
    have HB := Lib.hid hb; clear hb
    go_wp2_with fail
    go_ret
    exact ⟨by rw [HF.out] <;> rfl, HB.out⟩
  · have HF : Hid (abVal xs = valL 10 xs) := by show _ = _; simp [abVal, hc]
    have HT := Lib.hid (abOk_t hc)
    have HP := Lib.hid (abOk_pow hc)
    go_enter Try.func32, Try.ntmps32
    go_wp2_with fail
    refine (AbacusOk_any _ _ _ _ HX.out).mono ?_
    rintro e w1 ⟨rfl, hb⟩
    have HB := Lib.hid hb
    have hs := hb.size
    clear hb
    go_wp2_with fail
    refine (valueOf_any _ _ xs 10 _ ((HX.out.below HB.out).mono hs) HT.out.2.2 (by omega) (Int.le_trans HP.out (by omega))).mono ?_
    rintro e w' ⟨rfl, rfl⟩
    go_wp2_with fail
    go_ret
    exact ⟨by rw [HF.out] <;> rfl, HB.out⟩
def ripl (n k : Int) : Int := if ctrB n k then (digs n 10).length else -1
theorem LongestRipple_any (n k : Int) (w : World) : Calls Try.prog 42 #[.int .i64 n, .int .i64 k] w fun e w' => e = .returned (.int .i64 (ripl n k)) ∧ Below w.heap.size w w' := by
  cases hc : ctrB n k
  · go_enter Try.func42, Try.ntmps42
    go_wp2_with (go_at_call 64; refine (isCounter_any _ _ _).mono ?_; rintro e w' ⟨rfl, rfl⟩)
    go_ret
    exact ⟨by simp [ripl, hc], Below.refl _ _⟩
  obtain ⟨j, rfl, h1, h2, h3, h4, h5⟩ := ctrB_t hc
  have HF : Hid (ripl n j = (digs n 10).length) := by show _ = _; simp [ripl, hc]
  go_enter Try.func42, Try.ntmps42
  go_wp2_with (go_at_call 64; refine (isCounter_any _ _ _).mono ?_; rintro e w' ⟨rfl, rfl⟩)
  refine (digitsOf_any _ _ _ (by omega) (by omega) (by omega)).mono ?_
  rintro e w1 ⟨a, c, rfl, ho, hb⟩
  have HB := Lib.hid hb; clear ho hb
  go_wp2_with fail
  go_ret
  exact ⟨by rw [HF.out] <;> rfl, HB.out⟩

end Go.Proofs.Ytkcjjhdmklhepaa
