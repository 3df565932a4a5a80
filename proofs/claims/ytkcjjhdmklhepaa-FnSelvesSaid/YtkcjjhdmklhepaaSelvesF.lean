/- Pandigital numbers: program and reference. Conditions: those of each contract. -/
import Derived.Test.YtkcjjhdmklhepaaSelvesC
import Derived.Test.YtkcjjhdmklhepaaVals
import Derived.RegionTactic
namespace Go.Proofs.Ytkcjjhdmklhepaa
set_option linter.unusedVariables false
open Go.RowKit

def hasB (xs : List Int) (d : Int) : Bool := xs.any (fun x => d == x)
theorem hasB_mem {xs : List Int} {d : Int} : hasB xs d = true ↔ d ∈ xs := by
  unfold hasB
  rw [List.any_eq_true]
  constructor
  · rintro ⟨x, hx, h⟩
    have e : d = x := by simpa using h
    rw [e]; exact hx
  · intro h; exact ⟨d, h, by simp⟩
theorem hasB_take_all (xs : List Int) (d : Int) : hasB (xs.take xs.length) d = hasB xs d := by rw [List.take_length]
theorem hasB_next (xs : List Int) (d : Int) (k : Nat) (h : k < xs.length) : hasB (xs.take (k + 1)) d = (hasB (xs.take k) d || (d == xs[k])) := by
  unfold hasB
  rw [take_next xs k h, List.any_append]
  simp only [List.any_cons, List.any_nil, Bool.or_false]
theorem hasB_at (xs : List Int) (k : Nat) (h : k < xs.length) (d : Int) (e : (d == xs[k]) = true) : hasB xs d = true := by
  have e2 : d = xs[k] := by simpa using e
  rw [hasB_mem, e2]
  exact List.getElem_mem h
/-- an index whose sign says whether the list holds the number -/
def SignHas (w : World) (xs : List Int) (d : Int) (e : Ending) (w' : World) : Prop := ∃ r : Int, e = .returned (.int .i64 r) ∧ decide (0 ≤ r) = hasB xs d ∧ w = w'
theorem Index_any (a : Option Addr) (cap : Nat) (xs : List Int) (d : Int) (w : World) (hx : Ints w w.heap.size a cap xs) :
    Calls Try.prog 72 #[.slice a xs.length cap, .int .i64 d] w (SignHas w xs d) := by
  have hl := hx.len
  obtain ⟨-, -, b, off, ha, hc⟩ := hx
  have Ha := Lib.hid ha; clear ha
  have Hc := Lib.hid hc; clear hc
  go_enter Try.func72, Try.ntmps72
  go_wp2
  go_loop [8] (fun i => ∃ k : Nat, k ≤ xs.length ∧ i = .int .i64 k ∧ hasB (xs.take k) d = false) (fun i => xs.length - (intOf i).toNat)
  case atStart => exact ⟨0, Nat.zero_le _, rfl, rfl⟩
  case round =>
    obtain ⟨k, hk, rfl, hno⟩ := hrel
    have HN := Lib.hid hno; clear hno
    by_cases hlt : k < xs.length
    · obtain ⟨rfl, -⟩ := Ha.out (by omega)
      have hcx := Hc.out k hlt
      cases hd : (d == xs[k])
      · have HC := Lib.hid (hasB_next xs d k hlt)
        have HD := Lib.hid hd
        go_wp2
        go_round
        case rel => exact ⟨k + 1, by omega, by go_num, by rw [HC.out, HN.out, HD.out] <;> rfl⟩
        case measure => simp [intOf]; omega
      · have HY := Lib.hid (hasB_at xs k hlt d hd)
        go_wp2
        go_ret
        exact ⟨_, rfl, by rw [HY.out]; simp, rfl⟩
    · go_wp2
      go_ret
      obtain rfl : k = xs.length := by omega
      have := HN.out
      rw [hasB_take_all] at this
      exact ⟨_, rfl, by rw [this]; rfl, rfl⟩
theorem Contains_any (a : Option Addr) (cap : Nat) (xs : List Int) (d : Int) (w : World) (hx : Ints w w.heap.size a cap xs) :
    Calls Try.prog 56 #[.slice a xs.length cap, .int .i64 d] w fun e w' => e = .returned (.bool (hasB xs d)) ∧ w = w' := by
  have HX := Lib.hid hx; clear hx
  go_enter Try.func56, Try.ntmps56
  go_wp2_with fail
  refine (Index_any a cap xs d _ HX.out).mono ?_
  rintro e w' ⟨r, rfl, hr, rfl⟩
  go_wp2_with fail
  go_ret
  exact ⟨rfl, rfl⟩
def pandP (xs : List Int) (j : Nat) : Bool := (List.range j).all (fun d => hasB xs (d : Int))
theorem pandP_yes {xs : List Int} {j : Nat} (h : pandP xs j = true) (h2 : hasB xs (j : Int) = true) : pandP xs (j + 1) = true := by
  unfold pandP at h ⊢
  rw [List.range_succ, List.all_append, h]
  simp only [List.all_cons, List.all_nil, h2, Bool.and_true]
theorem pandP_no {xs : List Int} {j m : Nat} (h : j < m) (h2 : hasB xs (j : Int) = false) : pandP xs m = false := by
  rcases hq : pandP xs m with _ | _
  · rfl
  · have := List.all_eq_true.1 hq j (List.mem_range.2 h)
    rw [h2] at this
    exact this.symm
def pandB (n b : Int) : Bool := inB b 2 16 && (inB n 0 1000000000000 && pandP (digs n b) b.toNat)
set_option maxHeartbeats 400000 in
theorem IsPandigital_any (n b : Int) (w : World) :
    Calls Try.prog 20 #[.int .i64 n, .int .i64 b] w fun e w' => e = .returned (.bool (pandB n b)) ∧ Below w.heap.size w w' := by
  cases hb : inB b 2 16
  · go_enter Try.func20, Try.ntmps20
    go_wp2_with (first | (go_at_call 46; refine (BaseOk_any _ _).mono ?_; rintro e w' ⟨rfl, rfl⟩) | (go_at_call 54; refine (isNumber_any _ _).mono ?_; rintro e w' ⟨rfl, rfl⟩))
    go_ret
    exact ⟨by simp [pandB, hb], Below.refl _ _⟩
  cases hn : inB n 0 1000000000000
  · go_enter Try.func20, Try.ntmps20
    go_wp2_with (first | (go_at_call 46; refine (BaseOk_any _ _).mono ?_; rintro e w' ⟨rfl, rfl⟩) | (go_at_call 54; refine (isNumber_any _ _).mono ?_; rintro e w' ⟨rfl, rfl⟩))
    go_ret
    exact ⟨by simp [pandB, hb, hn], Below.refl _ _⟩
  obtain ⟨hb1, hb2⟩ := inB_t.1 hb
  obtain ⟨hn1, hn2⟩ := inB_t.1 hn
  obtain ⟨b, rfl⟩ := Int.eq_ofNat_of_zero_le (show 0 ≤ b by omega)
  have HF : Hid (pandB n b = pandP (digs n b) b) := by show _ = _; simp [pandB, hb, hn]
  go_enter Try.func20, Try.ntmps20
  go_wp2_with (first | (go_at_call 46; refine (BaseOk_any _ _).mono ?_; rintro e w' ⟨rfl, rfl⟩) | (go_at_call 54; refine (isNumber_any _ _).mono ?_; rintro e w' ⟨rfl, rfl⟩))
  refine (digitsOf_any _ _ _ (by omega) hb1 hb2).mono ?_
  rintro e w1 ⟨a, cap, rfl, ho, hbl⟩
  have HB := Lib.hid hbl; clear hbl
  have HO := Lib.hid ho; clear ho
  go_wp2_with fail
  clear hb hn
  go_loop [19] (fun i => ∃ j : Nat, j ≤ b ∧ i = .int .i64 j ∧ pandP (digs n b) j = true) (fun i => b - (intOf i).toNat)
  case atStart => exact ⟨0, by omega, rfl, rfl⟩
  case round =>
    obtain ⟨j, hj, rfl, hp⟩ := hrel
    have HP := Lib.hid hp; clear hp
    by_cases hlt : j < b
    · cases hc : hasB (digs n b) (j : Int)
      · have HN := Lib.hid (pandP_no (m := b) hlt hc)
        go_wp2_with fail
        refine (Contains_any _ _ _ _ _ HO.out.ints).mono ?_
        rintro e w' ⟨rfl, rfl⟩
        rw [hc]; clear hc
        go_wp2_with fail
        go_ret
        exact ⟨by rw [HF.out, HN.out] <;> rfl, HB.out⟩
      · have HY := Lib.hid (pandP_yes HP.out hc)
        go_wp2_with fail
        refine (Contains_any _ _ _ _ _ HO.out.ints).mono ?_
        rintro e w' ⟨rfl, rfl⟩
        rw [hc]; clear hc
        go_wp2_with fail
        go_round
        case rel => exact ⟨j + 1, by omega, by go_num, HY.out⟩
        case measure => simp [intOf]; omega
    · go_wp2_with fail
      go_ret
      obtain rfl : j = b := by omega
      exact ⟨by rw [HF.out, HP.out] <;> rfl, HB.out⟩

end Go.Proofs.Ytkcjjhdmklhepaa
