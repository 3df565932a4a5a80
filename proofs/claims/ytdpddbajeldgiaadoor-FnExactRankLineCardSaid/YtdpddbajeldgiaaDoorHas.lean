/- Whether a slice of integers holds a number: slices.Index, slices.Contains. Conditions: those of each contract. -/
import Derived.Test.YtdpddbajeldgiaaDoorMem
import Derived.RegionTactic
namespace Go.Proofs.YtdpddbajeldgiaaDoor
set_option linter.unusedVariables false
open Go.RowKit

def hasB (xs : List Int) (d : Int) : Bool := xs.any (fun x => d == x)
theorem hasB_mem {xs : List Int} {d : Int} : hasB xs d = true ↔ d ∈ xs := by
  unfold hasB
  rw [List.any_eq_true]
  constructor
  · rintro ⟨x, hx, h⟩
    have e : d = x := by simpa using h
    rw [e]; exact hx
  · intro h; exact ⟨d, h, by simp⟩
theorem hasB_take_all (xs : List Int) (d : Int) : hasB (xs.take xs.length) d = hasB xs d := by rw [List.take_length]
theorem hasB_next (xs : List Int) (d : Int) (k : Nat) (h : k < xs.length) : hasB (xs.take (k + 1)) d = (hasB (xs.take k) d || (d == xs[k])) := by
  unfold hasB
  rw [take_next xs k h, List.any_append]
  simp only [List.any_cons, List.any_nil, Bool.or_false]
theorem hasB_at (xs : List Int) (k : Nat) (h : k < xs.length) (d : Int) (e : (d == xs[k]) = true) : hasB xs d = true := by
  have e2 : d = xs[k] := by simpa using e
  rw [hasB_mem, e2]
  exact List.getElem_mem h
/-- an index whose sign says whether the list holds the number -/
def SignHas (w : World) (xs : List Int) (d : Int) (e : Ending) (w' : World) : Prop := ∃ r : Int, e = .returned (.int .i64 r) ∧ decide (0 ≤ r) = hasB xs d ∧ w = w'
theorem Index_any (a : Option Addr) (cap : Nat) (xs : List Int) (d : Int) (w : World) (hx : Ints w w.heap.size a cap xs) :
    Calls Tryd.prog 115 #[.slice a xs.length cap, .int .i64 d] w (SignHas w xs d) := by
  have hl := hx.len
  obtain ⟨-, -, b, off, ha, hc⟩ := hx
  have Ha := Lib.hid ha; clear ha
  have Hc := Lib.hid hc; clear hc
  go_enter Tryd.func115, Tryd.ntmps115
  go_wp2
  go_loop [8] (fun i => ∃ k : Nat, k ≤ xs.length ∧ i = .int .i64 k ∧ hasB (xs.take k) d = false) (fun i => xs.length - (intOf i).toNat)
  case atStart => exact ⟨0, Nat.zero_le _, rfl, rfl⟩
  case round =>
    obtain ⟨k, hk, rfl, hno⟩ := hrel
    have HN := Lib.hid hno; clear hno
    by_cases hlt : k < xs.length
    · obtain ⟨rfl, -⟩ := Ha.out (by omega)
      have hcx := Hc.out k hlt
      cases hd : (d == xs[k])
      · have HC := Lib.hid (hasB_next xs d k hlt)
        have HD := Lib.hid hd
        go_wp2
        go_round
        case rel => exact ⟨k + 1, by omega, by go_num, by rw [HC.out, HN.out, HD.out] <;> rfl⟩
        case measure => simp [intOf]; omega
      · have HY := Lib.hid (hasB_at xs k hlt d hd)
        go_wp2
        go_ret
        exact ⟨_, rfl, by rw [HY.out]; simp, rfl⟩
    · go_wp2
      go_ret
      obtain rfl : k = xs.length := by omega
      have := HN.out
      rw [hasB_take_all] at this
      exact ⟨_, rfl, by rw [this]; rfl, rfl⟩
theorem Contains_any (a : Option Addr) (cap : Nat) (xs : List Int) (d : Int) (w : World) (hx : Ints w w.heap.size a cap xs) :
    Calls Tryd.prog 92 #[.slice a xs.length cap, .int .i64 d] w fun e w' => e = .returned (.bool (hasB xs d)) ∧ w = w' := by
  have HX := Lib.hid hx; clear hx
  go_enter Tryd.func92, Tryd.ntmps92
  go_wp2_with fail
  refine (Index_any a cap xs d _ HX.out).mono ?_
  rintro e w' ⟨r, rfl, hr, rfl⟩
  go_wp2_with fail
  go_ret
  exact ⟨rfl, rfl⟩

end Go.Proofs.YtdpddbajeldgiaaDoor
