/- Small helpers of the laws: btoi, power, has, same. Conditions: those of each contract. -/
import Derived.Test.YtkcjjhdmklhepaaMakeA
namespace Go.Proofs.Ytkcjjhdmklhepaa
set_option linter.unusedVariables false
open Go.RowKit

theorem btoi_any (b : Bool) (w : World) : Calls Try.prog 9 #[.bool b] w fun e w' => e = .returned (.int .i64 (if b then 1 else 0)) ∧ w = w' := by
  cases b
  all_goals
    go_enter Try.func9, Try.ntmps9
    go_wp2
    go_ret
    exact ⟨rfl, rfl⟩
theorem lpower_any (a : Int) (k : Nat) (w : World) (h0 : 1 ≤ a) (hp : a ^ k ≤ 4611686018427387904) (hk : k ≤ 4611686018427387904) :
    Calls Try.prog 8 #[.int .i64 a, .int .i64 k] w fun e w' => e = .returned (.int .i64 (a ^ k)) ∧ w = w' := by
  have HP := Lib.hid hp; clear hp
  go_enter Try.func8, Try.ntmps8
  go_wp2
  go_loop [5, 6] (fun p i => ∃ j : Nat, j ≤ k ∧ i = .int .i64 j ∧ p = .int .i64 (a ^ j)) (fun _ i => k - (intOf i).toNat)
  case atStart => exact ⟨0, Nat.zero_le _, rfl, by simp⟩
  case round =>
    obtain ⟨j, hj, rfl, rfl⟩ := hrel
    by_cases hlt : j < k
    · obtain ⟨hb0, hb1⟩ := pow_stepU a h0 j k hlt HP.out
      go_wp2
      go_round
      case rel => exact ⟨j + 1, by omega, by go_num, by rw [Int.pow_succ]⟩
      case measure => simp [intOf]; omega
    · go_wp2
      go_ret
      obtain rfl : j = k := by omega
      exact ⟨rfl, rfl⟩
def hasZ (xs : List Int) (n : Int) : Bool := xs.any (fun x => x == n)
theorem hasZ_mem {xs : List Int} {n : Int} (h : n ∈ xs) : hasZ xs n = true := by
  simp only [hasZ, List.any_eq_true, beq_iff_eq]
  exact ⟨n, h, rfl⟩
theorem hasZ_no {xs : List Int} {n : Int} (h : ∀ k (hk : k < xs.length), xs[k] ≠ n) : hasZ xs n = false := by
  rw [hasZ, List.any_eq_false]
  intro x hx
  obtain ⟨k, hk, rfl⟩ := List.mem_iff_getElem.1 hx
  simpa using h k hk
theorem has_any (a : Option Addr) (cap : Nat) (xs : List Int) (n : Int) (w : World) (hx : Ints w w.heap.size a cap xs) :
    Calls Try.prog 11 #[.slice a xs.length cap, .int .i64 n] w fun e w' => e = .returned (.bool (hasZ xs n)) ∧ w = w' := by
  have hl := hx.len
  obtain ⟨-, -, b, off, ha, hc⟩ := hx
  have Ha := Lib.hid ha; clear ha
  have Hc := Lib.hid hc; clear hc
  go_enter Try.func11, Try.ntmps11
  go_wp2
  go_loop [9] (fun i => ∃ k : Nat, k ≤ xs.length ∧ i = .int .i64 k ∧ ∀ j (hj : j < xs.length), j < k → xs[j] ≠ n) (fun i => xs.length - (intOf i).toNat)
  case atStart => exact ⟨0, Nat.zero_le _, rfl, fun j hj h => by omega⟩
  case round =>
    obtain ⟨k, hk, rfl, hno⟩ := hrel
    have HN := Lib.hid hno; clear hno
    by_cases hlt : k < xs.length
    · obtain ⟨rfl, -⟩ := Ha.out (by omega)
      have hcx := Hc.out k hlt
      have HM : Hid (xs[k] ∈ xs) := List.getElem_mem hlt
      have HG : Hid (∀ j (hj : j < xs.length), j = k → xs[j] = xs[k]) := fun j hj e => by subst e; rfl
      generalize xs[k] = x at *
      by_cases he : x = n
      · subst he
        go_wp2
        go_ret
        exact ⟨by rw [hasZ_mem HM.out] <;> rfl, rfl⟩
      · go_wp2
        go_round
        case rel =>
          refine ⟨k + 1, by omega, by go_num, fun j hj h => ?_⟩
          rcases Nat.lt_or_ge j k with h' | h'
          · exact HN.out j hj h'
          · rw [HG.out j hj (by omega)]; exact he
        case measure => simp [intOf]; omega
    · go_wp2
      go_ret
      exact ⟨by rw [hasZ_no (fun j hj => HN.out j hj (by omega))] <;> rfl, rfl⟩
theorem same_ne {xs ys : List Int} (k : Nat) (h1 : k < xs.length) (h2 : k < ys.length) (h : xs[k] ≠ ys[k]) : decide (xs = ys) = false := by
  rw [decide_eq_false_iff_not]
  intro e
  subst e
  exact h rfl
theorem same_any (a a' : Option Addr) (cap cap' : Nat) (xs ys : List Int) (w : World) (hx : Ints w w.heap.size a cap xs) (hy : Ints w w.heap.size a' cap' ys) (he : ys.length = xs.length) :
    Calls Try.prog 35 #[.slice a xs.length cap, .slice a' ys.length cap'] w fun e w' => e = .returned (.bool (decide (xs = ys))) ∧ Below w.heap.size w w' := by
  have hl := hx.len
  obtain ⟨hq1, -, b, off, ha, hc⟩ := hx
  obtain ⟨hq2, -, b', off', ha', hc'⟩ := hy
  have Ha := Lib.hid ha; clear ha
  have Hc := Lib.hid hc; clear hc
  have Ha' := Lib.hid ha'; clear ha'
  have Hc' := Lib.hid hc'; clear hc'
  have HL := Lib.hid he
  have hq3 : xs.length ≤ cap' := by omega
  rw [he]
  clear he hq2
  go_enter Try.func35, Try.ntmps35
  go_wp2
  go_loopw [14] (fun i wr => ∃ k : Nat, k ≤ xs.length ∧ i = .int .i64 k ∧ (∀ j (h1 : j < xs.length) (h2 : j < ys.length), j < k → xs[j] = ys[j]) ∧ Below w.heap.size w wr) (fun i _ => xs.length - (intOf i).toNat)
  case atStart => exact ⟨0, Nat.zero_le _, rfl, fun j _ _ h => by omega, Below.refl _ _⟩
  case round =>
    obtain ⟨k, hk, rfl, hno, hb⟩ := hrel
    have HN := Lib.hid hno; clear hno
    have HB := Lib.hid hb
    by_cases hlt : k < xs.length
    · have hlt' : k < ys.length := by have := HL.out; omega
      obtain ⟨rfl, hb1⟩ := Ha.out (by omega)
      obtain ⟨rfl, hb2⟩ := Ha'.out (by omega)
      have hcx := (hb.cell (p := ⟨b, off + k, none⟩) hb1).trans (Hc.out k hlt)
      have hcy := (hb.cell (p := ⟨b', off' + k, none⟩) hb2).trans (Hc'.out k hlt')
      have HNE : Hid (xs[k] ≠ ys[k] → decide (xs = ys) = false) := same_ne k hlt hlt'
      have HG : Hid (∀ j (h1 : j < xs.length) (h2 : j < ys.length), j = k → (xs[j] = ys[j]) = (xs[k] = ys[k])) := fun j h1 h2 e => by subst e; rfl
      have g1 : (0 : Int) ≤ (k : Int) := by omega
      have g2 : (k : Int) < (xs.length : Int) := by omega
      clear hb
      generalize ys[k] = y at *
      generalize xs[k] = x at *
      by_cases hxy : x = y
      · subst hxy
        go_wp2
        go_roundw
        case rel =>
          refine ⟨k + 1, by omega, by go_num, fun j h1 h2 h => ?_, HB.out⟩
          rcases Nat.lt_or_ge j k with h' | h'
          · exact HN.out j h1 h2 h'
          · rw [HG.out j h1 h2 (by omega)]
        case measure => simp [intOf]; omega
      · go_wp2
        go_ret
        exact ⟨by rw [HNE.out hxy] <;> rfl, HB.out⟩
    · clear hb
      go_wp2
      go_ret
      have e : xs = ys := List.ext_getElem HL.out.symm (fun j h1 h2 => HN.out j h1 h2 (by omega))
      exact ⟨by rw [decide_eq_true e] <;> rfl, HB.out⟩

end Go.Proofs.Ytkcjjhdmklhepaa
