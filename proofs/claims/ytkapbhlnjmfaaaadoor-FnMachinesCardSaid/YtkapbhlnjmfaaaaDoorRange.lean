/- allWithin and what it calls: all numbers of a list lie in a range. Conditions: those of each contract. -/
import Derived.Test.YtkapbhlnjmfaaaaDoorMem
namespace Go.Proofs.YtkapbhlnjmfaaaaDoor
set_option linter.unusedVariables false
open Go.RowKit

def allIn (xs : List Int) (lo hi : Int) : Bool := xs.all (fun x => inB x lo hi)
theorem allIn_t {xs : List Int} {lo hi : Int} : allIn xs lo hi = true ↔ ∀ x ∈ xs, lo ≤ x ∧ x ≤ hi := by simp [allIn, inB]
theorem allIn_take_all (xs : List Int) (lo hi : Int) : allIn (xs.take xs.length) lo hi = allIn xs lo hi := by rw [List.take_length]
theorem allIn_next {xs : List Int} {lo hi : Int} {k : Nat} (h : k < xs.length) (h1 : allIn (xs.take k) lo hi = true) (h2 : inB xs[k] lo hi = true) : allIn (xs.take (k + 1)) lo hi = true := by
  unfold allIn at h1 ⊢
  rw [take_next xs k h, List.all_append, h1]
  simp [h2]
theorem allIn_no {xs : List Int} {lo hi : Int} {k : Nat} (h : k < xs.length) (h2 : inB xs[k] lo hi = false) : allIn xs lo hi = false := by
  rcases hq : allIn xs lo hi with _ | _
  · rfl
  · have := List.all_eq_true.1 hq xs[k] (List.getElem_mem h)
    rw [h2] at this
    exact this.symm

/-- an index whose sign says whether all numbers of the list lie in the range -/
def SignAll (w : World) (xs : List Int) (lo hi : Int) (e : Ending) (w' : World) : Prop := ∃ r : Int, e = .returned (.int .i64 r) ∧ decide (0 ≤ r) = !allIn xs lo hi ∧ w = w'

theorem allWithin1_any (x lo hi : Int) (p q : Nat) (w : World) (hp : w.cell? ⟨p, 0, none⟩ = some (.int .i64 lo)) (hq : w.cell? ⟨q, 0, none⟩ = some (.int .i64 hi)) :
    Calls Tryd.prog 57 #[.int .i64 x, .pointer (some ⟨p, 0, none⟩), .pointer (some ⟨q, 0, none⟩)] w fun e w' => e = .returned (.bool (!inB x lo hi)) ∧ w = w' := by
  go_enter Tryd.func57, Tryd.ntmps57
  go_wp2_with (go_at_call 35; refine (within_any _ _ _ _).mono ?_; rintro e w' ⟨rfl, rfl⟩)
  go_ret
  exact ⟨rfl, rfl⟩

theorem IndexFunc_any (a : Option Addr) (cap : Nat) (xs : List Int) (lo hi : Int) (p q : Nat) (w : World) (hx : Ints w w.heap.size a cap xs)
    (hp : w.cell? ⟨p, 0, none⟩ = some (.int .i64 lo)) (hq : w.cell? ⟨q, 0, none⟩ = some (.int .i64 hi)) :
    Calls Tryd.prog 64 #[.slice a xs.length cap, .func (.func 57) #[] #[.pointer (some ⟨p, 0, none⟩), .pointer (some ⟨q, 0, none⟩)]] w (SignAll w xs lo hi) := by
  have hl := hx.len
  obtain ⟨-, -, b, off, ha, hc⟩ := hx
  have Ha := Lib.hid ha; clear ha
  have Hc := Lib.hid hc; clear hc
  have HP := Lib.hid hp; clear hp
  have HQ := Lib.hid hq; clear hq
  go_enter Tryd.func64, Tryd.ntmps64
  go_wp2
  go_loop [8] (fun i => ∃ k : Nat, k ≤ xs.length ∧ i = .int .i64 k ∧ allIn (xs.take k) lo hi = true) (fun i => xs.length - (intOf i).toNat)
  case atStart => exact ⟨0, Nat.zero_le _, rfl, by simp [allIn]⟩
  case round =>
    obtain ⟨k, hk, rfl, hall⟩ := hrel
    have HA := Lib.hid hall; clear hall
    by_cases hlt : k < xs.length
    · obtain ⟨rfl, -⟩ := Ha.out (by omega)
      have hcx := Hc.out k hlt
      cases hin : inB xs[k] lo hi
      · go_wp2_with (go_at_call 57; refine (allWithin1_any _ lo hi p q _ HP.out HQ.out).mono ?_; rintro e w' ⟨rfl, rfl⟩)
        go_ret
        have := allIn_no hlt hin
        exact ⟨_, rfl, by rw [this]; simp, rfl⟩
      · go_wp2_with (go_at_call 57; refine (allWithin1_any _ lo hi p q _ HP.out HQ.out).mono ?_; rintro e w' ⟨rfl, rfl⟩)
        go_round
        case rel => exact ⟨k + 1, by omega, by go_num, allIn_next hlt HA.out hin⟩
        case measure => simp [intOf]; omega
    · go_wp2
      go_ret
      obtain rfl : k = xs.length := by omega
      have := HA.out
      rw [allIn_take_all] at this
      exact ⟨_, rfl, by rw [this]; rfl, rfl⟩

theorem ContainsFunc_any (a : Option Addr) (cap : Nat) (xs : List Int) (lo hi : Int) (p q : Nat) (w : World) (hx : Ints w w.heap.size a cap xs)
    (hp : w.cell? ⟨p, 0, none⟩ = some (.int .i64 lo)) (hq : w.cell? ⟨q, 0, none⟩ = some (.int .i64 hi)) :
    Calls Tryd.prog 56 #[.slice a xs.length cap, .func (.func 57) #[] #[.pointer (some ⟨p, 0, none⟩), .pointer (some ⟨q, 0, none⟩)]] w
      fun e w' => e = .returned (.bool (!allIn xs lo hi)) ∧ w = w' := by
  have HX := Lib.hid hx; clear hx
  have HP := Lib.hid hp; clear hp
  have HQ := Lib.hid hq; clear hq
  go_enter Tryd.func56, Tryd.ntmps56
  go_wp2_with fail
  refine (IndexFunc_any a cap xs lo hi p q _ HX.out HP.out HQ.out).mono ?_
  rintro e w' ⟨r, rfl, hr, rfl⟩
  go_wp2_with fail
  go_ret
  exact ⟨rfl, rfl⟩

theorem allWithin_any (a : Option Addr) (cap : Nat) (xs : List Int) (lo hi : Int) (w : World) (hx : Ints w w.heap.size a cap xs) :
    Calls Tryd.prog 41 #[.slice a xs.length cap, .int .i64 lo, .int .i64 hi] w fun e w' => e = .returned (.bool (allIn xs lo hi)) ∧ Below w.heap.size w w' := by
  have hmf : ∀ (fn : Fn) (first cap : Array Value) (w : World), (Instr.makeFunc fn first cap).run Tryd.prog w = .ok (.func fn first cap) w := fun _ _ _ _ => rfl
  have HX := Lib.hid hx; clear hx
  go_enter Tryd.func41, Tryd.ntmps41
  go_wp2_with fail
  refine (ContainsFunc_any a cap xs lo hi w.heap.size (w.heap.size + 1) _ ?_ ?_ ?_).mono ?_
  · exact (((HX.out.below ((Below.refl _ _).alloc (Nat.le_refl _) _)).below (((Below.refl _ _).alloc (Nat.le_refl _) _).mono (by simp))).mono (by simp; omega))
  · rw [World.cell?_alloc_past _ _ _ (by simp), World.cell?_alloc_at _ _ _ _ rfl]; rfl
  · rw [World.cell?_alloc_at _ _ _ _ (by simp)]; rfl
  · rintro e w' ⟨rfl, rfl⟩
    go_wp2_with fail
    go_ret
    exact ⟨by simp, ((Below.refl _ _).alloc (Nat.le_refl _) _).alloc (by simp) _⟩

end Go.Proofs.YtkapbhlnjmfaaaaDoor
