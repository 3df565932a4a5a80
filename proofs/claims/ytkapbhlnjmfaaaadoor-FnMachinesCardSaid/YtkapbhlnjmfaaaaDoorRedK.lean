/- Laws on reduced machines: small lemmas and power. -/
import Derived.Test.YtkapbhlnjmfaaaaDoorRedN
import Derived.Test.YtkapbhlnjmfaaaaDoorSameC
import Derived.Test.YtkapbhlnjmfaaaaDoorCntW
import Derived.Deep.RegionHeld3
namespace Go.Proofs.YtkapbhlnjmfaaaaDoor
set_option linter.unusedVariables false
open Go.RowKit

theorem lpw_any (a : Int) (k : Nat) (w : World) (h0 : 1 ≤ a) (hp : a ^ k ≤ 4611686018427387904) (hk : k ≤ 4611686018427387904) :
    Calls Tryd.prog 13 #[.int .i64 a, .int .i64 k] w fun e w' => e = .returned (.int .i64 (a ^ k)) ∧ w = w' := by
  have HP := Lib.hid hp; clear hp
  go_enter Tryd.func13, Tryd.ntmps13
  go_wp2
  go_loop [5, 6] (fun p i => ∃ j : Nat, j ≤ k ∧ i = .int .i64 j ∧ p = .int .i64 (a ^ j)) (fun _ i => k - (intOf i).toNat)
  case atStart => exact ⟨0, Nat.zero_le _, rfl, by simp⟩
  case round =>
    obtain ⟨j, hj, rfl, rfl⟩ := hrel
    by_cases hlt : j < k
    · obtain ⟨hb0, hb1⟩ := pow_stepU a h0 j k hlt HP.out
      go_wp2
      go_round
      case rel => exact ⟨j + 1, by omega, by go_num, by rw [Int.pow_succ]⟩
      case measure => simp [intOf]; omega
    · go_wp2
      go_ret
      obtain rfl : j = k := by omega
      exact ⟨rfl, rfl⟩
theorem box_in {W : World} {B : Nat} {x y z : Value} (h : W.heap[B]? = some (.cells #[x, y, z] 27 (0, 0))) :
    (W.cell? ⟨B, 0, none⟩ = some x ∧ W.cell? ⟨B, 1, none⟩ = some y ∧ W.cell? ⟨B, 2, none⟩ = some z) ∧ W.frozen? ⟨B, 0, none⟩ = false ∧ W.frozen? ⟨B, 1, none⟩ = false ∧ W.frozen? ⟨B, 2, none⟩ = false := by
  simp [World.cell?, World.frozen?, h]
/-- the count of both is the same -/
theorem red_cnt {m : Ma} (hok : maOk m = true) (k : Int) : cntR (redM m) k = cntR m k := by
  obtain ⟨q2, q10, n1, n144, -, -⟩ := maOk_t hok
  have hnx := nxM_lt hok
  have key : ∀ j s, reach m.final.length m.base.toNat (nxM m) (c0M m) s → accN m.base.toNat (nxM (redM m)) (finN (redM m)) j (idxE m.final.length m.base.toNat (nxM m) (c0M m) s) = accN m.base.toNat (nxM m) (finN m) j s := by
    intro j
    induction j with
    | zero => intro s hs; rw [accN, accN, red_finN hok s hs]
    | succ j ih =>
      intro s hs
      rw [accN, accN]
      refine sumR_congr _ (fun d hd => ?_)
      obtain ⟨r1, r2⟩ := reach_next (c0 := c0M m) hnx (by omega) s d hs hd
      rw [redM_nx hok, r2, ← redM_nx hok]
      exact ih _ r1
  obtain ⟨h1, h2⟩ := reach_zero (c0 := c0M m) hnx (by omega)
  unfold cntR
  rw [hok, (redM_ok hok).1]
  have h3 := key k.toNat 0 h1
  rw [h2] at h3
  rw [show (redM m).base = m.base from rfl, h3]
theorem cnt_bd {m : Ma} (hok : maOk m = true) (k : Nat) (hk : k ≤ 9) : 0 ≤ cntR m k ∧ cntR m k ≤ m.base ^ k := by
  obtain ⟨q2, q10, n1, n144, -, -⟩ := maOk_t hok
  have hin : inB (k : Int) 0 9 = true := inB_t.2 ⟨by omega, by omega⟩
  unfold cntR
  simp only [hok, hin, Bool.and_self, if_true]
  have h := accN_bd m.base.toNat (nxM m) (finN m) k 0
  rw [Int.toNat_natCast]
  have e : ((m.base.toNat ^ k : Nat) : Int) = m.base ^ k := by rw [Int.natCast_pow, Int.toNat_of_nonneg (by omega)]
  rw [← e]
  exact h
theorem same_self {m : Ma} (hok : maOk m = true) : sameR m (redM m) = true := by
  unfold sameR
  rw [hok, (redM_ok hok).1, redM_twice hok, eqMa_self]
  rfl
theorem least_acc {m : Ma} (hok : maOk m = true) (h : 0 ≤ leastR m) : accR m (leastR m) = true := by
  unfold leastR at h ⊢
  rw [hok] at h ⊢
  simp only [Bool.true_eq_false, if_false] at h ⊢
  split
  · rename_i n hf
    have h1 := List.find?_some hf
    have h2 := List.mem_of_find?_eq_some hf
    rw [List.mem_range] at h2
    unfold accR
    rw [hok, inB_t.2 ⟨by omega, by omega⟩]
    simpa using h1
  · rename_i hf
    rw [hf] at h
    simp at h


end Go.Proofs.YtkapbhlnjmfaaaaDoor
