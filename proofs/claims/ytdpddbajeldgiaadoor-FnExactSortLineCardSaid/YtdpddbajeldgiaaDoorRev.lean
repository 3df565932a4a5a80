/- slices.Reverse on a slice of the call's own. Conditions: those of each contract. -/
import Derived.Test.YtdpddbajeldgiaaDoorMem
import Derived.RegionTactic
import Derived.ChangeAlike
namespace Go.Proofs.YtdpddbajeldgiaaDoor
set_option linter.unusedVariables false
open Go.RowKit

/-- a list whose first and last k places have been exchanged -/
def revk (xs : List Int) (k : Nat) : List Int := (List.range xs.length).map (fun i => if i < k ∨ xs.length - k ≤ i then xs.getD (xs.length - 1 - i) 0 else xs.getD i 0)
theorem revk_length (xs : List Int) (k : Nat) : (revk xs k).length = xs.length := by simp [revk]
theorem revk_get (xs : List Int) (k i : Nat) (h : i < xs.length) : (revk xs k)[i]'(by rw [revk_length]; exact h) = if i < k ∨ xs.length - k ≤ i then xs.getD (xs.length - 1 - i) 0 else xs.getD i 0 := by simp [revk]
theorem revk_zero (xs : List Int) : revk xs 0 = xs := by
  apply List.ext_getElem
  · rw [revk_length]
  · intro i h1 h2
    rw [revk_get xs 0 i h2, if_neg (by omega)]
    simp [List.getD, h2]
theorem revk_all (xs : List Int) (k : Nat) (h : xs.length ≤ 2 * k + 1) : revk xs k = xs.reverse := by
  apply List.ext_getElem
  · rw [revk_length]; simp
  · intro i h1 h2
    rw [revk_length] at h1
    rw [revk_get xs k i h1, List.getElem_reverse]
    split
    · simp [List.getD, show xs.length - 1 - i < xs.length from by omega]
    · have : i = xs.length - 1 - i := by omega
      simp only [← this]
      simp [List.getD, h1]
theorem revk_mid (xs : List Int) (k : Nat) (h : k < xs.length - 1 - k) :
    (revk xs k)[k]'(by rw [revk_length]; omega) = xs.getD k 0 ∧ (revk xs k)[xs.length - 1 - k]'(by rw [revk_length]; omega) = xs.getD (xs.length - 1 - k) 0 := by
  rw [revk_get xs k k (by omega), revk_get xs k (xs.length - 1 - k) (by omega), if_neg (by omega), if_neg (by omega)]
  exact ⟨rfl, rfl⟩
theorem revk_set (xs : List Int) (k : Nat) (h : k < xs.length - 1 - k) :
    ((revk xs k).set k (xs.getD (xs.length - 1 - k) 0)).set (xs.length - 1 - k) (xs.getD k 0) = revk xs (k + 1) := by
  apply List.ext_getElem
  · simp [revk_length]
  · intro i h1 h2
    rw [revk_length] at h2
    rw [List.getElem_set, List.getElem_set]
    split
    · rename_i e
      subst e
      rw [revk_get xs (k + 1) _ h2, if_pos (by omega), show xs.length - 1 - (xs.length - 1 - k) = k from by omega]
    · split
      · rename_i e1 e
        subst e
        rw [revk_get xs (k + 1) _ h2, if_pos (by omega)]
      · rename_i e1 e2
        rw [revk_get xs k _ h2, revk_get xs (k + 1) _ h2]
        by_cases hc : i < k ∨ xs.length - k ≤ i
        · rw [if_pos hc, if_pos (by omega)]
        · rw [if_neg hc, if_neg (by omega)]

/-- turned in place -/
def Turned (base : Nat) (a : Option Addr) (cap : Nat) (xs : List Int) (w : World) (e : Ending) (w' : World) : Prop := e = .returned (.tuple #[]) ∧ OwnI w' base a cap xs.reverse ∧ Below base w w'
set_option maxHeartbeats 1000000 in
theorem Reverse_any (base : Nat) (a : Option Addr) (cap : Nat) (xs : List Int) (w : World) (hx : OwnI w base a cap xs) :
    Calls Tryd.prog 133 #[.slice a xs.length cap] w (Turned base a cap xs w) := by
  have hl := hx.len
  rcases hx.2 with ⟨hv, hn⟩ | ⟨g, cap', cur, hv, hg, hh, hnc, hcm, hcs, ht⟩
  · simp only [Value.slice.injEq] at hv
    obtain ⟨rfl, -, rfl⟩ := hv
    obtain rfl : xs = [] := List.eq_nil_of_length_eq_zero hn
    have HX := Lib.hid hx
    clear hx hn hl
    go_enter Tryd.func133, Tryd.ntmps133
    go_wp2
    go_loop [2, 3] (fun i j => i = .int .i64 0 ∧ j = .int .i64 (-1)) (fun _ _ => 0)
    case atStart => exact ⟨rfl, rfl⟩
    case round =>
      obtain ⟨rfl, rfl⟩ := hrel
      go_wp2
      go_end0
      exact ⟨rfl, HX.out, Below.refl _ _⟩
  · simp only [Value.slice.injEq, true_and] at hv
    obtain ⟨rfl, rfl⟩ := hv
    clear hh hcs ht
    have hx0 : w.ownsRow base 3 1 (.slice (some ⟨g, 0, none⟩) xs.length cap) xs.length ((revk xs 0).map (Value.int .i64)) := by rw [revk_zero]; exact hx
    have HX := Lib.hid hx0; clear hx0 hx
    go_enter Tryd.func133, Tryd.ntmps133
    go_wp2
    go_loopw [2, 3] (fun i j wr => ∃ (k : Nat) (y : Int), i = .int .i64 k ∧ j = .int .i64 y ∧ y = (xs.length : Int) - 1 - k ∧ k ≤ xs.length ∧ wr.ownsRow base 3 1 (.slice (some ⟨g, 0, none⟩) xs.length cap) xs.length ((revk xs k).map (Value.int .i64)) ∧ Below base w wr) (fun i _ _ => xs.length - (intOf i).toNat)
    case atStart => exact ⟨0, _, rfl, rfl, by simp, by omega, HX.out, Below.refl _ _⟩
    case round =>
      obtain ⟨k, y, rfl, rfl, hy, hk, ho, hb⟩ := hrel
      have HY := Lib.hid hy
      by_cases hlt : (k : Int) < y
      · obtain ⟨j, rfl⟩ := Int.eq_ofNat_of_zero_le (show 0 ≤ y by omega)
        have hj : j = xs.length - 1 - k := by omega
        have hkj : k < j := by omega
        have hjl : j < xs.length := by omega
        obtain ⟨u, hcu⟩ : ∃ u : Int, xs.getD k 0 = u := ⟨_, rfl⟩
        obtain ⟨v, hcv⟩ : ∃ v : Int, xs.getD j 0 = v := ⟨_, rfl⟩
        have hck : wr.cell? ⟨g, k, none⟩ = some (.int .i64 u) := by
          have h := World.ownsRow.cellAt ho k (by omega)
          rw [List.getElem?_map, List.getElem?_eq_getElem (by rw [revk_length]; omega), (revk_mid xs k (by omega)).1, hcu] at h
          exact h
        have hcj : wr.cell? ⟨g, j, none⟩ = some (.int .i64 v) := by
          have h := World.ownsRow.cellAt ho j (by omega)
          subst hj
          rw [List.getElem?_map, List.getElem?_eq_getElem (by rw [revk_length]; omega), (revk_mid xs k (by omega)).2, hcv] at h
          exact h
        have hf1 := World.ownsRow.frozenAt ho k
        have hf2 := World.ownsRow.frozenAt ho j
        have hne : k ≠ j := by omega
        have g1 : (0 : Int) ≤ (k : Int) := by omega
        have g2 : (k : Int) < (xs.length : Int) := by omega
        have g3 : (0 : Int) ≤ (j : Int) := by omega
        have g4 : (j : Int) < (xs.length : Int) := by omega
        have HST : Hid (((wr.setCell ⟨g, k, none⟩ (.int .i64 v)).setCell ⟨g, j, none⟩ (.int .i64 u)).ownsRow base 3 1 (.slice (some ⟨g, 0, none⟩) xs.length cap) xs.length ((revk xs (k + 1)).map (Value.int .i64))) := by
          have h1 := (World.ownsRow.stored ho k (.int .i64 v)).1
          have h2 := (World.ownsRow.stored h1 j (.int .i64 u)).1
          rw [← revk_set xs k (by omega), ← hj, hcu, hcv, List.map_set, List.map_set]
          exact h2
        have HB := Lib.hid hb
        have HJ := Lib.hid hj
        clear ho hb hy hcu hcv hj HY
        go_wp2
        go_region
        all_goals
          go_wp2
          go_roundw
          case rel => exact ⟨k + 1, (j : Int) - 1, by go_num, rfl, by have h := HJ.out; omega, by omega, World.ownsRow.drew HST.out, ((HB.out.setCell hg _).setCell hg _).drew⟩
          case measure => simp [intOf] <;> omega
      · have HO := Lib.hid ho
        have HB := Lib.hid hb
        clear ho hb hy
        go_wp2
        go_end0
        have hq := HY.out
        refine ⟨rfl, ?_, HB.out⟩
        have h := HO.out
        rw [revk_all xs k (by omega)] at h
        unfold OwnI
        rw [List.length_reverse]
        exact h

end Go.Proofs.YtdpddbajeldgiaaDoor
