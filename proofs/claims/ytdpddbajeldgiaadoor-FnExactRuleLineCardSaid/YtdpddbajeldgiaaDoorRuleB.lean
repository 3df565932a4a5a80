/- Rules of divisibility: weights and inverses, program and reference. Conditions: those of each contract. -/
import Derived.Test.YtdpddbajeldgiaaDoorRuleA
namespace Go.Proofs.YtdpddbajeldgiaaDoor
set_option linter.unusedVariables false
open Go.RowKit

/-! weights -/
def wts (m b : Int) : Nat → List Int
  | 0 => []
  | k + 1 => wts m b k ++ [pw m b k]
theorem wts_len (m b : Int) (k : Nat) : (wts m b k).length = k := by
  induction k with
  | zero => rfl
  | succ k ih => simp [wts, ih]
theorem wts_mem {m b : Int} (h : ruleOk m b = true) (k : Nat) : ∀ x ∈ wts m b k, 0 ≤ x ∧ x < m := by
  induction k with
  | zero => simp [wts]
  | succ k ih =>
    intro x hx
    rcases List.mem_append.1 hx with hx | hx
    · exact ih x hx
    · simp at hx; subst hx; exact pw_bd h k
def smw (m x : Int) : Int := if m < 2 * x then x - m else x
def smL (m b : Int) : List Int := (wts m b 6).map (smw m)
theorem smL_len (m b : Int) : (smL m b).length = 6 := by simp [smL, wts_len]
theorem smL_mem {m b : Int} (h : ruleOk m b = true) : ∀ x ∈ smL m b, -1000 ≤ x ∧ x ≤ 1000 := by
  obtain ⟨h1, h2, h3, h4⟩ := ruleOk_t h
  intro x hx
  obtain ⟨y, hy, rfl⟩ := List.mem_map.1 hx
  have := wts_mem h 6 y hy
  unfold smw
  split <;> omega
/-- the list after j rounds -/
def smP (m : Int) (xs : List Int) (j : Nat) : List Int := (xs.take j).map (smw m) ++ xs.drop j
theorem smP_len (m : Int) (xs : List Int) (j : Nat) (h : j ≤ xs.length) : (smP m xs j).length = xs.length := by simp [smP]; omega
theorem smP_get (m : Int) (xs : List Int) (j : Nat) (h : j < xs.length) : (smP m xs j)[j]? = some xs[j] := by
  unfold smP
  rw [List.getElem?_append_right (by simp; omega)]
  simp only [List.length_map, List.length_take, Nat.min_eq_left (Nat.le_of_lt h), Nat.sub_self, List.getElem?_drop, Nat.add_zero]
  exact List.getElem?_eq_getElem h
theorem smP_set (m : Int) (xs : List Int) (j : Nat) (h : j < xs.length) : (smP m xs j).set j (smw m xs[j]) = smP m xs (j + 1) := by
  unfold smP
  rw [take_next xs j h, List.map_append, List.set_append_right _ _ (by simp; omega)]
  simp only [List.length_map, List.length_take, Nat.min_eq_left (Nat.le_of_lt h), Nat.sub_self]
  rw [List.drop_eq_getElem_cons h, List.set_cons_zero]
  simp
theorem smP_keep (m : Int) (xs : List Int) (j : Nat) (h : j < xs.length) (hs : smw m xs[j] = xs[j]) : smP m xs j = smP m xs (j + 1) := by
  rw [← smP_set m xs j h, hs]
  have hl := smP_len m xs j (by omega)
  apply List.ext_getElem?
  intro i
  by_cases hi : i = j
  · subst hi
    rw [smP_get m xs i h, List.getElem?_set_self (by omega)]
  · rw [List.getElem?_set_ne (fun e => hi e.symm)]
theorem smP_zero (m : Int) (xs : List Int) : smP m xs 0 = xs := by simp [smP]
theorem smP_all (m : Int) (xs : List Int) : smP m xs xs.length = xs.map (smw m) := by simp [smP]
theorem ruleWeights_6 (m b : Int) (w : World) (h : ruleOk m b = true) :
    Calls Tryd.prog 113 #[.int .i64 m, .int .i64 b, .int .i64 6] w (RetI w (wts m b 6)) := by
  obtain ⟨hb1, hb2, hm1, hm2⟩ := ruleOk_t h
  have HP : Hid (∀ k, 0 ≤ pw m b k ∧ pw m b k < m) := pw_bd h
  clear h
  go_enter Tryd.func113, Tryd.ntmps113
  go_wp2
  go_loopw [7, 8, 10] (fun v r i wr => ∃ k : Nat, k ≤ 6 ∧ i = .int .i64 k ∧ r = .int .i64 (pw m b k) ∧ OwnV wr w.heap.size v (wts m b k) ∧ Below w.heap.size w wr) (fun _ _ i _ => 6 - (intOf i).toNat)
  case atStart => exact ⟨0, by decide, rfl, rfl, OwnV.nil _ _, Below.refl _ _⟩
  case round =>
    obtain ⟨k, hk, rfl, rfl, hown, hb⟩ := hrel
    have hsz := hb.size
    obtain ⟨p0, p1⟩ := HP.out k
    have hwl := wts_len m b k
    by_cases hlt : k < 6
    · obtain ⟨q0, q1, q2, q3⟩ := mul_mod_bd (pw m b k) b m p0 p1 hm2 hb1 hb2
      have HN : Hid (pw m b (k + 1) = pw m b k * b % m) := rfl
      have HW : Hid (wts m b (k + 1) = wts m b k ++ [pw m b k]) := rfl
      have HB := Lib.hid hb
      clear hb
      go_wp2_with (at_builtin; refine wpList_append_int rfl _ _ rfl w.heap.size _ _ rfl hown (pw m b k) rfl (by omega) (by omega) ?_; intro v' w2 hown2 hbl2)
      have HB2 := Lib.hid hbl2
      clear hbl2
      go_roundw
      case rel => exact ⟨k + 1, by omega, by go_num, by rw [HN.out], hown2, HB.out.trans HB2.out⟩
      case measure => simp [intOf]; omega
    · obtain rfl : k = 6 := by omega
      have HB := Lib.hid hb
      clear hb
      go_wp2
      go_ret
      exact hown.ret HB.out
theorem RuleWeights_6 (m b : Int) (w : World) (h : ruleOk m b = true) :
    Calls Tryd.prog 88 #[.int .i64 m, .int .i64 b, .int .i64 6] w (RetI w (wts m b 6)) := by
  have HC : Hid (∀ W : World, Calls Tryd.prog 113 #[.int .i64 m, .int .i64 b, .int .i64 6] W (RetI W (wts m b 6))) := fun W => ruleWeights_6 m b W h
  have h6 : inB 6 0 40 = true := rfl
  go_enter Tryd.func88, Tryd.ntmps88
  go_wp2_with (first | (go_at_call 47; refine (isRuled_any _ _ _).mono ?_; rintro e w' ⟨rfl, rfl⟩) | (go_at_call 87; refine (within_any _ _ _ _).mono ?_; rintro e w' ⟨rfl, rfl⟩))
  refine (HC.out _).mono ?_
  rintro e w1 ⟨a, cap, rfl, hown, hb⟩
  go_wp2_with fail
  go_ret
  exact ⟨a, cap, rfl, hown, hb⟩
theorem sRuleWeights_6 (m b : Int) (w : World) (h : ruleOk m b = true) :
    Calls Tryd.prog 85 #[.int .i64 m, .int .i64 b, .int .i64 6] w (RetI w (wts m b 6)) := by
  obtain ⟨hb1, hb2, hm1, hm2⟩ := ruleOk_t h
  have HP : Hid (∀ k, 0 ≤ pw m b k ∧ pw m b k < m) := pw_bd h
  have h6 : inB 6 0 40 = true := rfl
  have h1m : (1 : Int) % m = 1 := Int.emod_eq_of_lt (by omega) (by omega)
  go_enter Tryd.func85, Tryd.ntmps85
  go_wp2_with (first | (go_at_call 43; refine (l24Ok_any _ _ _).mono ?_; rintro e w' ⟨rfl, rfl⟩) | (go_at_call 84; refine (l01In_any _ _ _ _).mono ?_; rintro e w' ⟨rfl, rfl⟩))
  rw [h1m]
  clear h
  go_loopw [7, 8, 9] (fun v r i wr => ∃ k : Nat, k ≤ 6 ∧ i = .int .i64 k ∧ r = .int .i64 (pw m b k) ∧ OwnV wr w.heap.size v (wts m b k) ∧ Below w.heap.size w wr) (fun _ _ i _ => 6 - (intOf i).toNat)
  case atStart => exact ⟨0, by decide, rfl, rfl, OwnV.lit0 _ _ (Nat.le_refl _), (Below.refl _ _).alloc (Nat.le_refl _) _⟩
  case round =>
    obtain ⟨k, hk, rfl, rfl, hown, hb⟩ := hrel
    have hsz := hb.size
    obtain ⟨p0, p1⟩ := HP.out k
    have hwl := wts_len m b k
    by_cases hlt : k < 6
    · obtain ⟨q0, q1, q2, q3⟩ := mul_mod_bd (pw m b k) b m p0 p1 hm2 hb1 hb2
      have HN : Hid (pw m b (k + 1) = pw m b k * b % m) := rfl
      have HW : Hid (wts m b (k + 1) = wts m b k ++ [pw m b k]) := rfl
      have HB := Lib.hid hb
      clear hb
      go_wp2_with (at_builtin; refine wpList_append_int rfl _ _ rfl w.heap.size _ _ rfl hown (pw m b k) rfl (by omega) (by omega) ?_; intro v' w2 hown2 hbl2)
      have HB2 := Lib.hid hbl2
      clear hbl2
      go_roundw
      case rel => exact ⟨k + 1, by omega, by go_num, by rw [HN.out], hown2, HB.out.trans HB2.out⟩
      case measure => simp [intOf]; omega
    · obtain rfl : k = 6 := by omega
      have HB := Lib.hid hb
      clear hb
      go_wp2
      go_ret
      exact hown.ret HB.out
theorem OwnI.some6 {w : World} {base : Nat} {a : Option Addr} {cap : Nat} {xs : List Int} (h : OwnI w base a cap xs) (hl : xs.length = 6) : ∃ g, a = some ⟨g, 0, none⟩ ∧ base ≤ g := by
  rcases h.2 with ⟨hv, hn⟩ | ⟨g, cap', cur, hv, hg, r⟩
  · omega
  · simp only [Value.slice.injEq] at hv
    exact ⟨g, hv.1, hg⟩
def Own6 (w : World) (base g cap : Nat) (ys : List Int) : Prop := w.ownsRow base 3 1 (.slice (some ⟨g, 0, none⟩) 6 cap) 6 (ys.map (Value.int .i64))
theorem SmallWeights_6 (m b : Int) (w : World) (h : ruleOk m b = true) :
    Calls Tryd.prog 49 #[.int .i64 m, .int .i64 b, .int .i64 6] w (RetI w (smL m b)) := by
  obtain ⟨hb1, hb2, hm1, hm2⟩ := ruleOk_t h
  have HM := Lib.hid (wts_mem h 6)
  have HC : Hid (∀ W : World, Calls Tryd.prog 88 #[.int .i64 m, .int .i64 b, .int .i64 6] W (RetI W (wts m b 6))) := fun W => RuleWeights_6 m b W h
  have HS : Hid (smL m b = (wts m b 6).map (smw m)) := rfl
  have hwl := wts_len m b 6
  clear h
  generalize wts m b 6 = xs at *
  go_enter Tryd.func49, Tryd.ntmps49
  go_wp2_with fail
  refine (HC.out _).mono ?_
  rintro e w1 ⟨a, cap, rfl, hown, hb⟩
  obtain ⟨g, rfl, hg⟩ := hown.some6 hwl
  have ho6 : Own6 w1 w.heap.size g cap (smP m xs 0) := by
    rw [smP_zero]
    unfold Own6
    have := hown
    unfold OwnI at this
    rwa [hwl] at this
  rw [hwl]
  have HO := Lib.hid ho6
  have HB := Lib.hid hb
  clear hown hb ho6
  go_wp2_with fail
  go_loopw [16] (fun i wr => ∃ k : Nat, k ≤ 6 ∧ i = .int .i64 k ∧ Own6 wr w.heap.size g cap (smP m xs k) ∧ Below w.heap.size w wr) (fun i _ => 6 - (intOf i).toNat)
  case atStart => exact ⟨0, by decide, rfl, HO.out, HB.out⟩
  case round =>
    obtain ⟨k, hk, rfl, ho, hb⟩ := hrel
    by_cases hlt : k < 6
    · have hlx : k < xs.length := by omega
      have hcx : wr.cell? ⟨g, k, none⟩ = some (.int .i64 xs[k]) := by
        have h1 := World.ownsRow.cellAt ho k (by omega)
        rw [List.getElem?_map, smP_get m xs k hlx] at h1
        exact h1
      have hfx := World.ownsRow.frozenAt ho k
      have hst := (World.ownsRow.stored ho k (.int .i64 (smw m xs[k]))).1
      rw [← List.map_set, smP_set m xs k hlx] at hst
      have hkp := smP_keep m xs k hlx
      obtain ⟨x0, x1⟩ := HM.out _ (List.getElem_mem hlx)
      have HST := Lib.hid hst
      have HKP := Lib.hid hkp
      have HO2 := Lib.hid ho
      have HB2 := Lib.hid hb
      clear hst hkp ho hb
      generalize xs[k] = x at *
      by_cases hx : m < 2 * x
      · have HW : Hid (smw m x = x - m) := by show _ = _; rw [smw, if_pos hx]
        have hgt : m / 2 < x := by omega
        rw [HW.out] at HST
        go_wp2
        go_roundw
        case rel => exact ⟨k + 1, by omega, by go_num, HST.out, HB2.out.setCell hg _⟩
        case measure => simp [intOf]; omega
      · have HW : Hid (smw m x = x) := by show _ = _; rw [smw, if_neg hx]
        have hgt : x ≤ m / 2 := by omega
        go_wp2
        go_roundw
        case rel => exact ⟨k + 1, by omega, by go_num, by rw [← HKP.out HW.out]; exact HO2.out, HB2.out⟩
        case measure => simp [intOf]; omega
    · obtain rfl : k = 6 := by omega
      have HO2 := Lib.hid ho
      have HB2 := Lib.hid hb
      clear ho hb
      go_wp2
      go_ret
      have h1 := HO2.out
      have e6 : smP m xs 6 = smL m b := by rw [HS.out, ← smP_all, hwl]
      rw [e6] at h1
      refine ⟨some ⟨g, 0, none⟩, cap, by rw [smL_len] <;> rfl, ?_, HB2.out⟩
      unfold OwnI
      rw [smL_len]
      exact h1
theorem sSmallWeights_6 (m b : Int) (w : World) (h : ruleOk m b = true) :
    Calls Tryd.prog 45 #[.int .i64 m, .int .i64 b, .int .i64 6] w (RetI w (smL m b)) := by
  obtain ⟨hb1, hb2, hm1, hm2⟩ := ruleOk_t h
  have HM := Lib.hid (wts_mem h 6)
  have HC : Hid (∀ W : World, Calls Tryd.prog 85 #[.int .i64 m, .int .i64 b, .int .i64 6] W (RetI W (wts m b 6))) := fun W => sRuleWeights_6 m b W h
  have HS : Hid (smL m b = (wts m b 6).map (smw m)) := rfl
  have hwl := wts_len m b 6
  have h6 : inB 6 0 40 = true := rfl
  generalize wts m b 6 = xs at *
  go_enter Tryd.func45, Tryd.ntmps45
  go_wp2_with fail
  refine (HC.out _).mono ?_
  rintro e w1 ⟨a, cap, rfl, hown, hb⟩
  obtain ⟨g, rfl, hg⟩ := hown.some6 hwl
  have ho6 : Own6 w1 w.heap.size g cap (smP m xs 0) := by
    rw [smP_zero]
    unfold Own6
    have := hown
    unfold OwnI at this
    rwa [hwl] at this
  rw [hwl]
  have HO := Lib.hid ho6
  have HB := Lib.hid hb
  clear hown hb ho6
  go_wp2_with (first | (go_at_call 43; refine (l24Ok_any _ _ _).mono ?_; rintro e w' ⟨rfl, rfl⟩) | (go_at_call 84; refine (l01In_any _ _ _ _).mono ?_; rintro e w' ⟨rfl, rfl⟩))
  clear h
  go_loopw [25] (fun i wr => ∃ k : Nat, k ≤ 6 ∧ i = .int .i64 k ∧ Own6 wr w.heap.size g cap (smP m xs k) ∧ Below w.heap.size w wr) (fun i _ => 6 - (intOf i).toNat)
  case atStart => exact ⟨0, by decide, rfl, HO.out, HB.out⟩
  case round =>
    obtain ⟨k, hk, rfl, ho, hb⟩ := hrel
    by_cases hlt : k < 6
    · have hlx : k < xs.length := by omega
      have hcx : wr.cell? ⟨g, k, none⟩ = some (.int .i64 xs[k]) := by
        have h1 := World.ownsRow.cellAt ho k (by omega)
        rw [List.getElem?_map, smP_get m xs k hlx] at h1
        exact h1
      have hfx := World.ownsRow.frozenAt ho k
      have hst := (World.ownsRow.stored ho k (.int .i64 (smw m xs[k]))).1
      rw [← List.map_set, smP_set m xs k hlx] at hst
      have hkp := smP_keep m xs k hlx
      obtain ⟨x0, x1⟩ := HM.out _ (List.getElem_mem hlx)
      have HST := Lib.hid hst
      have HKP := Lib.hid hkp
      have HO2 := Lib.hid ho
      have HB2 := Lib.hid hb
      clear hst hkp ho hb
      generalize xs[k] = x at *
      by_cases hx : m < 2 * x
      · have HW : Hid (smw m x = x - m) := by show _ = _; rw [smw, if_pos hx]
        rw [HW.out] at HST
        go_wp2
        go_roundw
        case rel => exact ⟨k + 1, by omega, by go_num, HST.out, HB2.out.setCell hg _⟩
        case measure => simp [intOf]; omega
      · have HW : Hid (smw m x = x) := by show _ = _; rw [smw, if_neg hx]
        go_wp2
        go_roundw
        case rel => exact ⟨k + 1, by omega, by go_num, by rw [← HKP.out HW.out]; exact HO2.out, HB2.out⟩
        case measure => simp [intOf]; omega
    · obtain rfl : k = 6 := by omega
      have HO2 := Lib.hid ho
      have HB2 := Lib.hid hb
      clear ho hb
      go_wp2
      go_ret
      have h1 := HO2.out
      have e6 : smP m xs 6 = smL m b := by rw [HS.out, ← smP_all, hwl]
      rw [e6] at h1
      refine ⟨some ⟨g, 0, none⟩, cap, by rw [smL_len] <;> rfl, ?_, HB2.out⟩
      unfold OwnI
      rw [smL_len]
      exact h1

end Go.Proofs.YtdpddbajeldgiaaDoor
