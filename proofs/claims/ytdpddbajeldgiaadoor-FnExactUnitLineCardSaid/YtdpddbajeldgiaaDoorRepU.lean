/- UnitLine, program and reference, and its law. Conditions: those of each contract. -/
import Derived.Test.YtdpddbajeldgiaaDoorRepB
import Derived.Test.YtdpddbajeldgiaaDoorUnitsB
namespace Go.Proofs.YtdpddbajeldgiaaDoor
set_option linter.unusedVariables false
open Go.RowKit

theorem greedy_mem : ∀ (f : Nat) (p q : Int) (out l : List Int), 1 ≤ q → (∀ x ∈ out, 0 ≤ x ∧ x ≤ 1000000000) → greedy f p q out = some l → ∀ x ∈ l, 0 ≤ x ∧ x ≤ 1000000000 := by
  intro f
  induction f with
  | zero => intro p q out l _ _ h; simp [greedy] at h
  | succ f ih =>
    intro p q out l hq ho h
    by_cases hp : p ≤ 0
    · rw [greedy_done f p q out hp] at h; cases h; exact ho
    · obtain ⟨c1, c2, c3, c4⟩ := ceil_bd p q (by omega) hq
      obtain ⟨n, hn⟩ : ∃ n, (q + p - 1) / p = n := ⟨_, rfl⟩
      rw [hn] at c1 c2 c3 c4
      have hqn : 1 ≤ q * n := by
        have := Int.mul_le_mul hq c1 (by omega) (by omega)
        omega
      by_cases h1 : 1000000000 < n ∨ out.length = 8
      · rw [greedy_fail f p q out (by omega) (by rw [hn]; exact h1)] at h; cases h
      by_cases h2 : 1000000000 < q * n / gcdZ (p * n - q) (q * n)
      · rw [greedy_big f p q n _ out (by omega) hn rfl h2] at h; cases h
      rw [greedy_go f p q n _ out (by omega) hn rfl (by omega) (by omega) (by omega)] at h
      obtain ⟨g0, g1⟩ := gcdZ_bd (p * n - q) (q * n) (by omega) (by omega)
      refine ih _ _ _ l (div_pos_le _ _ g0 g1).1 ?_ h
      intro x hx
      rcases List.mem_append.1 hx with hx | hx
      · exact ho x hx
      · simp at hx; subst hx; omega
theorem grL_ok (p q : Int) : okI (grL p q) := by
  intro x hx
  unfold grL grO at hx
  split at hx
  · rename_i hu
    simp only [unitOk, Bool.and_eq_true, inB_t] at hu
    cases hg : greedy 9 p q [] with
    | none => rw [hg] at hx; simp at hx
    | some l =>
      rw [hg] at hx
      have := greedy_mem 9 p q [] l (by omega) (by simp) hg x hx
      exact ⟨by omega, by omega⟩
  · simp at hx
theorem engel_ok (q : Int) (hq : 1 ≤ q) (hq2 : q ≤ 1000) : ∀ (f : Nat) (p : Int), p.toNat ≤ f → p ≤ q → ∀ x ∈ engel q p, 0 ≤ x ∧ x ≤ 2000 := by
  intro f
  induction f with
  | zero => intro p hf _; rw [engel_zero q p (by omega)]; simp
  | succ f ih =>
    intro p hf hp
    by_cases h : 0 < p
    · obtain ⟨c1, c2, c3, c4⟩ := ceil_bd p q h hq
      rw [engel_pos q p h hq]
      intro x hx
      rcases List.mem_cons.1 hx with rfl | hx
      · omega
      · exact ih _ (by omega) (by omega) x hx
    · rw [engel_zero q p (by omega)]; simp
theorem engelR_ok (p q : Int) : okI (engelR p q) := by
  intro x hx
  unfold engelR at hx
  split at hx
  · rename_i hu
    simp only [unitOk, Bool.and_eq_true, inB_t] at hu
    have := engel_ok q (by omega) (by omega) _ p (Nat.le_refl _) (by omega) x hx
    exact ⟨by omega, by omega⟩
  · simp at hx
def noneB : ByteArray := ⟨#[110, 111, 110, 101]⟩
def unitLn (p q : Int) : ByteArray := if unitOk p q then fmtN (grL p q) ++ ⟨#[32]⟩ ++ fmtN (engelR p q) else noneB
set_option maxHeartbeats 400000 in
theorem UnitLine_any (p q : Int) (w : World) (ht : Tab w) :
    Calls Tryd.prog 18 #[.int .i64 p, .int .i64 q] w fun e w' => e = .returned (.string (unitLn p q)) ∧ Below w.heap.size w w' := by
  have HT := Lib.hid ht; clear ht
  cases hq : unitOk p q
  · have HF : Hid (unitLn p q = noneB) := by show _ = _; simp [unitLn, hq]
    have HE : Hid (Calls Tryd.prog 41 #[.int .i64 p, .int .i64 q] w (RetIB w (engelR p q) false)) := by rw [← hq]; exact EngelOf_any p q w
    clear hq
    go_enter Tryd.func18, Tryd.ntmps18
    go_wp2_with fail
    refine HE.out.mono ?_
    rintro e w1 ⟨ae, ce, rfl, hoe, hb1⟩
    go_wp2_with fail
    go_ret
    exact ⟨by rw [HF.out] <;> rfl, hb1⟩
  have HF : Hid (unitLn p q = fmtN (grL p q) ++ ⟨#[32]⟩ ++ fmtN (engelR p q)) := by show _ = _; simp [unitLn, hq]
  have HE : Hid (Calls Tryd.prog 41 #[.int .i64 p, .int .i64 q] w (RetIB w (engelR p q) true)) := by rw [← hq]; exact EngelOf_any p q w
  have HG : Hid (∀ W : World, Calls Tryd.prog 42 #[.int .i64 p, .int .i64 q] W (RetIB W (grL p q) (grB p q))) := fun W => GreedyUnits_any p q W
  have HO1 : Hid (okI (grL p q)) := grL_ok p q
  have HO2 : Hid (okI (engelR p q)) := engelR_ok p q
  have hl1 := grL_len p q
  have hl2 := engelR_len p q
  have hs1 := fmtN_size _ HO1.out
  have hs2 := fmtN_size _ HO2.out
  clear hq
  generalize grB p q = gb at *
  generalize grL p q = G at *
  generalize engelR p q = E at *
  go_enter Tryd.func18, Tryd.ntmps18
  go_wp2_with fail
  refine HE.out.mono ?_
  rintro e w1 ⟨ae, ce, rfl, hoe, hb1⟩
  have HB1 := Lib.hid hb1
  have HOE := Lib.hid hoe.ints
  clear hoe hb1
  go_wp2_with fail
  refine (HG.out _).mono ?_
  rintro e w2 ⟨ag, cg, rfl, hog, hb2⟩
  have HB2 := Lib.hid (HB1.out.trans (hb2.mono HB1.out.size))
  have HOE2 := Lib.hid ((HOE.out.below hb2).mono hb2.size)
  have HOG := Lib.hid hog.ints
  clear hog hb2
  go_wp2_with fail
  refine (FormatNumbers_any ag cg G _ HOG.out (by omega) HO1.out (HT.out.upd HB2.out)).mono ?_
  rintro e w3 ⟨rfl, hb3⟩
  have HB3 := Lib.hid (HB2.out.trans (hb3.mono HB2.out.size))
  have HOE3 := Lib.hid ((HOE2.out.below hb3).mono hb3.size)
  clear hb3
  go_wp2_with fail
  refine (FormatNumbers_any ae ce E _ HOE3.out (by omega) HO2.out (HT.out.upd HB3.out)).mono ?_
  rintro e w4 ⟨rfl, hb4⟩
  have HB4 := Lib.hid (HB3.out.trans (hb4.mono HB3.out.size))
  clear hb4
  go_wp2_with fail
  go_ret
  exact ⟨by rw [HF.out] <;> rfl, HB4.out⟩
set_option maxHeartbeats 400000 in
theorem sUnitLine_any (p q : Int) (w : World) :
    Calls Tryd.prog 17 #[.int .i64 p, .int .i64 q] w fun e w' => e = .returned (.string (unitLn p q)) ∧ Below w.heap.size w w' := by
  cases hq : unitOk p q
  · have HF : Hid (unitLn p q = noneB) := by show _ = _; simp [unitLn, hq]
    have HE : Hid (Calls Tryd.prog 39 #[.int .i64 p, .int .i64 q] w (RetIB w (engelR p q) false)) := by rw [← hq]; exact sEngelOf_any p q w
    clear hq
    go_enter Tryd.func17, Tryd.ntmps17
    go_wp2_with fail
    refine HE.out.mono ?_
    rintro e w1 ⟨ae, ce, rfl, hoe, hb1⟩
    go_wp2_with fail
    go_ret
    exact ⟨by rw [HF.out] <;> rfl, hb1⟩
  have HF : Hid (unitLn p q = fmtN (grL p q) ++ ⟨#[32]⟩ ++ fmtN (engelR p q)) := by show _ = _; simp [unitLn, hq]
  have HE : Hid (Calls Tryd.prog 39 #[.int .i64 p, .int .i64 q] w (RetIB w (engelR p q) true)) := by rw [← hq]; exact sEngelOf_any p q w
  have HG : Hid (∀ W : World, Calls Tryd.prog 40 #[.int .i64 p, .int .i64 q] W (RetIB W (grL p q) (grB p q))) := fun W => sGreedyUnits_any p q W
  have HO1 : Hid (okI (grL p q)) := grL_ok p q
  have HO2 : Hid (okI (engelR p q)) := engelR_ok p q
  have hl1 := grL_len p q
  have hl2 := engelR_len p q
  have hs1 := fmtN_size _ HO1.out
  have hs2 := fmtN_size _ HO2.out
  clear hq
  generalize grB p q = gb at *
  generalize grL p q = G at *
  generalize engelR p q = E at *
  go_enter Tryd.func17, Tryd.ntmps17
  go_wp2_with fail
  refine HE.out.mono ?_
  rintro e w1 ⟨ae, ce, rfl, hoe, hb1⟩
  have HB1 := Lib.hid hb1
  have HOE := Lib.hid hoe.ints
  clear hoe hb1
  go_wp2_with fail
  refine (HG.out _).mono ?_
  rintro e w2 ⟨ag, cg, rfl, hog, hb2⟩
  have HB2 := Lib.hid (HB1.out.trans (hb2.mono HB1.out.size))
  have HOE2 := Lib.hid ((HOE.out.below hb2).mono hb2.size)
  have HOG := Lib.hid hog.ints
  clear hog hb2
  go_wp2_with fail
  refine (sFormatNumbers_any ag cg G _ HOG.out (by omega) HO1.out).mono ?_
  rintro e w3 ⟨rfl, hb3⟩
  have HB3 := Lib.hid (HB2.out.trans (hb3.mono HB2.out.size))
  have HOE3 := Lib.hid ((HOE2.out.below hb3).mono hb3.size)
  clear hb3
  go_wp2_with fail
  refine (sFormatNumbers_any ae ce E _ HOE3.out (by omega) HO2.out).mono ?_
  rintro e w4 ⟨rfl, hb4⟩
  have HB4 := Lib.hid (HB3.out.trans (hb4.mono HB3.out.size))
  clear hb4
  go_wp2_with fail
  go_ret
  exact ⟨by rw [HF.out] <;> rfl, HB4.out⟩
set_option maxHeartbeats 2000000 in
theorem law_FnExactUnitLine (p : Int) (q : Int) (w : World) (fp : (Lit.int .i64 p).wf = true) (fq : (Lit.int .i64 q).wf = true) (ht : Tab w) :
    Calls Tryd.prog 5 #[.int .i64 p, .int .i64 q] w fun e w' => e = .returned (.bool true) ∧ Below w.heap.size w w' := by
  have HB0 : Hid (Below w.heap.size w w) := Below.refl _ _
  have HT := Lib.hid ht; clear ht
  go_enter Tryd.func5, Tryd.ntmps5
  go_wp2_with fail
  refine (sUnitLine_any p q _).mono ?_
  rintro e w1 ⟨rfl, hb⟩
  have hu := Below.upd hb; clear hb
  have hs1 := hu.size
  have HB1 : Hid (Below w.heap.size w w1) := HB0.out.trans (hu.below (by omega) (by omega))
  clear hu
  go_wp2_with fail
  refine (UnitLine_any p q _ (HT.out.upd HB1.out)).mono ?_
  rintro e w2 ⟨rfl, hb⟩
  have hu := Below.upd hb; clear hb
  have hs2 := hu.size
  have HB2 : Hid (Below w.heap.size w w2) := HB1.out.trans (hu.below (by omega) (by omega))
  clear hu
  go_wp2_with fail
  go_ret
  exact ⟨rfl, HB2.out⟩

end Go.Proofs.YtdpddbajeldgiaaDoor
