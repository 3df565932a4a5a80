/- WithoutDigit, within its bounds. Conditions: those of each contract. -/
import Derived.Test.YtkapbhlnjmfaaaaDoorMulP
import Derived.Test.YtkapbhlnjmfaaaaDoorDrawM
namespace Go.Proofs.YtkapbhlnjmfaaaaDoor
set_option linter.unusedVariables false
open Go.RowKit

/-- the table after i rounds -/
def woL (b g i : Nat) : List Int := (List.range (2 * b)).map (fun j => if (j = g ∧ j < i) ∨ (b ≤ j ∧ j < b + i) then 1 else 0)
theorem woL_len (b g i : Nat) : (woL b g i).length = 2 * b := by simp [woL]
theorem woL_zero (b g : Nat) : woL b g 0 = List.replicate (2 * b) 0 := by
  apply List.ext_getElem
  · simp [woL]
  · intro j h1 h2
    simp [woL]
theorem woL_all (b g : Nat) (hg : g < b) : woL b g b = (woM b g).next := by
  apply List.ext_getElem
  · simp [woL, woM]
  · intro j h1 h2
    have h3 : j < 2 * b := by simpa [woL] using h1
    simp only [woL, woM, List.getElem_map, List.getElem_range]
    by_cases h : (j = g ∧ j < b) ∨ (b ≤ j ∧ j < b + b)
    · rw [if_pos h, if_pos (by omega)]
    · rw [if_neg h, if_neg (by omega)]
theorem woL_hit (b g : Nat) (hg : g < b) : ((woL b g g).set g 1).set (b + g) 1 = woL b g (g + 1) := by
  apply List.ext_getElem
  · simp [woL]
  · intro j h1 h2
    have h3 : j < 2 * b := by simpa [woL] using h2
    simp only [List.getElem_set, woL, List.getElem_map, List.getElem_range]
    by_cases e1 : b + g = j
    · rw [if_pos e1, if_pos (by omega)]
    · rw [if_neg e1]
      by_cases e2 : g = j
      · rw [if_pos e2, if_pos (by omega)]
      · rw [if_neg e2]
        by_cases h : (j = g ∧ j < g) ∨ (b ≤ j ∧ j < b + g)
        · rw [if_pos h, if_pos (by omega)]
        · rw [if_neg h, if_neg (by omega)]
theorem woL_miss (b g i : Nat) (hi : i < b) (hg : i ≠ g) : (woL b g i).set (b + i) 1 = woL b g (i + 1) := by
  apply List.ext_getElem
  · simp [woL]
  · intro j h1 h2
    have h3 : j < 2 * b := by simpa [woL] using h2
    simp only [List.getElem_set, woL, List.getElem_map, List.getElem_range]
    by_cases e1 : b + i = j
    · rw [if_pos e1, if_pos (by omega)]
    · rw [if_neg e1]
      by_cases h : (j = g ∧ j < i) ∨ (b ≤ j ∧ j < b + i)
      · rw [if_pos h, if_pos (by omega)]
      · rw [if_neg h, if_neg (by omega)]
set_option maxRecDepth 8000 in
set_option maxHeartbeats 4000000 in
theorem WithoutDigit_any (b g : Nat) (w : World) (hb2 : 2 ≤ b) (hb10 : b ≤ 10) (hg : g < b) :
    Calls Tryd.prog 17 #[.int .i64 b, .int .i64 g] w (RetM w (woM b g) true) := by
  obtain ⟨i0, hi, hz0, hz1, hz2⟩ := info_parts info_int
  have HW1 : Hid (∀ W : World, Calls Tryd.prog 35 #[.int .i64 b, .int .i64 2, .int .i64 10] W fun e w' => e = .returned (.bool true) ∧ W = w') := fun W => by
    rw [← show inB (b : Int) 2 10 = true from inB_t.2 ⟨by omega, by omega⟩]; exact within_any _ _ _ W
  have HW2 : Hid (∀ W : World, Calls Tryd.prog 35 #[.int .i64 g, .int .i64 0, .int .i64 ((b : Int) - 1)] W fun e w' => e = .returned (.bool true) ∧ W = w') := fun W => by
    rw [← show inB (g : Int) 0 ((b : Int) - 1) = true from inB_t.2 ⟨by omega, by omega⟩]; exact within_any _ _ _ W
  have H2B : Hid ((2 : Int) * (b : Int) = ((2 * b : Nat) : Int)) := by show _ = _; omega
  go_enter Tryd.func17, Tryd.ntmps17
  go_wp2_with fail
  refine (HW1.out _).mono ?_
  rintro e w' ⟨rfl, rfl⟩
  go_wp2_with fail
  refine (HW2.out _).mono ?_
  rintro e w' ⟨rfl, rfl⟩
  go_wp2_with (at_make; refine wpList_make_full _ rfl _ _ 24 rfl (w.heap.size + 1) 3 i0 (.int .i64 0) 1 Tryd.underlying24 hi hz0 hz1 .i64 .i64 _ _ (2 * b) (congrArg (Value.int .i64) H2B.out) (congrArg (Value.int .i64) H2B.out) rfl rfl ?_ ?_ (by simp) ?_)
  · rw [hz2]; omega
  · unfold maxLen; omega
  intro w1 hown hgrow
  have hr0 : RowN w1 (w.heap.size + 1) (2 * b) (woL b g 0) := by
    rw [woL_zero]
    exact RowN.made (by simpa using hown)
  have hb1 : Below (w.heap.size + 1) (w.alloc (.cells #[.int .i64 0, .slice none 0 0, .slice none 0 0] 27)) w1 := (Below.refl _ _).grown hgrow (by simp) (fun k hk => by cases hk)
  have hs1 := hr0.blk (by omega)
  have hR1 : w1.heap[w.heap.size]? = some (.cells #[.int .i64 0, .slice none 0 0, .slice none 0 0] 27 (0, 0)) := by
    rw [hb1.block _ (by omega)]
    exact heap_alloc_new _ _
  have hbw : Below w.heap.size w w1 := ((Below.refl _ _).alloc (Nat.le_refl _) _).trans (hb1.mono (by omega))
  have HR0 := Lib.hid hr0
  have HR1 := Lib.hid hR1
  have HBW := Lib.hid hbw
  clear hown hgrow hr0 hb1 hR1 hbw
  go_wp2_with fail
  obtain ⟨w2, e2⟩ : ∃ w2, w2 = (w1.alloc (.cells #[.bool true, .bool false] 4)).alloc (.cells #[.int .i64 (b : Int), .slice (some ⟨w.heap.size + 1, 0, none⟩) (2 * b) (2 * b), .slice (some ⟨w1.heap.size, 0, none⟩) 2 2] 27) := ⟨_, rfl⟩
  rw [← e2]
  have hA : Below w1.heap.size w1 (w1.alloc (.cells #[.bool true, .bool false] 4)) := (Below.refl _ _).alloc (Nat.le_refl _) _
  have hB : Below w1.heap.size w1 w2 := by rw [e2]; exact hA.alloc (by simp) _
  have HM2 : Hid (w2.heap[w1.heap.size + 1]? = some (.cells #[.int .i64 (b : Int), .slice (some ⟨w.heap.size + 1, 0, none⟩) (2 * b) (2 * b), .slice (some ⟨w1.heap.size, 0, none⟩) 2 2] 27 (0, 0))) := by
    show _ = _
    rw [e2, show w1.heap.size + 1 = (w1.alloc (.cells #[.bool true, .bool false] 4)).heap.size by simp]
    exact heap_alloc_new _ _
  have HF2 : Hid (w2.heap[w1.heap.size]? = some (.cells #[.bool true, .bool false] 4 (0, 0))) := by
    show _ = _
    rw [e2, Below.heap_alloc _ _ _ (by simp)]
    exact heap_alloc_new _ _
  have HN2 : Hid (RowN w2 (w.heap.size + 1) (2 * b) (woL b g 0)) := HR0.out.kept hB hs1
  have HR2 : Hid (w2.heap[w.heap.size]? = some (.cells #[.int .i64 0, .slice none 0 0, .slice none 0 0] 27 (0, 0))) := (hB.block _ (by omega)).trans HR1.out
  have HB2 : Hid (Below w.heap.size w w2) := HBW.out.trans (hB.mono (by omega))
  clear HR0 HR1 HBW e2 hA hB i0 hi hz0 hz1 hz2 HW1 HW2
  generalize w1.heap.size = M at *
  go_loopw [26] (fun iv wr => ∃ i : Nat, i ≤ b ∧ iv = .int .i64 i ∧ RowN wr (w.heap.size + 1) (2 * b) (woL b g i) ∧
    wr.heap[M + 1]? = some (.cells #[.int .i64 (b : Int), .slice (some ⟨w.heap.size + 1, 0, none⟩) (2 * b) (2 * b), .slice (some ⟨M, 0, none⟩) 2 2] 27 (0, 0)) ∧
    wr.heap[M]? = some (.cells #[.bool true, .bool false] 4 (0, 0)) ∧ wr.heap[w.heap.size]? = some (.cells #[.int .i64 0, .slice none 0 0, .slice none 0 0] 27 (0, 0)) ∧ Below w.heap.size w wr) (fun iv _ => b - (intOf iv).toNat)
  case atStart => exact ⟨0, Nat.zero_le _, rfl, HN2.out, HM2.out, HF2.out, HR2.out, HB2.out⟩
  case round =>
    clear HN2 HM2 HF2 HR2 HB2
    obtain ⟨i, hi, rfl, hn, hm, hf, hr, hb⟩ := hrel
    have hll := woL_len b g i
    by_cases hlt : i < b
    · have hli : (i : Int) < (b : Int) := by omega
      have m1 : wr.cell? ⟨M + 1, 1, none⟩ = some (.slice (some ⟨w.heap.size + 1, 0, none⟩) (2 * b) (2 * b)) := by simp [World.cell?, hm]
      have c2 := hn.cell (b + i) (by omega)
      have f2 := hn.frozen (b + i)
      have c1 := hn.cell i (by omega)
      have f1 := hn.frozen i
      have HN := Lib.hid hn
      have HM := Lib.hid hm
      have HF := Lib.hid hf
      have HR := Lib.hid hr
      have HB := Lib.hid hb
      clear hn hm hf hr hb
      by_cases hig : i = g
      · subst hig
        have hn2 := HN.out.set i 1
        have m2 : (wr.setCell ⟨w.heap.size + 1, i, none⟩ (.int .i64 1)).cell? ⟨M + 1, 1, none⟩ = some (.slice (some ⟨w.heap.size + 1, 0, none⟩) (2 * b) (2 * b)) := by
          rw [World.cell?_setCell_other _ _ _ _ (by simp)]; exact m1
        have c3 := hn2.cell (b + i) (by simp; omega)
        have f3 := hn2.frozen (b + i)
        have HN3 := Lib.hid (hn2.set (b + i) 1)
        have HH : Hid (((woL b i i).set i 1).set (b + i) 1 = woL b i (i + 1)) := woL_hit b i hlt
        have hne1 : M + 1 ≠ w.heap.size + 1 := by omega
        have hne2 : M ≠ w.heap.size + 1 := by omega
        have hne3 : w.heap.size ≠ w.heap.size + 1 := by omega
        clear hn2
        go_wp2_with fail
        go_roundw
        case rel => exact ⟨i + 1, by omega, by go_num, by rw [← HH.out]; exact HN3.out, by rw [Below.heap_setCell _ _ _ _ hne1, Below.heap_setCell _ _ _ _ hne1]; exact HM.out, by rw [Below.heap_setCell _ _ _ _ hne2, Below.heap_setCell _ _ _ _ hne2]; exact HF.out, by rw [Below.heap_setCell _ _ _ _ hne3, Below.heap_setCell _ _ _ _ hne3]; exact HR.out,
          (HB.out.setCell (p := ⟨w.heap.size + 1, i, none⟩) (by show w.heap.size ≤ w.heap.size + 1; omega) _).setCell (p := ⟨w.heap.size + 1, b + i, none⟩) (by show w.heap.size ≤ w.heap.size + 1; omega) _⟩
        case measure => simp [intOf]; omega
      · have HN3 := Lib.hid (HN.out.set (b + i) 1)
        have HH : Hid ((woL b g i).set (b + i) 1 = woL b g (i + 1)) := woL_miss b g i hlt hig
        have hne1 : M + 1 ≠ w.heap.size + 1 := by omega
        have hne2 : M ≠ w.heap.size + 1 := by omega
        have hne3 : w.heap.size ≠ w.heap.size + 1 := by omega
        have hgb : ((i : Int) == (g : Int)) = false := by simp; omega
        go_wp2_with fail
        go_roundw
        case rel => exact ⟨i + 1, by omega, by go_num, by rw [← HH.out]; exact HN3.out, by rw [Below.heap_setCell _ _ _ _ hne1]; exact HM.out, by rw [Below.heap_setCell _ _ _ _ hne2]; exact HF.out, by rw [Below.heap_setCell _ _ _ _ hne3]; exact HR.out,
          HB.out.setCell (p := ⟨w.heap.size + 1, b + i, none⟩) (by show w.heap.size ≤ w.heap.size + 1; omega) _⟩
        case measure => simp [intOf]; omega
    · obtain rfl : i = b := by omega
      have hli : ¬ (i : Int) < (i : Int) := by omega
      have y0 : wr.cell? ⟨w.heap.size, 0, none⟩ = some (.int .i64 0) := by simp [World.cell?, hr]
      have y1 : wr.cell? ⟨w.heap.size, 1, none⟩ = some (.slice none 0 0) := by simp [World.cell?, hr]
      have y2 : wr.cell? ⟨w.heap.size, 2, none⟩ = some (.slice none 0 0) := by simp [World.cell?, hr]
      have z0 : wr.frozen? ⟨w.heap.size, 0, none⟩ = false := by simp [World.frozen?, hr]
      have z1 : wr.frozen? ⟨w.heap.size, 1, none⟩ = false := by simp [World.frozen?, hr]
      have z2 : wr.frozen? ⟨w.heap.size, 2, none⟩ = false := by simp [World.frozen?, hr]
      have p0 : wr.cell? ⟨M + 1, 0, none⟩ = some (.int .i64 (i : Int)) := by simp [World.cell?, hm]
      have p1 : wr.cell? ⟨M + 1, 1, none⟩ = some (.slice (some ⟨w.heap.size + 1, 0, none⟩) (2 * i) (2 * i)) := by simp [World.cell?, hm]
      have p2 : wr.cell? ⟨M + 1, 2, none⟩ = some (.slice (some ⟨M, 0, none⟩) 2 2) := by simp [World.cell?, hm]
      have HN := Lib.hid hn
      have HF := Lib.hid hf
      have HR := Lib.hid hr
      have HB := Lib.hid hb
      have hMl : M < wr.heap.size := lt_of_block hf
      clear hn hm hf hr hb
      go_wp2_with fail
      refine bodyPost_ret (results_mach rfl _ _ w.heap.size _ _ _ _ rfl (set_three HR.out)) rfl ?_
      have HJM : woM i g = ⟨(i : Int), woL i g i, [true, false]⟩ := by rw [woL_all i g hg]; rfl
      refine ⟨some ⟨w.heap.size + 1, 0, none⟩, 2 * i, some ⟨M, 0, none⟩, 2, ?_, ?_, ?_⟩
      · rw [HJM]
        show _ = Ending.returned (.tuple #[.agg #[.int .i64 (i : Int), .slice (some ⟨w.heap.size + 1, 0, none⟩) (woL i g i).length (2 * i), .slice (some ⟨M, 0, none⟩) 2 2], .bool true])
        rw [hll]
        rfl
      · rw [HJM]
        have e1 : ∀ (v1 v2 v3 : Value) (k : Nat), k ≠ w.heap.size → (((wr.setCell ⟨w.heap.size, 0, none⟩ v1).setCell ⟨w.heap.size, 1, none⟩ v2).setCell ⟨w.heap.size, 2, none⟩ v3).heap[k]? = wr.heap[k]? := fun v1 v2 v3 k hk => by
          rw [Below.heap_setCell _ _ _ _ (by exact hk), Below.heap_setCell _ _ _ _ (by exact hk), Below.heap_setCell _ _ _ _ (by exact hk)]
        refine ⟨?_, ?_⟩
        · exact (HN.out.same (e1 _ _ _ _ (by omega))).ints (by omega) (by unfold maxLen; omega)
        · have hF := (e1 (.int .i64 (i : Int)) (.slice (some ⟨w.heap.size + 1, 0, none⟩) (2 * i) (2 * i)) (.slice (some ⟨M, 0, none⟩) 2 2) M (by omega)).trans HF.out
          refine ⟨by simp, by unfold maxLen; omega, M, 0, fun _ => ⟨rfl, by simp [World.setCell]; omega⟩, fun j hj => ?_⟩
          have hj2 : j = 0 ∨ j = 1 := by simp at hj; omega
          rcases hj2 with rfl | rfl
          · simp [World.cell?, hF]
          · simp [World.cell?, hF]
      · exact ((HB.out.setCell (p := ⟨w.heap.size, 0, none⟩) (Nat.le_refl _) _).setCell (p := ⟨w.heap.size, 1, none⟩) (Nat.le_refl _) _).setCell (p := ⟨w.heap.size, 2, none⟩) (Nat.le_refl _) _

end Go.Proofs.YtkapbhlnjmfaaaaDoor
