/- MultiplesOf, within its bounds. Conditions: those of each contract. -/
import Derived.Test.YtkapbhlnjmfaaaaDoorMulP
import Derived.Test.YtkapbhlnjmfaaaaDoorDrawM
namespace Go.Proofs.YtkapbhlnjmfaaaaDoor
set_option linter.unusedVariables false
open Go.RowKit

set_option maxRecDepth 8000 in
set_option maxHeartbeats 4000000 in
theorem MultiplesOf_any (b k : Nat) (w : World) (hw : 0 < w.heap.size) (hb2 : 2 ≤ b) (hb10 : b ≤ 10) (hk1 : 1 ≤ k) (hk12 : k ≤ 12) :
    Calls Tryd.prog 16 #[.int .i64 b, .int .i64 k] w (RetM w (mulM b k) true) := by
  obtain ⟨E, hE⟩ : ∃ E, E + 1 = w.heap.size := ⟨w.heap.size - 1, by omega⟩
  obtain ⟨w1, e1⟩ : ∃ w1, w1 = w.alloc (.cells #[.int .i64 0, .slice none 0 0, .slice none 0 0] 27) := ⟨_, rfl⟩
  have hs1 : w1.heap.size = w.heap.size + 1 := by rw [e1]; simp
  have hb1 : Below w.heap.size w w1 := by rw [e1]; exact (Below.refl _ _).alloc (Nat.le_refl _) _
  have hst0 := RedSt.begin0 (w := w1) (E := E) (b : Int) (by omega)
  rw [hs1] at hst0
  obtain ⟨w2, e2⟩ : ∃ w2, w2 = w1.alloc (.cells #[.int .i64 (b : Int), .slice none 0 0, .slice none 0 0] 27) := ⟨_, rfl⟩
  rw [← e2] at hst0
  have hb12 : Below w.heap.size w w2 := by rw [e2]; exact hb1.alloc (by omega) _
  have hR : w2.heap[w.heap.size]? = some (.cells #[.int .i64 0, .slice none 0 0, .slice none 0 0] 27 (0, 0)) := by
    rw [e2, Below.heap_alloc _ _ _ (by omega), e1]
    exact heap_alloc_new _ _
  have HW1 : Hid (∀ W : World, Calls Tryd.prog 35 #[.int .i64 b, .int .i64 2, .int .i64 10] W fun e w' => e = .returned (.bool true) ∧ W = w') := fun W => by
    rw [← show inB (b : Int) 2 10 = true from inB_t.2 ⟨by omega, by omega⟩]; exact within_any _ _ _ W
  have HW2 : Hid (∀ W : World, Calls Tryd.prog 35 #[.int .i64 k, .int .i64 1, .int .i64 12] W fun e w' => e = .returned (.bool true) ∧ W = w') := fun W => by
    rw [← show inB (k : Int) 1 12 = true from inB_t.2 ⟨by omega, by omega⟩]; exact within_any _ _ _ W
  have HST0 := Lib.hid hst0
  have HB12 := Lib.hid hb12
  have HR := Lib.hid hR
  have hs2 : w2.heap.size = w.heap.size + 2 := by rw [e2]; simp [hs1]
  rw [e1] at e2
  clear hst0 hb12 hR hb1 e1
  go_enter Tryd.func16, Tryd.ntmps16
  go_wp2_with fail
  refine (HW1.out _).mono ?_
  rintro e w' ⟨rfl, rfl⟩
  go_wp2_with fail
  refine (HW2.out _).mono ?_
  rintro e w' ⟨rfl, rfl⟩
  go_wp2_with fail
  rw [← e2]
  clear e2
  go_loopw [21] (fun iv wr => ∃ (s : Nat) (v2 v3 : Value), iv = .int .i64 s ∧ s ≤ k ∧ RedSt wr E (w.heap.size + 1) (b : Int) (.slice none 0 0) v2 v3 (.slice none 0 0) [] (muN k (s * b)) (muF s) [] ∧ Below w.heap.size w wr ∧
    wr.heap[w.heap.size]? = some (.cells #[.int .i64 0, .slice none 0 0, .slice none 0 0] 27 (0, 0))) (fun iv _ => k - (intOf iv).toNat)
  case atStart => exact ⟨0, _, _, rfl, Nat.zero_le _, by rw [Nat.zero_mul]; exact HST0.out, HB12.out, HR.out⟩
  case round =>
    clear HST0 HB12 HR hs2 w1 w2 HW1 HW2 hs1
    obtain ⟨s, v2, v3, rfl, hs, hst, hbl, hrr⟩ := hrel
    have HST := Lib.hid hst
    have HBL := Lib.hid hbl
    have HRR := Lib.hid hrr
    clear hst hbl hrr
    by_cases hsl : s < k
    · have hsi : (s : Int) < (k : Int) := by omega
      go_wp2_with fail
      go_loopw [25] (fun dv wr => ∃ (d : Nat) (v2 : Value), dv = .int .i64 d ∧ d ≤ b ∧ RedSt wr E (w.heap.size + 1) (b : Int) (.slice none 0 0) v2 v3 (.slice none 0 0) [] (muN k (s * b + d)) (muF s) [] ∧ Below w.heap.size w wr ∧
        wr.heap[w.heap.size]? = some (.cells #[.int .i64 0, .slice none 0 0, .slice none 0 0] 27 (0, 0))) (fun dv _ => b - (intOf dv).toNat)
      case atStart => exact ⟨0, v2, rfl, Nat.zero_le _, HST.out, HBL.out, HRR.out⟩
      case round =>
        clear HST HBL HRR v2
        obtain ⟨d, v2, rfl, hd, hst, hbl, hrr⟩ := hrel
        have hblk := hst.blk
        by_cases hdl : d < b
        · have hdi : (d : Int) < (b : Int) := by omega
          have hsb : s * b ≤ 11 * 10 := Nat.mul_le_mul (by omega) hb10
          have HN1 : Hid (muN k (s * b + (d + 1)) = muN k (s * b + d) ++ [(((s * b + d) % k : Nat) : Int)]) := muN_succ k (s * b + d)
          have hNb : (muN k (s * b + d)).length ≤ 1000000 := by rw [muN_len]; omega
          have hmul : (s : Int) * (b : Int) = ((s * b : Nat) : Int) := by rw [Int.natCast_mul]
          generalize hst0 : s * b = t at *
          have HTT := Lib.hid hst0
          clear hst0
          generalize hNN : muN k (t + d) = N at *
          obtain ⟨r, hr⟩ : ∃ r : Nat, r = (t + d) % k := ⟨_, rfl⟩
          rw [← hr] at HN1
          have hri : ((t : Int) + (d : Int)) % (k : Int) = (r : Int) := by rw [hr, ← Int.natCast_add, ← Int.natCast_emod]
          have hrt : ((t : Int) + (d : Int)).tmod (k : Int) = (r : Int) := by rw [Int.tmod_eq_emod_of_nonneg (by omega)]; exact hri
          have hrk : r < k := by rw [hr]; exact Nat.mod_lt _ (by omega)
          have hw1 : IntKind.i64.wrap ((s : Int) * (b : Int)) = (t : Int) := by rw [hmul, IntKind.wrap_i64]; omega
          have hw2 : IntKind.i64.wrap ((t : Int) + (d : Int)) = (t : Int) + (d : Int) := by rw [IntKind.wrap_i64]; omega
          have hw3 : IntKind.i64.wrap (((t : Int) + (d : Int)).tmod (k : Int)) = (r : Int) := by rw [hrt, IntKind.wrap_i64]; omega
          have hk0 : (k : Int) ≠ 0 := by omega
          have hk0n : k ≠ 0 := by omega
          have hw4 : IntKind.i64.wrap (t : Int) = (t : Int) := by rw [IntKind.wrap_i64]; omega
          clear hmul hri hr
          have hkp : 0 < (k : Int) := by omega
          have hnn : 0 ≤ (t : Int) + (d : Int) := by omega
          have ho5 := hst.out
          have p1 : wr.cell? ⟨w.heap.size + 1, 1, none⟩ = some v2 := by simp [World.cell?, ho5]
          have p2 : wr.drew.cell? ⟨w.heap.size + 1, 1, none⟩ = some v2 := p1
          have p3 : ∀ y, (wr.drew.alloc (.cells #[y] 3)).cell? ⟨w.heap.size + 1, 1, none⟩ = some v2 := fun y => by rw [World.cell?_alloc_past _ _ _ (by show w.heap.size + 1 < wr.heap.size; exact hblk)]; exact p1
          have HST := Lib.hid hst
          have HBL := Lib.hid hbl
          have HRR := Lib.hid hrr
          have hnx := hst.drew.nx
          clear hst hbl hrr ho5 hNN
          go_wp2_with fail
          go_region_law (refine at_app _ _ _ rfl ?_; refine step_append_one rfl (.tmp 29) (.tmp 37) 24 3 (.int .i64 0) 8 Tryd.underlying24 info_int rfl (Nat.le_refl _) rfl (w.heap.size + 1 + 1) v2 N.length _ rfl hnx (.int .i64 (r : Int)) rfl rfl hNb hblk ?_; intro g6 cap6 w6 ho6 hg6 hat6 hlt6; obtain ⟨z1, z2, z3⟩ := HST.out.drew.addN ho6 hg6 hat6)
          all_goals
            have HY := Lib.hid z3
            have hda := draw_after (S0 := w.heap.size) hg6 (fun j hj => by have := (World.ownsRow.lt hnx j hj).1; omega) hblk 1 (.slice (some ⟨g6, 0, none⟩) (N.length + 1) cap6)
            have HDA := Lib.hid hda
            clear ho6 hg6 hat6 hlt6 z1 z2 z3 hda
            go_wp2_with fail
            go_roundw
            case rel => exact ⟨d + 1, _, by go_num, by omega, by rw [HN1.out]; exact HY.out, HBL.out.drew.trans HDA.out.1, HDA.out.2.trans HRR.out⟩
            case measure => simp [intOf]; omega
        · obtain rfl : d = b := by omega
          have hdi : ¬ (d : Int) < (d : Int) := by omega
          have hfx := hst.fi
          have hOb := hst.blk
          have ho0 := hst.out
          have p2 : wr.cell? ⟨w.heap.size + 1, 2, none⟩ = some v3 := by simp [World.cell?, ho0]
          have hFb : (muF s).length ≤ 1000000 := by rw [muF_len]; omega
          have HADF := fun (y : Bool) (g cap : Nat) (w' : World) h1 h2 h3 => Lib.hid (hst.addF (g := g) (cap := cap) (w' := w') (y := y) h1 h2 h3)
          have HADD := Lib.hid HADF
          have HBL := Lib.hid hbl
          have HRR := Lib.hid hrr
          have HF1 : Hid (muF (s + 1) = muF s ++ [decide (s = 0)]) := muF_succ s
          have HT2 : Hid (s * d + d = (s + 1) * d) := by show _ = _; rw [Nat.add_mul]; omega
          clear hst hbl hrr ho0 HADF
          obtain ⟨fb, hfb⟩ : ∃ fb, fb = decide (s = 0) := ⟨_, rfl⟩
          rw [← hfb] at HF1
          have hb1 : ((s : Int) == 0) = fb := by rw [hfb]; by_cases h : s = 0 <;> simp [h]
          have hb2' : (s == 0) = fb := by rw [hfb]; by_cases h : s = 0 <;> simp [h]
          have hb3 : decide (s = 0) = fb := hfb.symm
          clear hfb
          generalize hF0 : muF s = F0 at *
          go_wp2_with (at_builtin; refine wpList_append_one rfl (.tmp 42) (.tmp 45) 25 4 (.bool false) 1 Tryd.underlying25 info_bool1 rfl (by decide) rfl (w.heap.size + 1 + 1) v3 F0.length _ rfl hfx (.bool fb) rfl rfl hFb hOb ?_; intro g6 cap6 w6 ho6 hg6 hat6 hlt6; obtain ⟨z1, z2, z3⟩ := (HADD.out _ g6 cap6 w6 ho6 hg6 hat6).out)
          have HY := Lib.hid z3
          have hda := draw_after (S0 := w.heap.size) hg6 (fun j hj => by have := (World.ownsRow.lt hfx j hj).1; omega) hOb 2 (.slice (some ⟨g6, 0, none⟩) (F0.length + 1) cap6)
          have HDA := Lib.hid hda
          clear ho6 hg6 hat6 hlt6 z1 z2 z3 hda
          go_roundw
          case rel => exact ⟨s + 1, v2, _, by go_num, by omega, by rw [HF1.out, ← HT2.out]; exact HY.out, HBL.out.trans HDA.out.1, HDA.out.2.trans HRR.out⟩
          case measure => simp [intOf]; omega
    · obtain rfl : s = k := by omega
      have hsi : ¬ (s : Int) < (s : Int) := by omega
      obtain ⟨b1, d1, b2, d2, e1, e2, -⟩ := HST.out.mach
      have hout := HST.out.out
      subst e1 e2
      have hr3 := HRR.out
      have y0 : wr.cell? ⟨w.heap.size, 0, none⟩ = some (.int .i64 0) := by simp [World.cell?, hr3]
      have y1 : wr.cell? ⟨w.heap.size, 1, none⟩ = some (.slice none 0 0) := by simp [World.cell?, hr3]
      have y2 : wr.cell? ⟨w.heap.size, 2, none⟩ = some (.slice none 0 0) := by simp [World.cell?, hr3]
      have z0 : wr.frozen? ⟨w.heap.size, 0, none⟩ = false := by simp [World.frozen?, hr3]
      have z1 : wr.frozen? ⟨w.heap.size, 1, none⟩ = false := by simp [World.frozen?, hr3]
      have z2 : wr.frozen? ⟨w.heap.size, 2, none⟩ = false := by simp [World.frozen?, hr3]
      have p0 : wr.cell? ⟨w.heap.size + 1, 0, none⟩ = some (.int .i64 (b : Int)) := by simp [World.cell?, hout]
      have p1 : wr.cell? ⟨w.heap.size + 1, 1, none⟩ = some (.slice b1 (muN s (s * b)).length d1) := by simp [World.cell?, hout]
      have p2 : wr.cell? ⟨w.heap.size + 1, 2, none⟩ = some (.slice b2 (muF s).length d2) := by simp [World.cell?, hout]
      have HR3 := Lib.hid hr3
      have HJM : Hid (mulM b s = ⟨(b : Int), muN s (s * b), muF s⟩) := rfl
      clear hout hr3
      go_wp2_with fail
      refine bodyPost_ret (results_mach rfl _ _ w.heap.size _ _ _ _ rfl (set_three HR3.out)) rfl ?_
      have hst4 := ((HST.out.other (set_other _ w.heap.size 0 (.int .i64 (b : Int))) (by omega)).other (set_other _ w.heap.size 1 (.slice b1 (muN s (s * b)).length d1)) (by omega)).other (set_other _ w.heap.size 2 (.slice b2 (muF s).length d2)) (by omega)
      obtain ⟨b1', d1', b2', d2', e1', e2', hmach⟩ := hst4.mach
      simp only [Value.slice.injEq, true_and] at e1' e2'
      obtain ⟨rfl, rfl⟩ := e1'
      obtain ⟨rfl, rfl⟩ := e2'
      refine ⟨b1, d1, b2, d2, ?_, ?_, ?_⟩
      · rw [HJM.out]; rfl
      · rw [HJM.out]; exact hmach
      · exact (((HBL.out).setCell (p := ⟨w.heap.size, 0, none⟩) (Nat.le_refl _) _).setCell (p := ⟨w.heap.size, 1, none⟩) (Nat.le_refl _) _).setCell (p := ⟨w.heap.size, 2, none⟩) (Nat.le_refl _) _

end Go.Proofs.YtkapbhlnjmfaaaaDoor
