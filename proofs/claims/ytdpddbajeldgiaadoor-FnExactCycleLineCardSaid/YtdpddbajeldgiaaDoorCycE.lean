/- PowerSum, PowerCycle, CycleLine, program and reference, and the law of CycleLine. Conditions: those of each contract. -/
import Derived.Test.YtdpddbajeldgiaaDoorCycA
import Derived.Test.YtdpddbajeldgiaaDoorCycD
import Derived.Test.YtdpddbajeldgiaaDoorRepB
namespace Go.Proofs.YtdpddbajeldgiaaDoor
set_option linter.unusedVariables false
open Go.RowKit

def pcOk (n b e : Int) : Bool := inB b 2 16 && inB n 0 1000000000000 && inB e 1 5
theorem pcOk_t {n b e : Int} (h : pcOk n b e = true) : 2 ≤ b ∧ b ≤ 16 ∧ 0 ≤ n ∧ n ≤ 1000000000000 ∧ 1 ≤ e ∧ e ≤ 5 := by
  unfold pcOk inB at h
  simp only [Bool.and_eq_true, decide_eq_true_eq] at h
  omega
theorem psum_stays (b : Int) (e : Nat) (hb1 : 2 ≤ b) (hb2 : b ≤ 16) (he : e ≤ 5) : stays (psum b e) 48600001 :=
  ⟨by omega, fun x _ _ => by have := psum_bd b e x hb1 hb2 he; omega⟩
noncomputable def cycLn (n b e : Int) : ByteArray := if pcOk n b e = true then fmtN (cycR (psum b e.toNat) n) else ⟨#[110, 111, 110, 101]⟩
theorem PowerSum_no (n b e : Int) (w : World) (h : pcOk n b e = false) :
    Calls Tryd.prog 96 #[.int .i64 n, .int .i64 b, .int .i64 e] w fun r w' => r = .returned (.int .i64 (-1)) ∧ Below w.heap.size w w' := by
  unfold pcOk at h
  cases hb : inB b 2 16
  · go_enter Tryd.func96, Tryd.ntmps96
    go_wp2_with (go_at_call 75; refine (BaseOk_any _ _).mono ?_; rintro e w' ⟨rfl, rfl⟩)
    go_ret
    exact ⟨rfl, Below.refl _ _⟩
  cases hn : inB n 0 1000000000000
  · go_enter Tryd.func96, Tryd.ntmps96
    go_wp2_with (first | (go_at_call 75; refine (BaseOk_any _ _).mono ?_; rintro e w' ⟨rfl, rfl⟩) | (go_at_call 119; refine (isNumber_any _ _).mono ?_; rintro e w' ⟨rfl, rfl⟩))
    go_ret
    exact ⟨rfl, Below.refl _ _⟩
  · have he : inB e 1 5 = false := by simpa [hb, hn] using h
    clear h
    go_enter Tryd.func96, Tryd.ntmps96
    go_wp2_with (first | (go_at_call 75; refine (BaseOk_any _ _).mono ?_; rintro e w' ⟨rfl, rfl⟩) | (go_at_call 119; refine (isNumber_any _ _).mono ?_; rintro e w' ⟨rfl, rfl⟩) | (go_at_call 87; refine (within_any _ _ _ _).mono ?_; rintro e w' ⟨rfl, rfl⟩))
    go_ret
    exact ⟨rfl, Below.refl _ _⟩
theorem PowerSum_ok (n b : Int) (e : Nat) (w : World) (h : pcOk n b e = true) :
    Calls Tryd.prog 96 #[.int .i64 n, .int .i64 b, .int .i64 e] w fun r w' => r = .returned (.int .i64 (psum b e n)) ∧ Below w.heap.size w w' := by
  obtain ⟨h1, h2, h3, h4, h5, h6⟩ := pcOk_t h
  unfold pcOk at h
  have hb : inB b 2 16 = true := inB_t.2 ⟨h1, h2⟩
  have hn : inB n 0 1000000000000 = true := inB_t.2 ⟨h3, h4⟩
  have he : inB (e : Int) 1 5 = true := inB_t.2 ⟨h5, h6⟩
  have HP : Hid (∀ W : World, Calls Tryd.prog 99 #[.int .i64 n, .int .i64 b, .int .i64 e] W fun r w' => r = .returned (.int .i64 (psum b e n)) ∧ Below W.heap.size W w') := fun W => powerSum_any n b e W h4 h1 h2 (by omega)
  clear h
  go_enter Tryd.func96, Tryd.ntmps96
  go_wp2_with (first | (go_at_call 75; refine (BaseOk_any _ _).mono ?_; rintro e w' ⟨rfl, rfl⟩) | (go_at_call 119; refine (isNumber_any _ _).mono ?_; rintro e w' ⟨rfl, rfl⟩) | (go_at_call 87; refine (within_any _ _ _ _).mono ?_; rintro e w' ⟨rfl, rfl⟩))
  refine (HP.out _).mono ?_
  rintro r w' ⟨rfl, hb1⟩
  have HB1 := Lib.hid hb1
  clear hb1
  go_wp2_with fail
  go_ret
  exact ⟨rfl, HB1.out⟩
theorem PowerCycle1_any (x b : Int) (e p q : Nat) (w : World) (hx : x ≤ 1000000000000) (hb1 : 2 ≤ b) (hb2 : b ≤ 16) (he : e ≤ 5) (hp : w.cell? ⟨p, 0, none⟩ = some (.int .i64 b)) (hq : w.cell? ⟨q, 0, none⟩ = some (.int .i64 e)) :
    Calls Tryd.prog 98 #[.int .i64 x, .pointer (some ⟨p, 0, none⟩), .pointer (some ⟨q, 0, none⟩)] w fun r w' => r = .returned (.int .i64 (psum b e x)) ∧ Below w.heap.size w w' := by
  have HP : Hid (∀ W : World, Calls Tryd.prog 99 #[.int .i64 x, .int .i64 b, .int .i64 e] W fun r w' => r = .returned (.int .i64 (psum b e x)) ∧ Below W.heap.size W w') := fun W => powerSum_any x b e W hx hb1 hb2 he
  go_enter Tryd.func98, Tryd.ntmps98
  go_wp2_with fail
  refine (HP.out _).mono ?_
  rintro r w' ⟨rfl, hb⟩
  have HB := Lib.hid hb
  clear hb
  go_wp2_with fail
  go_ret
  exact ⟨rfl, HB.out⟩
theorem PowerCycle_no (n b e : Int) (w : World) (h : pcOk n b e = false) :
    Calls Tryd.prog 58 #[.int .i64 n, .int .i64 b, .int .i64 e] w fun r w' => r = .returned (.slice none 0 0) ∧ Below w.heap.size w w' := by
  have HP : Hid (∀ W : World, Calls Tryd.prog 96 #[.int .i64 n, .int .i64 b, .int .i64 e] W fun r w' => r = .returned (.int .i64 (-1)) ∧ Below W.heap.size W w') := fun W => PowerSum_no n b e W h
  clear h
  go_enter Tryd.func58, Tryd.ntmps58
  go_wp2_with fail
  refine (HP.out _).mono ?_
  rintro r w1 ⟨rfl, hb⟩
  have HB : Hid (Below w.heap.size w w1) := (((Below.refl _ _).alloc (Nat.le_refl _) _).alloc (by simp) _).trans (hb.mono (by simp; omega))
  clear hb
  go_wp2_with fail
  go_ret
  exact ⟨rfl, HB.out⟩
set_option maxRecDepth 8000 in
theorem PowerCycle_ok (n b : Int) (e : Nat) (w : World) (h : pcOk n b e = true) :
    Calls Tryd.prog 58 #[.int .i64 n, .int .i64 b, .int .i64 e] w (RetI w (cycR (psum b e) n)) := by
  obtain ⟨h1, h2, h3, h4, h5, h6⟩ := pcOk_t h
  have HP : Hid (∀ W : World, Calls Tryd.prog 96 #[.int .i64 n, .int .i64 b, .int .i64 e] W fun r w' => r = .returned (.int .i64 (psum b e n)) ∧ Below W.heap.size W w') := fun W => PowerSum_ok n b e W h
  have hps := psum_bd b e n h1 h2 (by omega)
  clear h
  have HC : Hid (∀ W : World, W.cell? ⟨w.heap.size, 0, none⟩ = some (.int .i64 b) → W.cell? ⟨w.heap.size + 1, 0, none⟩ = some (.int .i64 e) → w.heap.size + 1 < W.heap.size →
      Calls Tryd.prog 97 #[.int .i64 n, .func (.func 98) #[] #[.pointer (some ⟨w.heap.size, 0, none⟩), .pointer (some ⟨w.heap.size + 1, 0, none⟩)]] W (RetC W (cycI (psum b e) n) (cycR (psum b e) n))) := fun W hp hq hl =>
    cycleFrom_any 98 w.heap.size (w.heap.size + 1) 48600001 (psum b e) n W (psum_stays b e h1 h2 (by omega)) h3 h4 (fun _ _ => rfl)
      (fun x W2 hx0 hx1 hW2 => PowerCycle1_any x b e _ _ W2 hx1 h1 h2 (by omega) ((hW2.cell (p := ⟨w.heap.size, 0, none⟩) (by show w.heap.size < _; omega)).trans hp) ((hW2.cell (p := ⟨w.heap.size + 1, 0, none⟩) hl).trans hq))
  have hmf : ∀ (fn : Fn) (first cap : Array Value) (w : World), (Instr.makeFunc fn first cap).run Tryd.prog w = .ok (.func fn first cap) w := fun _ _ _ _ => rfl
  generalize psum b e n = ps at *
  generalize cycI (psum b e) n = ci at *
  generalize cycR (psum b e) n = cr at *
  go_enter Tryd.func58, Tryd.ntmps58
  go_wp2_with fail
  refine (HP.out _).mono ?_
  rintro r w1 ⟨rfl, hb⟩
  have HB : Hid (Below w.heap.size w w1) := (((Below.refl _ _).alloc (Nat.le_refl _) _).alloc (by simp) _).trans (hb.mono (by simp; omega))
  have hc1 : w1.cell? ⟨w.heap.size, 0, none⟩ = some (.int .i64 b) := by
    rw [hb.cell (p := ⟨w.heap.size, 0, none⟩) (by simp; omega), World.cell?_alloc_past _ _ _ (by simp), World.cell?_alloc_at _ _ _ _ rfl]; rfl
  have hc2 : w1.cell? ⟨w.heap.size + 1, 0, none⟩ = some (.int .i64 e) := by
    rw [hb.cell (p := ⟨w.heap.size + 1, 0, none⟩) (by simp), World.cell?_alloc_at _ _ _ _ (by simp)]; rfl
  have hsz : w.heap.size + 1 < w1.heap.size := by have := hb.size; simp at this; omega
  have HC2 := Lib.hid (HC.out w1 hc1 hc2 hsz)
  clear hb hc1 hc2
  go_wp2_with fail
  refine HC2.out.mono ?_
  rintro r w2 ⟨a2, c2, rfl, ho, hb2⟩
  have HO := Lib.hid (ho.lower HB.out.size)
  have HB2 := Lib.hid (HB.out.trans (hb2.mono HB.out.size))
  clear ho hb2
  go_wp2_with fail
  go_ret
  exact ⟨a2, c2, rfl, HO.out, HB2.out⟩
set_option maxRecDepth 8000 in
theorem CycleLine_any (n b e : Int) (w : World) (ht : Tab w) :
    Calls Tryd.prog 24 #[.int .i64 n, .int .i64 b, .int .i64 e] w fun r w' => r = .returned (.string (cycLn n b e)) ∧ Below w.heap.size w w' := by
  cases hq : pcOk n b e
  · have HF : Hid (cycLn n b e = ⟨#[110, 111, 110, 101]⟩) := by show _ = _; simp [cycLn, hq]
    have HP := Lib.hid (PowerCycle_no n b e w hq)
    have hnn := fun (w : World) => Lib.run_eql_slice_nil (P := Tryd.prog) w 22 3 none 0 0 0 0 Tryd.underlying22
    clear hq
    go_enter Tryd.func24, Tryd.ntmps24
    go_wp2_with fail
    refine HP.out.mono ?_
    rintro r w1 ⟨rfl, hb⟩
    have HB := Lib.hid hb
    clear hb
    go_wp2_with fail
    go_ret
    exact ⟨by rw [HF.out] <;> rfl, HB.out⟩
  · obtain ⟨h1, h2, h3, h4, h5, h6⟩ := pcOk_t hq
    obtain ⟨E, rfl⟩ : ∃ E : Nat, e = (E : Int) := ⟨e.toNat, by omega⟩
    have HF : Hid (cycLn n b E = fmtN (cycR (psum b E) n)) := by show _ = _; rw [cycLn, if_pos hq, Int.toNat_natCast]
    have HP := Lib.hid (PowerCycle_ok n b E w hq)
    obtain ⟨f1, f2, f3, f4⟩ := cycR_facts (psum_stays b E h1 h2 (by omega)) h3 h4
    have HOK : Hid (okI (cycR (psum b E) n)) := fun x hx => by have := f4 x hx; exact ⟨by omega, by omega⟩
    have HT := Lib.hid ht
    clear hq f3 f4 ht
    generalize cycR (psum b E) n = cr at *
    go_enter Tryd.func24, Tryd.ntmps24
    go_wp2_with fail
    refine HP.out.mono ?_
    rintro r w1 ⟨a1, c1, rfl, ho, hb⟩
    have HB := Lib.hid hb
    have HFN := Lib.hid (FormatNumbers_any a1 c1 cr w1 ho.ints (by omega) HOK.out (HT.out.upd hb))
    obtain ⟨g, rfl, -, -, -⟩ := ho.someN (by omega)
    have hnn := fun (w : World) => Lib.run_eql_slice_nil (P := Tryd.prog) w 22 3 (some ⟨g, 0, none⟩) cr.length c1 0 0 Tryd.underlying22
    clear hb ho
    go_wp2_with fail
    refine HFN.out.mono ?_
    rintro r w2 ⟨rfl, hb2⟩
    have HB2 := Lib.hid (HB.out.trans (hb2.mono HB.out.size))
    clear hb2
    go_wp2_with fail
    go_ret
    exact ⟨by rw [HF.out] <;> rfl, HB2.out⟩
theorem l22Ok_any (n b e : Int) (w : World) :
    Calls Tryd.prog 94 #[.int .i64 n, .int .i64 b, .int .i64 e] w fun r w' => r = .returned (.bool (pcOk n b e)) ∧ w = w' := by
  have HF : Hid (pcOk n b e = (inB b 2 16 && inB n 0 1000000000000 && inB e 1 5)) := rfl
  cases hx : (inB b 2 16 && inB n 0 1000000000000)
  · have HX := Lib.hid hx
    go_enter Tryd.func94, Tryd.ntmps94
    go_wp2_with (first | (go_at_call 117; refine (l02Ok_any _ _ _).mono ?_; rintro e w' ⟨rfl, rfl⟩) | (go_at_call 84; refine (l01In_any _ _ _ _).mono ?_; rintro e w' ⟨rfl, rfl⟩))
    go_ret
    exact ⟨by rw [HF.out, HX.out]; simp, rfl⟩
  · have HX := Lib.hid hx
    go_enter Tryd.func94, Tryd.ntmps94
    go_wp2_with (first | (go_at_call 117; refine (l02Ok_any _ _ _).mono ?_; rintro e w' ⟨rfl, rfl⟩) | (go_at_call 84; refine (l01In_any _ _ _ _).mono ?_; rintro e w' ⟨rfl, rfl⟩))
    go_ret
    exact ⟨by rw [HF.out, HX.out]; simp, rfl⟩
theorem l22Step0_any (x b : Int) (e : Nat) (w : World) (hx : x ≤ 1000000000000) (hb1 : 2 ≤ b) (hb2 : b ≤ 16) (he : e ≤ 5) :
    Calls Tryd.prog 118 #[.int .i64 x, .int .i64 b, .int .i64 e, .int .i64 0] w fun r w' => r = .returned (.int .i64 (psum b e x)) ∧ Below w.heap.size w w' := by
  have HP := Lib.hid (l22Sum_any x b e w hx hb1 hb2 he)
  go_enter Tryd.func118, Tryd.ntmps118
  go_wp2_with fail
  refine HP.out.mono ?_
  rintro r w' ⟨rfl, hb⟩
  have HB := Lib.hid hb
  clear hb
  go_wp2_with fail
  go_ret
  exact ⟨rfl, HB.out⟩
theorem sPowerCycle_no (n b e : Int) (w : World) (h : pcOk n b e = false) :
    Calls Tryd.prog 57 #[.int .i64 n, .int .i64 b, .int .i64 e] w fun r w' => r = .returned (.slice none 0 0) ∧ w = w' := by
  go_enter Tryd.func57, Tryd.ntmps57
  go_wp2_with (go_at_call 94; refine (l22Ok_any _ _ _ _).mono ?_; rintro e w' ⟨rfl, rfl⟩)
  go_ret
  exact ⟨rfl, rfl⟩
theorem sPowerCycle_ok (n b : Int) (e : Nat) (w : World) (h : pcOk n b e = true) :
    Calls Tryd.prog 57 #[.int .i64 n, .int .i64 b, .int .i64 e] w (RetI w (cycR (psum b e) n)) := by
  obtain ⟨h1, h2, h3, h4, h5, h6⟩ := pcOk_t h
  have HC := Lib.hid (l22Cycle_any b e 0 48600001 (psum b e) n w (psum_stays b e h1 h2 (by omega)) h3 h4 (fun x W hx0 hx1 => l22Step0_any x b e W hx1 h1 h2 (by omega)))
  generalize cycI (psum b e) n = ci at *
  generalize cycR (psum b e) n = cr at *
  go_enter Tryd.func57, Tryd.ntmps57
  go_wp2_with (go_at_call 94; refine (l22Ok_any _ _ _ _).mono ?_; rintro e w' ⟨rfl, rfl⟩)
  refine HC.out.mono ?_
  rintro r w2 ⟨a2, c2, rfl, ho, hb2⟩
  have HO := Lib.hid ho
  have HB2 := Lib.hid hb2
  clear ho hb2
  go_wp2_with fail
  go_ret
  exact ⟨a2, c2, rfl, HO.out, HB2.out⟩
theorem sCycleLine_any (n b e : Int) (w : World) :
    Calls Tryd.prog 23 #[.int .i64 n, .int .i64 b, .int .i64 e] w fun r w' => r = .returned (.string (cycLn n b e)) ∧ Below w.heap.size w w' := by
  cases hq : pcOk n b e
  · have HF : Hid (cycLn n b e = ⟨#[110, 111, 110, 101]⟩) := by show _ = _; simp [cycLn, hq]
    have HP := Lib.hid (sPowerCycle_no n b e w hq)
    clear hq
    go_enter Tryd.func23, Tryd.ntmps23
    go_wp2_with fail
    refine HP.out.mono ?_
    rintro r w1 ⟨rfl, rfl⟩
    go_wp2_with fail
    go_ret
    exact ⟨by rw [HF.out] <;> rfl, Below.refl _ _⟩
  · obtain ⟨h1, h2, h3, h4, h5, h6⟩ := pcOk_t hq
    obtain ⟨E, rfl⟩ : ∃ E : Nat, e = (E : Int) := ⟨e.toNat, by omega⟩
    have HF : Hid (cycLn n b E = fmtN (cycR (psum b E) n)) := by show _ = _; rw [cycLn, if_pos hq, Int.toNat_natCast]
    have HP := Lib.hid (sPowerCycle_ok n b E w hq)
    obtain ⟨f1, f2, f3, f4⟩ := cycR_facts (psum_stays b E h1 h2 (by omega)) h3 h4
    have HOK : Hid (okI (cycR (psum b E) n)) := fun x hx => by have := f4 x hx; exact ⟨by omega, by omega⟩
    clear hq f3 f4
    generalize cycR (psum b E) n = cr at *
    have hz : ((cr.length : Int) == 0) = false := by rw [beq_eq_false_iff_ne]; omega
    go_enter Tryd.func23, Tryd.ntmps23
    go_wp2_with fail
    refine HP.out.mono ?_
    rintro r w1 ⟨a1, c1, rfl, ho, hb⟩
    have HB := Lib.hid hb
    have HFN := Lib.hid (sFormatNumbers_any a1 c1 cr w1 ho.ints (by omega) HOK.out)
    clear hb ho
    go_wp2_with fail
    refine HFN.out.mono ?_
    rintro r w2 ⟨rfl, hb2⟩
    have HB2 := Lib.hid (HB.out.trans (hb2.mono HB.out.size))
    clear hb2
    go_wp2_with fail
    go_ret
    exact ⟨by rw [HF.out] <;> rfl, HB2.out⟩
set_option maxHeartbeats 2000000 in
theorem law_FnExactCycleLine (n : Int) (b : Int) (e : Int) (w : World) (fn : (Lit.int .i64 n).wf = true) (fb : (Lit.int .i64 b).wf = true) (fe : (Lit.int .i64 e).wf = true) (ht : Tab w) :
    Calls Tryd.prog 8 #[.int .i64 n, .int .i64 b, .int .i64 e] w fun e w' => e = .returned (.bool true) ∧ Below w.heap.size w w' := by
  have HB0 : Hid (Below w.heap.size w w) := Below.refl _ _
  have HT := Lib.hid ht; clear ht
  go_enter Tryd.func8, Tryd.ntmps8
  go_wp2_with fail
  refine (sCycleLine_any n b e _).mono ?_
  rintro e w1 ⟨rfl, hb⟩
  have hu := Below.upd hb; clear hb
  have hs1 := hu.size
  have HB1 : Hid (Below w.heap.size w w1) := HB0.out.trans (hu.below (by omega) (by omega))
  clear hu
  go_wp2_with fail
  refine (CycleLine_any n b e _ (HT.out.upd HB1.out)).mono ?_
  rintro e w2 ⟨rfl, hb⟩
  have hu := Below.upd hb; clear hb
  have hs2 := hu.size
  have HB2 : Hid (Below w.heap.size w w2) := HB1.out.trans (hu.below (by omega) (by omega))
  clear hu
  go_wp2_with fail
  go_ret
  exact ⟨rfl, HB2.out⟩

end Go.Proofs.YtdpddbajeldgiaaDoor
