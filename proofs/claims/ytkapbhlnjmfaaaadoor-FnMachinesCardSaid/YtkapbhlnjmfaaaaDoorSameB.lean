/- SameLists, and the comparison of two machines. Conditions: those of each contract. -/
import Derived.Test.YtkapbhlnjmfaaaaDoorSameA
namespace Go.Proofs.YtkapbhlnjmfaaaaDoor
set_option linter.unusedVariables false
open Go.RowKit

def eqMa (x y : Ma) : Bool := decide (x.base = y.base) && decide (x.next = y.next) && decide (x.final = y.final)
theorem eqMa_self (x : Ma) : eqMa x x = true := by simp [eqMa]
def sameR (a c : Ma) : Bool := maOk a && maOk c && eqMa (redM a) (redM c)
set_option maxRecDepth 8000 in
set_option maxHeartbeats 2000000 in
theorem SameLists_any (a1 : Option Addr) (c1 : Nat) (a2 : Option Addr) (c2 : Nat) (m : Ma) (a3 : Option Addr) (c3 : Nat) (a4 : Option Addr) (c4 : Nat) (p : Ma) (w : World) (hm : Mach w w.heap.size a1 c1 a2 c2 m) (hp : Mach w w.heap.size a3 c3 a4 c4 p) (ht : Tab w) :
    Calls Tryd.prog 11 #[.agg #[.int .i64 m.base, .slice a1 m.next.length c1, .slice a2 m.final.length c2], .agg #[.int .i64 p.base, .slice a3 p.next.length c3, .slice a4 p.final.length c4]] w fun e w' => e = .returned (.bool (sameR m p)) ∧ Below w.heap.size w w' := by
  obtain ⟨w0, e0, hb0, hs0, k0, k1, k2⟩ := box_new m.base a1 m.next.length c1 a2 m.final.length c2 w
  obtain ⟨wA, eA, hbA, hsA, j0, j1, j2⟩ := box_new p.base a3 p.next.length c3 a4 p.final.length c4 w0
  have hb0A : Below w.heap.size w wA := hb0.trans (hbA.mono (by omega))
  have HRA : Hid (∀ W : World, Below w.heap.size w W → Calls Tryd.prog 9 #[.agg #[.int .i64 m.base, .slice a1 m.next.length c1, .slice a2 m.final.length c2]] W (RetM W (if maOk m = true then redM m else noM) (maOk m))) := fun W hW => ReduceMachine_any a1 c1 a2 c2 m W (hm.later hW) (ht.upd hW)
  have HRC : Hid (∀ W : World, Below w.heap.size w W → Calls Tryd.prog 9 #[.agg #[.int .i64 p.base, .slice a3 p.next.length c3, .slice a4 p.final.length c4]] W (RetM W (if maOk p = true then redM p else noM) (maOk p))) := fun W hW => ReduceMachine_any a3 c3 a4 c4 p W (hp.later hW) (ht.upd hW)
  have HKP : Hid (∀ W : World, Below wA.heap.size wA W → W.cell? ⟨w0.heap.size, 0, none⟩ = some (.int .i64 p.base) ∧ W.cell? ⟨w0.heap.size, 1, none⟩ = some (.slice a3 p.next.length c3) ∧ W.cell? ⟨w0.heap.size, 2, none⟩ = some (.slice a4 p.final.length c4)) := fun W hW =>
    ⟨(hW.cell (p := ⟨w0.heap.size, 0, none⟩) (by show w0.heap.size < _; omega)).trans j0, (hW.cell (p := ⟨w0.heap.size, 1, none⟩) (by show w0.heap.size < _; omega)).trans j1, (hW.cell (p := ⟨w0.heap.size, 2, none⟩) (by show w0.heap.size < _; omega)).trans j2⟩
  have HKM : wA.cell? ⟨w.heap.size, 0, none⟩ = some (.int .i64 m.base) ∧ wA.cell? ⟨w.heap.size, 1, none⟩ = some (.slice a1 m.next.length c1) ∧ wA.cell? ⟨w.heap.size, 2, none⟩ = some (.slice a2 m.final.length c2) :=
    ⟨(hbA.cell (p := ⟨w.heap.size, 0, none⟩) (by show w.heap.size < _; omega)).trans k0, (hbA.cell (p := ⟨w.heap.size, 1, none⟩) (by show w.heap.size < _; omega)).trans k1, (hbA.cell (p := ⟨w.heap.size, 2, none⟩) (by show w.heap.size < _; omega)).trans k2⟩
  obtain ⟨x0, x1, x2⟩ := HKM
  have HF : Hid (sameR m p = (maOk m && maOk p && eqMa (redM m) (redM p))) := rfl
  have HB0A := Lib.hid hb0A
  rw [e0] at eA
  have hs1 : w0.heap.size = w.heap.size + 1 := hs0
  rw [eA] at x0 x1 x2
  clear hm hp ht hb0 hbA j0 j1 j2 k0 k1 k2 hb0A
  generalize hom : maOk m = om at *
  generalize hop : maOk p = op at *
  generalize hrm : (if om = true then redM m else noM) = rm at *
  generalize hrp : (if op = true then redM p else noM) = rp at *
  go_enter Tryd.func11, Tryd.ntmps11
  go_wp2_with fail
  rw [← eA]
  clear eA e0 x0 x1 x2
  refine (HRA.out _ HB0A.out).mono ?_
  rintro e w1 ⟨b1, d1, b2, d2, rfl, hm1, hb1⟩
  obtain ⟨w2, e2, hb2, hs2, r0, r1, r2⟩ := box_new rm.base b1 rm.next.length d1 b2 rm.final.length d2 w1
  have hbA2 : Below wA.heap.size wA w2 := hb1.trans (hb2.mono hb1.size)
  obtain ⟨y0, y1, y2⟩ := HKP.out w2 hbA2
  rw [hs1] at y0 y1 y2
  have hsz1 := hb1.size
  have hsz2 := hb2.size
  have HB2 := Lib.hid (HB0A.out.trans (hbA2.mono HB0A.out.size))
  have HM2 := Lib.hid (hm1.later hb2)
  rw [e2] at y0 y1 y2
  clear hb1 hm1
  go_wp2_with fail
  rw [← e2]
  refine (HRC.out _ HB2.out).mono ?_
  rintro e w3 ⟨b3, d3, b4, d4, rfl, hm3, hb3⟩
  obtain ⟨w4, e4, hb4, hs4, t0, t1, t2⟩ := box_new rp.base b3 rp.next.length d3 b4 rp.final.length d4 w3
  have hb24 : Below w2.heap.size w2 w4 := hb3.trans (hb4.mono hb3.size)
  have r0' := (hb24.cell (p := ⟨w1.heap.size, 0, none⟩) (by show w1.heap.size < _; omega)).trans r0
  have r1' := (hb24.cell (p := ⟨w1.heap.size, 1, none⟩) (by show w1.heap.size < _; omega)).trans r1
  have r2' := (hb24.cell (p := ⟨w1.heap.size, 2, none⟩) (by show w1.heap.size < _; omega)).trans r2
  have HM4 := Lib.hid (HM2.out.later hb24)
  have HP4 := Lib.hid (hm3.later hb4)
  have HB4 := Lib.hid (HB2.out.trans (hb24.mono HB2.out.size))
  have hsz3 := hb3.size
  clear e2 y0 y1 y2 r0 r1 r2 hb2 hb3 hm3
  have u0 := r0'
  have u1 := r1'
  have u2 := r2'
  have v0 := t0
  have v1 := t1
  have v2 := t2
  rw [e4] at u0 u1 u2 v0 v1 v2
  clear hb4 hb24
  cases om
  · have HR : Hid (sameR m p = false) := by show _ = _; rw [HF.out]; rfl
    go_wp2_with fail
    rw [← e4]
    go_ret
    exact ⟨by rw [HR.out] <;> rfl, HB4.out⟩
  cases op
  · have HR : Hid (sameR m p = false) := by show _ = _; rw [HF.out]; rfl
    go_wp2_with fail
    rw [← e4]
    go_ret
    exact ⟨by rw [HR.out] <;> rfl, HB4.out⟩
  obtain rfl : redM m = rm := by simpa using hrm
  obtain rfl : redM p = rp := by simpa using hrp
  generalize redM m = rm at *
  generalize redM p = rp at *
  have hF2 : sameR m p = eqMa rm rp := by rw [HF.out]; rfl
  by_cases hb : rm.base = rp.base
  rotate_left
  · have HR : Hid (sameR m p = false) := by show _ = _; rw [hF2]; simp [eqMa, hb]
    have hb2 : (rm.base == rp.base) = false := by rw [beq_eq_false_iff_ne]; exact hb
    clear hb
    go_wp2_with fail
    rw [← e4]
    go_ret
    exact ⟨by rw [HR.out] <;> rfl, HB4.out⟩
  have hb2 : (rm.base == rp.base) = true := by rw [beq_iff_eq]; exact hb
  have HEQI := Lib.hid (EqualI_any b1 d1 rm.next b3 d3 rp.next w4 HM4.out.ints HP4.out.ints)
  by_cases hn : rm.next = rp.next
  rotate_left
  · have HR : Hid (sameR m p = false) := by show _ = _; rw [hF2]; simp [eqMa, hn]
    rw [decide_eq_false hn] at HEQI
    clear hb hn
    go_wp2_with fail
    rw [← e4]
    refine HEQI.out.mono ?_
    rintro e w5 ⟨rfl, hb5⟩
    have HB5 := Lib.hid (HB4.out.trans (hb5.mono HB4.out.size))
    clear hb5
    go_wp2_with fail
    go_ret
    exact ⟨by rw [HR.out] <;> rfl, HB5.out⟩
  have HR : Hid (sameR m p = decide (rm.final = rp.final)) := by show _ = _; rw [hF2]; simp [eqMa, hb, hn]
  rw [decide_eq_true hn] at HEQI
  have HEQB : Hid (∀ W : World, Below w4.heap.size w4 W → Calls Tryd.prog 34 #[.slice b2 rm.final.length d2, .slice b4 rp.final.length d4] W fun e w' => e = .returned (.bool (decide (rm.final = rp.final))) ∧ Below W.heap.size W w') := fun W hW =>
    EqualB_any b2 d2 rm.final b4 d4 rp.final W (HM4.out.later hW).bools (HP4.out.later hW).bools
  have hl4 : w1.heap.size < w4.heap.size := by omega
  have hl4' : w3.heap.size < w4.heap.size := by omega
  clear hb hn hF2
  go_wp2_with fail
  rw [← e4]
  refine HEQI.out.mono ?_
  rintro e w5 ⟨rfl, hb5⟩
  have z2 := (hb5.cell (p := ⟨w1.heap.size, 2, none⟩) (by exact hl4)).trans r2'
  have z3 := (hb5.cell (p := ⟨w3.heap.size, 2, none⟩) (by exact hl4')).trans t2
  have HC5 := Lib.hid hb5
  have HB5 := Lib.hid (HB4.out.trans (hb5.mono HB4.out.size))
  clear hb5 e4
  go_wp2_with fail
  refine (HEQB.out _ HC5.out).mono ?_
  rintro e w6 ⟨rfl, hb6⟩
  have HB6 := Lib.hid (HB5.out.trans (hb6.mono HB5.out.size))
  clear hb6
  go_wp2_with fail
  go_ret
  exact ⟨by rw [HR.out] <;> rfl, HB6.out⟩

end Go.Proofs.YtkapbhlnjmfaaaaDoor
