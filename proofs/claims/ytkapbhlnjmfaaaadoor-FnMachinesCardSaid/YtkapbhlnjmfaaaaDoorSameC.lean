/- The comparison of two machines in the laws. Conditions: those of each contract. -/
import Derived.Test.YtkapbhlnjmfaaaaDoorSameB
namespace Go.Proofs.YtkapbhlnjmfaaaaDoor
set_option linter.unusedVariables false
open Go.RowKit

set_option maxRecDepth 8000 in
set_option maxHeartbeats 2000000 in
theorem machines_any (a1 : Option Addr) (c1 : Nat) (a2 : Option Addr) (c2 : Nat) (m : Ma) (a3 : Option Addr) (c3 : Nat) (a4 : Option Addr) (c4 : Nat) (p : Ma) (w : World) (hm : Mach w w.heap.size a1 c1 a2 c2 m) (hp : Mach w w.heap.size a3 c3 a4 c4 p) :
    Calls Tryd.prog 10 #[.agg #[.int .i64 m.base, .slice a1 m.next.length c1, .slice a2 m.final.length c2], .agg #[.int .i64 p.base, .slice a3 p.next.length c3, .slice a4 p.final.length c4]] w fun e w' => e = .returned (.bool (eqMa m p)) ∧ Below w.heap.size w w' := by
  have hlm := hm.bools.len
  have hlp := hp.bools.len
  have hlm2 := hm.ints.len
  have hlp2 := hp.ints.len
  obtain ⟨w0, e0, hb0, hs0, k0, k1, k2⟩ := box_new m.base a1 m.next.length c1 a2 m.final.length c2 w
  obtain ⟨wA, eA, hbA, hsA, j0, j1, j2⟩ := box_new p.base a3 p.next.length c3 a4 p.final.length c4 w0
  have hs1 : w0.heap.size = w.heap.size + 1 := hs0
  have hb0A : Below w.heap.size w wA := hb0.trans (hbA.mono (by omega))
  have x0 := (hbA.cell (p := ⟨w.heap.size, 0, none⟩) (by show w.heap.size < _; omega)).trans k0
  have x1 := (hbA.cell (p := ⟨w.heap.size, 1, none⟩) (by show w.heap.size < _; omega)).trans k1
  have x2 := (hbA.cell (p := ⟨w.heap.size, 2, none⟩) (by show w.heap.size < _; omega)).trans k2
  rw [hs1] at j0 j1 j2
  have HJ2 := Lib.hid j2
  have HB0A := Lib.hid hb0A
  have HSM : Hid (∀ W : World, Below w.heap.size w W → Calls Tryd.prog 32 #[.slice a1 m.next.length c1, .slice a3 p.next.length c3] W fun e w' => e = .returned (.bool (decide (m.next = p.next))) ∧ Below W.heap.size W w') := fun W hW => same_any a1 c1 m.next a3 c3 p.next W (hm.later hW).ints (hp.later hW).ints
  obtain ⟨-, -, b, off, ha, hc⟩ := hm.bools.below hb0A
  obtain ⟨-, -, b', off', ha', hc'⟩ := hp.bools.below hb0A
  have Ha := Lib.hid ha; clear ha
  have Hc := Lib.hid hc; clear hc
  have Ha' := Lib.hid ha'; clear ha'
  have Hc' := Lib.hid hc'; clear hc'
  have hsz : wA.heap.size = w.heap.size + 2 := by omega
  rw [e0] at eA
  rw [eA] at x0 x1 x2 j0 j1 j2
  clear hm hp hb0 hbA k0 k1 k2 hb0A e0
  by_cases hb : m.base = p.base
  rotate_left
  · have HF : Hid (eqMa m p = false) := by show _ = _; simp [eqMa, hb]
    have hb2 : (m.base != p.base) = true := by rw [bne_iff_ne]; exact hb
    clear hb
    go_enter Tryd.func10, Tryd.ntmps10
    go_wp2_with fail
    rw [← eA]
    go_ret
    exact ⟨by rw [HF.out] <;> rfl, HB0A.out⟩
  have hb2 : (m.base != p.base) = false := by rw [bne_eq_false_iff_eq]; exact hb
  by_cases hl : m.final.length = p.final.length
  rotate_left
  · have HF : Hid (eqMa m p = false) := by
      show _ = _
      have : m.final ≠ p.final := fun e => hl (by rw [e])
      simp [eqMa, this]
    have hl2 : ((m.final.length : Int) != (p.final.length : Int)) = true := by rw [bne_iff_ne]; omega
    clear hb hl
    go_enter Tryd.func10, Tryd.ntmps10
    go_wp2_with fail
    rw [← eA]
    go_ret
    exact ⟨by rw [HF.out] <;> rfl, HB0A.out⟩
  have hl2 : ((m.final.length : Int) != (p.final.length : Int)) = false := by rw [bne_eq_false_iff_eq]; omega
  by_cases hn : m.next = p.next
  rotate_left
  · have HF : Hid (eqMa m p = false) := by show _ = _; simp [eqMa, hn]
    rw [decide_eq_false hn] at HSM
    clear hb hl hn
    go_enter Tryd.func10, Tryd.ntmps10
    go_wp2_with fail
    rw [← eA]
    refine (HSM.out _ HB0A.out).mono ?_
    rintro e w1 ⟨rfl, hb1⟩
    have HB1 := Lib.hid (HB0A.out.trans (hb1.mono HB0A.out.size))
    clear hb1 eA
    go_wp2_with fail
    go_ret
    exact ⟨by rw [HF.out] <;> rfl, HB1.out⟩
  · have HF : Hid (eqMa m p = decide (m.final = p.final)) := by show _ = _; simp [eqMa, hb, hn]
    have HE := Lib.hid hl
    rw [decide_eq_true hn] at HSM
    have y2 := x2
    rw [← eA] at y2
    clear hb hl hn
    go_enter Tryd.func10, Tryd.ntmps10
    go_wp2_with fail
    rw [← eA]
    refine (HSM.out _ HB0A.out).mono ?_
    rintro e w1 ⟨rfl, hb1⟩
    have z2 := (hb1.cell (p := ⟨w.heap.size, 2, none⟩) (by show w.heap.size < _; omega)).trans y2
    have z3 := (hb1.cell (p := ⟨w.heap.size + 1, 2, none⟩) (by show w.heap.size + 1 < _; omega)).trans HJ2.out
    have HC1 := Lib.hid hb1
    have HB1 := Lib.hid (HB0A.out.trans (hb1.mono HB0A.out.size))
    clear hb1 eA y2 x0 x1 x2 j0 j1 j2
    go_wp2_with fail
    go_loop [32] (fun iv => ∃ k : Nat, k ≤ m.final.length ∧ iv = .int .i64 k ∧ m.final.take k = p.final.take k) (fun iv => m.final.length - (intOf iv).toNat)
    case atStart => exact ⟨0, Nat.zero_le _, rfl, rfl⟩
    case round =>
      obtain ⟨k, hk, rfl, htk⟩ := hrel
      have HTK := Lib.hid htk
      by_cases hlt : k < m.final.length
      · have hlt' : k < p.final.length := by have := HE.out; omega
        obtain ⟨rfl, hb1⟩ := Ha.out (by omega)
        obtain ⟨rfl, hb2'⟩ := Ha'.out (by omega)
        have hcx := (HC1.out.cell (p := ⟨b, off + k, none⟩) (by show b < _; omega)).trans (Hc.out k hlt)
        have hcy := (HC1.out.cell (p := ⟨b', off' + k, none⟩) (by show b' < _; omega)).trans (Hc'.out k hlt')
        have HNX : m.final[k] = p.final[k] → Hid (m.final.take (k + 1) = p.final.take (k + 1)) := fun h => by
          show _ = _
          rw [take_next _ k hlt, take_next _ k hlt', HTK.out, h]
        have HNE : m.final[k] ≠ p.final[k] → Hid (eqMa m p = false) := fun h => by
          show _ = _
          rw [HF.out]
          refine decide_eq_false (fun e => h ?_)
          simp only [e]
        have g1 : (0 : Int) ≤ (k : Int) := by omega
        have g2 : (k : Int) < (m.final.length : Int) := by omega
        have g3 : (k : Int) < (p.final.length : Int) := by omega
        clear htk
        generalize m.final[k] = u at *
        generalize p.final[k] = v at *
        cases u <;> cases v
        · have HN := HNX rfl
          clear HNX HNE
          go_wp2_with fail
          go_round
          case rel => exact ⟨k + 1, by omega, by go_num, HN.out⟩
          case measure => simp [intOf] <;> omega
        · have HN := HNE (by simp)
          clear HNX HNE
          go_wp2_with fail
          go_ret
          exact ⟨by rw [HN.out] <;> rfl, HB1.out⟩
        · have HN := HNE (by simp)
          clear HNX HNE
          go_wp2_with fail
          go_ret
          exact ⟨by rw [HN.out] <;> rfl, HB1.out⟩
        · have HN := HNX rfl
          clear HNX HNE
          go_wp2_with fail
          go_round
          case rel => exact ⟨k + 1, by omega, by go_num, HN.out⟩
          case measure => simp [intOf] <;> omega
      · obtain rfl : k = m.final.length := by omega
        have HN : Hid (eqMa m p = true) := by
          show _ = _
          rw [HF.out]
          refine decide_eq_true ?_
          have h := HTK.out
          rwa [List.take_length, HE.out, List.take_length] at h
        clear htk
        go_wp2_with fail
        go_ret
        exact ⟨by rw [HN.out] <;> rfl, HB1.out⟩

end Go.Proofs.YtkapbhlnjmfaaaaDoor
