/- The reference's classes of states. Conditions: those of each contract. -/
import Derived.Test.YtkapbhlnjmfaaaaDoorRedW
import Derived.Test.YtkapbhlnjmfaaaaDoorMachB
namespace Go.Proofs.YtkapbhlnjmfaaaaDoor
set_option linter.unusedVariables false
open Go.RowKit

theorem ky_no0 {b : Nat} {nx : Nat → Nat → Nat} {c : Nat → Nat} {s r : Nat} (h : c s ≠ c r) : ky b nx c s ≠ ky b nx c r := by
  intro e
  simp only [ky, List.cons.injEq] at e
  exact h e.1
theorem ky_noD {b : Nat} {nx : Nat → Nat → Nat} {c : Nat → Nat} {s r d : Nat} (hd : d < b) (h : c (nx s d) ≠ c (nx r d)) : ky b nx c s ≠ ky b nx c r := by
  intro e
  simp only [ky, List.cons.injEq] at e
  exact h (List.map_inj_left.1 e.2 d (List.mem_range.2 hd))
theorem ky_yes {b : Nat} {nx : Nat → Nat → Nat} {c : Nat → Nat} {s r : Nat} (h0 : c s = c r) (h : ∀ d, d < b → c (nx s d) = c (nx r d)) : ky b nx c s = ky b nx c r := by
  simp only [ky, h0]
  congr 1
  exact List.map_inj_left.2 (fun d hd => h d (List.mem_range.1 hd))
set_option maxRecDepth 8000 in
set_option maxHeartbeats 2000000 in
theorem l17Alike_any (a1 : Option Addr) (c1 : Nat) (a2 : Option Addr) (c2 : Nat) (m : Ma) (rd : Nat) (a : Option Addr) (cap s r : Nat) (w : World) (hm : Mach w w.heap.size a1 c1 a2 c2 m) (hok : maOk m = true) (hx : Ints w w.heap.size a cap (clL m rd)) (hs : s < m.final.length) (hr : r < m.final.length) :
    Calls Tryd.prog 66 #[.agg #[.int .i64 m.base, .slice a1 m.next.length c1, .slice a2 m.final.length c2], .slice a m.final.length cap, .int .i64 s, .int .i64 r] w
      fun e w' => e = .returned (.bool (decide (ky m.base.toNat (nxM m) (clM m rd) s = ky m.base.toNat (nxM m) (clM m rd) r))) ∧ Below w.heap.size w w' := by
  obtain ⟨q2, q10, n1, n144, -, -⟩ := maOk_t hok
  obtain ⟨w0, e0, hb0, hs0, k0, k1, k2⟩ := box_new m.base a1 m.next.length c1 a2 m.final.length c2 w
  obtain ⟨-, -, b', off', ha', hc'⟩ := hm.ints
  obtain ⟨-, -, b, off, ha, hc⟩ := hx
  rw [clL_len] at ha
  obtain ⟨rfl, hbb⟩ := ha (by omega)
  have HCL : Hid (∀ W : World, Below w0.heap.size w0 W → ∀ x, x < m.final.length → W.cell? ⟨b, off + x, none⟩ = some (.int .i64 (clM m rd x : Int))) := fun W hW x hx => by
    rw [(hb0.trans (hW.mono (by omega))).cell (p := ⟨b, off + x, none⟩) hbb, hc x (by rw [clL_len]; exact hx), clL_get]
  have HNXC : Hid (∀ W : World, Below w0.heap.size w0 W → ∀ x d : Nat, x < m.final.length → d < m.base.toNat → ∃ j : Nat, (x : Int) * m.base + (d : Int) = (j : Int) ∧ j < m.next.length ∧ W.cell? ⟨b', off' + j, none⟩ = some (.int .i64 (nxM m x d : Int))) := fun W hW x d hx hd => by
    obtain ⟨j, h1, h2, h3, h4, h5⟩ := step_get hok (x : Int) (d : Int) (by omega) (by omega) (by omega) (by omega)
    refine ⟨j, h1, h2, ?_⟩
    rw [(hb0.trans (hW.mono (by omega))).cell (p := ⟨b', off' + j, none⟩) (ha' (by omega)).2, hc' j h2, ← h3, (nxM_eq hok x d hx hd).1]
  have hpos : 0 < m.next.length := by
    obtain ⟨j, h1, h2, -⟩ := HNXC.out w0 (Below.refl _ _) s 0 hs (by omega)
    omega
  obtain ⟨rfl, -⟩ := ha' hpos
  have HIX : Hid (∀ x d : Nat, x < m.final.length → d < m.base.toNat → 0 ≤ (x : Int) * m.base ∧ (x : Int) * m.base ≤ 1440 ∧ m.next.length ≤ 1440) := fun x d hx hd => by
    have := step_ix hok (x : Int) (d : Int) (by omega) (by omega) (by omega) (by omega)
    omega
  have HNL : Hid (∀ x d : Nat, x < m.final.length → d < m.base.toNat → nxM m x d < m.final.length) := fun x d hx hd => nxM_lt hok x d hx hd
  have HCS : Hid (∀ x, x < m.final.length → clM m rd x ≤ 144) := fun x hx => clM_lt hok rd x hx
  have hcs := HCL.out w0 (Below.refl _ _) s hs
  have hcr := HCL.out w0 (Below.refl _ _) r hr
  have HK : Hid (∀ W : World, Below w0.heap.size w0 W → W.cell? ⟨w.heap.size, 0, none⟩ = some (.int .i64 m.base) ∧ W.cell? ⟨w.heap.size, 1, none⟩ = some (.slice (some ⟨b', off', none⟩) m.next.length c1)) := fun W hW =>
    ⟨(hW.cell (p := ⟨w.heap.size, 0, none⟩) (by show w.heap.size < _; omega)).trans k0, (hW.cell (p := ⟨w.heap.size, 1, none⟩) (by show w.heap.size < _; omega)).trans k1⟩
  have HB0 := Lib.hid hb0
  have hcs1 := HCS.out s hs
  have hcr1 := HCS.out r hr
  have hs1 : (s : Int) < (m.final.length : Int) := by omega
  have hr1 : (r : Int) < (m.final.length : Int) := by omega
  have hbn : ((m.base.toNat : Nat) : Int) = m.base := by omega
  rw [e0] at hcs hcr
  clear hm hok ha hc ha' hc' k0 k1 k2 hb0
  by_cases hne : clM m rd s = clM m rd r
  · have hne2 : ((clM m rd s : Int) != (clM m rd r : Int)) = false := by rw [bne_eq_false_iff_eq, hne]
    have HEQ := Lib.hid hne
    clear hne
    go_enter Tryd.func66, Tryd.ntmps66
    go_wp2
    go_quiet (fail)
    go_wp2
    rw [← e0]
    clear e0 hcs hcr
    go_loopw [9] (fun dv wr => ∃ d : Nat, d ≤ m.base.toNat ∧ dv = .int .i64 d ∧ (∀ x, x < d → clM m rd (nxM m s x) = clM m rd (nxM m r x)) ∧ Below w0.heap.size w0 wr) (fun dv _ => m.base.toNat - (intOf dv).toNat)
    case atStart => exact ⟨0, Nat.zero_le _, rfl, fun x hx => by omega, below_drewN (Below.refl _ _) _⟩
    case round =>
      obtain ⟨d, hd, rfl, hall, hb⟩ := hrel
      have HALL := Lib.hid hall
      have HB := Lib.hid hb
      obtain ⟨k0, k1⟩ := HK.out wr hb
      clear hall hb
      by_cases hdl : d < m.base.toNat
      · have hdi : (d : Int) < m.base := by omega
        obtain ⟨j1, e1, l1, cc1⟩ := HNXC.out wr HB.out s d hs hdl
        obtain ⟨j2, e2, l2, cc2⟩ := HNXC.out wr HB.out r d hr hdl
        obtain ⟨x1, x2, x3⟩ := HIX.out s d hs hdl
        obtain ⟨x4, x5, -⟩ := HIX.out r d hr hdl
        have n3 := HNL.out s d hs hdl
        have n4 := HNL.out r d hr hdl
        have cc3 := HCL.out wr HB.out _ n3
        have cc4 := HCL.out wr HB.out _ n4
        have y3 := HCS.out _ n3
        have y4 := HCS.out _ n4
        have HNO := fun h => Lib.hid (ky_noD (nx := nxM m) (c := clM m rd) (s := s) (r := r) hdl h)
        have HAN : Hid (clM m rd (nxM m s d) = clM m rd (nxM m r d) → ∀ x, x < d + 1 → clM m rd (nxM m s x) = clM m rd (nxM m r x)) := fun h x hx => by
          rcases Nat.lt_or_ge x d with h1 | h1
          · exact HALL.out x h1
          · obtain rfl : x = d := by omega
            exact h
        generalize nxM m s d = t1 at *
        generalize nxM m r d = t2 at *
        have z1 : (t1 : Int) < (m.final.length : Int) := by omega
        have z2 : (t2 : Int) < (m.final.length : Int) := by omega
        have z3 : (j1 : Int) < (m.next.length : Int) := by omega
        have z4 : (j2 : Int) < (m.next.length : Int) := by omega
        by_cases hq : clM m rd t1 = clM m rd t2
        · have hq2 : ((clM m rd t1 : Int) != (clM m rd t2 : Int)) = false := by rw [bne_eq_false_iff_eq, hq]
          have HA2 := Lib.hid (HAN.out hq)
          clear hq HNO
          go_wp2
          go_quiet (fail)
          go_wp2
          go_roundw
          case rel => exact ⟨d + 1, by omega, by go_num, HA2.out, below_drewN HB.out _⟩
          case measure => simp [intOf] <;> omega
        · have hq2 : ((clM m rd t1 : Int) != (clM m rd t2 : Int)) = true := by rw [bne_iff_ne]; omega
          have HN2 := HNO hq
          clear hq HNO
          go_wp2
          go_quiet (fail)
          go_wp2
          go_ret
          exact ⟨by rw [decide_eq_false HN2.out] <;> rfl, HB0.out.trans ((below_drewN HB.out _).mono (by omega))⟩
      · obtain rfl : d = m.base.toNat := by omega
        have hdi : ¬ ((m.base.toNat : Nat) : Int) < m.base := by omega
        have HY := Lib.hid (ky_yes HEQ.out HALL.out)
        go_wp2
        go_ret
        exact ⟨by rw [decide_eq_true HY.out] <;> rfl, HB0.out.trans (HB.out.mono (by omega))⟩
  · have hne2 : ((clM m rd s : Int) != (clM m rd r : Int)) = true := by rw [bne_iff_ne]; omega
    have HN := Lib.hid (ky_no0 (b := m.base.toNat) (nx := nxM m) hne)
    have HBX : Hid (Below w.heap.size w w0) := HB0.out
    rw [e0] at HBX
    clear hne e0
    go_enter Tryd.func66, Tryd.ntmps66
    go_wp2
    go_quiet (fail)
    go_wp2
    go_ret
    exact ⟨by rw [decide_eq_false HN.out] <;> rfl, below_drewN HBX.out _⟩

end Go.Proofs.YtkapbhlnjmfaaaaDoor
