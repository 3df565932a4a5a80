/- Machines: MachineOk, the model's run, RunMachine. Conditions: those of each contract. -/
import Derived.Test.YtkapbhlnjmfaaaaDoorMachA
namespace Go.Proofs.YtkapbhlnjmfaaaaDoor
set_option linter.unusedVariables false
open Go.RowKit

theorem prod_bd {q : Int} {n : Nat} (h1 : inB q 2 10 = true) (h2 : inB (n : Int) 1 144 = true) : 0 ≤ q * (n : Int) ∧ q * (n : Int) ≤ 1440 := by
  rw [inB_t] at h1 h2
  refine ⟨Int.mul_nonneg (by omega) (by omega), ?_⟩
  have : q * (n : Int) ≤ 10 * 144 := Int.mul_le_mul (by omega) (by omega) (by omega) (by omega)
  omega
theorem MachineOk_any (a1 : Option Addr) (c1 : Nat) (a2 : Option Addr) (c2 : Nat) (m : Ma) (w : World) (hm : Mach w w.heap.size a1 c1 a2 c2 m) :
    Calls Tryd.prog 19 #[.agg #[.int .i64 m.base, .slice a1 m.next.length c1, .slice a2 m.final.length c2]] w fun e w' => e = .returned (.bool (maOk m)) ∧ Below w.heap.size w w' := by
  have HB0 : Hid (Below w.heap.size w (w.alloc (.cells #[.int .i64 m.base, .slice a1 m.next.length c1, .slice a2 m.final.length c2] 27))) := (Below.refl _ _).alloc (Nat.le_refl _) _
  cases hb : inB m.base 2 10
  · have HF : Hid (maOk m = false) := by show _ = _; simp [maOk, hb]
    clear hm
    go_enter Tryd.func19, Tryd.ntmps19
    go_wp2_with (go_at_call 35; refine (within_any _ _ _ _).mono ?_; rintro e w' ⟨rfl, rfl⟩)
    go_ret
    exact ⟨by rw [HF.out] <;> rfl, HB0.out⟩
  cases hl : inB m.final.length 1 144
  · have HF : Hid (maOk m = false) := by show _ = _; simp [maOk, hb, hl]
    clear hm
    go_enter Tryd.func19, Tryd.ntmps19
    go_wp2_with (go_at_call 35; refine (within_any _ _ _ _).mono ?_; rintro e w' ⟨rfl, rfl⟩)
    go_ret
    exact ⟨by rw [HF.out] <;> rfl, HB0.out⟩
  obtain ⟨p0, p1⟩ := prod_bd hb hl
  by_cases he : (m.next.length : Int) = m.base * (m.final.length : Int)
  · have HF : Hid (maOk m = allIn m.next 0 ((m.final.length : Int) - 1)) := by show _ = _; simp [maOk, hb, hl, he]
    have HX : Hid (∀ W : World, Below w.heap.size w W → Calls Tryd.prog 41 #[.slice a1 m.next.length c1, .int .i64 0, .int .i64 ((m.final.length : Int) - 1)] W fun e w' => e = .returned (.bool (allIn m.next 0 ((m.final.length : Int) - 1))) ∧ Below W.heap.size W w') := fun W hW => allWithin_any a1 c1 m.next 0 _ W (hm.later hW).ints
    obtain ⟨l1, l2⟩ := inB_t.1 hl
    have he2 : ((m.next.length : Int) == m.base * (m.final.length : Int)) = true := by rw [beq_iff_eq]; exact he
    clear hm he
    go_enter Tryd.func19, Tryd.ntmps19
    go_wp2_with (go_at_call 35; refine (within_any _ _ _ _).mono ?_; rintro e w' ⟨rfl, rfl⟩)
    refine (HX.out _ HB0.out).mono ?_
    rintro e w1 ⟨rfl, hb1⟩
    have HB1 : Hid (Below w.heap.size w w1) := HB0.out.trans (hb1.mono (by simp))
    clear hb1
    go_wp2_with fail
    go_ret
    exact ⟨by rw [HF.out] <;> rfl, HB1.out⟩
  · have HF : Hid (maOk m = false) := by show _ = _; simp [maOk, hb, hl, he]
    have he2 : ((m.next.length : Int) == m.base * (m.final.length : Int)) = false := by rw [beq_eq_false_iff_ne]; exact he
    clear hm he
    go_enter Tryd.func19, Tryd.ntmps19
    go_wp2_with (go_at_call 35; refine (within_any _ _ _ _).mono ?_; rintro e w' ⟨rfl, rfl⟩)
    go_ret
    exact ⟨by rw [HF.out] <;> rfl, HB0.out⟩
set_option maxHeartbeats 1000000 in
theorem sMachineOk_any (a1 : Option Addr) (c1 : Nat) (a2 : Option Addr) (c2 : Nat) (m : Ma) (w : World) (hm : Mach w w.heap.size a1 c1 a2 c2 m) :
    Calls Tryd.prog 58 #[.agg #[.int .i64 m.base, .slice a1 m.next.length c1, .slice a2 m.final.length c2]] w fun e w' => e = .returned (.bool (maOk m)) ∧ Below w.heap.size w w' := by
  have HB0 : Hid (Below w.heap.size w (w.alloc (.cells #[.int .i64 m.base, .slice a1 m.next.length c1, .slice a2 m.final.length c2] 27))) := (Below.refl _ _).alloc (Nat.le_refl _) _
  cases hb : inB m.base 2 10
  · have HF : Hid (maOk m = false) := by show _ = _; simp [maOk, hb]
    clear hm
    go_enter Tryd.func58, Tryd.ntmps58
    go_wp2_with (go_at_call 65; refine (l01In_any _ _ _ _).mono ?_; rintro e w' ⟨rfl, rfl⟩)
    go_ret
    exact ⟨by rw [HF.out] <;> rfl, HB0.out⟩
  cases hl : inB m.final.length 1 144
  · have HF : Hid (maOk m = false) := by show _ = _; simp [maOk, hb, hl]
    clear hm
    go_enter Tryd.func58, Tryd.ntmps58
    go_wp2_with (go_at_call 65; refine (l01In_any _ _ _ _).mono ?_; rintro e w' ⟨rfl, rfl⟩)
    go_ret
    exact ⟨by rw [HF.out] <;> rfl, HB0.out⟩
  obtain ⟨p0, p1⟩ := prod_bd hb hl
  have p2 : (m.final.length : Int) * m.base = m.base * (m.final.length : Int) := Int.mul_comm _ _
  rw [← p2] at p0 p1
  by_cases he : (m.next.length : Int) = m.base * (m.final.length : Int)
  · have HF : Hid (maOk m = allIn m.next 0 ((m.final.length : Int) - 1)) := by show _ = _; simp [maOk, hb, hl, he]
    obtain ⟨-, -, b, off, ha, hc⟩ := (hm.later HB0.out).ints
    have Ha := Lib.hid ha; clear ha
    have Hc := Lib.hid hc; clear hc
    obtain ⟨l1, l2⟩ := inB_t.1 hl
    have he2 : ((m.next.length : Int) != (m.final.length : Int) * m.base) = false := by rw [p2, he]; simp
    have h1440 : m.next.length ≤ 1440 := by omega
    clear hm he p2
    go_enter Tryd.func58, Tryd.ntmps58
    go_wp2_with (go_at_call 65; refine (l01In_any _ _ _ _).mono ?_; rintro e w' ⟨rfl, rfl⟩)
    clear hb hl
    go_loop [31] (fun i => ∃ k : Nat, k ≤ m.next.length ∧ i = .int .i64 k ∧ allIn (m.next.take k) 0 ((m.final.length : Int) - 1) = true) (fun i => m.next.length - (intOf i).toNat)
    case atStart => exact ⟨0, Nat.zero_le _, rfl, rfl⟩
    case round =>
      obtain ⟨k, hk, rfl, hall⟩ := hrel
      have HA := Lib.hid hall; clear hall
      by_cases hlt : k < m.next.length
      · obtain ⟨rfl, -⟩ := Ha.out (by omega)
        have hcx := Hc.out k hlt
        cases hin : inB m.next[k] 0 ((m.final.length : Int) - 1)
        · have HN := Lib.hid (allIn_no hlt hin)
          go_wp2_with (go_at_call 65; refine (l01In_any _ _ _ _).mono ?_; rintro e w' ⟨rfl, rfl⟩)
          go_ret
          exact ⟨by rw [HF.out, HN.out] <;> rfl, HB0.out⟩
        · have HN := Lib.hid (allIn_next hlt HA.out hin)
          go_wp2_with (go_at_call 65; refine (l01In_any _ _ _ _).mono ?_; rintro e w' ⟨rfl, rfl⟩)
          go_round
          case rel => exact ⟨k + 1, by omega, by go_num, HN.out⟩
          case measure => simp [intOf]; omega
      · obtain rfl : k = m.next.length := by omega
        have HN : Hid (allIn m.next 0 ((m.final.length : Int) - 1) = true) := by
          show _ = _
          have := HA.out
          rwa [allIn_take_all] at this
        go_wp2_with fail
        go_ret
        exact ⟨by rw [HF.out, HN.out] <;> rfl, HB0.out⟩
  · have HF : Hid (maOk m = false) := by show _ = _; simp [maOk, hb, hl, he]
    have he2 : ((m.next.length : Int) != (m.final.length : Int) * m.base) = true := by rw [p2, bne_iff_ne]; exact he
    clear hm he p2
    go_enter Tryd.func58, Tryd.ntmps58
    go_wp2_with (go_at_call 65; refine (l01In_any _ _ _ _).mono ?_; rintro e w' ⟨rfl, rfl⟩)
    go_ret
    exact ⟨by rw [HF.out] <;> rfl, HB0.out⟩
set_option maxHeartbeats 1000000 in
theorem l17Run_any (a1 : Option Addr) (c1 : Nat) (a2 : Option Addr) (c2 : Nat) (m : Ma) (a : Option Addr) (cap : Nat) (ds : List Int) (w : World) (hm : Mach w w.heap.size a1 c1 a2 c2 m) (hok : maOk m = true) (hx : Ints w w.heap.size a cap ds) (hd : ∀ d ∈ ds, 0 ≤ d ∧ d < m.base) :
    Calls Tryd.prog 60 #[.agg #[.int .i64 m.base, .slice a1 m.next.length c1, .slice a2 m.final.length c2], .slice a ds.length cap] w fun e w' => e = .returned (.int .i64 (runM m ds)) ∧ Below w.heap.size w w' := by
  have hl := hx.len
  obtain ⟨-, -, b, off, ha, hc⟩ := hx
  obtain ⟨-, -, b', off', ha', hc'⟩ := hm.ints
  have Ha := Lib.hid ha; clear ha
  have Hc := Lib.hid hc; clear hc
  have Ha' := Lib.hid ha'; clear ha'
  have Hc' := Lib.hid hc'; clear hc'
  have HD := Lib.hid hd; clear hd
  have HOK := Lib.hid hok; clear hok hm
  have HR : Hid (∀ k, 0 ≤ runM m (ds.drop k) ∧ runM m (ds.drop k) < m.final.length) := fun k => runM_bd HOK.out _ (fun d hd => HD.out d (List.mem_of_mem_drop hd))
  have h144 := (maOk_t HOK.out).2.2.2.1
  have hq2 := (maOk_t HOK.out).1
  have hq10 := (maOk_t HOK.out).2.1
  obtain ⟨w0, e0, hb0, hs0, k0, k1, k2⟩ := box_new m.base a1 m.next.length c1 a2 m.final.length c2 w
  have HK0 := Lib.hid k0; have HK1 := Lib.hid k1; have HK2 := Lib.hid k2; have HB0 := Lib.hid hb0
  clear k0 k1 k2 hb0
  go_enter Tryd.func60, Tryd.ntmps60
  go_wp2_with fail
  rw [← e0]
  clear e0
  go_loopw [5, 6] (fun s i wr => ∃ k : Nat, k ≤ ds.length ∧ i = .int .i64 ((k : Int) - 1) ∧ s = .int .i64 (runM m (ds.drop k)) ∧ Below w0.heap.size w0 wr) (fun _ i _ => (intOf i + 1).toNat)
  case atStart => exact ⟨ds.length, Nat.le_refl _, rfl, by simp [runM], Below.refl _ _⟩
  case round =>
    obtain ⟨k, hk, rfl, rfl, hb⟩ := hrel
    have hsz := hb.size
    match k, hk with
    | 0, hk =>
      have HB := Lib.hid hb; clear hb
      go_wp2_with fail
      go_ret
      exact ⟨by simp, HB0.out.trans (HB.out.mono (by omega))⟩
    | k + 1, hk =>
      have hlt : k < ds.length := by omega
      obtain ⟨r1, r2⟩ := HR.out (k + 1)
      obtain ⟨d1, d2⟩ := HD.out _ (List.getElem_mem hlt)
      obtain ⟨i, hi, hil, hst, g1, g2⟩ := step_get HOK.out _ _ r1 r2 d1 d2
      obtain ⟨j1, j2, j3, j4, j5⟩ := step_ix HOK.out _ _ r1 r2 d1 d2
      obtain ⟨rfl, hbb⟩ := Ha.out (by omega)
      obtain ⟨rfl, hbb'⟩ := Ha'.out (by omega)
      have hbw := HB0.out.trans (hb.mono (by omega))
      have hcx := (hbw.cell (p := ⟨b, off + k, none⟩) hbb).trans (Hc.out k hlt)
      have hcy := (hbw.cell (p := ⟨b', off' + i, none⟩) hbb').trans (Hc'.out i hil)
      have h0 := (hb.cell (p := ⟨w.heap.size, 0, none⟩) (by show w.heap.size < _; omega)).trans HK0.out
      have h1 := (hb.cell (p := ⟨w.heap.size, 1, none⟩) (by show w.heap.size < _; omega)).trans HK1.out
      have h2 := (hb.cell (p := ⟨w.heap.size, 2, none⟩) (by show w.heap.size < _; omega)).trans HK2.out
      have HS : Hid (runM m (ds.drop k) = m.next[i]) := by show _ = _; rw [runM_drop m ds k hlt, hst]
      have HB := Lib.hid hb
      have g3 : (0 : Int) ≤ (k : Int) := by omega
      have g4 : (k : Int) < (ds.length : Int) := by omega
      rw [hst] at g1 g2
      clear hbw hb hst
      go_wp2
      go_quiet (fail)
      go_wp2
      go_roundw
      case rel => exact ⟨k, by omega, by go_num, by rw [HS.out], below_drewN HB.out _⟩
      case measure => simp [intOf] <;> omega

/-! RunMachine -/
def runR (m : Ma) (ds : List Int) : Int := if maOk m = false ∨ 60 < ds.length ∨ allIn ds 0 (m.base - 1) = false then -1 else runM m ds
theorem allIn_lt {ds : List Int} {q : Int} (h : allIn ds 0 (q - 1) = true) : ∀ d ∈ ds, 0 ≤ d ∧ d < q := fun d hd => by
  have := allIn_t.1 h d hd
  omega
set_option maxHeartbeats 1000000 in
theorem RunMachine_any (a1 : Option Addr) (c1 : Nat) (a2 : Option Addr) (c2 : Nat) (m : Ma) (a : Option Addr) (cap : Nat) (ds : List Int) (w : World) (hm : Mach w w.heap.size a1 c1 a2 c2 m) (hx : Ints w w.heap.size a cap ds) :
    Calls Tryd.prog 21 #[.agg #[.int .i64 m.base, .slice a1 m.next.length c1, .slice a2 m.final.length c2], .slice a ds.length cap] w fun e w' => e = .returned (.int .i64 (runR m ds)) ∧ Below w.heap.size w w' := by
  have hl := hx.len
  obtain ⟨w0, e0, hb0, hs0, k0, k1, k2⟩ := box_new m.base a1 m.next.length c1 a2 m.final.length c2 w
  have HOKC : Hid (∀ W : World, Below w.heap.size w W → Calls Tryd.prog 19 #[.agg #[.int .i64 m.base, .slice a1 m.next.length c1, .slice a2 m.final.length c2]] W fun e w' => e = .returned (.bool (maOk m)) ∧ Below W.heap.size W w') := fun W hW => MachineOk_any a1 c1 a2 c2 m W (hm.later hW)
  have HK0 := Lib.hid k0; have HK1 := Lib.hid k1; have HK2 := Lib.hid k2; have HB0 := Lib.hid hb0
  have HXL : Hid (∀ W : World, Below w.heap.size w W → Ints W W.heap.size a cap ds) := fun W hW => (hx.below hW).mono hW.size
  have HML : Hid (∀ W : World, Below w.heap.size w W → Mach W W.heap.size a1 c1 a2 c2 m) := fun W hW => hm.later hW
  clear hb0 hx hm
  cases hok : maOk m
  · have HF : Hid (runR m ds = -1) := by show _ = _; simp [runR, hok]
    rw [hok] at HOKC
    clear hok
    go_enter Tryd.func21, Tryd.ntmps21
    go_wp2_with fail
    rw [← e0]
    clear e0
    refine (HOKC.out _ HB0.out).mono ?_
    rintro e w1 ⟨rfl, hb1⟩
    have HB1 : Hid (Below w.heap.size w w1) := HB0.out.trans (hb1.mono (by omega))
    clear hb1
    go_wp2_with fail
    go_ret
    exact ⟨by rw [HF.out] <;> rfl, HB1.out⟩
  by_cases h60 : 60 < ds.length
  · have HF : Hid (runR m ds = -1) := by show _ = _; simp [runR, h60]
    rw [hok] at HOKC
    clear hok
    go_enter Tryd.func21, Tryd.ntmps21
    go_wp2_with fail
    rw [← e0]
    clear e0
    refine (HOKC.out _ HB0.out).mono ?_
    rintro e w1 ⟨rfl, hb1⟩
    have HB1 : Hid (Below w.heap.size w w1) := HB0.out.trans (hb1.mono (by omega))
    clear hb1
    go_wp2_with fail
    go_ret
    exact ⟨by rw [HF.out] <;> rfl, HB1.out⟩
  have hq2 := (maOk_t hok).1
  have hq10 := (maOk_t hok).2.1
  have HAL : Hid (∀ W : World, Below w.heap.size w W → Calls Tryd.prog 41 #[.slice a ds.length cap, .int .i64 0, .int .i64 (m.base - 1)] W fun e w' => e = .returned (.bool (allIn ds 0 (m.base - 1))) ∧ Below W.heap.size W w') := fun W hW => allWithin_any a cap ds 0 _ W (HXL.out W hW)
  cases hal : allIn ds 0 (m.base - 1)
  · have HF : Hid (runR m ds = -1) := by show _ = _; simp [runR, hal]
    rw [hok] at HOKC
    rw [hal] at HAL
    clear hok hal
    go_enter Tryd.func21, Tryd.ntmps21
    go_wp2_with fail
    rw [← e0]
    clear e0
    refine (HOKC.out _ HB0.out).mono ?_
    rintro e w1 ⟨rfl, hb1⟩
    have h0 := (hb1.cell (p := ⟨w.heap.size, 0, none⟩) (by show w.heap.size < _; omega)).trans HK0.out
    have hz1 := hb1.size
    have HB1 : Hid (Below w.heap.size w w1) := HB0.out.trans (hb1.mono (by omega))
    clear hb1
    go_wp2_with fail
    refine (HAL.out _ HB1.out).mono ?_
    rintro e w2 ⟨rfl, hb2⟩
    have HB2 : Hid (Below w.heap.size w w2) := HB1.out.trans (hb2.mono (by omega))
    clear hb2
    go_wp2_with fail
    go_ret
    exact ⟨by rw [HF.out] <;> rfl, HB2.out⟩
  · have HF : Hid (runR m ds = runM m ds) := by show _ = _; simp only [runR]; rw [if_neg]; simp [hok, hal]; omega
    have HRN : Hid (∀ W : World, Below w.heap.size w W → Calls Tryd.prog 36 #[.agg #[.int .i64 m.base, .slice a1 m.next.length c1, .slice a2 m.final.length c2], .slice a ds.length cap] W fun e w' => e = .returned (.int .i64 (runM m ds)) ∧ Below W.heap.size W w') := fun W hW => run_any a1 c1 a2 c2 m a cap ds W (HML.out W hW) hok (HXL.out W hW) (allIn_lt hal)
    rw [hok] at HOKC
    rw [hal] at HAL
    clear hok hal
    go_enter Tryd.func21, Tryd.ntmps21
    go_wp2_with fail
    rw [← e0]
    clear e0
    refine (HOKC.out _ HB0.out).mono ?_
    rintro e w1 ⟨rfl, hb1⟩
    have h0 := (hb1.cell (p := ⟨w.heap.size, 0, none⟩) (by show w.heap.size < _; omega)).trans HK0.out
    have h1 := (hb1.cell (p := ⟨w.heap.size, 1, none⟩) (by show w.heap.size < _; omega)).trans HK1.out
    have h2 := (hb1.cell (p := ⟨w.heap.size, 2, none⟩) (by show w.heap.size < _; omega)).trans HK2.out
    have hz1 := hb1.size
    have HB1 : Hid (Below w.heap.size w w1) := HB0.out.trans (hb1.mono (by omega))
    clear hb1
    go_wp2_with fail
    refine (HAL.out _ HB1.out).mono ?_
    rintro e w2 ⟨rfl, hb2⟩
    have h0' := (hb2.cell (p := ⟨w.heap.size, 0, none⟩) (by show w.heap.size < _; omega)).trans h0
    have h1' := (hb2.cell (p := ⟨w.heap.size, 1, none⟩) (by show w.heap.size < _; omega)).trans h1
    have h2' := (hb2.cell (p := ⟨w.heap.size, 2, none⟩) (by show w.heap.size < _; omega)).trans h2
    have hz2 := hb2.size
    have HB2 : Hid (Below w.heap.size w w2) := HB1.out.trans (hb2.mono (by omega))
    clear hb2 h0 h1 h2
    go_wp2_with fail
    refine (HRN.out _ HB2.out).mono ?_
    rintro e w3 ⟨rfl, hb3⟩
    have HB3 : Hid (Below w.heap.size w w3) := HB2.out.trans (hb3.mono (by omega))
    clear hb3
    go_wp2_with fail
    go_ret
    exact ⟨by rw [HF.out] <;> rfl, HB3.out⟩

end Go.Proofs.YtkapbhlnjmfaaaaDoor
