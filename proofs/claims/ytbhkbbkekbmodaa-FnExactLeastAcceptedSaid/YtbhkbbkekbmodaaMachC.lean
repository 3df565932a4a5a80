/- Machines: the reference's RunMachine; AcceptsNumber; LeastAccepted. Conditions: those of each contract. -/
import Derived.Test.YtbhkbbkekbmodaaMachB
namespace Go.Proofs.Ytbhkbbkekbmodaa
set_option linter.unusedVariables false
open Go.RowKit

set_option maxHeartbeats 1000000 in
theorem sRunMachine_any (a1 : Option Addr) (c1 : Nat) (a2 : Option Addr) (c2 : Nat) (m : Ma) (a : Option Addr) (cap : Nat) (ds : List Int) (w : World) (hm : Mach w w.heap.size a1 c1 a2 c2 m) (hx : Ints w w.heap.size a cap ds) :
    Calls Try.prog 7 #[.agg #[.int .i64 m.base, .slice a1 m.next.length c1, .slice a2 m.final.length c2], .slice a ds.length cap] w fun e w' => e = .returned (.int .i64 (runR m ds)) ∧ Below w.heap.size w w' := by
  have hl := hx.len
  obtain ⟨w0, e0, hb0, hs0, k0, k1, k2⟩ := box_new m.base a1 m.next.length c1 a2 m.final.length c2 w
  have HOKC : Hid (∀ W : World, Below w.heap.size w W → Calls Try.prog 19 #[.agg #[.int .i64 m.base, .slice a1 m.next.length c1, .slice a2 m.final.length c2]] W fun e w' => e = .returned (.bool (maOk m)) ∧ Below W.heap.size W w') := fun W hW => sMachineOk_any a1 c1 a2 c2 m W (hm.later hW)
  have HK0 := Lib.hid k0; have HK1 := Lib.hid k1; have HK2 := Lib.hid k2; have HB0 := Lib.hid hb0
  have HXL : Hid (∀ W : World, Below w.heap.size w W → Ints W W.heap.size a cap ds) := fun W hW => (hx.below hW).mono hW.size
  have HML : Hid (∀ W : World, Below w.heap.size w W → Mach W W.heap.size a1 c1 a2 c2 m) := fun W hW => hm.later hW
  clear hb0 hx hm
  cases hok : maOk m
  · have HF : Hid (runR m ds = -1) := by show _ = _; simp [runR, hok]
    rw [hok] at HOKC
    clear hok
    go_enter Try.func7, Try.ntmps7
    go_wp2_with fail
    rw [← e0]
    clear e0
    refine (HOKC.out _ HB0.out).mono ?_
    rintro e w1 ⟨rfl, hb1⟩
    have HB1 : Hid (Below w.heap.size w w1) := HB0.out.trans (hb1.mono (by omega))
    clear hb1
    go_wp2_with fail
    go_ret
    exact ⟨by rw [HF.out] <;> rfl, HB1.out⟩
  by_cases h60 : 60 < ds.length
  · have HF : Hid (runR m ds = -1) := by show _ = _; simp [runR, h60]
    rw [hok] at HOKC
    clear hok
    go_enter Try.func7, Try.ntmps7
    go_wp2_with fail
    rw [← e0]
    clear e0
    refine (HOKC.out _ HB0.out).mono ?_
    rintro e w1 ⟨rfl, hb1⟩
    have HB1 : Hid (Below w.heap.size w w1) := HB0.out.trans (hb1.mono (by omega))
    clear hb1
    go_wp2_with fail
    go_ret
    exact ⟨by rw [HF.out] <;> rfl, HB1.out⟩
  have hq2 := (maOk_t hok).1
  have hq10 := (maOk_t hok).2.1
  have HRN : Hid (allIn ds 0 (m.base - 1) = true → ∀ W : World, Below w.heap.size w W → Calls Try.prog 21 #[.agg #[.int .i64 m.base, .slice a1 m.next.length c1, .slice a2 m.final.length c2], .slice a ds.length cap] W fun e w' => e = .returned (.int .i64 (runM m ds)) ∧ Below W.heap.size W w') := fun hal W hW => l17Run_any a1 c1 a2 c2 m a cap ds W (HML.out W hW) hok (HXL.out W hW) (allIn_lt hal)
  have HF1 : Hid (allIn ds 0 (m.base - 1) = false → runR m ds = -1) := by intro h; simp [runR, h]
  have HF2 : Hid (allIn ds 0 (m.base - 1) = true → runR m ds = runM m ds) := by intro h; simp only [runR]; rw [if_neg]; simp [hok, h]; omega
  rw [hok] at HOKC
  clear hok
  go_enter Try.func7, Try.ntmps7
  go_wp2_with fail
  rw [← e0]
  clear e0
  refine (HOKC.out _ HB0.out).mono ?_
  rintro e w1 ⟨rfl, hb1⟩
  have h0 := (hb1.cell (p := ⟨w.heap.size, 0, none⟩) (by show w.heap.size < _; omega)).trans HK0.out
  have h1 := (hb1.cell (p := ⟨w.heap.size, 1, none⟩) (by show w.heap.size < _; omega)).trans HK1.out
  have h2 := (hb1.cell (p := ⟨w.heap.size, 2, none⟩) (by show w.heap.size < _; omega)).trans HK2.out
  have hz1 := hb1.size
  have HB1 : Hid (Below w.heap.size w w1) := HB0.out.trans (hb1.mono (by omega))
  clear hb1
  obtain ⟨-, -, b, off, ha, hc⟩ := HXL.out w1 HB1.out
  have Ha := Lib.hid ha; clear ha
  have Hc := Lib.hid hc; clear hc
  go_wp2_with fail
  go_loop [17] (fun i => ∃ k : Nat, k ≤ ds.length ∧ i = .int .i64 k ∧ allIn (ds.take k) 0 (m.base - 1) = true) (fun i => ds.length - (intOf i).toNat)
  case atStart => exact ⟨0, Nat.zero_le _, rfl, rfl⟩
  case round =>
    obtain ⟨k, hk, rfl, hall⟩ := hrel
    have HA := Lib.hid hall; clear hall
    by_cases hlt : k < ds.length
    · obtain ⟨rfl, -⟩ := Ha.out (by omega)
      have hcx := Hc.out k hlt
      cases hin : inB ds[k] 0 (m.base - 1)
      · have HN := Lib.hid (HF1.out (allIn_no hlt hin))
        go_wp2_with (go_at_call 20; refine (l01In_any _ _ _ _).mono ?_; rintro e w' ⟨rfl, rfl⟩)
        go_ret
        exact ⟨by rw [HN.out] <;> rfl, HB1.out⟩
      · have HN := Lib.hid (allIn_next hlt HA.out hin)
        go_wp2_with (go_at_call 20; refine (l01In_any _ _ _ _).mono ?_; rintro e w' ⟨rfl, rfl⟩)
        go_round
        case rel => exact ⟨k + 1, by omega, by go_num, HN.out⟩
        case measure => simp [intOf]; omega
    · obtain rfl : k = ds.length := by omega
      have hal : allIn ds 0 (m.base - 1) = true := by
        have := HA.out
        rwa [allIn_take_all] at this
      have HR := Lib.hid (HRN.out hal)
      have HF := Lib.hid (HF2.out hal)
      clear hal
      go_wp2_with fail
      refine (HR.out _ HB1.out).mono ?_
      rintro e w3 ⟨rfl, hb3⟩
      have HB3 : Hid (Below w.heap.size w w3) := HB1.out.trans (hb3.mono (by omega))
      clear hb3
      go_wp2_with fail
      go_ret
      exact ⟨by rw [HF.out] <;> rfl, HB3.out⟩

end Go.Proofs.Ytbhkbbkekbmodaa
