/- Equality of slices, and SameLists. Conditions: those of each contract. -/
import Derived.Test.YtkapbhlnjmfaaaaDoorRedN
import Derived.Test.YtkapbhlnjmfaaaaDoorRedX
import Derived.BigQuiet
import Derived.Deep.QuietTactic
namespace Go.Proofs.YtkapbhlnjmfaaaaDoor
set_option linter.unusedVariables false
open Go.RowKit

theorem Bools.len2 {w : World} {B : Nat} {a : Option Addr} {cap : Nat} {xs : List Bool} (h : Bools w B a cap xs) : xs.length ≤ 9223372036854775807 := h.len
set_option maxRecDepth 8000 in
set_option maxHeartbeats 1000000 in
theorem EqualI_any (a1 : Option Addr) (c1 : Nat) (xs : List Int) (a2 : Option Addr) (c2 : Nat) (ys : List Int) (w : World) (hx : Ints w w.heap.size a1 c1 xs) (hy : Ints w w.heap.size a2 c2 ys) :
    Calls Tryd.prog 33 #[.slice a1 xs.length c1, .slice a2 ys.length c2] w fun e w' => e = .returned (.bool (decide (xs = ys))) ∧ Below w.heap.size w w' := by
  have hl := hx.len
  have hl' := hy.len
  obtain ⟨-, -, b, off, ha, hc⟩ := hx
  obtain ⟨-, -, b', off', ha', hc'⟩ := hy
  have Ha := Lib.hid ha; clear ha
  have Hc := Lib.hid hc; clear hc
  have Ha' := Lib.hid ha'; clear ha'
  have Hc' := Lib.hid hc'; clear hc'
  by_cases he : xs.length = ys.length
  · have he2 : ((xs.length : Int) != (ys.length : Int)) = false := by rw [bne_eq_false_iff_eq]; omega
    have HE := Lib.hid he
    go_enter Tryd.func33, Tryd.ntmps33
    go_wp2
    clear he2
    go_loopw [13] (fun iv wr => ∃ k : Nat, k ≤ xs.length ∧ iv = .int .i64 k ∧ xs.take k = ys.take k ∧ Below w.heap.size w wr) (fun iv _ => xs.length - (intOf iv).toNat)
    case atStart => exact ⟨0, Nat.zero_le _, rfl, rfl, Below.refl _ _⟩
    case round =>
      obtain ⟨k, hk, rfl, htk, hb⟩ := hrel
      have HTK := Lib.hid htk
      have HB := Lib.hid hb
      by_cases hlt : k < xs.length
      · have hlt' : k < ys.length := by have := HE.out; omega
        obtain ⟨rfl, hb1⟩ := Ha.out (by omega)
        obtain ⟨rfl, hb2⟩ := Ha'.out (by omega)
        have hcx := (hb.cell (p := ⟨b, off + k, none⟩) hb1).trans (Hc.out k hlt)
        have hcy := (hb.cell (p := ⟨b', off' + k, none⟩) hb2).trans (Hc'.out k hlt')
        have HNX : xs[k] = ys[k] → Hid (xs.take (k + 1) = ys.take (k + 1)) := fun h => by
          show _ = _
          rw [take_next xs k hlt, take_next ys k hlt', HTK.out, h]
        have HNE : xs[k] ≠ ys[k] → Hid (decide (xs = ys) = false) := fun h => by
          refine decide_eq_false (fun e => h ?_)
          subst e
          rfl
        have g1 : (0 : Int) ≤ (k : Int) := by omega
        have g2 : (k : Int) < (xs.length : Int) := by omega
        have g3 : (k : Int) < (ys.length : Int) := by omega
        clear hb htk he
        generalize xs[k] = u at *
        generalize ys[k] = v at *
        by_cases huv : u = v
        · have h2 : (u != v) = false := by rw [bne_eq_false_iff_eq]; exact huv
          have HN := HNX huv
          clear huv HNX HNE
          go_wp2
          go_quiet (fail)
          go_wp2
          go_roundw
          case rel => exact ⟨k + 1, by omega, by go_num, HN.out, (below_drewN HB.out _)⟩
          case measure => simp [intOf] <;> omega
        · have h2 : (u != v) = true := by rw [bne_iff_ne]; exact huv
          have HN := HNE huv
          clear huv HNX HNE
          go_wp2
          go_quiet (fail)
          go_wp2
          go_ret
          exact ⟨by rw [HN.out] <;> rfl, (below_drewN HB.out _)⟩
      · obtain rfl : k = xs.length := by omega
        have HF : Hid (decide (xs = ys) = true) := by
          refine decide_eq_true ?_
          have h := HTK.out
          rwa [List.take_length, HE.out, List.take_length] at h
        have hnl : ¬ xs.length < ys.length := by have := HE.out; omega
        clear hb htk he
        go_wp2
        go_ret
        exact ⟨by rw [HF.out] <;> rfl, HB.out⟩
  · have he2 : ((xs.length : Int) != (ys.length : Int)) = true := by rw [bne_iff_ne]; omega
    have HF : Hid (decide (xs = ys) = false) := by
      refine decide_eq_false (fun e => he ?_)
      rw [e]
    go_enter Tryd.func33, Tryd.ntmps33
    go_wp2
    go_ret
    exact ⟨by rw [HF.out] <;> rfl, Below.refl _ _⟩
set_option maxRecDepth 8000 in
set_option maxHeartbeats 1000000 in
theorem EqualB_any (a1 : Option Addr) (c1 : Nat) (xs : List Bool) (a2 : Option Addr) (c2 : Nat) (ys : List Bool) (w : World) (hx : Bools w w.heap.size a1 c1 xs) (hy : Bools w w.heap.size a2 c2 ys) :
    Calls Tryd.prog 34 #[.slice a1 xs.length c1, .slice a2 ys.length c2] w fun e w' => e = .returned (.bool (decide (xs = ys))) ∧ Below w.heap.size w w' := by
  have hl := hx.len
  have hl' := hy.len
  obtain ⟨-, -, b, off, ha, hc⟩ := hx
  obtain ⟨-, -, b', off', ha', hc'⟩ := hy
  have Ha := Lib.hid ha; clear ha
  have Hc := Lib.hid hc; clear hc
  have Ha' := Lib.hid ha'; clear ha'
  have Hc' := Lib.hid hc'; clear hc'
  by_cases he : xs.length = ys.length
  · have he2 : ((xs.length : Int) != (ys.length : Int)) = false := by rw [bne_eq_false_iff_eq]; omega
    have HE := Lib.hid he
    go_enter Tryd.func34, Tryd.ntmps34
    go_wp2
    clear he2
    go_loopw [13] (fun iv wr => ∃ k : Nat, k ≤ xs.length ∧ iv = .int .i64 k ∧ xs.take k = ys.take k ∧ Below w.heap.size w wr) (fun iv _ => xs.length - (intOf iv).toNat)
    case atStart => exact ⟨0, Nat.zero_le _, rfl, rfl, Below.refl _ _⟩
    case round =>
      obtain ⟨k, hk, rfl, htk, hb⟩ := hrel
      have HTK := Lib.hid htk
      have HB := Lib.hid hb
      by_cases hlt : k < xs.length
      · have hlt' : k < ys.length := by have := HE.out; omega
        obtain ⟨rfl, hb1⟩ := Ha.out (by omega)
        obtain ⟨rfl, hb2⟩ := Ha'.out (by omega)
        have hcx := (hb.cell (p := ⟨b, off + k, none⟩) hb1).trans (Hc.out k hlt)
        have hcy := (hb.cell (p := ⟨b', off' + k, none⟩) hb2).trans (Hc'.out k hlt')
        have HNX : xs[k] = ys[k] → Hid (xs.take (k + 1) = ys.take (k + 1)) := fun h => by
          show _ = _
          rw [take_next xs k hlt, take_next ys k hlt', HTK.out, h]
        have HNE : xs[k] ≠ ys[k] → Hid (decide (xs = ys) = false) := fun h => by
          refine decide_eq_false (fun e => h ?_)
          subst e
          rfl
        have g1 : (0 : Int) ≤ (k : Int) := by omega
        have g2 : (k : Int) < (xs.length : Int) := by omega
        have g3 : (k : Int) < (ys.length : Int) := by omega
        clear hb htk he
        generalize xs[k] = u at *
        generalize ys[k] = v at *
        cases u <;> cases v
        · have HN := HNX rfl
          clear HNX HNE
          go_wp2
          go_quiet (fail)
          go_wp2
          go_roundw
          case rel => exact ⟨k + 1, by omega, by go_num, HN.out, (below_drewN HB.out _)⟩
          case measure => simp [intOf] <;> omega
        · have HN := HNE (by simp)
          clear HNX HNE
          go_wp2
          go_quiet (fail)
          go_wp2
          go_ret
          exact ⟨by rw [HN.out] <;> rfl, (below_drewN HB.out _)⟩
        · have HN := HNE (by simp)
          clear HNX HNE
          go_wp2
          go_quiet (fail)
          go_wp2
          go_ret
          exact ⟨by rw [HN.out] <;> rfl, (below_drewN HB.out _)⟩
        · have HN := HNX rfl
          clear HNX HNE
          go_wp2
          go_quiet (fail)
          go_wp2
          go_roundw
          case rel => exact ⟨k + 1, by omega, by go_num, HN.out, (below_drewN HB.out _)⟩
          case measure => simp [intOf] <;> omega
      · obtain rfl : k = xs.length := by omega
        have HF : Hid (decide (xs = ys) = true) := by
          refine decide_eq_true ?_
          have h := HTK.out
          rwa [List.take_length, HE.out, List.take_length] at h
        have hnl : ¬ xs.length < ys.length := by have := HE.out; omega
        clear hb htk he
        go_wp2
        go_ret
        exact ⟨by rw [HF.out] <;> rfl, HB.out⟩
  · have he2 : ((xs.length : Int) != (ys.length : Int)) = true := by rw [bne_iff_ne]; omega
    have HF : Hid (decide (xs = ys) = false) := by
      refine decide_eq_false (fun e => he ?_)
      rw [e]
    go_enter Tryd.func34, Tryd.ntmps34
    go_wp2
    go_ret
    exact ⟨by rw [HF.out] <;> rfl, Below.refl _ _⟩
set_option maxRecDepth 8000 in
set_option maxHeartbeats 1000000 in
theorem same_any (a1 : Option Addr) (c1 : Nat) (xs : List Int) (a2 : Option Addr) (c2 : Nat) (ys : List Int) (w : World) (hx : Ints w w.heap.size a1 c1 xs) (hy : Ints w w.heap.size a2 c2 ys) :
    Calls Tryd.prog 32 #[.slice a1 xs.length c1, .slice a2 ys.length c2] w fun e w' => e = .returned (.bool (decide (xs = ys))) ∧ Below w.heap.size w w' := by
  have hl := hx.len
  have hl' := hy.len
  obtain ⟨-, -, b, off, ha, hc⟩ := hx
  obtain ⟨-, -, b', off', ha', hc'⟩ := hy
  have Ha := Lib.hid ha; clear ha
  have Hc := Lib.hid hc; clear hc
  have Ha' := Lib.hid ha'; clear ha'
  have Hc' := Lib.hid hc'; clear hc'
  by_cases he : xs.length = ys.length
  · have he2 : ((xs.length : Int) != (ys.length : Int)) = false := by rw [bne_eq_false_iff_eq]; omega
    have HE := Lib.hid he
    go_enter Tryd.func32, Tryd.ntmps32
    go_wp2
    clear he2
    go_loopw [14] (fun iv wr => ∃ k : Nat, k ≤ xs.length ∧ iv = .int .i64 k ∧ xs.take k = ys.take k ∧ Below w.heap.size w wr) (fun iv _ => xs.length - (intOf iv).toNat)
    case atStart => exact ⟨0, Nat.zero_le _, rfl, rfl, Below.refl _ _⟩
    case round =>
      obtain ⟨k, hk, rfl, htk, hb⟩ := hrel
      have HTK := Lib.hid htk
      have HB := Lib.hid hb
      by_cases hlt : k < xs.length
      · have hlt' : k < ys.length := by have := HE.out; omega
        obtain ⟨rfl, hb1⟩ := Ha.out (by omega)
        obtain ⟨rfl, hb2⟩ := Ha'.out (by omega)
        have hcx := (hb.cell (p := ⟨b, off + k, none⟩) hb1).trans (Hc.out k hlt)
        have hcy := (hb.cell (p := ⟨b', off' + k, none⟩) hb2).trans (Hc'.out k hlt')
        have HNX : xs[k] = ys[k] → Hid (xs.take (k + 1) = ys.take (k + 1)) := fun h => by
          show _ = _
          rw [take_next xs k hlt, take_next ys k hlt', HTK.out, h]
        have HNE : xs[k] ≠ ys[k] → Hid (decide (xs = ys) = false) := fun h => by
          refine decide_eq_false (fun e => h ?_)
          subst e
          rfl
        have g1 : (0 : Int) ≤ (k : Int) := by omega
        have g2 : (k : Int) < (xs.length : Int) := by omega
        have g3 : (k : Int) < (ys.length : Int) := by omega
        clear hb htk he
        generalize xs[k] = u at *
        generalize ys[k] = v at *
        by_cases huv : u = v
        · have h2 : (u != v) = false := by rw [bne_eq_false_iff_eq]; exact huv
          have HN := HNX huv
          clear huv HNX HNE
          go_wp2_with fail
          go_roundw
          case rel => exact ⟨k + 1, by omega, by go_num, HN.out, HB.out⟩
          case measure => simp [intOf] <;> omega
        · have h2 : (u != v) = true := by rw [bne_iff_ne]; exact huv
          have HN := HNE huv
          clear huv HNX HNE
          go_wp2_with fail
          go_ret
          exact ⟨by rw [HN.out] <;> rfl, HB.out⟩
      · obtain rfl : k = xs.length := by omega
        have HF : Hid (decide (xs = ys) = true) := by
          refine decide_eq_true ?_
          have h := HTK.out
          rwa [List.take_length, HE.out, List.take_length] at h
        have hnl : ¬ xs.length < ys.length := by have := HE.out; omega
        clear hb htk he
        go_wp2
        go_ret
        exact ⟨by rw [HF.out] <;> rfl, HB.out⟩
  · have he2 : ((xs.length : Int) != (ys.length : Int)) = true := by rw [bne_iff_ne]; omega
    have HF : Hid (decide (xs = ys) = false) := by
      refine decide_eq_false (fun e => he ?_)
      rw [e]
    go_enter Tryd.func32, Tryd.ntmps32
    go_wp2
    go_ret
    exact ⟨by rw [HF.out] <;> rfl, Below.refl _ _⟩

end Go.Proofs.YtkapbhlnjmfaaaaDoor
