/- Wheels, nines and beads: program and reference. Conditions: those of each contract. -/
import Derived.Test.YtkcjjhdmklhepaaAbacusB
namespace Go.Proofs.Ytkcjjhdmklhepaa
set_option linter.unusedVariables false
open Go.RowKit

/-! wheels -/
def wsum (n : Int) : Nat → Int
  | 0 => 0
  | k + 1 => wsum n k + n / 10 ^ k
theorem wsum_bd (n : Int) (h0 : 0 ≤ n) (h1 : n ≤ 10000000000) (k : Nat) : 0 ≤ wsum n k ∧ wsum n k ≤ 10000000000 * k := by
  induction k with
  | zero => simp [wsum]
  | succ k ih =>
    have := div_pow_bd n 10 (by omega) h0 k
    simp only [wsum]
    omega
theorem wsum_zero (n : Int) (h0 : 0 ≤ n) (j : Nat) (h : n / 10 ^ j = 0) : ∀ d : Nat, wsum n (j + d) = wsum n j := by
  intro d
  induction d with
  | zero => rfl
  | succ d ih =>
    have e : n / 10 ^ (j + d) = 0 := by rw [Int.pow_add, ← Int.ediv_ediv_of_nonneg (Int.le_of_lt (Int.pow_pos (by omega))), h, Int.zero_ediv]
    show wsum n (j + d) + n / 10 ^ (j + d) = _
    rw [e, ih, Int.add_zero]
theorem div_lt_pow (n : Int) (h0 : 0 ≤ n) (k j : Nat) (h : n < 10 ^ k) (hj : 0 < n / 10 ^ j) : j < k := by
  rcases Nat.lt_or_ge j k with h1 | h1
  · exact h1
  · have h2 : (10 : Int) ^ k ≤ 10 ^ j := pow_monoU 10 (by omega) k j h1
    have : n / 10 ^ j = 0 := Int.ediv_eq_zero_of_lt h0 (Int.lt_of_lt_of_le h h2)
    omega
def wheel (n k : Int) : Int := if ctrB n k then wsum n k.toNat else -1
theorem WheelTurns_any (n k : Int) (w : World) : Calls Try.prog 40 #[.int .i64 n, .int .i64 k] w fun e w' => e = .returned (.int .i64 (wheel n k)) ∧ w = w' := by
  cases hc : ctrB n k
  · go_enter Try.func40, Try.ntmps40
    go_wp2_with (go_at_call 64; refine (isCounter_any _ _ _).mono ?_; rintro e w' ⟨rfl, rfl⟩)
    go_ret
    exact ⟨by simp [wheel, hc], rfl⟩
  obtain ⟨k, rfl, h1, h2, h3, h4, h5⟩ := ctrB_t hc
  have HF : Hid (wheel n k = wsum n k) := by show _ = _; simp [wheel, hc]
  go_enter Try.func40, Try.ntmps40
  go_wp2_with (go_at_call 64; refine (isCounter_any _ _ _).mono ?_; rintro e w' ⟨rfl, rfl⟩)
  clear hc
  go_loop [5, 12] (fun s i => ∃ j : Nat, j ≤ k ∧ i = .int .i64 j ∧ s = .int .i64 (wsum n j)) (fun _ i => k - (intOf i).toNat)
  case atStart => exact ⟨0, Nat.zero_le _, rfl, rfl⟩
  case round =>
    obtain ⟨j, hj, rfl, rfl⟩ := hrel
    by_cases hlt : j < k
    · obtain ⟨hp1, hp2⟩ := pow10 j (by omega)
      obtain ⟨hw1, hw2⟩ := wsum_bd n h3 (by omega) j
      obtain ⟨hd1, hd2⟩ := div_pow_bd n 10 (by omega) h3 j
      go_wp2_with (go_at_call 48; refine (power_any _ _ _ (by omega) (by omega) (by omega)).mono ?_; rintro e w' ⟨rfl, rfl⟩)
      go_round
      case rel => exact ⟨j + 1, by omega, by go_num, rfl⟩
      case measure => simp [intOf] <;> omega
    · go_wp2
      go_ret
      obtain rfl : j = k := by omega
      exact ⟨by rw [HF.out] <;> rfl, rfl⟩
theorem WheelTurns_b (n k : Int) (w : World) : Calls Try.prog 40 #[.int .i64 n, .int .i64 k] w fun e w' => e = .returned (.int .i64 (wheel n k)) ∧ Below w.heap.size w w' :=
  (WheelTurns_any n k w).mono fun _ _ ⟨h1, h2⟩ => ⟨h1, h2 ▸ Below.refl _ _⟩
/-! nines -/
def nines (xs : List Int) : List Int := xs.map (fun d => 9 - d)
def ninesR (xs : List Int) : List Int := if abOk xs then nines xs else []
theorem ninesR_len (xs : List Int) : (ninesR xs).length ≤ xs.length := by unfold ninesR nines; split <;> simp
theorem nines_next (xs : List Int) (k : Nat) (h : k < xs.length) : nines (xs.take (k + 1)) = nines (xs.take k) ++ [9 - xs[k]] := by unfold nines; rw [take_next xs k h, List.map_append]; rfl
theorem nines_len (xs : List Int) : (nines xs).length = xs.length := by simp [nines]
set_option maxHeartbeats 400000 in
theorem NinesOf_any (a : Option Addr) (cap : Nat) (xs : List Int) (w : World) (hx : Ints w w.heap.size a cap xs) :
    Calls Try.prog 39 #[.slice a xs.length cap] w (RetI w (ninesR xs)) := by
  have HX := Lib.hid hx
  cases hc : abOk xs
  · have HF : Hid (ninesR xs = []) := by show _ = _; simp [ninesR, hc]
    rw [HF.out]
    clear hx
    go_enter Try.func39, Try.ntmps39
    go_wp2_with fail
    refine (AbacusOk_any _ _ _ _ HX.out).mono ?_
    rintro e w1 ⟨rfl, hb⟩
    have HB := Lib.hid hb; clear hb
    go_wp2_with fail
    go_ret
    exact (OwnV.nil _ _).ret HB.out
  have HF : Hid (ninesR xs = nines xs) := by show _ = _; simp [ninesR, hc]
  have ht := abOk_t hc
  obtain ⟨-, -, bk, off, ha, hcc⟩ := hx
  have Ha := Lib.hid ha; clear ha
  have Hc := Lib.hid hcc; clear hcc
  rw [HF.out]
  obtain ⟨ht1, ht2, ht3⟩ := ht
  have HT := Lib.hid ht3; clear ht3
  go_enter Try.func39, Try.ntmps39
  go_wp2_with fail
  refine (AbacusOk_any _ _ _ _ HX.out).mono ?_
  rintro e w1 ⟨rfl, hb⟩
  have hs := hb.size
  have HB := Lib.hid hb; clear hb
  go_wp2_with fail
  clear hc
  go_loopw [3, 11] (fun v i wr => ∃ k : Nat, k ≤ xs.length ∧ i = .int .i64 k ∧ OwnV wr w.heap.size v (nines (xs.take k)) ∧ Below w.heap.size w wr) (fun _ i _ => xs.length - (intOf i).toNat)
  case atStart => exact ⟨0, Nat.zero_le _, rfl, OwnV.nil _ _, HB.out⟩
  case round =>
    obtain ⟨k, hk, rfl, hown, hbl⟩ := hrel
    have hsz := hbl.size
    by_cases hlt : k < xs.length
    · obtain ⟨rfl, hbk⟩ := Ha.out (by omega)
      have hcx := (hbl.cell (p := ⟨bk, off + k, none⟩) hbk).trans (Hc.out k hlt)
      have HBL := Lib.hid hbl; clear hbl
      obtain ⟨hd0, hd1⟩ := HT.out xs[k] (List.getElem_mem hlt)
      have HN := Lib.hid (nines_next xs k hlt)
      have hl : (nines (xs.take k)).length ≤ 10 := by rw [nines_len]; simp; omega
      go_wp2_with (at_builtin; refine wpList_append_int rfl _ _ rfl w.heap.size _ _ rfl hown _ rfl (by omega) (by omega) ?_; intro v' w2 hown2 hbl2)
      have HB2 := Lib.hid hbl2; clear hbl2
      go_roundw
      case rel => exact ⟨k + 1, by omega, by go_num, by rw [HN.out]; exact hown2, HBL.out.trans HB2.out⟩
      case measure => simp [intOf] <;> omega
    · have HBL := Lib.hid hbl; clear hbl
      go_wp2
      go_ret
      obtain rfl : k = xs.length := by omega
      rw [List.take_length] at hown
      exact hown.ret HBL.out

end Go.Proofs.Ytkcjjhdmklhepaa
