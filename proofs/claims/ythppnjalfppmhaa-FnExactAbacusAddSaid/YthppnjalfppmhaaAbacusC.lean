/- Wheels, nines and beads: program and reference. Conditions: those of each contract. -/
import Derived.Test.YthppnjalfppmhaaAbacusB
namespace Go.Proofs.Ythppnjalfppmhaa
set_option linter.unusedVariables false
open Go.RowKit

/-! wheels -/
def wsum (n : Int) : Nat → Int
  | 0 => 0
  | k + 1 => wsum n k + n / 10 ^ k
theorem wsum_bd (n : Int) (h0 : 0 ≤ n) (h1 : n ≤ 10000000000) (k : Nat) : 0 ≤ wsum n k ∧ wsum n k ≤ 10000000000 * k := by
  induction k with
  | zero => simp [wsum]
  | succ k ih =>
    have := div_pow_bd n 10 (by omega) h0 k
    simp only [wsum]
    omega
theorem wsum_zero (n : Int) (h0 : 0 ≤ n) (j : Nat) (h : n / 10 ^ j = 0) : ∀ d : Nat, wsum n (j + d) = wsum n j := by
  intro d
  induction d with
  | zero => rfl
  | succ d ih =>
    have e : n / 10 ^ (j + d) = 0 := by rw [Int.pow_add, ← Int.ediv_ediv_of_nonneg (Int.le_of_lt (Int.pow_pos (by omega))), h, Int.zero_ediv]
    show wsum n (j + d) + n / 10 ^ (j + d) = _
    rw [e, ih, Int.add_zero]
theorem div_lt_pow (n : Int) (h0 : 0 ≤ n) (k j : Nat) (h : n < 10 ^ k) (hj : 0 < n / 10 ^ j) : j < k := by
  rcases Nat.lt_or_ge j k with h1 | h1
  · exact h1
  · have h2 : (10 : Int) ^ k ≤ 10 ^ j := pow_monoU 10 (by omega) k j h1
    have : n / 10 ^ j = 0 := Int.ediv_eq_zero_of_lt h0 (Int.lt_of_lt_of_le h h2)
    omega
def wheel (n k : Int) : Int := if ctrB n k then wsum n k.toNat else -1
theorem WheelTurns_any (n k : Int) (w : World) : Calls Try.prog 14 #[.int .i64 n, .int .i64 k] w fun e w' => e = .returned (.int .i64 (wheel n k)) ∧ w = w' := by
  cases hc : ctrB n k
  · go_enter Try.func14, Try.ntmps14
    go_wp2_with (go_at_call 42; refine (isCounter_any _ _ _).mono ?_; rintro e w' ⟨rfl, rfl⟩)
    go_ret
    exact ⟨by simp [wheel, hc], rfl⟩
  obtain ⟨k, rfl, h1, h2, h3, h4, h5⟩ := ctrB_t hc
  have HF : Hid (wheel n k = wsum n k) := by show _ = _; simp [wheel, hc]
  go_enter Try.func14, Try.ntmps14
  go_wp2_with (go_at_call 42; refine (isCounter_any _ _ _).mono ?_; rintro e w' ⟨rfl, rfl⟩)
  clear hc
  go_loop [5, 12] (fun s i => ∃ j : Nat, j ≤ k ∧ i = .int .i64 j ∧ s = .int .i64 (wsum n j)) (fun _ i => k - (intOf i).toNat)
  case atStart => exact ⟨0, Nat.zero_le _, rfl, rfl⟩
  case round =>
    obtain ⟨j, hj, rfl, rfl⟩ := hrel
    by_cases hlt : j < k
    · obtain ⟨hp1, hp2⟩ := pow10 j (by omega)
      obtain ⟨hw1, hw2⟩ := wsum_bd n h3 (by omega) j
      obtain ⟨hd1, hd2⟩ := div_pow_bd n 10 (by omega) h3 j
      go_wp2_with (go_at_call 43; refine (power_any _ _ _ (by omega) (by omega) (by omega)).mono ?_; rintro e w' ⟨rfl, rfl⟩)
      go_round
      case rel => exact ⟨j + 1, by omega, by go_num, rfl⟩
      case measure => simp [intOf] <;> omega
    · go_wp2
      go_ret
      obtain rfl : j = k := by omega
      exact ⟨by rw [HF.out] <;> rfl, rfl⟩
theorem WheelTurns_b (n k : Int) (w : World) : Calls Try.prog 14 #[.int .i64 n, .int .i64 k] w fun e w' => e = .returned (.int .i64 (wheel n k)) ∧ Below w.heap.size w w' :=
  (WheelTurns_any n k w).mono fun _ _ ⟨h1, h2⟩ => ⟨h1, h2 ▸ Below.refl _ _⟩
theorem sWheelTurns_any (n k : Int) (w : World) : Calls Try.prog 13 #[.int .i64 n, .int .i64 k] w fun e w' => e = .returned (.int .i64 (wheel n k)) ∧ w = w' := by
  cases hc : ctrB n k
  · go_enter Try.func13, Try.ntmps13
    go_wp2_with (go_at_call 41; refine (l28Ok_any _ _ _).mono ?_; rintro e w' ⟨rfl, rfl⟩)
    go_ret
    exact ⟨by simp [wheel, hc], rfl⟩
  obtain ⟨k, rfl, h1, h2, h3, h4, h5⟩ := ctrB_t hc
  have HF : Hid (wheel n k = wsum n k) := by show _ = _; simp [wheel, hc]
  go_enter Try.func13, Try.ntmps13
  go_wp2_with (go_at_call 41; refine (l28Ok_any _ _ _).mono ?_; rintro e w' ⟨rfl, rfl⟩)
  clear hc
  have H4 := Lib.hid h4; clear h4
  go_loop [0, 5] (fun m s => ∃ (j : Nat) (x : Int), m = .int .i64 x ∧ s = .int .i64 (wsum n j) ∧ 0 ≤ x ∧ x ≤ n ∧ j ≤ k ∧ x = n / 10 ^ j) (fun m _ => (intOf m).toNat)
  case atStart => exact ⟨0, n, rfl, rfl, h3, Int.le_refl _, by omega, by simp⟩
  case round =>
    obtain ⟨j, x, rfl, rfl, hx0, hx1, hj, hx⟩ := hrel
    by_cases hpos : 0 < x
    · have hlt := div_lt_pow n h3 k j H4.out (by rw [← hx]; exact hpos)
      have HX := Lib.hid hx; clear hx
      obtain ⟨hw1, hw2⟩ := wsum_bd n h3 (by omega) j
      obtain ⟨hd1, hd2⟩ := div_half x 10 hx0 (by omega)
      have HD := Lib.hid (div_pow_succ n 10 (by omega) j)
      have HW : Hid (wsum n (j + 1) = wsum n j + n / 10 ^ j) := rfl
      go_wp2
      go_round
      case rel => exact ⟨j + 1, x / 10, rfl, by rw [HW.out, ← HX.out], by omega, by omega, by omega, by rw [← HD.out, ← HX.out]⟩
      case measure => simp [intOf] <;> omega
    · have HZ : Hid (wsum n k = wsum n j) := by
        show _ = _
        have := wsum_zero n h3 j (by omega) (k - j)
        rw [show j + (k - j) = k from by omega] at this
        exact this
      have HX := Lib.hid hx; clear hx
      go_wp2
      go_ret
      exact ⟨by rw [HF.out, HZ.out] <;> rfl, rfl⟩
theorem sWheelTurns_b (n k : Int) (w : World) : Calls Try.prog 13 #[.int .i64 n, .int .i64 k] w fun e w' => e = .returned (.int .i64 (wheel n k)) ∧ Below w.heap.size w w' :=
  (sWheelTurns_any n k w).mono fun _ _ ⟨h1, h2⟩ => ⟨h1, h2 ▸ Below.refl _ _⟩
set_option maxHeartbeats 2000000 in
theorem law_FnExactWheelTurns (n : Int) (k : Int) (w : World) (fn : (Lit.int .i64 n).wf = true) (fk : (Lit.int .i64 k).wf = true) :
    Calls Try.prog 3 #[.int .i64 n, .int .i64 k] w fun e w' => e = .returned (.bool true) ∧ Below w.heap.size w w' := by
  have HB0 : Hid (Below w.heap.size w w) := Below.refl _ _
  go_enter Try.func3, Try.ntmps3
  go_wp2_with fail
  refine (sWheelTurns_b n k _).mono ?_
  rintro e w1 ⟨rfl, hb⟩
  have hu := Below.upd hb; clear hb
  have hs1 := hu.size
  have HB1 : Hid (Below w.heap.size w w1) := HB0.out.trans (hu.below (by omega) (by omega))
  clear hu
  go_wp2_with fail
  refine (WheelTurns_b n k _).mono ?_
  rintro e w2 ⟨rfl, hb⟩
  have hu := Below.upd hb; clear hb
  have hs2 := hu.size
  have HB2 : Hid (Below w.heap.size w w2) := HB1.out.trans (hu.below (by omega) (by omega))
  clear hu
  go_wp2_with fail
  go_ret
  exact ⟨rfl, HB2.out⟩
/-! nines -/
def nines (xs : List Int) : List Int := xs.map (fun d => 9 - d)
def ninesR (xs : List Int) : List Int := if abOk xs then nines xs else []
theorem ninesR_len (xs : List Int) : (ninesR xs).length ≤ xs.length := by unfold ninesR nines; split <;> simp
theorem nines_next (xs : List Int) (k : Nat) (h : k < xs.length) : nines (xs.take (k + 1)) = nines (xs.take k) ++ [9 - xs[k]] := by unfold nines; rw [take_next xs k h, List.map_append]; rfl
theorem nines_len (xs : List Int) : (nines xs).length = xs.length := by simp [nines]
set_option maxHeartbeats 400000 in
theorem NinesOf_any (a : Option Addr) (cap : Nat) (xs : List Int) (w : World) (hx : Ints w w.heap.size a cap xs) :
    Calls Try.prog 30 #[.slice a xs.length cap] w (RetI w (ninesR xs)) := by
  have HX := Lib.hid hx
  cases hc : abOk xs
  · have HF : Hid (ninesR xs = []) := by show _ = _; simp [ninesR, hc]
    rw [HF.out]
    clear hx
    go_enter Try.func30, Try.ntmps30
    go_wp2_with fail
    refine (AbacusOk_any _ _ _ _ HX.out).mono ?_
    rintro e w1 ⟨rfl, hb⟩
    have HB := Lib.hid hb; clear hb
    go_wp2_with fail
    go_ret
    exact (OwnV.nil _ _).ret HB.out
  have HF : Hid (ninesR xs = nines xs) := by show _ = _; simp [ninesR, hc]
  have ht := abOk_t hc
  obtain ⟨-, -, bk, off, ha, hcc⟩ := hx
  have Ha := Lib.hid ha; clear ha
  have Hc := Lib.hid hcc; clear hcc
  rw [HF.out]
  obtain ⟨ht1, ht2, ht3⟩ := ht
  have HT := Lib.hid ht3; clear ht3
  go_enter Try.func30, Try.ntmps30
  go_wp2_with fail
  refine (AbacusOk_any _ _ _ _ HX.out).mono ?_
  rintro e w1 ⟨rfl, hb⟩
  have hs := hb.size
  have HB := Lib.hid hb; clear hb
  go_wp2_with fail
  clear hc
  go_loopw [3, 11] (fun v i wr => ∃ k : Nat, k ≤ xs.length ∧ i = .int .i64 k ∧ OwnV wr w.heap.size v (nines (xs.take k)) ∧ Below w.heap.size w wr) (fun _ i _ => xs.length - (intOf i).toNat)
  case atStart => exact ⟨0, Nat.zero_le _, rfl, OwnV.nil _ _, HB.out⟩
  case round =>
    obtain ⟨k, hk, rfl, hown, hbl⟩ := hrel
    have hsz := hbl.size
    by_cases hlt : k < xs.length
    · obtain ⟨rfl, hbk⟩ := Ha.out (by omega)
      have hcx := (hbl.cell (p := ⟨bk, off + k, none⟩) hbk).trans (Hc.out k hlt)
      have HBL := Lib.hid hbl; clear hbl
      obtain ⟨hd0, hd1⟩ := HT.out xs[k] (List.getElem_mem hlt)
      have HN := Lib.hid (nines_next xs k hlt)
      have hl : (nines (xs.take k)).length ≤ 10 := by rw [nines_len]; simp; omega
      go_wp2_with (at_builtin; refine wpList_append_int rfl _ _ rfl w.heap.size _ _ rfl hown _ rfl (by omega) (by omega) ?_; intro v' w2 hown2 hbl2)
      have HB2 := Lib.hid hbl2; clear hbl2
      go_roundw
      case rel => exact ⟨k + 1, by omega, by go_num, by rw [HN.out]; exact hown2, HBL.out.trans HB2.out⟩
      case measure => simp [intOf] <;> omega
    · have HBL := Lib.hid hbl; clear hbl
      go_wp2
      go_ret
      obtain rfl : k = xs.length := by omega
      rw [List.take_length] at hown
      exact hown.ret HBL.out
set_option maxHeartbeats 400000 in
theorem sNinesOf_any (a : Option Addr) (cap : Nat) (xs : List Int) (w : World) (hx : Ints w w.heap.size a cap xs) :
    Calls Try.prog 29 #[.slice a xs.length cap] w (RetI w (ninesR xs)) := by
  have HX := Lib.hid hx
  cases hc : abOk xs
  · have HF : Hid (ninesR xs = []) := by show _ = _; simp [ninesR, hc]
    rw [HF.out]
    clear hx
    go_enter Try.func29, Try.ntmps29
    go_wp2_with fail
    refine (sAbacusOk_any _ _ _ _ HX.out).mono ?_
    rintro e w' ⟨rfl, rfl⟩
    go_wp2_with fail
    go_ret
    exact (OwnV.nil _ _).ret (Below.refl _ _)
  have HF : Hid (ninesR xs = nines xs) := by show _ = _; simp [ninesR, hc]
  have ht := abOk_t hc
  obtain ⟨-, -, bk, off, ha, hcc⟩ := hx
  have Ha := Lib.hid ha; clear ha
  have Hc := Lib.hid hcc; clear hcc
  rw [HF.out]
  obtain ⟨ht1, ht2, ht3⟩ := ht
  have HT := Lib.hid ht3; clear ht3
  go_enter Try.func29, Try.ntmps29
  go_wp2_with fail
  refine (sAbacusOk_any _ _ _ _ HX.out).mono ?_
  rintro e w' ⟨rfl, rfl⟩
  go_wp2_with fail
  clear hc
  go_loopw [3, 12] (fun v i wr => ∃ k : Nat, k ≤ xs.length ∧ i = .int .i64 k ∧ OwnV wr w.heap.size v (nines (xs.take k)) ∧ Below w.heap.size w wr) (fun _ i _ => xs.length - (intOf i).toNat)
  case atStart => exact ⟨0, Nat.zero_le _, rfl, OwnV.lit0 _ _ (Nat.le_refl _), (Below.refl _ _).alloc (Nat.le_refl _) _⟩
  case round =>
    obtain ⟨k, hk, rfl, hown, hbl⟩ := hrel
    have hsz := hbl.size
    by_cases hlt : k < xs.length
    · obtain ⟨rfl, hbk⟩ := Ha.out (by omega)
      have hcx := (hbl.cell (p := ⟨bk, off + k, none⟩) hbk).trans (Hc.out k hlt)
      have HBL := Lib.hid hbl; clear hbl
      obtain ⟨hd0, hd1⟩ := HT.out xs[k] (List.getElem_mem hlt)
      have HN := Lib.hid (nines_next xs k hlt)
      have hl : (nines (xs.take k)).length ≤ 10 := by rw [nines_len]; simp; omega
      go_wp2_with (at_builtin; refine wpList_append_int rfl _ _ rfl w.heap.size _ _ rfl hown _ rfl (by omega) (by omega) ?_; intro v' w2 hown2 hbl2)
      have HB2 := Lib.hid hbl2; clear hbl2
      go_roundw
      case rel => exact ⟨k + 1, by omega, by go_num, by rw [HN.out]; exact hown2, HBL.out.trans HB2.out⟩
      case measure => simp [intOf] <;> omega
    · have HBL := Lib.hid hbl; clear hbl
      go_wp2
      go_ret
      obtain rfl : k = xs.length := by omega
      rw [List.take_length] at hown
      exact hown.ret HBL.out
set_option maxHeartbeats 2000000 in
theorem law_FnExactNinesOf (arods : Option Addr) (lrods crods : Nat) (zrods : List Int) (w : World) (frods : IsRow .i64 w arods lrods crods zrods) :
    Calls Try.prog 9 #[.slice arods lrods crods] w fun e w' => e = .returned (.bool true) ∧ Below w.heap.size w w' := by
  obtain ⟨rods, rfl, hxrods⟩ := frods.op
  have HXrods := Lib.hid hxrods; clear hxrods frods
  by_cases hbigrods : 1048576 < rods.length
  · go_enter Try.func9, Try.ntmps9
    go_wp2_with fail
    go_ret
    exact ⟨rfl, Below.refl _ _⟩
  have hlen : (ninesR rods).length ≤ 1152921504606846976 := by have := ninesR_len rods; omega
  have HLEN := Lib.hid hlen; clear hlen
  have hsrods : rods.length ≤ 1048576 := by omega
  clear hbigrods
  have HB0 : Hid (Below w.heap.size w w) := Below.refl _ _
  go_enter Try.func9, Try.ntmps9
  go_wp2_with fail
  refine (toIntS_any _ _ rods _ ((HXrods.out.below HB0.out).mono (by omega)) (by omega)).mono ?_
  rintro e w1 ⟨atrods, ctrods, rfl, ho, hb⟩
  have hu := Below.upd hb
  have HNtrods : Hid (OwnR w1 w.heap.size w1.heap.size atrods ctrods (rods)) := OwnI.ownR ho
  clear ho hb
  have hs1 := hu.size
  have HB1 : Hid (Below w.heap.size w w1) := HB0.out.trans (hu.below (by omega) (by omega))
  clear hu
  have HOtrods1 := HNtrods; clear HNtrods
  go_wp2_with fail
  refine (sNinesOf_any _ _ rods _ (HOtrods1.out.ints)).mono ?_
  rintro e w2 ⟨aW, cW, rfl, ho, hb⟩
  have hu := Below.upd hb
  have HNW : Hid (OwnR w2 w1.heap.size w2.heap.size aW cW (ninesR rods)) := OwnI.ownR ho
  clear ho hb
  have hs2 := hu.size
  have HB2 : Hid (Below w.heap.size w w2) := HB1.out.trans (hu.below (by omega) (by omega))
  have HOtrods2 : Hid (OwnR w2 w.heap.size w1.heap.size atrods ctrods (rods)) := HOtrods1.out.upd hu (by omega); clear HOtrods1
  clear hu
  have HOW2 := HNW; clear HNW
  go_wp2_with fail
  refine (toIntS_any _ _ rods _ ((HXrods.out.below HB2.out).mono (by omega)) (by omega)).mono ?_
  rintro e w3 ⟨axrods, cxrods, rfl, ho, hb⟩
  have hu := Below.upd hb
  have HNxrods : Hid (OwnR w3 w2.heap.size w3.heap.size axrods cxrods (rods)) := OwnI.ownR ho
  clear ho hb
  have hs3 := hu.size
  have HB3 : Hid (Below w.heap.size w w3) := HB2.out.trans (hu.below (by omega) (by omega))
  have HOW3 : Hid (OwnR w3 w1.heap.size w2.heap.size aW cW (ninesR rods)) := HOW2.out.upd hu (by omega); clear HOW2
  clear hu
  have HOxrods3 := HNxrods; clear HNxrods
  go_wp2_with fail
  refine (NinesOf_any _ _ rods _ (HOxrods3.out.ints)).mono ?_
  rintro e w4 ⟨aG, cG, rfl, ho, hb⟩
  have hu := Below.upd hb
  have HNG : Hid (OwnR w4 w3.heap.size w4.heap.size aG cG (ninesR rods)) := OwnI.ownR ho
  clear ho hb
  have hs4 := hu.size
  have HB4 : Hid (Below w.heap.size w w4) := HB3.out.trans (hu.below (by omega) (by omega))
  have HOW4 : Hid (OwnR w4 w1.heap.size w2.heap.size aW cW (ninesR rods)) := HOW3.out.upd hu (by omega); clear HOW3
  have HOxrods4 : Hid (OwnR w4 w2.heap.size w3.heap.size axrods cxrods (rods)) := HOxrods3.out.upd hu (by omega); clear HOxrods3
  clear hu
  have HOG4 := HNG; clear HNG
  go_wp2_with fail
  refine (eqIntS_same _ _ _ _ (ninesR rods) _ (HOG4.out.ints) (HOW4.out.ints)).mono ?_
  rintro e w5 ⟨rfl, hb⟩
  have hu := Below.upd hb; clear hb
  have hs5 := hu.size
  have HB5 : Hid (Below w.heap.size w w5) := HB4.out.trans (hu.below (by omega) (by omega))
  have HOW5 : Hid (OwnR w5 w1.heap.size w2.heap.size aW cW (ninesR rods)) := HOW4.out.upd hu (by omega); clear HOW4
  have HOxrods5 : Hid (OwnR w5 w2.heap.size w3.heap.size axrods cxrods (rods)) := HOxrods4.out.upd hu (by omega); clear HOxrods4
  have HOG5 : Hid (OwnR w5 w3.heap.size w4.heap.size aG cG (ninesR rods)) := HOG4.out.upd hu (by omega); clear HOG4
  clear hu
  go_wp2_with fail
  refine (toIntS_any _ _ rods _ ((HXrods.out.below HB5.out).mono (by omega)) (by omega)).mono ?_
  rintro e w6 ⟨ayrods, cyrods, rfl, ho, hb⟩
  have hu := Below.upd hb
  have HNyrods : Hid (OwnR w6 w5.heap.size w6.heap.size ayrods cyrods (rods)) := OwnI.ownR ho
  clear ho hb
  have hs6 := hu.size
  have HB6 : Hid (Below w.heap.size w w6) := HB5.out.trans (hu.below (by omega) (by omega))
  have HOW6 : Hid (OwnR w6 w1.heap.size w2.heap.size aW cW (ninesR rods)) := HOW5.out.upd hu (by omega); clear HOW5
  have HOxrods6 : Hid (OwnR w6 w2.heap.size w3.heap.size axrods cxrods (rods)) := HOxrods5.out.upd hu (by omega); clear HOxrods5
  have HOG6 : Hid (OwnR w6 w3.heap.size w4.heap.size aG cG (ninesR rods)) := HOG5.out.upd hu (by omega); clear HOG5
  clear hu
  have HOyrods6 := HNyrods; clear HNyrods
  go_wp2_with fail
  refine (eqIntS_same _ _ _ _ (rods) _ (HOxrods6.out.ints) (HOyrods6.out.ints)).mono ?_
  rintro e w7 ⟨rfl, hb⟩
  have hu := Below.upd hb; clear hb
  have hs7 := hu.size
  have HB7 : Hid (Below w.heap.size w w7) := HB6.out.trans (hu.below (by omega) (by omega))
  have HOW7 : Hid (OwnR w7 w1.heap.size w2.heap.size aW cW (ninesR rods)) := HOW6.out.upd hu (by omega); clear HOW6
  have HOxrods7 : Hid (OwnR w7 w2.heap.size w3.heap.size axrods cxrods (rods)) := HOxrods6.out.upd hu (by omega); clear HOxrods6
  have HOG7 : Hid (OwnR w7 w3.heap.size w4.heap.size aG cG (ninesR rods)) := HOG6.out.upd hu (by omega); clear HOG6
  have HOyrods7 : Hid (OwnR w7 w5.heap.size w6.heap.size ayrods cyrods (rods)) := HOyrods6.out.upd hu (by omega); clear HOyrods6
  clear hu
  go_wp2_with fail
  refine (markR_any w2.heap.size w3.heap.size _ _ (rods) (1) _ HOxrods7.out (by omega) (by first | omega | (have := HLEN.out; omega))).mono ?_
  rintro e w8 ⟨rfl, ho, hu⟩
  have HNxrods : Hid (OwnR w8 w2.heap.size w3.heap.size axrods cxrods (marks (1) (rods).length)) := ho
  clear ho
  have hs8 := hu.size
  have HB8 : Hid (Below w.heap.size w w8) := HB7.out.trans (hu.below (by omega) (by omega))
  have HOW8 : Hid (OwnR w8 w1.heap.size w2.heap.size aW cW (ninesR rods)) := HOW7.out.upd hu (by omega); clear HOW7
  have HOG8 : Hid (OwnR w8 w3.heap.size w4.heap.size aG cG (ninesR rods)) := HOG7.out.upd hu (by omega); clear HOG7
  clear hu
  have HOxrods8 := HNxrods; clear HNxrods
  have hprods : (0 : Int) ≤ 1 + (rods.length : Int) := by omega
  go_wp2_with fail
  refine (eqIntS_same _ _ _ _ (ninesR rods) _ (HOG8.out.ints) (HOW8.out.ints)).mono ?_
  rintro e w9 ⟨rfl, hb⟩
  have hu := Below.upd hb; clear hb
  have hs9 := hu.size
  have HB9 : Hid (Below w.heap.size w w9) := HB8.out.trans (hu.below (by omega) (by omega))
  have HOW9 : Hid (OwnR w9 w1.heap.size w2.heap.size aW cW (ninesR rods)) := HOW8.out.upd hu (by omega); clear HOW8
  have HOG9 : Hid (OwnR w9 w3.heap.size w4.heap.size aG cG (ninesR rods)) := HOG8.out.upd hu (by omega); clear HOG8
  clear hu
  go_wp2_with fail
  refine (markR_any w3.heap.size w4.heap.size _ _ (ninesR rods) (1) _ HOG9.out (by omega) (by first | omega | (have := HLEN.out; omega))).mono ?_
  rintro e w10 ⟨rfl, ho, hu⟩
  have HNG : Hid (OwnR w10 w3.heap.size w4.heap.size aG cG (marks (1) (ninesR rods).length)) := ho
  clear ho
  have hs10 := hu.size
  have HB10 : Hid (Below w.heap.size w w10) := HB9.out.trans (hu.below (by omega) (by omega))
  have HOW10 : Hid (OwnR w10 w1.heap.size w2.heap.size aW cW (ninesR rods)) := HOW9.out.upd hu (by omega); clear HOW9
  clear hu
  have HOG10 := HNG; clear HNG
  have hp1 : (0 : Int) ≤ 1 + ((ninesR rods).length : Int) := by omega
  go_wp2_with fail
  refine (heldIntS_any _ _ (1) (ninesR rods).length _ (HOG10.out.ints) (by omega) (by first | omega | (have := HLEN.out; omega))).mono ?_
  rintro e w' ⟨rfl, rfl⟩
  go_wp2_with fail
  refine (toIntS_any _ _ rods _ ((HXrods.out.below HB10.out).mono (by omega)) (by omega)).mono ?_
  rintro e w11 ⟨azrods, czrods, rfl, ho, hb⟩
  have hu := Below.upd hb
  have HNzrods : Hid (OwnR w11 w10.heap.size w11.heap.size azrods czrods (rods)) := OwnI.ownR ho
  clear ho hb
  have hs11 := hu.size
  have HB11 : Hid (Below w.heap.size w w11) := HB10.out.trans (hu.below (by omega) (by omega))
  have HOW11 : Hid (OwnR w11 w1.heap.size w2.heap.size aW cW (ninesR rods)) := HOW10.out.upd hu (by omega); clear HOW10
  have HOG11 : Hid (OwnR w11 w3.heap.size w4.heap.size aG cG (marks (1) (ninesR rods).length)) := HOG10.out.upd hu (by omega); clear HOG10
  clear hu
  have HOzrods11 := HNzrods; clear HNzrods
  go_wp2_with fail
  refine (NinesOf_any _ _ rods _ (HOzrods11.out.ints)).mono ?_
  rintro e w12 ⟨aH, cH, rfl, ho, hb⟩
  have hu := Below.upd hb
  have HNH : Hid (OwnR w12 w11.heap.size w12.heap.size aH cH (ninesR rods)) := OwnI.ownR ho
  clear ho hb
  have hs12 := hu.size
  have HB12 : Hid (Below w.heap.size w w12) := HB11.out.trans (hu.below (by omega) (by omega))
  have HOW12 : Hid (OwnR w12 w1.heap.size w2.heap.size aW cW (ninesR rods)) := HOW11.out.upd hu (by omega); clear HOW11
  have HOG12 : Hid (OwnR w12 w3.heap.size w4.heap.size aG cG (marks (1) (ninesR rods).length)) := HOG11.out.upd hu (by omega); clear HOG11
  have HOzrods12 : Hid (OwnR w12 w10.heap.size w11.heap.size azrods czrods (rods)) := HOzrods11.out.upd hu (by omega); clear HOzrods11
  clear hu
  have HOH12 := HNH; clear HNH
  go_wp2_with fail
  refine (eqIntS_same _ _ _ _ (ninesR rods) _ (HOH12.out.ints) (HOW12.out.ints)).mono ?_
  rintro e w13 ⟨rfl, hb⟩
  have hu := Below.upd hb; clear hb
  have hs13 := hu.size
  have HB13 : Hid (Below w.heap.size w w13) := HB12.out.trans (hu.below (by omega) (by omega))
  have HOW13 : Hid (OwnR w13 w1.heap.size w2.heap.size aW cW (ninesR rods)) := HOW12.out.upd hu (by omega); clear HOW12
  have HOG13 : Hid (OwnR w13 w3.heap.size w4.heap.size aG cG (marks (1) (ninesR rods).length)) := HOG12.out.upd hu (by omega); clear HOG12
  have HOH13 : Hid (OwnR w13 w11.heap.size w12.heap.size aH cH (ninesR rods)) := HOH12.out.upd hu (by omega); clear HOH12
  clear hu
  go_wp2_with fail
  refine (heldIntS_any _ _ (1) (ninesR rods).length _ (HOG13.out.ints) (by omega) (by first | omega | (have := HLEN.out; omega))).mono ?_
  rintro e w' ⟨rfl, rfl⟩
  go_wp2_with fail
  go_ret
  exact ⟨rfl, HB13.out⟩

end Go.Proofs.Ythppnjalfppmhaa
