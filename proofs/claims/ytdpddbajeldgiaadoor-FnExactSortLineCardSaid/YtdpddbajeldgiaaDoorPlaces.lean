/- The contracts of the functions on places: so many digits, and their value. Conditions: those of each contract. -/
import Derived.Test.YtdpddbajeldgiaaDoorMem
import Derived.Test.YtdpddbajeldgiaaDoorAbacusP
namespace Go.Proofs.YtdpddbajeldgiaaDoor
set_option linter.unusedVariables false
open Go.RowKit

theorem div_pow_succ (n b : Int) (hb : 2 ≤ b) (j : Nat) : n / b ^ j / b = n / b ^ (j + 1) := by
  rw [Int.pow_succ, Int.ediv_ediv_of_nonneg (Int.le_of_lt (Int.pow_pos (by omega)))]
theorem div_pow_bd (n b : Int) (hb : 2 ≤ b) (h0 : 0 ≤ n) (j : Nat) : 0 ≤ n / b ^ j ∧ n / b ^ j ≤ n :=
  ⟨Int.ediv_nonneg h0 (Int.le_of_lt (Int.pow_pos (by omega))), Int.ediv_le_self _ h0⟩
set_option maxHeartbeats 400000 in
theorem placed_any (n b : Int) (k : Nat) (w : World) (hn0 : 0 ≤ n) (hn1 : n ≤ 4611686018427387904) (hb1 : 2 ≤ b) (hb2 : b ≤ 16) (hk : k ≤ 64) :
    Calls Tryd.prog 130 #[.int .i64 n, .int .i64 b, .int .i64 k] w (RetI w (plcd n b k)) := by
  go_enter Tryd.func130, Tryd.ntmps130
  go_wp2
  go_loopw [0, 7, 9] (fun m v i wr => ∃ (j : Nat) (x : Int), j ≤ k ∧ i = .int .i64 j ∧ m = .int .i64 x ∧ 0 ≤ x ∧ x ≤ n ∧ x = n / b ^ j ∧ OwnV wr w.heap.size v (plcd n b j) ∧ Below w.heap.size w wr) (fun _ _ i _ => k - (intOf i).toNat)
  case atStart => exact ⟨0, n, Nat.zero_le _, rfl, rfl, hn0, Int.le_refl _, by simp, OwnV.nil _ _, Below.refl _ _⟩
  case round =>
    obtain ⟨j, x, hj, rfl, rfl, hx0, hx1, hx, hown, hbl⟩ := hrel
    have HX := Lib.hid hx; clear hx
    have hsz := hbl.size
    have HBL := Lib.hid hbl; clear hbl
    by_cases hlt : j < k
    · have hpl := plcd_length b j n
      have hh := div_half x b hx0 hb1
      obtain ⟨hh1, hh2⟩ := hh
      have HS := Lib.hid (plcd_snoc b hb1 j n hn0)
      have HD := Lib.hid (div_pow_succ n b hb1 j)
      have hl : (plcd n b j).length ≤ 64 := by omega
      clear hpl
      go_wp2_with (at_builtin; refine wpList_append_int rfl _ _ rfl w.heap.size _ _ rfl hown _ rfl (by omega) (by omega) ?_; intro v' w2 hown2 hbl2)
      have HB2 := Lib.hid hbl2; clear hbl2
      go_roundw
      case rel => exact ⟨j + 1, x / b, by omega, by go_num, rfl, by omega, by omega, by rw [← HD.out, HX.out], by rw [HS.out, ← HX.out]; exact hown2, HBL.out.trans HB2.out⟩
      case measure => simp [intOf] <;> omega
    · go_wp2
      go_ret
      obtain rfl : j = k := by omega
      exact hown.ret HBL.out
/-- a step of the value from the highest place on -/
theorem valL_step (b : Int) (hb : 2 ≤ b) (xs : List Int) (h : ∀ d ∈ xs, 0 ≤ d ∧ d < b) (hp : b ^ xs.length ≤ 4611686018427387904) (k : Nat) (hk : k < xs.length) :
    0 ≤ xs[k] ∧ 0 ≤ valL b (xs.drop (k + 1)) * b ∧ valL b (xs.drop (k + 1)) * b + xs[k] ≤ 4611686018427387904 ∧ valL b (xs.drop (k + 1)) * b ≤ 4611686018427387904 ∧ valL b (xs.drop k) = valL b (xs.drop (k + 1)) * b + xs[k] := by
  have h1 := valL_drop b xs k hk
  have h2 := valL_drop_bd b hb xs h k
  have h3 := valL_drop_bd b hb xs h (k + 1)
  have h4 := h _ (List.getElem_mem hk)
  have h5 : 0 ≤ valL b (xs.drop (k + 1)) * b := Int.mul_nonneg h3.1 (by omega)
  refine ⟨h4.1, h5, by omega, by omega, h1⟩
set_option maxHeartbeats 400000 in
theorem valueOf_any (a : Option Addr) (cap : Nat) (xs : List Int) (b : Int) (w : World) (hx : Ints w w.heap.size a cap xs) (h0 : ∀ d ∈ xs, 0 ≤ d ∧ d < b) (hb1 : 2 ≤ b) (hp : b ^ xs.length ≤ 4611686018427387904) :
    Calls Tryd.prog 132 #[.slice a xs.length cap, .int .i64 b] w fun e w' => e = .returned (.int .i64 (valL b xs)) ∧ w = w' := by
  have hl := hx.len
  obtain ⟨-, -, bk, off, ha, hc⟩ := hx
  have Ha := Lib.hid ha; clear ha
  have Hc := Lib.hid hc; clear hc
  have H0 := Lib.hid h0; clear h0
  have HP := Lib.hid hp; clear hp
  go_enter Tryd.func132, Tryd.ntmps132
  go_wp2
  go_loop [5, 6] (fun n k => ∃ x i : Int, n = .int .i64 x ∧ k = .int .i64 i ∧ -1 ≤ i ∧ i < xs.length ∧ x = valL b (xs.drop (i + 1).toNat)) (fun _ k => (intOf k + 1).toNat)
  case atStart => exact ⟨0, _, rfl, rfl, by omega, by omega, by rw [show ((xs.length : Int) - 1 + 1).toNat = xs.length from by omega, List.drop_length]; rfl⟩
  case round =>
    obtain ⟨x, i, rfl, rfl, hi0, hi1, hh⟩ := hrel
    by_cases hi : 0 ≤ i
    · obtain ⟨i, rfl⟩ := Int.eq_ofNat_of_zero_le hi
      have hlt : i < xs.length := by omega
      rw [show ((i : Int) + 1).toNat = i + 1 from by omega] at hh
      obtain ⟨hd0, hm0, hm1, hm2, hst⟩ := valL_step b hb1 xs H0.out HP.out i hlt
      rw [← hh] at hm0 hm1 hm2 hst
      have HST := Lib.hid hst
      have HE2 : Hid (((i : Int) - 1 + 1).toNat = i) := by show _ = _; omega
      clear hh hst
      obtain ⟨rfl, -⟩ := Ha.out (by omega)
      have hcx := Hc.out i hlt
      go_wp2
      go_round
      case rel => exact ⟨x * b + xs[i], (i : Int) - 1, rfl, rfl, by omega, by omega, by rw [HE2.out, HST.out]⟩
      case measure => simp [intOf] <;> omega
    · have HE : Hid ((i + 1).toNat = 0) := by show _ = _; omega
      have HH := Lib.hid hh; clear hh
      go_wp2
      go_ret
      exact ⟨by rw [HH.out, HE.out] <;> rfl, rfl⟩
set_option maxHeartbeats 400000 in
theorem l18Value_any (a : Option Addr) (cap : Nat) (xs : List Int) (b : Int) (w : World) (hx : Ints w w.heap.size a cap xs) (h0 : ∀ d ∈ xs, 0 ≤ d ∧ d < b) (hb1 : 2 ≤ b) (hp : b ^ xs.length ≤ 4611686018427387904) :
    Calls Tryd.prog 159 #[.slice a xs.length cap, .int .i64 b] w fun e w' => e = .returned (.int .i64 (valL b xs)) ∧ w = w' := by
  have hl := hx.len
  obtain ⟨-, -, bk, off, ha, hc⟩ := hx
  have Ha := Lib.hid ha; clear ha
  have Hc := Lib.hid hc; clear hc
  have H0 := Lib.hid h0; clear h0
  have HP := Lib.hid hp; clear hp
  go_enter Tryd.func159, Tryd.ntmps159
  go_wp2
  go_loop [5, 6] (fun n k => ∃ x i : Int, n = .int .i64 x ∧ k = .int .i64 i ∧ -1 ≤ i ∧ i < xs.length ∧ x = valL b (xs.drop (i + 1).toNat)) (fun _ k => (intOf k + 1).toNat)
  case atStart => exact ⟨0, _, rfl, rfl, by omega, by omega, by rw [show ((xs.length : Int) - 1 + 1).toNat = xs.length from by omega, List.drop_length]; rfl⟩
  case round =>
    obtain ⟨x, i, rfl, rfl, hi0, hi1, hh⟩ := hrel
    by_cases hi : 0 ≤ i
    · obtain ⟨i, rfl⟩ := Int.eq_ofNat_of_zero_le hi
      have hlt : i < xs.length := by omega
      rw [show ((i : Int) + 1).toNat = i + 1 from by omega] at hh
      obtain ⟨hd0, hm0, hm1, hm2, hst⟩ := valL_step b hb1 xs H0.out HP.out i hlt
      rw [← hh] at hm0 hm1 hm2 hst
      have HST := Lib.hid hst
      have HE2 : Hid (((i : Int) - 1 + 1).toNat = i) := by show _ = _; omega
      clear hh hst
      obtain ⟨rfl, -⟩ := Ha.out (by omega)
      have hcx := Hc.out i hlt
      go_wp2
      go_round
      case rel => exact ⟨x * b + xs[i], (i : Int) - 1, rfl, rfl, by omega, by omega, by rw [HE2.out, HST.out]⟩
      case measure => simp [intOf] <;> omega
    · have HE : Hid ((i + 1).toNat = 0) := by show _ = _; omega
      have HH := Lib.hid hh; clear hh
      go_wp2
      go_ret
      exact ⟨by rw [HH.out, HE.out] <;> rfl, rfl⟩

end Go.Proofs.YtdpddbajeldgiaaDoor
