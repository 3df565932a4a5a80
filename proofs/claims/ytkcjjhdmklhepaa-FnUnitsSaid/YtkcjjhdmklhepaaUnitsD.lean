/- Engel values: program and reference. Conditions: those of each contract. -/
import Derived.Test.YtkcjjhdmklhepaaUnitsB
import Derived.Test.YtkcjjhdmklhepaaRange
namespace Go.Proofs.Ytkcjjhdmklhepaa
set_option linter.unusedVariables false
open Go.RowKit

/-- the top of the sum over the product -/
def topS : List Int → Int
  | [] => 0
  | _ :: xs => prodL xs + topS xs
theorem topS_snoc (xs : List Int) (n : Int) : topS (xs ++ [n]) = topS xs * n + 1 := by
  induction xs with
  | nil => simp [topS, prodL]
  | cons x xs ih => simp only [List.cons_append, topS, ih, prodL_snoc, Int.add_mul]; omega
theorem topS_bd (xs : List Int) (h : ∀ x ∈ xs, 1 ≤ x) : 0 ≤ topS xs ∧ topS xs ≤ xs.length * prodL xs := by
  induction xs with
  | nil => simp [topS]
  | cons x xs ih =>
    have h1 := h x (by simp)
    have h0 : ∀ y ∈ xs, 1 ≤ y := fun y hy => h y (by simp [hy])
    have h2 := ih h0
    have h3 := prodL_pos xs h0
    have h4 : 1 * prodL xs ≤ x * prodL xs := Int.mul_le_mul_of_nonneg_right h1 (by omega)
    have h5 : (xs.length : Int) * prodL xs ≤ xs.length * (x * prodL xs) := Int.mul_le_mul_of_nonneg_left (by omega) (by omega)
    simp only [topS, prodL, List.length_cons]
    have e : ((xs.length + 1 : Nat) : Int) * (x * prodL xs) = xs.length * (x * prodL xs) + x * prodL xs := by rw [Int.natCast_add, Int.add_mul]; simp
    omega
theorem topS_bd' (xs : List Int) (h : ∀ x ∈ xs, 1 ≤ x) (hp : prodL xs ≤ 1000000000) (hl : xs.length ≤ 1048576) : 0 ≤ topS xs ∧ topS xs ≤ 1048576000000000 := by
  have h1 := topS_bd xs h
  have h2 := prodL_pos xs h
  have h3 : (xs.length : Int) * prodL xs ≤ 1048576 * 1000000000 := Int.mul_le_mul (by omega) hp (by omega) (by omega)
  omega
def evB (xs : List Int) : Bool := !xs.isEmpty && (allIn xs 1 1000 && decide (prodL xs ≤ 1000000000))
def evP (xs : List Int) : Int := if evB xs then topS xs / gcdZ (topS xs) (prodL xs) else 0
def evQ (xs : List Int) : Int := if evB xs then prodL xs / gcdZ (topS xs) (prodL xs) else 0
theorem prodL_take_le (xs : List Int) (h : ∀ x ∈ xs, 1 ≤ x) (k : Nat) : prodL (xs.take k) ≤ prodL xs := by
  have h1 := prodL_pos (xs.take k) (fun x hx => h x (List.mem_of_mem_take hx))
  have h3 := prodL_pos (xs.drop k) (fun x hx => h x (List.mem_of_mem_drop hx))
  have h4 : prodL (xs.take k) * prodL (xs.drop k) = prodL xs := by rw [← prodL_append, List.take_append_drop]
  have h5 : prodL (xs.take k) * 1 ≤ prodL (xs.take k) * prodL (xs.drop k) := Int.mul_le_mul_of_nonneg_left h3 (by omega)
  omega
theorem mul_e9k (q n : Int) (h1 : 1 ≤ q) (h2 : q ≤ 1000000000) (h3 : 1 ≤ n) (h4 : n ≤ 1000) : 1 ≤ q * n ∧ q * n ≤ 1000000000000 := by
  have h5 : 1 * 1 ≤ q * n := Int.mul_le_mul h1 h3 (by omega) (by omega)
  have h6 : q * n ≤ 1000000000 * 1000 := Int.mul_le_mul h2 h4 (by omega) (by omega)
  omega
set_option maxHeartbeats 1000000 in
theorem EngelValue_any (a : Option Addr) (cap : Nat) (xs : List Int) (w : World) (hx : Ints w w.heap.size a cap xs) (hlen : xs.length ≤ 1048576) :
    Calls Try.prog 24 #[.slice a xs.length cap] w fun e w' => e = .returned (.tuple #[.int .i64 (evP xs), .int .i64 (evQ xs), .bool (evB xs)]) ∧ Below w.heap.size w w' := by
  have hl := hx.len
  have HX := Lib.hid hx
  cases hz : xs.isEmpty with
  | true =>
    obtain rfl : xs = [] := List.isEmpty_iff.1 hz
    have HP : Hid (evP [] = 0 ∧ evQ [] = 0 ∧ evB [] = false) := ⟨rfl, rfl, rfl⟩
    rw [HP.out.1, HP.out.2.1, HP.out.2.2]
    clear hx hz hl hlen
    go_enter Try.func24, Try.ntmps24
    go_wp2_with fail
    go_ret3
    exact ⟨rfl, Below.refl _ _⟩
  | false =>
    have hpos : 0 < xs.length := by
      rcases Nat.eq_zero_or_pos xs.length with h | h
      · rw [List.eq_nil_of_length_eq_zero h] at hz; cases hz
      · exact h
    have hne : ((xs.length : Int) == 0) = false := by rw [beq_eq_false_iff_ne]; omega
    cases hall : allIn xs 1 1000
    · have hB : evB xs = false := by simp [evB, hall]
      have HP : Hid (evP xs = 0 ∧ evQ xs = 0) := by show _ ∧ _; simp [evP, evQ, hB]
      rw [HP.out.1, HP.out.2, hB]
      clear hx hz hB
      go_enter Try.func24, Try.ntmps24
      go_wp2_with fail
      refine (allWithin_any _ _ _ _ _ _ HX.out).mono ?_
      rintro e w1 ⟨rfl, hb⟩
      have HB := Lib.hid hb; clear hb
      go_wp2_with fail
      go_ret3
      exact ⟨rfl, HB.out⟩
    have hm := allIn_t.1 hall
    have HM1 : Hid (∀ x ∈ xs, 1 ≤ x) := fun x hx => (hm x hx).1
    have HM2 : Hid (∀ x ∈ xs, x ≤ 1000) := fun x hx => (hm x hx).2
    obtain ⟨-, -, b, off, ha, hc⟩ := hx
    obtain ⟨rfl, hbb⟩ := ha hpos
    have Hc := Lib.hid hc; have HBB := Lib.hid hbb
    clear hc ha hm hbb
    go_enter Try.func24, Try.ntmps24
    go_wp2_with fail
    refine (allWithin_any _ _ _ _ _ _ HX.out).mono ?_
    rintro e w1 ⟨rfl, hb⟩
    have hs1 := hb.size
    have HB := Lib.hid hb; clear hb
    go_wp2_with fail
    go_loop [5, 23] (fun qv iv => ∃ k : Nat, k ≤ xs.length ∧ iv = .int .i64 k ∧ qv = .int .i64 (prodL (xs.take k)) ∧ prodL (xs.take k) ≤ 1000000000) (fun _ iv => xs.length - (intOf iv).toNat)
    case atStart => exact ⟨0, Nat.zero_le _, rfl, rfl, by simp [prodL]⟩
    case round =>
      obtain ⟨k, hk, rfl, rfl, hpk⟩ := hrel
      by_cases hlt : k < xs.length
      · have hcx := (HB.out.cell (p := ⟨b, off + k, none⟩) HBB.out).trans (Hc.out k hlt)
        obtain ⟨s1, s2, s3, s4, s5⟩ := prodL_step xs HM1.out k hlt
        have hx2 := HM2.out xs[k] (List.getElem_mem hlt)
        obtain ⟨m1, m2⟩ := mul_e9k (prodL (xs.take k)) xs[k] s1 hpk s3 hx2
        have S2 := Lib.hid s2
        clear s2
        by_cases hbig : 1000000000 < prodL (xs.take k) * xs[k]
        · have hB : evB xs = false := by
            have : ¬ prodL xs ≤ 1000000000 := by omega
            simp [evB, this]
          have HP : Hid (evP xs = 0 ∧ evQ xs = 0 ∧ evB xs = false) := by show _ ∧ _; simp [evP, evQ, hB]
          clear hB hz hall
          go_wp2_with fail
          go_ret3
          exact ⟨by rw [HP.out.1, HP.out.2.1, HP.out.2.2] <;> rfl, HB.out⟩
        · go_wp2_with fail
          go_round
          case rel => exact ⟨k + 1, by omega, by go_num, by rw [S2.out], by rw [S2.out]; omega⟩
          case measure => simp [intOf] <;> omega
      · obtain rfl : k = xs.length := by omega
        have htk : xs.take xs.length = xs := List.take_length
        rw [htk] at hpk
        have hB : evB xs = true := by simp [evB, hz, hall, hpk]
        have HP : Hid (evP xs = topS xs / gcdZ (topS xs) (prodL xs) ∧ evQ xs = prodL xs / gcdZ (topS xs) (prodL xs) ∧ evB xs = true) := by show _ ∧ _; simp [evP, evQ, hB]
        have hP1 := prodL_pos xs HM1.out
        obtain ⟨ht0, ht1⟩ := topS_bd' xs HM1.out hpk hlen
        clear hB hz hall
        rw [htk]
        clear htk
        go_wp2_with fail
        go_loop [8, 9, 36] (fun sv pv iv => ∃ (k : Nat) (s : Int), k ≤ xs.length ∧ iv = .int .i64 k ∧ pv = .int .i64 (prodL (xs.drop k)) ∧ sv = .int .i64 s ∧ s + topS (xs.drop k) = topS xs ∧ 0 ≤ s) (fun _ _ iv => xs.length - (intOf iv).toNat)
        case atStart => exact ⟨0, 0, Nat.zero_le _, rfl, rfl, rfl, by simp, by omega⟩
        case round =>
          obtain ⟨k, s, hk, rfl, rfl, rfl, hsum, hs0⟩ := hrel
          have HSUM := Lib.hid hsum; clear hsum
          by_cases hlt : k < xs.length
          · have hcx := (HB.out.cell (p := ⟨b, off + k, none⟩) HBB.out).trans (Hc.out k hlt)
            have hx1 := HM1.out xs[k] (List.getElem_mem hlt)
            have hD := List.drop_eq_getElem_cons hlt
            have hd1 := prodL_pos (xs.drop (k + 1)) (fun x hx => HM1.out x (List.mem_of_mem_drop hx))
            have hd0 := topS_bd (xs.drop (k + 1)) (fun x hx => HM1.out x (List.mem_of_mem_drop hx))
            have hds : prodL (xs.drop k) = xs[k] * prodL (xs.drop (k + 1)) := by rw [hD]; rfl
            have hdt : topS (xs.drop k) = prodL (xs.drop (k + 1)) + topS (xs.drop (k + 1)) := by rw [hD]; rfl
            have hdv : prodL (xs.drop k) / xs[k] = prodL (xs.drop (k + 1)) := by rw [hds]; exact Int.mul_ediv_cancel_left _ (by omega)
            have hdp := prodL_pos (xs.drop k) (fun x hx => HM1.out x (List.mem_of_mem_drop hx))
            have hdl : prodL (xs.drop (k + 1)) + topS (xs.drop (k + 1)) + s = topS xs := by have := HSUM.out; omega
            have hdl2 : prodL (xs.drop (k + 1)) + s ≤ 1048576000000000 := by omega
            have HDV := Lib.hid hdv; have HDL := Lib.hid hdl
            have hdp2 : prodL (xs.drop k) ≤ 1000000000 := by
              have h4 : prodL (xs.take k) * prodL (xs.drop k) = prodL xs := by rw [← prodL_append, List.take_append_drop]
              have h5 := prodL_pos (xs.take k) (fun x hx => HM1.out x (List.mem_of_mem_take hx))
              have h6 : 1 * prodL (xs.drop k) ≤ prodL (xs.take k) * prodL (xs.drop k) := Int.mul_le_mul_of_nonneg_right h5 (by omega)
              omega
            clear hD hd0 hds hdt hdl
            generalize xs[k] = x at *
            have hdv2 := HDV.out
            go_wp2_with fail
            go_round
            case rel => exact ⟨k + 1, s + prodL (xs.drop (k + 1)), by omega, by go_num, by rw [HDV.out], by first | rfl | rw [HDV.out], by have := HDL.out; omega, by omega⟩
            case measure => simp [intOf] <;> omega
          · obtain rfl : k = xs.length := by omega
            have hse : s = topS xs := by have := HSUM.out; rw [List.drop_length] at this; simpa [topS] using this
            subst hse
            obtain ⟨g1, g2⟩ := gcdZ_bd (topS xs) (prodL xs) ht0 (by omega)
            go_wp2_with fail
            refine (gcd_any _ _ _ (by omega) (by omega) (by omega) (by omega)).mono ?_
            rintro e w3 ⟨rfl, hb3⟩
            have HB3 := Lib.hid (HB.out.trans (hb3.mono hs1))
            clear hb3
            go_wp2_with fail
            go_region
            all_goals
              try go_wp2
              go_ret3
              exact ⟨by rw [HP.out.1, HP.out.2.1, HP.out.2.2] <;> rfl, HB3.out.drew⟩

end Go.Proofs.Ytkcjjhdmklhepaa
