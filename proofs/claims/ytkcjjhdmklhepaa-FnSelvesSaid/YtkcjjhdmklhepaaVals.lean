/- The value of digits with a bound, and digits that end well: plain facts and contracts. Conditions: those of each contract. -/
import Derived.Test.YtkcjjhdmklhepaaRange
namespace Go.Proofs.Ytkcjjhdmklhepaa
set_option linter.unusedVariables false
open Go.RowKit

/-- the value of digits from the highest on; -1 if it passes MaxNumber -/
def horn (b : Int) : List Int → Int → Int
  | [], n => n
  | d :: ds, n => if 1000000000000 < n * b + d then -1 else horn b ds (n * b + d)
def valM (b : Int) (xs : List Int) : Int := horn b xs.reverse 0
theorem take_rev (xs : List Int) (k : Nat) (h : k < xs.length) : (xs.take (k + 1)).reverse = xs[k] :: (xs.take k).reverse := by rw [take_next xs k h]; simp
theorem horn_take (b : Int) (xs : List Int) (k : Nat) (h : k < xs.length) (n : Int) :
    horn b (xs.take (k + 1)).reverse n = if 1000000000000 < n * b + xs[k] then -1 else horn b (xs.take k).reverse (n * b + xs[k]) := by rw [take_rev xs k h]; rfl
theorem horn_bd (b : Int) (hb : 2 ≤ b) : ∀ (xs : List Int) (n : Int), (∀ d ∈ xs, 0 ≤ d) → 0 ≤ n → n ≤ 1000000000000 → horn b xs n = -1 ∨ 0 ≤ horn b xs n ∧ horn b xs n ≤ 1000000000000 := by
  intro xs
  induction xs with
  | nil => intro n _ h0 h1; right; exact ⟨h0, h1⟩
  | cons d ds ih =>
    intro n h h0 h1
    simp only [horn]
    split
    · left; rfl
    · have h2 := h d (by simp)
      have h3 : 0 ≤ n * b := Int.mul_nonneg h0 (by omega)
      exact ih _ (fun x hx => h x (by simp [hx])) (by omega) (by omega)
theorem mul_bd16 (n b : Int) (h0 : 0 ≤ n) (h1 : n ≤ 1000000000000) (hb1 : 2 ≤ b) (hb2 : b ≤ 16) : 0 ≤ n * b ∧ n * b ≤ 16000000000000 := by
  refine ⟨Int.mul_nonneg h0 (by omega), ?_⟩
  have : n * b ≤ 1000000000000 * 16 := Int.mul_le_mul h1 hb2 (by omega) (by omega)
  omega

/-- at most 60 digits, and the last is not 0 -/
def ends (xs : List Int) : Bool := decide (xs.length ≤ 60) && !(xs.getLast? == some 0)
theorem endsWell_any (a : Option Addr) (cap : Nat) (xs : List Int) (w : World) (hx : Ints w w.heap.size a cap xs) :
    Calls Try.prog 76 #[.slice a xs.length cap] w fun e w' => e = .returned (.bool (ends xs)) ∧ w = w' := by
  have hl := hx.len
  obtain ⟨-, -, bk, off, ha, hc⟩ := hx
  by_cases h60 : xs.length ≤ 60
  · cases hm : xs.length with
    | zero =>
      have HF : Hid (ends xs = true) := by
        show _ = _
        have : xs = [] := List.eq_nil_of_length_eq_zero hm
        subst this; rfl
      clear ha hc h60 hl hm
      go_enter Try.func76, Try.ntmps76
      go_wp2
      go_ret
      exact ⟨by rw [HF.out]; rfl, rfl⟩
    | succ m =>
      obtain ⟨rfl, -⟩ := ha (by omega)
      have hcx := hc m (by omega)
      have HF : Hid (ends xs = (xs[m] != 0)) := by
        show _ = _
        have e : xs.getLast? = some xs[m] := by rw [List.getLast?_eq_getElem?, show xs.length - 1 = m from by omega, List.getElem?_eq_getElem (by omega)]
        unfold ends
        rw [e, decide_eq_true h60, Bool.true_and]
        rfl
      have hne : ((((m + 1 : Nat)) : Int) == 0) = false := by rw [beq_eq_false_iff_ne]; omega
      have hne2 : ((m : Int) + 1 == 0) = false := by rw [beq_eq_false_iff_ne]; omega
      have hle : m + 1 ≤ 60 := by omega
      clear ha hc hl
      generalize xs[m] = y at *
      clear hm h60
      go_enter Try.func76, Try.ntmps76
      go_wp2
      go_ret
      exact ⟨by rw [HF.out]; rfl, rfl⟩
  · have HF : Hid (ends xs = false) := by show _ = _; unfold ends; rw [decide_eq_false h60]; rfl
    clear ha hc
    go_enter Try.func76, Try.ntmps76
    go_wp2
    go_ret
    exact ⟨by rw [HF.out]; rfl, rfl⟩
def digOk (xs : List Int) (b : Int) : Bool := inB b 2 16 && (ends xs && allIn xs 0 (b - 1))
set_option maxHeartbeats 400000 in
theorem DigitsOk_any (a : Option Addr) (cap : Nat) (xs : List Int) (b : Int) (w : World) (hx : Ints w w.heap.size a cap xs) :
    Calls Try.prog 69 #[.slice a xs.length cap, .int .i64 b] w fun e w' => e = .returned (.bool (digOk xs b)) ∧ Below w.heap.size w w' := by
  have HX := Lib.hid hx; clear hx
  cases hb : inB b 2 16
  · go_enter Try.func69, Try.ntmps69
    go_wp2_with (first | (go_at_call 46; refine (BaseOk_any _ _).mono ?_; rintro e w' ⟨rfl, rfl⟩))
    go_ret
    exact ⟨by simp [digOk, hb], Below.refl _ _⟩
  cases he : ends xs
  · go_enter Try.func69, Try.ntmps69
    go_wp2_with (first | (go_at_call 46; refine (BaseOk_any _ _).mono ?_; rintro e w' ⟨rfl, rfl⟩) | (go_at_call 76; refine (endsWell_any _ _ _ _ HX.out).mono ?_; rintro e w' ⟨rfl, rfl⟩))
    go_ret
    exact ⟨by simp [digOk, hb, he], Below.refl _ _⟩
  obtain ⟨hb1, hb2⟩ := inB_t.1 hb
  go_enter Try.func69, Try.ntmps69
  go_wp2_with (first | (go_at_call 46; refine (BaseOk_any _ _).mono ?_; rintro e w' ⟨rfl, rfl⟩) | (go_at_call 76; refine (endsWell_any _ _ _ _ HX.out).mono ?_; rintro e w' ⟨rfl, rfl⟩))
  refine (allWithin_any _ _ _ _ _ _ HX.out).mono ?_
  rintro e w1 ⟨rfl, hbl⟩
  have HB := Lib.hid hbl; clear hbl
  go_wp2_with fail
  go_ret
  exact ⟨by simp [digOk, hb, he], HB.out⟩
/-- the value and whether there is one -/
def valOk (xs : List Int) (b : Int) : Bool := digOk xs b && !(valM b xs == -1)
def valV (xs : List Int) (b : Int) : Int := if valOk xs b then valM b xs else 0
theorem valOk_no {xs : List Int} {b : Int} (h : digOk xs b = false) : valOk xs b = false ∧ valV xs b = 0 := by simp [valOk, valV, h]
theorem valOk_big {xs : List Int} {b : Int} (h : valM b xs = -1) : valOk xs b = false ∧ valV xs b = 0 := by simp [valOk, valV, h]
theorem valOk_yes {xs : List Int} {b : Int} (h : digOk xs b = true) (h2 : valM b xs ≠ -1) : valOk xs b = true ∧ valV xs b = valM b xs := by simp [valOk, valV, h, h2]
def ValR (w : World) (xs : List Int) (b : Int) (e : Ending) (w' : World) : Prop := e = .returned (.tuple #[.int .i64 (valV xs b), .bool (valOk xs b)]) ∧ Below w.heap.size w w'
set_option maxHeartbeats 400000 in
theorem ValueOf_any (a : Option Addr) (cap : Nat) (xs : List Int) (b : Int) (w : World) (hx : Ints w w.heap.size a cap xs) :
    Calls Try.prog 50 #[.slice a xs.length cap, .int .i64 b] w (ValR w xs b) := by
  have hl := hx.len
  have HX := Lib.hid hx
  cases hd : digOk xs b
  · obtain ⟨h1, h2⟩ := valOk_no hd
    have H1 := Lib.hid h1; have H2 := Lib.hid h2; clear h1 h2 hx
    go_enter Try.func50, Try.ntmps50
    go_wp2_with fail
    refine (DigitsOk_any _ _ _ _ _ HX.out).mono ?_
    rintro e w1 ⟨rfl, hbl⟩
    have HB := Lib.hid hbl; clear hbl
    go_wp2_with fail
    go_ret2
    exact ⟨by rw [H1.out, H2.out] <;> rfl, HB.out⟩
  have HD := Lib.hid hd
  have hd' := hd
  simp only [digOk, Bool.and_eq_true, inB_t, allIn_t] at hd'
  obtain ⟨⟨hb1, hb2⟩, -, h0⟩ := hd'
  obtain ⟨-, -, bk, off, ha, hc⟩ := hx
  have Ha := Lib.hid ha; clear ha
  have Hc := Lib.hid hc; clear hc
  have H0 := Lib.hid h0; clear h0
  go_enter Try.func50, Try.ntmps50
  go_wp2_with fail
  refine (DigitsOk_any _ _ _ _ _ HX.out).mono ?_
  rintro e w1 ⟨rfl, hbl⟩
  have hsz := hbl.size
  have HB := Lib.hid hbl; clear hbl
  go_wp2_with fail
  clear hd
  go_loop [6, 7] (fun n k => ∃ x i : Int, n = .int .i64 x ∧ k = .int .i64 i ∧ -1 ≤ i ∧ i < xs.length ∧ 0 ≤ x ∧ x ≤ 1000000000000 ∧ horn b (xs.take (i + 1).toNat).reverse x = valM b xs) (fun _ k => (intOf k + 1).toNat)
  case atStart => exact ⟨0, _, rfl, rfl, by omega, by omega, by omega, by omega, by rw [show ((xs.length : Int) - 1 + 1).toNat = xs.length from by omega, List.take_length]; rfl⟩
  case round =>
    obtain ⟨x, i, rfl, rfl, hi0, hi1, hx0, hx1, hh⟩ := hrel
    have HH := Lib.hid hh; clear hh
    by_cases hi : 0 ≤ i
    · obtain ⟨i, rfl⟩ := Int.eq_ofNat_of_zero_le hi
      have hlt : i < xs.length := by omega
      obtain ⟨rfl, hbk⟩ := Ha.out (by omega)
      have hcx := (HB.out.cell (p := ⟨bk, off + i, none⟩) hbk).trans (Hc.out i hlt)
      obtain ⟨hd0, hd1⟩ := H0.out xs[i] (List.getElem_mem hlt)
      obtain ⟨hm0, hm1⟩ := mul_bd16 x b hx0 hx1 hb1 hb2
      have HT := Lib.hid (horn_take b xs i hlt x)
      have HE : Hid (((i : Int) + 1).toNat = i + 1) := by show _ = _; omega
      have HE2 : Hid (((i : Int) - 1 + 1).toNat = i) := by show _ = _; omega
      by_cases hbig : 1000000000000 < x * b + xs[i]
      · go_wp2
        go_ret2
        have hv : valM b xs = -1 := by rw [← HH.out, HE.out, HT.out, if_pos (by omega)]
        obtain ⟨h1, h2⟩ := valOk_big hv
        exact ⟨by rw [h1, h2] <;> rfl, HB.out⟩
      · go_wp2
        go_round
        case rel => exact ⟨x * b + xs[i], (i : Int) - 1, rfl, rfl, by omega, by omega, by omega, by omega, by rw [HE2.out, ← HH.out, HE.out, HT.out, if_neg (by omega)]⟩
        case measure => simp [intOf] <;> omega
    · have HE : Hid ((i + 1).toNat = 0) := by show _ = _; omega
      go_wp2
      go_ret2
      have hv : valM b xs = x := by rw [← HH.out, HE.out] <;> rfl
      obtain ⟨h1, h2⟩ := valOk_yes HD.out (by rw [hv]; omega)
      exact ⟨by rw [h1, h2, hv] <;> rfl, HB.out⟩

end Go.Proofs.Ytkcjjhdmklhepaa
