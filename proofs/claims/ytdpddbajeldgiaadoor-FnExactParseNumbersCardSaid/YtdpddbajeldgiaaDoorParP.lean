/- Numbers parsed from text: the plain law. Plain. Conditions: those of each lemma. -/
import Derived.Test.YtdpddbajeldgiaaDoorRepA
import Derived.Lib.AtoiAllCases
namespace Go.Proofs.YtdpddbajeldgiaaDoor
set_option linter.unusedVariables false
open Go.RowKit

def dvA (acc : Nat) : List UInt8 → Nat
  | [] => acc
  | c :: r => dvA (acc * 10 + (c.toNat - 48)) r
def digC (c : UInt8) : Bool := decide (48 ≤ c.toNat) && decide (c.toNat ≤ 57)
def digL (l : List UInt8) : Bool := l.all digC
theorem digC_t {c : UInt8} : digC c = true ↔ 48 ≤ c.toNat ∧ c.toNat ≤ 57 := by simp [digC]
theorem dvA_le : ∀ (l : List UInt8) (acc : Nat), acc ≤ dvA acc l
  | [], acc => Nat.le_refl _
  | c :: r, acc => Nat.le_trans (by omega) (dvA_le r (acc * 10 + (c.toNat - 48)))
theorem dvA_app : ∀ (a b : List UInt8) (acc : Nat), dvA acc (a ++ b) = dvA (dvA acc a) b
  | [], b, acc => rfl
  | c :: r, b, acc => dvA_app r b _
theorem parse_ok : ∀ (l : List UInt8) (acc : Nat), digL l = true → dvA acc l < 18446744073709551616 → Lib.parseUint10 acc l = .ok (dvA acc l)
  | [], acc, _, _ => rfl
  | c :: r, acc, hd, h => by
    have h1 : digC c = true ∧ digL r = true := by simpa [digL] using hd
    have h2 := digC_t.1 h1.1
    have h3 := dvA_le r (acc * 10 + (c.toNat - 48))
    have h4 : dvA acc (c :: r) = dvA (acc * 10 + (c.toNat - 48)) r := rfl
    have h5 := parse_ok r _ h1.2 h
    rw [Lib.parseUint10, if_pos h2, if_neg (by omega), if_neg (by omega), h5]
    rfl
theorem dig_toNat (k : Nat) (h : k < 10) : (UInt8.ofNat (48 + k)).toNat = 48 + k := by simp [UInt8.toNat_ofNat']; omega
theorem dec_all : ∀ (f u : Nat), u < f → digL (Lib.decDigits u) = true ∧ dvA 0 (Lib.decDigits u) = u ∧ Lib.decDigits u ≠ [] := by
  intro f
  induction f with
  | zero => intro u h; omega
  | succ f ih =>
    intro u h
    by_cases h9 : u < 10
    · have e := dig_toNat u h9
      rw [Lib.decDigits_one h9]
      refine ⟨?_, ?_, by simp⟩
      · simp only [digL, List.all_cons, List.all_nil, Bool.and_true]
        rw [digC_t, e]; omega
      · show 0 * 10 + ((UInt8.ofNat (48 + u)).toNat - 48) = u
        rw [e]; omega
    · have e := dig_toNat (u % 10) (by omega)
      obtain ⟨i1, i2, i3⟩ := ih (u / 10) (by omega)
      rw [decDigits_big u (by omega)]
      refine ⟨?_, ?_, by simp⟩
      · simp only [digL, List.all_append, Bool.and_eq_true, List.all_cons, List.all_nil, Bool.and_true]
        refine ⟨i1, ?_⟩
        rw [digC_t, e]; omega
      · rw [dvA_app, i2]
        show u / 10 * 10 + ((UInt8.ofNat (48 + u % 10)).toNat - 48) = u
        rw [e]; omega
theorem dec_len (u : Nat) (h : u ≤ 9223372036854775808) : (Lib.decDigits u).length ≤ 19 := by
  rw [Lib.decDigits_length]
  rcases Nat.lt_or_ge u (10 ^ 18) with h1 | h1
  · rcases Nat.lt_or_ge 19 (Lib.nDigits u) with h2 | h2
    · exfalso
      have := Lib.nDigits_le20 u (by omega)
      have h3 : Lib.nDigits u = 20 := by omega
      have : ∀ k, k ≤ 18 → u < 10 ^ k → Lib.nDigits u ≤ k + 1 := by
        intro k
        induction k with
        | zero => intro _ h; rw [Lib.nDigits_small (by omega)]; omega
        | succ k ih =>
          intro hk h
          rcases Nat.lt_or_ge u (10 ^ k) with h4 | h4
          · have := ih (by omega) h4; omega
          · have := Lib.nDigits_unique k u h4 h; omega
      have := this 18 (Nat.le_refl _) h1
      omega
    · exact h2
  · rw [Lib.nDigits_unique 18 u h1 (by omega)]
    omega
theorem mag_ok (u : Nat) (h : u ≤ 9223372036854775808) : Lib.parseMag (Lib.decDigits u) = .ok u := by
  obtain ⟨h1, h2, h3⟩ := dec_all (u + 1) u (by omega)
  rw [Lib.parseMag, if_neg h3, parse_ok _ 0 h1 (by rw [h2]; omega), h2]
theorem dec_head (u : Nat) : ∃ c r, Lib.decDigits u = c :: r ∧ digC c = true := by
  obtain ⟨h1, h2, h3⟩ := dec_all (u + 1) u (by omega)
  cases hd : Lib.decDigits u with
  | nil => exact absurd hd h3
  | cons c r =>
    rw [hd] at h1
    exact ⟨c, r, rfl, by simp [digL] at h1; exact h1.1⟩
theorem atoi_itoa (v : Int) (h : i64B v) : Lib.atoiAll (Lib.itoa v) = .ok v := by
  obtain ⟨h0, h1⟩ := h
  by_cases hn : v < 0
  · have hu := mag_ok v.natAbs (by omega)
    rw [Lib.itoa, if_pos hn, Lib.atoiAll_minus, hu]
    show (if 9223372036854775808 < v.natAbs then Lib.NumEnd.range else Lib.NumEnd.ok (-(v.natAbs : Int))) = _
    rw [if_neg (by omega)]
    congr 1; omega
  · have hu := mag_ok v.toNat (by omega)
    obtain ⟨c, r, e, hc⟩ := dec_head v.toNat
    have hc2 := digC_t.1 hc
    rw [Lib.itoa, if_neg hn, e, Lib.atoiAll_plain c r (by omega) (by omega), ← e, hu]
    show (if 9223372036854775808 ≤ v.toNat then Lib.NumEnd.range else Lib.NumEnd.ok (v.toNat : Int)) = _
    rw [if_neg (by omega)]
    congr 1; omega
/-- the number that a text spells just as the program prints it -/
def pI (s : List UInt8) : Option Int := match Lib.atoiAll s with
  | .ok v => if Lib.itoa v = s then some v else none
  | _ => none
theorem pI_itoa (v : Int) (h : i64B v) : pI (Lib.itoa v) = some v := by rw [pI, atoi_itoa v h]; simp
theorem pI_some {s : List UInt8} {v : Int} (h : pI s = some v) : i64B v ∧ s = Lib.itoa v := by
  unfold pI at h
  cases ha : Lib.atoiAll s
  case ok u =>
    rw [ha] at h
    simp only at h
    split at h
    · rename_i e
      obtain rfl := Option.some.inj h
      exact ⟨Lib.atoiAll_bounds ha, e.symm⟩
    · cases h
  all_goals
    rw [ha] at h
    cases h
theorem pI_bad {s : List UInt8} (h : ∀ v, Lib.atoiAll s ≠ .ok v) : pI s = none := by
  unfold pI
  cases ha : Lib.atoiAll s
  case ok u => exact absurd ha (h u)
  all_goals rfl
theorem atoi_three (s : List UInt8) : (∃ v, Lib.atoiAll s = .ok v) ∨ Lib.atoiAll s = .range ∨ ((∀ v, Lib.atoiAll s ≠ .ok v) ∧ Lib.atoiAll s ≠ .range) := by
  cases ha : Lib.atoiAll s
  case ok u => exact .inl ⟨u, rfl⟩
  case range => exact .inr (.inl rfl)
  all_goals exact .inr (.inr ⟨fun v h => (by cases h), fun h => (by cases h)⟩)
theorem pI_none {s : List UInt8} (h : ∀ v, i64B v → s ≠ Lib.itoa v) : pI s = none := by
  cases hp : pI s with
  | none => rfl
  | some v => obtain ⟨h1, h2⟩ := pI_some hp; exact absurd h2 (h v h1)
/-- the reference's way: the bytes behind the sign -/
def sT (s : List UInt8) : List UInt8 := match s with
  | [] => []
  | c :: r => if c.toNat = 45 then r else c :: r
def sNeg (s : List UInt8) : Bool := match s with
  | [] => false
  | c :: _ => decide (c.toNat = 45)
theorem itoa_sT (v : Int) : sT (Lib.itoa v) = Lib.decDigits v.natAbs ∧ sNeg (Lib.itoa v) = decide (v < 0) := by
  by_cases hn : v < 0
  · rw [Lib.itoa, if_pos hn]
    refine ⟨rfl, ?_⟩
    simp [sNeg, hn]
  · obtain ⟨c, r, e, hc⟩ := dec_head v.toNat
    have hc2 := digC_t.1 hc
    have e2 : v.natAbs = v.toNat := by omega
    rw [Lib.itoa, if_neg hn, e2, e]
    refine ⟨?_, ?_⟩
    · simp only [sT]; rw [if_neg (by omega)]
    · simp only [sNeg]; rw [decide_eq_false (by omega), decide_eq_false hn]
/-- where the reference turns a text away, no number is spelled by it -/
theorem pI_form {s : List UInt8} {v : Int} (h : pI s = some v) : digL (sT s) = true ∧ sT s ≠ [] ∧ (sT s).length ≤ 19 ∧ dvA 0 (sT s) = v.natAbs ∧ sNeg s = decide (v < 0) ∧ i64B v ∧ s = Lib.itoa v := by
  obtain ⟨h1, h2⟩ := pI_some h
  obtain ⟨h3, h4⟩ := itoa_sT v
  obtain ⟨d1, d2, d3⟩ := dec_all (v.natAbs + 1) v.natAbs (by omega)
  have h5 := dec_len v.natAbs (by have := h1.1; have := h1.2; omega)
  rw [h2, h3]
  exact ⟨d1, d3, h5, d2, h4, h1, rfl⟩
/-! the pieces between the commas -/
def splitL : List UInt8 → List (List UInt8)
  | [] => [[]]
  | c :: r => if c = 44 then [] :: splitL r else match splitL r with
    | [] => [[c]]
    | h :: t => (c :: h) :: t
theorem splitL_none : ∀ s : List UInt8, (∀ c ∈ s, c ≠ 44) → splitL s = [s]
  | [], _ => rfl
  | c :: r, h => by
    rw [splitL, if_neg (h c List.mem_cons_self), splitL_none r (fun x hx => h x (List.mem_cons_of_mem _ hx))]
theorem splitL_at : ∀ a r : List UInt8, (∀ c ∈ a, c ≠ 44) → splitL (a ++ 44 :: r) = a :: splitL r
  | [], r, _ => by rw [List.nil_append, splitL, if_pos rfl]
  | c :: a, r, h => by
    rw [List.cons_append, splitL, if_neg (h c List.mem_cons_self), splitL_at a r (fun x hx => h x (List.mem_cons_of_mem _ hx))]
theorem splitL_len : ∀ s : List UInt8, (splitL s).length ≤ s.length + 1
  | [] => Nat.le_refl _
  | c :: r => by
    have ih := splitL_len r
    rw [splitL]
    split
    · simp only [List.length_cons]; omega
    · split
      · simp
      · rename_i h t e; rw [e] at ih; simp only [List.length_cons] at ih ⊢; omega
theorem splitL_mem : ∀ s : List UInt8, ∀ x ∈ splitL s, x.length ≤ s.length
  | [], x, hx => by simp [splitL] at hx; rw [hx]; simp
  | c :: r, x, hx => by
    have ih := splitL_mem r
    rw [splitL] at hx
    split at hx
    · rcases List.mem_cons.1 hx with rfl | hx
      · simp
      · have := ih x hx; simp only [List.length_cons]; omega
    · split at hx
      · simp at hx; rw [hx]; simp
      · rename_i h t e
        rw [e] at ih
        rcases List.mem_cons.1 hx with rfl | hx
        · have := ih h List.mem_cons_self; simp only [List.length_cons]; omega
        · have := ih x (List.mem_cons_of_mem _ hx); simp only [List.length_cons]; omega
/-- the numbers of the pieces, behind acc; none where one is no number, or there are more than sixty -/
def colN : List (List UInt8) → List Int → Option (List Int)
  | [], acc => some acc
  | x :: r, acc => match pI x with
    | none => none
    | some n => if acc.length = 60 then none else colN r (acc ++ [n])
def pN (s : List UInt8) : Option (List Int) := if s = [45] then some [] else colN (splitL s) []
theorem colN_len : ∀ (l : List (List UInt8)) (acc xs : List Int), acc.length ≤ 60 → colN l acc = some xs → xs.length ≤ 60
  | [], acc, xs, h, e => by rw [← Option.some.inj e]; exact h
  | x :: r, acc, xs, h, e => by
    rw [colN] at e
    cases hp : pI x with
    | none => rw [hp] at e; cases e
    | some n =>
      rw [hp] at e
      simp only at e
      split at e
      · cases e
      · exact colN_len r _ xs (by simp; omega) e
theorem pN_len {s : List UInt8} {xs : List Int} (h : pN s = some xs) : xs.length ≤ 60 := by
  unfold pN at h
  split at h
  · rw [← Option.some.inj h]; simp
  · exact colN_len _ _ _ (by simp) h

end Go.Proofs.YtdpddbajeldgiaaDoor
