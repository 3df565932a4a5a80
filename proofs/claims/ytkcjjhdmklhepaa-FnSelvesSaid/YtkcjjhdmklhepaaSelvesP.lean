/- Plain facts for the chapter of numbers that refer to themselves: filters of runs, sources, meetings. No program in sight. Conditions: none. -/
import Derived.Test.YtkcjjhdmklhepaaLists
namespace Go.Proofs.Ytkcjjhdmklhepaa
set_option linter.unusedVariables false
open Go.RowKit

def dsum (n b : Int) : Int := sumL (digs n b)
theorem dsum_bd (n b : Int) (h1 : 2 ≤ b) (h2 : b ≤ 16) : 0 ≤ dsum n b ∧ dsum n b ≤ 960 := digs_sum_bd n b h1 h2
theorem dsum_step (n b : Int) (h1 : 2 ≤ b) (h0 : 0 < n) (hn : n ≤ 9223372036854775807) : dsum n b = n % b + dsum (n / b) b := by
  unfold dsum; rw [digs_pos n b h1 h0 hn]; rfl
theorem dsum_zero (n b : Int) (h : n ≤ 0) : dsum n b = 0 := by unfold dsum; rw [digs_zero n b h]; rfl
theorem dsum_pos (n b : Int) (h1 : 2 ≤ b) (h0 : 0 < n) (hn : n ≤ 4611686018427387904) : 1 ≤ dsum n b := by
  have key : ∀ (f : Nat) (n : Int), n.toNat ≤ f → 0 < n → n ≤ 4611686018427387904 → 1 ≤ dsum n b := by
    intro f
    induction f with
    | zero => intro n hf h0 _; omega
    | succ f ih =>
      intro n hf h0 hn
      rw [dsum_step n b h1 h0 (by omega)]
      have hm := mod_bd n b (by omega)
      have hs : 0 ≤ dsum (n / b) b := sumL_nonneg _ (fun x hx => (digs_mem _ b h1 x hx).1)
      have hh := div_half n b (by omega) h1
      by_cases hz : n % b = 0
      · have he : b * (n / b) + n % b = n := Int.mul_ediv_add_emod n b
        have : 0 < n / b := by
          rcases Int.lt_or_le 0 (n / b) with h | h
          · exact h
          · have : n / b = 0 := by omega
            rw [this, hz] at he; omega
        have := ih (n / b) (by omega) this (by omega)
        omega
      · omega
  exact key n.toNat n (Nat.le_refl _) h0 hn
/-- a number below 2^f has at most f digits -/
theorem dsum_le_f (b : Int) (h1 : 2 ≤ b) : ∀ (f : Nat) (n : Int), f ≤ 62 → n < 2 ^ f → dsum n b ≤ (b - 1) * f := by
  intro f
  induction f with
  | zero => intro n _ h; rw [dsum_zero n b (by simp at h; omega)]; simp
  | succ f ih =>
    intro n hf h
    rw [Int.pow_succ] at h
    have e : (b - 1) * ((f + 1 : Nat) : Int) = (b - 1) * f + (b - 1) := by rw [Int.natCast_add, Int.mul_add]; simp
    rw [e]
    by_cases h0 : 0 < n
    · have h62 : (2 : Int) ^ f ≤ 2 ^ 61 := pow_monoU 2 (by omega) f 61 (by omega)
      rw [dsum_step n b h1 h0 (by omega)]
      have hh := div_half n b (by omega) h1
      have := ih (n / b) (by omega) (by omega)
      have := mod_bd n b (by omega)
      omega
    · rw [dsum_zero n b (by omega)]
      have : 0 ≤ (b - 1) * (f : Int) := Int.mul_nonneg (by omega) (by omega)
      omega
theorem dsum_le20 (n b : Int) (h1 : 2 ≤ b) (hn : n ≤ 1000000) : dsum n b ≤ 20 * b - 20 := by
  have := dsum_le_f b h1 20 n (by omega) (by omega)
  omega

/-! the numbers lo, .., lo + k - 1 that satisfy P -/
def upto (P : Int → Bool) (lo : Int) : Nat → List Int
  | 0 => []
  | k + 1 => upto P lo k ++ (if P (lo + k) then [lo + k] else [])
theorem upto_yes {P : Int → Bool} {lo : Int} {k : Nat} (h : P (lo + k) = true) : upto P lo (k + 1) = upto P lo k ++ [lo + k] := by simp [upto, h]
theorem upto_no {P : Int → Bool} {lo : Int} {k : Nat} (h : P (lo + k) = false) : upto P lo (k + 1) = upto P lo k := by simp [upto, h]
theorem upto_len (P : Int → Bool) (lo : Int) (k : Nat) : (upto P lo k).length ≤ k := by
  induction k with
  | zero => simp [upto]
  | succ k ih => simp only [upto]; split <;> simp <;> omega
theorem upto_mem (P : Int → Bool) (lo : Int) (k : Nat) (x : Int) : x ∈ upto P lo k ↔ lo ≤ x ∧ x < lo + k ∧ P x = true := by
  induction k with
  | zero => simp [upto]; omega
  | succ k ih =>
    simp only [upto, List.mem_append, ih]
    by_cases hx : x = lo + k
    · subst hx
      by_cases hp : P (lo + k) = true
      · simp [hp]; omega
      · simp [hp]
    · by_cases hp : P (lo + k) = true
      · simp [hp, hx]; omega
      · simp [hp]; omega
theorem upto_congr {P Q : Int → Bool} {lo : Int} {k : Nat} (h : ∀ x, lo ≤ x → x < lo + k → P x = Q x) : upto P lo k = upto Q lo k := by
  induction k with
  | zero => rfl
  | succ k ih =>
    simp only [upto]
    rw [ih (fun x h1 h2 => h x h1 (by omega)), h (lo + k) (by omega) (by omega)]
/-- what comes first and does not satisfy P can be left out -/
theorem upto_skip {P : Int → Bool} {lo : Int} (d k : Nat) (h : ∀ x, lo ≤ x → x < lo + d → P x = false) : upto P lo (d + k) = upto P (lo + d) k := by
  induction k with
  | zero =>
    have : ∀ d : Nat, (∀ x, lo ≤ x → x < lo + d → P x = false) → upto P lo d = [] := by
      intro d
      induction d with
      | zero => intro _; rfl
      | succ d ih => intro h; rw [upto_no (h _ (by omega) (by omega)), ih (fun x h1 h2 => h x h1 (by omega))]
    exact this d h
  | succ k ih =>
    show upto P lo (d + k + 1) = _
    simp only [upto, ih]
    rw [show lo + ((d + k : Nat) : Int) = lo + d + k from by omega]

/-! sources -/
def isSrc (n b : Int) (m : Int) : Bool := m + dsum m b == n
/-- all sources of a number -/
def srcs (n b : Int) : List Int := upto (isSrc n b) 0 (n + 1).toNat
theorem srcs_from (n b lo : Int) (hb1 : 2 ≤ b) (hb2 : b ≤ 16) (hn0 : 0 ≤ n) (hn : n ≤ 1000000) (h0 : 0 ≤ lo) (h1 : lo ≤ n) (h : lo = 0 ∨ lo ≤ n - 20 * b + 20) : upto (isSrc n b) lo (n + 1 - lo).toNat = srcs n b := by
  unfold srcs
  obtain ⟨d, rfl⟩ := Int.eq_ofNat_of_zero_le h0
  rw [show (n + 1).toNat = d + (n + 1 - d).toNat from by omega, upto_skip d _ ?_]
  · simp
  · intro x hx1 hx2
    have := dsum_le20 x b hb1 (by omega)
    simp only [isSrc, beq_eq_false_iff_ne]
    omega
theorem srcs_len (n b : Int) (hn : n ≤ 1000000) : (srcs n b).length ≤ 1000001 := by
  have := upto_len (isSrc n b) 0 (n + 1).toNat
  unfold srcs; omega
def srcsR (n b : Int) : List Int := if inB b 2 16 && inB n 0 1000000 then srcs n b else []
theorem srcsR_len (n b : Int) : (srcsR n b).length ≤ 1000001 := by
  unfold srcsR
  split
  · rename_i h
    simp only [Bool.and_eq_true, inB_t] at h
    exact srcs_len n b (by omega)
  · simp

/-! the meeting of two sequences -/
def meet (b most n m : Int) : Int :=
  if h : n = m then (if most < n then -1 else n)
  else if h2 : most < min n m + dsum (min n m) b ∨ dsum (min n m) b ≤ 0 ∨ 1000000 < max n m ∨ 1000000 < most then -1
  else meet b most (max n m) (min n m + dsum (min n m) b)
termination_by (2000001 - (n + m)).toNat
decreasing_by omega

theorem meet_eq (b most n : Int) : meet b most n n = if most < n then -1 else n := by rw [meet]; simp
theorem meet_ne (b most n m : Int) (h : n ≠ m) (h2 : 0 < dsum (min n m) b) (h3 : max n m ≤ 1000000) (h4 : most ≤ 1000000) :
    meet b most n m = if most < min n m + dsum (min n m) b then -1 else meet b most (max n m) (min n m + dsum (min n m) b) := by
  rw [meet, dif_neg h]
  by_cases hc : most < min n m + dsum (min n m) b
  · rw [dif_pos (Or.inl hc), if_pos hc]
  · rw [dif_neg (by omega), if_neg hc]
theorem meet_comm (b most n m : Int) : meet b most n m = meet b most m n := by
  by_cases h : n = m
  · rw [h]
  · rw [meet, dif_neg h]
    rw [show meet b most m n = if h2 : most < min m n + dsum (min m n) b ∨ dsum (min m n) b ≤ 0 ∨ 1000000 < max m n ∨ 1000000 < most then -1 else meet b most (max m n) (min m n + dsum (min m n) b) from by rw [meet, dif_neg (Ne.symm h)]]
    rw [Int.min_comm n m, Int.max_comm n m]
theorem meet_big (b most : Int) : ∀ (f : Nat) (n m : Int), (2000001 - (n + m)).toNat ≤ f → most < max n m → meet b most n m = -1 := by
  intro f
  induction f with
  | zero =>
    intro n m hf hm
    rw [meet]
    split
    · rename_i h; subst h; rw [if_pos (by omega)]
    · rw [dif_pos (by omega)]
  | succ f ih =>
    intro n m hf hm
    rw [meet]
    split
    · rename_i h; subst h; rw [if_pos (by omega)]
    · split
      · rfl
      · exact ih _ _ (by omega) (by omega)
theorem meet_out (b most : Int) : ∀ (f : Nat) (n m : Int), (2000001 - (n + m)).toNat ≤ f → meet b most n m = -1 ∨ (max n m ≤ meet b most n m ∧ meet b most n m ≤ most) := by
  intro f
  induction f with
  | zero =>
    intro n m hf
    rw [meet]
    split
    · rename_i h; subst h; split <;> omega
    · rw [dif_pos (by omega)]; omega
  | succ f ih =>
    intro n m hf
    rw [meet]
    split
    · rename_i h; subst h; split <;> omega
    · split
      · omega
      · rename_i h1 h2
        have := ih (max n m) (min n m + dsum (min n m) b) (by omega)
        omega
def meetR (n m b most : Int) : Int := if inB b 2 16 && (inB n 1 1000000 && (inB m 1 1000000 && inB most 1 1000000)) then meet b most n m else -1

/-! Harshad numbers -/
def harsh (n b : Int) : Bool := n % dsum n b == 0
def harshB (n b : Int) : Bool := inB b 2 16 && (inB n 1 1000000000000 && harsh n b)
def harshC (b : Int) (k : Nat) : Int := (upto (fun n => harsh n b) 1 k).length
theorem harshC_succ (b : Int) (k : Nat) : harshC b (k + 1) = harshC b k + if harsh (1 + k) b then 1 else 0 := by
  unfold harshC
  cases h : harsh (1 + (k : Int)) b
  · rw [upto_no h]; simp
  · rw [upto_yes h]; simp

/-! all digits of a base occur -/
def pand (n b : Int) : Bool := (List.range b.toNat).all (fun d => (digs n b).contains (d : Int))

end Go.Proofs.Ytkcjjhdmklhepaa
