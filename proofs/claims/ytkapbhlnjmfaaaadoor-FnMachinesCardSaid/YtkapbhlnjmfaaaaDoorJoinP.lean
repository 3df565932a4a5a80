/- Two machines joined: the value. Plain. Conditions: those of each lemma. -/
import Derived.Test.YtkapbhlnjmfaaaaDoorRedM
namespace Go.Proofs.YtkapbhlnjmfaaaaDoor
set_option linter.unusedVariables false
open Go.RowKit

/-- what stands for the pair of states (s, u) behind digit d -/
def jx (a c : Ma) (s u d : Nat) : Int := (nxM a s d : Int) * (c.final.length : Int) + (nxM c u d : Int)
def jf (both : Bool) (x y : Bool) : Bool := (x && y) || (!both && (x || y))
def jrow (a c : Ma) (s u : Nat) : Nat → List Int
  | 0 => []
  | d + 1 => jrow a c s u d ++ [jx a c s u d]
def jcol (a c : Ma) (s : Nat) : Nat → List Int
  | 0 => []
  | u + 1 => jcol a c s u ++ jrow a c s u a.base.toNat
def jall (a c : Ma) : Nat → List Int
  | 0 => []
  | s + 1 => jall a c s ++ jcol a c s c.final.length
def fcol (a c : Ma) (both : Bool) (s : Nat) : Nat → List Bool
  | 0 => []
  | u + 1 => fcol a c both s u ++ [jf both (finN a s) (finN c u)]
def fall (a c : Ma) (both : Bool) : Nat → List Bool
  | 0 => []
  | s + 1 => fall a c both s ++ fcol a c both s c.final.length
def joinM (a c : Ma) (both : Bool) : Ma := ⟨a.base, jall a c a.final.length, fall a c both a.final.length⟩
theorem jrow_len (a c : Ma) (s u d : Nat) : (jrow a c s u d).length = d := by
  induction d with
  | zero => rfl
  | succ d ih => rw [jrow, List.length_append, ih]; rfl
theorem jcol_len (a c : Ma) (s u : Nat) : (jcol a c s u).length = u * a.base.toNat := by
  induction u with
  | zero => simp [jcol]
  | succ u ih => rw [jcol, List.length_append, ih, jrow_len, Nat.add_mul, Nat.one_mul]
theorem jall_len (a c : Ma) (s : Nat) : (jall a c s).length = s * c.final.length * a.base.toNat := by
  induction s with
  | zero => simp [jall]
  | succ s ih => rw [jall, List.length_append, ih, jcol_len, Nat.add_mul s, Nat.one_mul, Nat.add_mul]
theorem fcol_len (a c : Ma) (both : Bool) (s u : Nat) : (fcol a c both s u).length = u := by
  induction u with
  | zero => rfl
  | succ u ih => rw [fcol, List.length_append, ih]; rfl
theorem fall_len (a c : Ma) (both : Bool) (s : Nat) : (fall a c both s).length = s * c.final.length := by
  induction s with
  | zero => simp [fall]
  | succ s ih => rw [fall, List.length_append, ih, fcol_len, Nat.add_mul, Nat.one_mul]
theorem jx_bd {a c : Ma} (ha : maOk a = true) (hc : maOk c = true) (hb : a.base = c.base) (s u d : Nat) (hs : s < a.final.length) (hu : u < c.final.length) (hd : d < a.base.toNat) :
    0 ≤ jx a c s u d ∧ jx a c s u d < (a.final.length : Int) * (c.final.length : Int) := by
  have h1 := nxM_lt ha s d hs hd
  have h2 := nxM_lt hc u d hu (by rw [← hb]; exact hd)
  unfold jx
  have h3 : ((nxM a s d : Int) + 1) * (c.final.length : Int) ≤ (a.final.length : Int) * (c.final.length : Int) := Int.mul_le_mul_of_nonneg_right (by omega) (by omega)
  rw [Int.add_mul, Int.one_mul] at h3
  have h4 : 0 ≤ (nxM a s d : Int) * (c.final.length : Int) := Int.mul_nonneg (by omega) (by omega)
  omega
theorem jrow_mem (a c : Ma) (s u : Nat) : ∀ d, ∀ x ∈ jrow a c s u d, ∃ e, e < d ∧ x = jx a c s u e := by
  intro d
  induction d with
  | zero => intro x h; cases h
  | succ d ih =>
    intro x h
    rw [jrow] at h
    rcases List.mem_append.1 h with h | h
    · obtain ⟨e, he, e2⟩ := ih x h
      exact ⟨e, by omega, e2⟩
    · rw [List.mem_singleton] at h
      exact ⟨d, by omega, h⟩
theorem jcol_mem (a c : Ma) (s : Nat) : ∀ u, ∀ x ∈ jcol a c s u, ∃ v e, v < u ∧ e < a.base.toNat ∧ x = jx a c s v e := by
  intro u
  induction u with
  | zero => intro x h; cases h
  | succ u ih =>
    intro x h
    rw [jcol] at h
    rcases List.mem_append.1 h with h | h
    · obtain ⟨v, e, h1, h2, h3⟩ := ih x h
      exact ⟨v, e, by omega, h2, h3⟩
    · obtain ⟨e, h1, h2⟩ := jrow_mem a c s u _ x h
      exact ⟨u, e, by omega, h1, h2⟩
theorem jall_mem (a c : Ma) : ∀ s, ∀ x ∈ jall a c s, ∃ r v e, r < s ∧ v < c.final.length ∧ e < a.base.toNat ∧ x = jx a c r v e := by
  intro s
  induction s with
  | zero => intro x h; cases h
  | succ s ih =>
    intro x h
    rw [jall] at h
    rcases List.mem_append.1 h with h | h
    · obtain ⟨r, v, e, h1, h2, h3, h4⟩ := ih x h
      exact ⟨r, v, e, by omega, h2, h3, h4⟩
    · obtain ⟨v, e, h1, h2, h3⟩ := jcol_mem a c s _ x h
      exact ⟨s, v, e, by omega, h1, h2, h3⟩
def joinOk (a c : Ma) : Bool := maOk a && maOk c && decide (a.base = c.base) && decide (a.final.length * c.final.length ≤ 144)
theorem joinM_ok {a c : Ma} (h : joinOk a c = true) (both : Bool) : maOk (joinM a c both) = true := by
  simp only [joinOk, Bool.and_eq_true, decide_eq_true_eq] at h
  obtain ⟨⟨⟨ha, hc⟩, hb⟩, hl⟩ := h
  obtain ⟨q2, q10, n1, n144, -, -⟩ := maOk_t ha
  obtain ⟨-, -, m1, -, -, -⟩ := maOk_t hc
  have hfl : (joinM a c both).final.length = a.final.length * c.final.length := fall_len _ _ _ _
  have hp : 1 * 1 ≤ a.final.length * c.final.length := Nat.mul_le_mul n1 m1
  simp only [maOk, Bool.and_eq_true, inB_t, decide_eq_true_eq, allIn_t]
  refine ⟨⟨⟨⟨q2, q10⟩, by rw [hfl]; omega, by rw [hfl]; omega⟩, ?_⟩, fun x hx => ?_⟩
  · rw [hfl]
    show ((jall a c a.final.length).length : Int) = a.base * _
    rw [jall_len, Int.natCast_mul, Int.toNat_of_nonneg (by omega), Int.mul_comm]
  · obtain ⟨r, v, e, h1, h2, h3, rfl⟩ := jall_mem a c _ x hx
    have := jx_bd ha hc hb r v e h1 h2 h3
    rw [hfl, Int.natCast_mul]
    omega

end Go.Proofs.YtkapbhlnjmfaaaaDoor
