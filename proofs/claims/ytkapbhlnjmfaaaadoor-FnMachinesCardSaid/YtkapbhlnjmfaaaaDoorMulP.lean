/- The machines of multiples and of numbers without a digit; joined machines: the plain law. Plain. Conditions: those of each lemma. -/
import Derived.Test.YtkapbhlnjmfaaaaDoorJoinP
import Derived.Test.YtkapbhlnjmfaaaaDoorCntW
import Derived.Test.YtkapbhlnjmfaaaaDoorRedK
namespace Go.Proofs.YtkapbhlnjmfaaaaDoor
set_option linter.unusedVariables false
open Go.RowKit

def muN (k n : Nat) : List Int := (List.range n).map (fun i => ((i % k : Nat) : Int))
def muF (n : Nat) : List Bool := (List.range n).map (fun i => decide (i = 0))
def mulM (b k : Nat) : Ma := ⟨b, muN k (k * b), muF k⟩
def woM (b g : Nat) : Ma := ⟨b, (List.range (2 * b)).map (fun i => if i = g ∨ b ≤ i then 1 else 0), [true, false]⟩
theorem muN_succ (k n : Nat) : muN k (n + 1) = muN k n ++ [((n % k : Nat) : Int)] := by simp [muN, List.range_succ]
theorem muF_succ (n : Nat) : muF (n + 1) = muF n ++ [decide (n = 0)] := by simp [muF, List.range_succ]
theorem muN_len (k n : Nat) : (muN k n).length = n := by simp [muN]
theorem muF_len (n : Nat) : (muF n).length = n := by simp [muF]
theorem mul_ok {b k : Nat} (hb2 : 2 ≤ b) (hb10 : b ≤ 10) (hk1 : 1 ≤ k) (hk12 : k ≤ 12) : maOk (mulM b k) = true := by
  simp only [maOk, Bool.and_eq_true, inB_t, decide_eq_true_eq, allIn_t]
  refine ⟨⟨⟨⟨by show (2 : Int) ≤ (b : Int); omega, by show (b : Int) ≤ 10; omega⟩, ?_, ?_⟩, ?_⟩, fun x hx => ?_⟩
  · show (1 : Int) ≤ ((muF k).length : Int); rw [muF_len]; omega
  · show ((muF k).length : Int) ≤ 144; rw [muF_len]; omega
  · show ((muN k (k * b)).length : Int) = (b : Int) * ((muF k).length : Int)
    rw [muN_len, muF_len, Int.natCast_mul, Int.mul_comm]
  · show 0 ≤ x ∧ x ≤ ((muF k).length : Int) - 1
    rw [muF_len]
    obtain ⟨i, -, rfl⟩ := List.mem_map.1 (show x ∈ muN k (k * b) from hx)
    have := Nat.mod_lt i (show 0 < k by omega)
    omega
theorem wo_ok {b g : Nat} (hb2 : 2 ≤ b) (hb10 : b ≤ 10) : maOk (woM b g) = true := by
  simp only [maOk, Bool.and_eq_true, inB_t, decide_eq_true_eq, allIn_t]
  refine ⟨⟨⟨⟨by show (2 : Int) ≤ (b : Int); omega, by show (b : Int) ≤ 10; omega⟩, by show (1 : Int) ≤ ((2 : Nat) : Int); omega, by show ((2 : Nat) : Int) ≤ 144; omega⟩, ?_⟩, fun x hx => ?_⟩
  · show (((List.range (2 * b)).map (fun i => if i = g ∨ b ≤ i then (1 : Int) else 0)).length : Int) = (b : Int) * 2
    simp; omega
  · show 0 ≤ x ∧ x ≤ 1
    obtain ⟨i, -, rfl⟩ := List.mem_map.1 (show x ∈ (List.range (2 * b)).map (fun i => if i = g ∨ b ≤ i then (1 : Int) else 0) from hx)
    split <;> omega
theorem mul_nx {b k : Nat} (s d : Nat) (hs : s < k) (hd : d < b) : nxM (mulM b k) s d = (s * b + d) % k := by
  have h : s * b + d < k * b := by
    have : (s + 1) * b ≤ k * b := Nat.mul_le_mul_right b hs
    rw [Nat.add_mul] at this
    omega
  show (List.getD (muN k (k * b)) ((s : Int) * (b : Int) + (d : Int)).toNat 0).toNat = _
  rw [show ((s : Int) * (b : Int) + (d : Int)).toNat = s * b + d by rw [← Int.natCast_mul, ← Int.natCast_add, Int.toNat_natCast]]
  simp only [muN, List.getD, List.getElem?_map, List.getElem?_range h, Option.map_some, Option.getD_some]
  exact Int.toNat_natCast _
theorem mul_fin {b k : Nat} (s : Nat) (hs : s < k) : finN (mulM b k) s = decide (s = 0) := by
  show List.getD (muF k) s false = _
  simp [muF, List.getD, hs]
theorem wo_nx {b g : Nat} (s d : Nat) (hs : s < 2) (hd : d < b) : nxM (woM b g) s d = if (s = 0 ∧ d ≠ g) then 0 else 1 := by
  have h : s * b + d < 2 * b := by
    have : (s + 1) * b ≤ 2 * b := Nat.mul_le_mul_right b hs
    rw [Nat.add_mul] at this
    omega
  show (List.getD ((List.range (2 * b)).map (fun i => if i = g ∨ b ≤ i then (1 : Int) else 0)) ((s : Int) * (b : Int) + (d : Int)).toNat 0).toNat = _
  rw [show ((s : Int) * (b : Int) + (d : Int)).toNat = s * b + d by rw [← Int.natCast_mul, ← Int.natCast_add, Int.toNat_natCast]]
  simp only [List.getD, List.getElem?_map, List.getElem?_range h, Option.map_some, Option.getD_some]
  have hs2 : s = 0 ∨ s = 1 := by omega
  rcases hs2 with rfl | rfl
  · by_cases hg : d = g
    · simp [hg]
    · simp [hg, show ¬ b ≤ d by omega]
  · simp
theorem wo_fin {b g : Nat} (s : Nat) (hs : s < 2) : finN (woM b g) s = decide (s = 0) := by
  have hs2 : s = 0 ∨ s = 1 := by omega
  rcases hs2 with rfl | rfl <;> rfl
/-! joined machines -/
theorem getD_app {α : Type} (l r : List α) (i : Nat) (z : α) : (l ++ r).getD i z = if i < l.length then l.getD i z else r.getD (i - l.length) z := by
  by_cases h : i < l.length
  · simp [List.getD, h, List.getElem?_append_left h]
  · rw [if_neg h]
    simp [List.getD, List.getElem?_append_right (show l.length ≤ i by omega)]
theorem jrow_get (a c : Ma) (s u : Nat) : ∀ D d, d < D → (jrow a c s u D).getD d 0 = jx a c s u d := by
  intro D
  induction D with
  | zero => intro d h; omega
  | succ D ih =>
    intro d h
    rw [jrow, getD_app, jrow_len]
    by_cases hd : d < D
    · rw [if_pos hd]; exact ih d hd
    · obtain rfl : d = D := by omega
      simp
theorem jcol_get (a c : Ma) (s : Nat) : ∀ U u d, u < U → d < a.base.toNat → (jcol a c s U).getD (u * a.base.toNat + d) 0 = jx a c s u d := by
  intro U
  induction U with
  | zero => intro u d h; omega
  | succ U ih =>
    intro u d h hd
    rw [jcol, getD_app, jcol_len]
    by_cases hu : u < U
    · have : (u + 1) * a.base.toNat ≤ U * a.base.toNat := Nat.mul_le_mul_right _ hu
      rw [Nat.add_mul] at this
      rw [if_pos (by omega)]; exact ih u d hu hd
    · obtain rfl : u = U := by omega
      rw [if_neg (by omega), show u * a.base.toNat + d - u * a.base.toNat = d by omega]
      exact jrow_get a c s u _ d hd
theorem jall_get (a c : Ma) : ∀ S s u d, s < S → u < c.final.length → d < a.base.toNat → (jall a c S).getD ((s * c.final.length + u) * a.base.toNat + d) 0 = jx a c s u d := by
  intro S
  induction S with
  | zero => intro s u d h; omega
  | succ S ih =>
    intro s u d h hu hd
    rw [jall, getD_app, jall_len]
    by_cases hs : s < S
    · have h1 : (s + 1) * c.final.length ≤ S * c.final.length := Nat.mul_le_mul_right _ hs
      rw [Nat.add_mul] at h1
      have h2 : (s * c.final.length + u + 1) * a.base.toNat ≤ S * c.final.length * a.base.toNat := Nat.mul_le_mul_right _ (by omega)
      rw [Nat.add_mul] at h2
      rw [if_pos (by omega)]; exact ih s u d hs hu hd
    · obtain rfl : s = S := by omega
      have e : (s * c.final.length + u) * a.base.toNat = s * c.final.length * a.base.toNat + u * a.base.toNat := Nat.add_mul _ _ _
      rw [if_neg (by omega), e, show s * c.final.length * a.base.toNat + u * a.base.toNat + d - s * c.final.length * a.base.toNat = u * a.base.toNat + d by omega]
      exact jcol_get a c s _ u d hu hd
theorem fcol_get (a c : Ma) (both : Bool) (s : Nat) : ∀ U u, u < U → (fcol a c both s U).getD u false = jf both (finN a s) (finN c u) := by
  intro U
  induction U with
  | zero => intro u h; omega
  | succ U ih =>
    intro u h
    rw [fcol, getD_app, fcol_len]
    by_cases hu : u < U
    · rw [if_pos hu]; exact ih u hu
    · obtain rfl : u = U := by omega
      simp
theorem fall_get (a c : Ma) (both : Bool) : ∀ S s u, s < S → u < c.final.length → (fall a c both S).getD (s * c.final.length + u) false = jf both (finN a s) (finN c u) := by
  intro S
  induction S with
  | zero => intro s u h; omega
  | succ S ih =>
    intro s u h hu
    rw [fall, getD_app, fall_len]
    by_cases hs : s < S
    · have h1 : (s + 1) * c.final.length ≤ S * c.final.length := Nat.mul_le_mul_right _ hs
      rw [Nat.add_mul] at h1
      rw [if_pos (by omega)]; exact ih s u hs hu
    · obtain rfl : s = S := by omega
      rw [if_neg (by omega), show s * c.final.length + u - s * c.final.length = u by omega]
      exact fcol_get a c both s _ u hu
theorem joinOk_p {a c : Ma} (h : joinOk a c = true) : maOk a = true ∧ maOk c = true ∧ a.base = c.base ∧ a.final.length * c.final.length ≤ 144 := by
  simp only [joinOk, Bool.and_eq_true, decide_eq_true_eq] at h
  exact ⟨h.1.1.1, h.1.1.2, h.1.2, h.2⟩
theorem join_nx {a c : Ma} (h : joinOk a c = true) (both : Bool) (s u d : Nat) (hs : s < a.final.length) (hu : u < c.final.length) (hd : d < a.base.toNat) :
    nxM (joinM a c both) (s * c.final.length + u) d = nxM a s d * c.final.length + nxM c u d := by
  obtain ⟨ha, hc, hb, hl⟩ := joinOk_p h
  obtain ⟨q2, q10, -⟩ := maOk_t ha
  show (List.getD (jall a c a.final.length) (((s * c.final.length + u : Nat) : Int) * a.base + (d : Int)).toNat 0).toNat = _
  have e : (((s * c.final.length + u : Nat) : Int) * a.base + (d : Int)).toNat = (s * c.final.length + u) * a.base.toNat + d := by
    have e1 : ((a.base.toNat : Nat) : Int) = a.base := Int.toNat_of_nonneg (by omega)
    rw [← e1, ← Int.natCast_mul, ← Int.natCast_add, Int.toNat_natCast, Int.toNat_natCast]
  rw [e, jall_get a c _ s u d hs hu hd]
  unfold jx
  rw [← Int.natCast_mul, ← Int.natCast_add, Int.toNat_natCast]
theorem join_fin {a c : Ma} (both : Bool) (s u : Nat) (hs : s < a.final.length) (hu : u < c.final.length) : finN (joinM a c both) (s * c.final.length + u) = jf both (finN a s) (finN c u) := by
  show List.getD (fall a c both a.final.length) _ false = _
  exact fall_get a c both _ s u hs hu
theorem join_ix {n m s u : Nat} (hs : s < n) (hu : u < m) : s * m + u < n * m := by
  have : (s + 1) * m ≤ n * m := Nat.mul_le_mul_right _ hs
  rw [Nat.add_mul] at this
  omega
/-- the counts of the two joined machines add up to the counts of the machines -/
theorem join_cnt {a c : Ma} (h : joinOk a c = true) : ∀ l s u, s < a.final.length → u < c.final.length →
    accN a.base.toNat (nxM (joinM a c true)) (finN (joinM a c true)) l (s * c.final.length + u) + accN a.base.toNat (nxM (joinM a c false)) (finN (joinM a c false)) l (s * c.final.length + u) =
    accN a.base.toNat (nxM a) (finN a) l s + accN a.base.toNat (nxM c) (finN c) l u := by
  obtain ⟨ha, hc, hb, hl⟩ := joinOk_p h
  intro l
  induction l with
  | zero =>
    intro s u hs hu
    simp only [accN, join_fin _ s u hs hu]
    cases finN a s <;> cases finN c u <;> rfl
  | succ l ih =>
    intro s u hs hu
    simp only [accN]
    have e : ∀ (f g p q : Nat → Int) (n : Nat), (∀ x, x < n → f x + g x = p x + q x) → sumR n f + sumR n g = sumR n p + sumR n q := by
      intro f g p q n
      induction n with
      | zero => intro _; rfl
      | succ n ihn =>
        intro hx
        have h1 := ihn (fun x hx2 => hx x (by omega))
        have h2 := hx n (by omega)
        simp only [sumR]
        omega
    refine e _ _ _ _ _ (fun d hd => ?_)
    rw [join_nx h true s u d hs hu hd, join_nx h false s u d hs hu hd]
    exact ih _ _ (nxM_lt ha s d hs hd) (nxM_lt hc u d hu (by rw [← hb]; exact hd))

end Go.Proofs.YtkapbhlnjmfaaaaDoor
