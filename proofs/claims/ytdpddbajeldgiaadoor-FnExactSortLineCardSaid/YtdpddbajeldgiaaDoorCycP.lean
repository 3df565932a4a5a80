/- Iterates of a step: the first repeat, and the cycle turned to its least number. Plain Lean, no program. Conditions: none. -/
import Derived.Test.YtdpddbajeldgiaaDoorFracP
namespace Go.Proofs.YtdpddbajeldgiaaDoor
set_option linter.unusedVariables false

def it (st : Int → Int) (n : Int) : Nat → Int
  | 0 => n
  | k + 1 => st (it st n k)
def itL (st : Int → Int) (n : Int) : Nat → List Int
  | 0 => []
  | k + 1 => itL st n k ++ [it st n k]
section
variable {st : Int → Int} {n : Int}
theorem itL_len (k : Nat) : (itL st n k).length = k := by induction k with
  | zero => rfl
  | succ k ih => simp [itL, ih]
theorem itL_take (k d : Nat) : (itL st n (k + d)).take k = itL st n k := by
  induction d with
  | zero => rw [Nat.add_zero, List.take_of_length_le (by rw [itL_len]; exact Nat.le_refl _)]
  | succ d ih =>
    rw [show k + (d + 1) = (k + d) + 1 by omega, itL, List.take_append_of_le_length (by rw [itL_len]; omega), ih]
theorem itL_mem {k : Nat} {x : Int} : x ∈ itL st n k → ∃ i, i < k ∧ it st n i = x := by
  induction k with
  | zero => intro h; simp [itL] at h
  | succ k ih =>
    intro h
    rcases List.mem_append.1 h with h | h
    · obtain ⟨i, hi, e⟩ := ih h; exact ⟨i, by omega, e⟩
    · simp at h; exact ⟨k, by omega, h.symm⟩
theorem itL_nodup {k : Nat} (h : (itL st n k).Nodup) (hn : it st n k ∉ itL st n k) : (itL st n (k + 1)).Nodup := by
  rw [itL, List.nodup_append]
  exact ⟨h, by simp, fun a ha c hc => by simp at hc; subst hc; exact fun e => hn (e ▸ ha)⟩
theorem itL_split {k : Nat} (h : (itL st n (k + 1)).Nodup) : it st n k ∉ itL st n k := by
  rw [itL, List.nodup_append] at h
  exact fun hx => h.2.2 _ hx _ (by simp) rfl
def hit (st : Int → Int) (n : Int) (j : Nat) : Prop := (itL st n j).Nodup ∧ it st n j ∈ itL st n j
theorem hit_le {j j' : Nat} (h : hit st n j) (h' : hit st n j') : j' ≤ j := by
  rcases Nat.lt_or_ge j j' with hlt | hge
  · exfalso
    have e := itL_take (st := st) (n := n) (j + 1) (j' - (j + 1))
    rw [show j + 1 + (j' - (j + 1)) = j' by omega] at e
    have hs : (itL st n (j + 1)).Nodup := by rw [← e]; exact h'.1.sublist (List.take_sublist _ _)
    exact itL_split hs h.2
  · exact hge
theorem hit_pos {j : Nat} (h : hit st n j) : 1 ≤ j := by
  rcases Nat.eq_zero_or_pos j with e | e
  · subst e; have := h.2; simp [itL] at this
  · exact e
end
open Classical in
noncomputable def cycJ (st : Int → Int) (n : Int) : Nat := if h : ∃ j, hit st n j then h.choose else 0
noncomputable def cycI (st : Int → Int) (n : Int) : Nat := (itL st n (cycJ st n)).idxOf (it st n (cycJ st n))
noncomputable def cycC (st : Int → Int) (n : Int) : List Int := (itL st n (cycJ st n)).drop (cycI st n)
/-- the place of the first least of the first k numbers -/
def amP (c : List Int) : Nat → Nat
  | 0 => 0
  | k + 1 => if c.getD k 0 < c.getD (amP c k) 0 then k else amP c k
def turnL (c : List Int) : List Int := c.drop (amP c c.length) ++ c.take (amP c c.length)
noncomputable def cycR (st : Int → Int) (n : Int) : List Int := turnL (cycC st n)
theorem cycJ_eq {st : Int → Int} {n : Int} {j : Nat} (h : hit st n j) : cycJ st n = j := by
  have hex : ∃ j, hit st n j := ⟨j, h⟩
  rw [cycJ, dif_pos hex]
  have h2 := hex.choose_spec
  exact Nat.le_antisymm (hit_le h h2) (hit_le h2 h)
theorem cyc_of {st : Int → Int} {n : Int} {j : Nat} (h : hit st n j) : cycI st n = (itL st n j).idxOf (it st n j) ∧ cycC st n = (itL st n j).drop ((itL st n j).idxOf (it st n j)) ∧ (itL st n j).idxOf (it st n j) < j := by
  have e := cycJ_eq h
  have hl := List.idxOf_lt_length_of_mem h.2
  rw [itL_len] at hl
  exact ⟨by rw [cycI, e], by rw [cycC, cycI, e], hl⟩
theorem amP_lt (c : List Int) (h : 0 < c.length) : ∀ k, k ≤ c.length → amP c k < c.length := by
  intro k
  induction k with
  | zero => intro _; exact h
  | succ k ih =>
    intro hk
    rw [amP]
    split
    · omega
    · exact ih (by omega)
theorem amP_min (c : List Int) : ∀ k, (∀ i, i < k → c.getD (amP c k) 0 ≤ c.getD i 0) ∧ (∀ i, i < amP c k → c.getD (amP c k) 0 < c.getD i 0) ∧ (amP c k = 0 ∨ amP c k < k) := by
  intro k
  induction k with
  | zero => exact ⟨fun i h => by omega, fun i h => by simp [amP] at h, Or.inl rfl⟩
  | succ k ih =>
    obtain ⟨i1, i2, i3⟩ := ih
    rw [amP]
    split
    · rename_i hlt
      refine ⟨fun i hi => ?_, fun i hi => ?_, Or.inr (by omega)⟩
      · rcases Nat.lt_or_ge i k with h | h
        · have := i1 i h; omega
        · rw [show i = k by omega]; exact Int.le_refl _
      · have := i1 i hi; omega
    · rename_i hge
      refine ⟨fun i hi => ?_, i2, ?_⟩
      · rcases Nat.lt_or_ge i k with h | h
        · exact i1 i h
        · rw [show i = k by omega]; omega
      · rcases i3 with h | h
        · exact Or.inl h
        · exact Or.inr (by omega)
/-- an index of a least number ahead of which there is none as small is the place -/
theorem amP_uniq (c : List Int) (i : Nat) (hi : i < c.length) (h1 : ∀ k, k < c.length → c.getD i 0 ≤ c.getD k 0) (h2 : ∀ k, k < i → c.getD k 0 ≠ c.getD i 0) : i = amP c c.length := by
  obtain ⟨a1, a2, a3⟩ := amP_min c c.length
  have hal := amP_lt c (by omega) c.length (Nat.le_refl _)
  rcases Nat.lt_trichotomy i (amP c c.length) with h | h | h
  · have := a2 i h; have := h1 _ hal; omega
  · exact h
  · have h3 := a1 i hi
    have h4 := h1 _ hal
    exact absurd (by omega) (h2 _ h)
theorem turnL_len (c : List Int) : (turnL c).length = c.length := by
  by_cases h : 0 < c.length
  · have := amP_lt c h c.length (Nat.le_refl _)
    simp [turnL]; omega
  · have : c = [] := List.eq_nil_of_length_eq_zero (by omega)
    subst this; rfl
theorem turnL_mem (c : List Int) (x : Int) (h : x ∈ turnL c) : x ∈ c := by
  rcases List.mem_append.1 h with h | h
  · exact List.mem_of_mem_drop h
  · exact List.mem_of_mem_take h
/-- where x lies among the first k iterates -/
def ixI (st : Int → Int) (n : Int) (k : Nat) (x : Int) : Option Int := if x ∈ itL st n k then some (((itL st n k).idxOf x : Nat) : Int) else none
theorem ixI_zero (st : Int → Int) (n x : Int) : ixI st n 0 x = none := by simp [ixI, itL]
theorem ixI_next (st : Int → Int) (n : Int) (k : Nat) (hn : it st n k ∉ itL st n k) (x : Int) : ixI st n (k + 1) x = if x = it st n k then some (k : Int) else ixI st n k x := by
  unfold ixI
  rw [itL]
  by_cases hx : x = it st n k
  · subst hx
    rw [if_pos (by simp), if_pos rfl, List.idxOf_append, if_neg hn, itL_len]
    simp
  · rw [if_neg hx]
    by_cases hm : x ∈ itL st n k
    · rw [if_pos (List.mem_append_left _ hm), if_pos hm, List.idxOf_append, if_pos hm]
    · rw [if_neg (by simp [hm, hx]), if_neg hm]
/-- a step from [0, N] that stays in [0, M) -/
def stays (st : Int → Int) (M : Nat) (N : Int) : Prop := (M ≤ 100000000 ∧ N ≤ 1000000000000 ∧ (M : Int) ≤ N + 1) ∧ ∀ x, 0 ≤ x → x ≤ N → 0 ≤ st x ∧ st x < (M : Int)
theorem it_bd {st : Int → Int} {n : Int} {M : Nat} {N : Int} (hs : stays st M N) (h0 : 0 ≤ n) (h1 : n ≤ N) (k : Nat) : 0 ≤ it st n k ∧ it st n k ≤ N ∧ (1 ≤ k → it st n k < M) := by
  obtain ⟨⟨hM, hN, hMN⟩, hst⟩ := hs
  induction k with
  | zero => exact ⟨h0, h1, fun h => by omega⟩
  | succ k ih =>
    have := hst _ ih.1 ih.2.1
    exact ⟨this.1, by show st _ ≤ _; omega, fun _ => this.2⟩
theorem itL_le {st : Int → Int} {n : Int} {M : Nat} {N : Int} (hs : stays st M N) (h0 : 0 ≤ n) (h1 : n ≤ N) {k : Nat} (hn : (itL st n k).Nodup) : k ≤ M + 1 := by
  cases k with
  | zero => omega
  | succ k =>
    have hd : ((itL st n (k + 1)).drop 1).Nodup := hn.sublist (List.drop_sublist _ _)
    have := pig M _ hd (fun x hx => by
      obtain ⟨i, hi, e⟩ := List.mem_iff_getElem.1 hx
      rw [List.getElem_drop] at e
      have hi2 : 1 + i < k + 1 := by rw [List.length_drop, itL_len] at hi; omega
      have e3 : ∀ (m j : Nat) (h : j < (itL st n m).length), (itL st n m)[j] = it st n j := by
        intro m
        induction m with
        | zero => intro j h; simp [itL] at h
        | succ m ihm =>
          intro j h
          rw [itL_len] at h
          by_cases hj : j < m
          · have : (itL st n (m + 1))[j]'(by rw [itL_len]; omega) = (itL st n m)[j]'(by rw [itL_len]; omega) := by
              simp only [itL]
              rw [List.getElem_append_left]
            rw [this, ihm j (by rw [itL_len]; omega)]
          · have ej : j = m := by omega
            subst ej
            simp only [itL]
            rw [List.getElem_append_right (by rw [itL_len]; exact Nat.le_refl _)]
            simp
      rw [e3] at e
      have hb := it_bd hs h0 h1 (1 + i)
      rw [← e]
      exact ⟨hb.1, hb.2.2 (by omega)⟩)
    rw [List.length_drop, itL_len] at this
    omega
theorem hit_ex {st : Int → Int} {n : Int} {M : Nat} {N : Int} (hs : stays st M N) (h0 : 0 ≤ n) (h1 : n ≤ N) : ∃ j, hit st n j ∧ j ≤ M + 1 := by
  have hk : ∀ k, (itL st n k).Nodup ∨ ∃ j, hit st n j := by
    intro k
    induction k with
    | zero => exact Or.inl List.nodup_nil
    | succ k ih =>
      rcases ih with h | h
      · by_cases hm : it st n k ∈ itL st n k
        · exact Or.inr ⟨k, h, hm⟩
        · exact Or.inl (itL_nodup h hm)
      · exact Or.inr h
  rcases hk (M + 2) with h | ⟨j, h⟩
  · have := itL_le hs h0 h1 h; omega
  · exact ⟨j, h, itL_le hs h0 h1 h.1⟩
theorem cycR_facts {st : Int → Int} {n : Int} {M : Nat} {N : Int} (hs : stays st M N) (h0 : 0 ≤ n) (h1 : n ≤ N) :
    0 < (cycR st n).length ∧ (cycR st n).length ≤ M + 1 ∧ cycI st n ≤ M + 1 ∧ ∀ x ∈ cycR st n, 0 ≤ x ∧ x ≤ N := by
  obtain ⟨j, hj, hjm⟩ := hit_ex hs h0 h1
  obtain ⟨e1, e2, e3⟩ := cyc_of hj
  refine ⟨?_, ?_, by omega, fun x hx => ?_⟩
  · rw [cycR, turnL_len, e2, List.length_drop, itL_len]; omega
  · rw [cycR, turnL_len, e2, List.length_drop, itL_len]; omega
  · have hx2 := turnL_mem _ _ hx
    rw [e2] at hx2
    obtain ⟨i, -, rfl⟩ := itL_mem (List.mem_of_mem_drop hx2)
    have := it_bd hs h0 h1 i
    exact ⟨this.1, this.2.1⟩

end Go.Proofs.YtdpddbajeldgiaaDoor
