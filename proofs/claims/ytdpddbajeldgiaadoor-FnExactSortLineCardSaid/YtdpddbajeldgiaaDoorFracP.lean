/- Digits of fractions: where the rests repeat. Plain Lean, no program. Conditions: none. -/
import Derived.Test.YtdpddbajeldgiaaDoorRange
import Derived.Test.YtdpddbajeldgiaaDoorLists
namespace Go.Proofs.YtdpddbajeldgiaaDoor
set_option linter.unusedVariables false

theorem pig : ∀ (q : Nat) (l : List Int), l.Nodup → (∀ x ∈ l, 0 ≤ x ∧ x < (q : Int)) → l.length ≤ q := by
  intro q
  induction q with
  | zero =>
    intro l _ h
    cases l with
    | nil => exact Nat.le_refl _
    | cons x r => have := h x List.mem_cons_self; omega
  | succ q ih =>
    intro l hn h
    have h1 := ih (l.erase (q : Int)) (hn.erase _) (fun x hx => by
      have h2 := (List.Nodup.mem_erase_iff hn).1 hx
      have h3 := h x h2.2
      have := h2.1
      omega)
    by_cases hm : (q : Int) ∈ l
    · rw [List.length_erase_of_mem hm] at h1; omega
    · rw [List.erase_of_not_mem hm] at h1; omega
def fracOk (p q b : Int) : Bool := inB q 1 1000 && inB p 0 (q - 1) && inB b 2 16
theorem fracOk_t {p q b : Int} (h : fracOk p q b = true) : 1 ≤ q ∧ q ≤ 1000 ∧ 0 ≤ p ∧ p < q ∧ 2 ≤ b ∧ b ≤ 16 := by
  simp only [fracOk, Bool.and_eq_true, inB_t] at h
  omega
/-- the rest after k digits -/
def rs (p q b : Int) : Nat → Int
  | 0 => p
  | k + 1 => rs p q b k * b % q
def dg (p q b : Int) (k : Nat) : Int := rs p q b k * b / q
def rss (p q b : Int) : Nat → List Int
  | 0 => []
  | k + 1 => rss p q b k ++ [rs p q b k]
def dgs (p q b : Int) : Nat → List Int
  | 0 => []
  | k + 1 => dgs p q b k ++ [dg p q b k]
theorem rss_len (p q b : Int) (k : Nat) : (rss p q b k).length = k := by induction k with
  | zero => rfl
  | succ k ih => simp [rss, ih]
theorem dgs_len (p q b : Int) (k : Nat) : (dgs p q b k).length = k := by induction k with
  | zero => rfl
  | succ k ih => simp [dgs, ih]
theorem dgs_take (p q b : Int) (k d : Nat) : (dgs p q b (k + d)).take k = dgs p q b k := by
  induction d with
  | zero => rw [Nat.add_zero, List.take_of_length_le (by rw [dgs_len]; exact Nat.le_refl _)]
  | succ d ih =>
    rw [show k + (d + 1) = (k + d) + 1 by omega, dgs, List.take_append_of_le_length (by rw [dgs_len]; omega), ih]
theorem rs_bd {p q b : Int} (h : fracOk p q b = true) (k : Nat) : 0 ≤ rs p q b k ∧ rs p q b k < q := by
  obtain ⟨h1, h2, h3, h4, h5, h6⟩ := fracOk_t h
  induction k with
  | zero => rw [rs]; omega
  | succ k ih => rw [rs]; exact ⟨Int.emod_nonneg _ (by omega), Int.emod_lt_of_pos _ (by omega)⟩
theorem rs_mul {p q b : Int} (h : fracOk p q b = true) (k : Nat) : 0 ≤ rs p q b k * b ∧ rs p q b k * b ≤ 16000 ∧ 0 ≤ dg p q b k ∧ dg p q b k < b := by
  obtain ⟨h1, h2, h3, h4, h5, h6⟩ := fracOk_t h
  obtain ⟨r0, r1⟩ := rs_bd h k
  have e1 : 0 ≤ rs p q b k * b := Int.mul_nonneg r0 (by omega)
  have e2 : rs p q b k * b ≤ 1000 * 16 := Int.mul_le_mul (by omega) h6 (by omega) (by omega)
  have e3 : rs p q b k * b < b * q := by
    rw [Int.mul_comm b q]
    exact Int.mul_lt_mul_of_pos_right r1 (by omega)
  exact ⟨e1, by omega, Int.ediv_nonneg e1 (by omega), Int.ediv_lt_of_lt_mul (by omega) e3⟩
theorem dgs_mem {p q b : Int} (h : fracOk p q b = true) (k : Nat) : ∀ x ∈ dgs p q b k, 0 ≤ x ∧ x < b := by
  induction k with
  | zero => simp [dgs]
  | succ k ih =>
    intro x hx
    rcases List.mem_append.1 hx with hx | hx
    · exact ih x hx
    · simp at hx; subst hx; exact (rs_mul h k).2.2
theorem rss_mem {p q b : Int} : ∀ {k : Nat} {x : Int}, x ∈ rss p q b k → ∃ i, i < k ∧ rs p q b i = x := by
  intro k
  induction k with
  | zero => intro x h; simp [rss] at h
  | succ k ih =>
    intro x h
    rcases List.mem_append.1 h with h | h
    · obtain ⟨i, hi, e⟩ := ih h; exact ⟨i, by omega, e⟩
    · simp at h; exact ⟨k, by omega, h.symm⟩
theorem mem_rss {p q b : Int} {i : Nat} : ∀ {k : Nat}, i < k → rs p q b i ∈ rss p q b k := by
  intro k
  induction k with
  | zero => intro h; omega
  | succ k ih =>
    intro h
    rw [rss]
    rcases Nat.lt_or_ge i k with h' | h'
    · exact List.mem_append_left _ (ih h')
    · rw [show i = k by omega]; simp
theorem rss_nodup {p q b : Int} {k : Nat} (h : (rss p q b k).Nodup) (hn : rs p q b k ∉ rss p q b k) : (rss p q b (k + 1)).Nodup := by
  rw [rss, List.nodup_append]
  exact ⟨h, by simp, fun a ha c hc => by simp at hc; subst hc; exact fun e => hn (e ▸ ha)⟩
theorem rss_le {p q b : Int} (h : fracOk p q b = true) {k : Nat} (hn : (rss p q b k).Nodup) : (k : Int) ≤ q := by
  obtain ⟨h1, -⟩ := fracOk_t h
  have := pig q.toNat (rss p q b k) hn (fun x hx => by
    obtain ⟨i, -, rfl⟩ := rss_mem hx
    have := rs_bd h i
    omega)
  rw [rss_len] at this
  omega
/-- where x lies among the first k rests -/
def ixR (p q b : Int) (k : Nat) (x : Int) : Option Int := if x ∈ rss p q b k then some (((rss p q b k).idxOf x : Nat) : Int) else none
theorem ixR_zero (p q b x : Int) : ixR p q b 0 x = none := by simp [ixR, rss]
theorem ixR_next (p q b : Int) (k : Nat) (hn : rs p q b k ∉ rss p q b k) (x : Int) : ixR p q b (k + 1) x = if x = rs p q b k then some (k : Int) else ixR p q b k x := by
  unfold ixR
  rw [rss]
  by_cases hx : x = rs p q b k
  · subst hx
    rw [if_pos (by simp), if_pos rfl, List.idxOf_append, if_neg hn, rss_len]
    simp
  · rw [if_neg hx]
    by_cases hm : x ∈ rss p q b k
    · rw [if_pos (List.mem_append_left _ hm), if_pos hm, List.idxOf_append, if_pos hm]
    · rw [if_neg (by simp [hm, hx]), if_neg hm]
/-- lengths of what stands ahead of the period and of the period -/
def fr (p q b : Int) : Nat → Nat → Nat × Nat
  | 0, j => (j, 0)
  | f + 1, j => if rs p q b j = 0 then (j, 0) else if rs p q b j ∈ rss p q b j then ((rss p q b j).idxOf (rs p q b j), j - (rss p q b j).idxOf (rs p q b j)) else fr p q b f (j + 1)
def frR (p q b : Int) : Nat × Nat := fr p q b (q.toNat + 1) 0
theorem fr_zero {p q b : Int} {f j : Nat} (h : rs p q b j = 0) : fr p q b (f + 1) j = (j, 0) := by rw [fr, if_pos h]
theorem fr_hit {p q b : Int} {f j : Nat} (h : rs p q b j ≠ 0) (h2 : rs p q b j ∈ rss p q b j) : fr p q b (f + 1) j = ((rss p q b j).idxOf (rs p q b j), j - (rss p q b j).idxOf (rs p q b j)) := by rw [fr, if_neg h, if_pos h2]
theorem fr_go {p q b : Int} {f j : Nat} (h : rs p q b j ≠ 0) (h2 : rs p q b j ∉ rss p q b j) : fr p q b (f + 1) j = fr p q b f (j + 1) := by rw [fr, if_neg h, if_neg h2]
theorem idx_lt {p q b : Int} {j : Nat} (h2 : rs p q b j ∈ rss p q b j) : (rss p q b j).idxOf (rs p q b j) < j := by
  have := List.idxOf_lt_length_of_mem h2
  rwa [rss_len] at this
def preR (p q b : Int) : List Int := if fracOk p q b then dgs p q b (frR p q b).1 else []
def perR (p q b : Int) : List Int := if fracOk p q b then (dgs p q b ((frR p q b).1 + (frR p q b).2)).drop (frR p q b).1 else []
/-- what the program's loop knows at state j: the reference would go on, or has seen rest 0 one step ago -/
def stF (p q b : Int) (j : Nat) : Prop := (rss p q b j).Nodup ∧ (((∀ i, i < j → rs p q b i ≠ 0) ∧ frR p q b = fr p q b (q.toNat + 1 - j) j) ∨ (1 ≤ j ∧ rs p q b (j - 1) = 0 ∧ rs p q b j = 0 ∧ frR p q b = (j - 1, 0)))
theorem stF_zero (p q b : Int) : stF p q b 0 := ⟨List.nodup_nil, Or.inl ⟨fun i h => by omega, rfl⟩⟩
theorem stF_go {p q b : Int} (h : fracOk p q b = true) {j : Nat} (hs : stF p q b j) (hn : rs p q b j ∉ rss p q b j) : stF p q b (j + 1) := by
  obtain ⟨h1, h2, h3, h4, h5, h6⟩ := fracOk_t h
  have hle := rss_le h hs.1
  refine ⟨rss_nodup hs.1 hn, ?_⟩
  rcases hs.2 with ⟨g1, g2⟩ | ⟨g1, g2, g3, g4⟩
  · rw [show q.toNat + 1 - j = (q.toNat + 1 - (j + 1)) + 1 by omega] at g2
    by_cases hz : rs p q b j = 0
    · refine Or.inr ⟨by omega, by rw [Nat.add_sub_cancel]; exact hz, ?_, ?_⟩
      · rw [rs, hz]; simp
      · rw [g2, fr_zero hz, Nat.add_sub_cancel]
    · refine Or.inl ⟨fun i hi => ?_, ?_⟩
      · rcases Nat.lt_or_ge i j with h' | h'
        · exact g1 i h'
        · rw [show i = j by omega]; exact hz
      · rw [g2, fr_go hz hn]
  · exact absurd (by rw [g3, ← g2]; exact mem_rss (by omega)) hn
theorem stF_end {p q b : Int} (h : fracOk p q b = true) {j : Nat} (hs : stF p q b j) (hm : rs p q b j ∈ rss p q b j) :
    preR p q b = dgs p q b ((rss p q b j).idxOf (rs p q b j)) ∧ perR p q b = if rs p q b j = 0 then [] else (dgs p q b j).drop ((rss p q b j).idxOf (rs p q b j)) := by
  have hle := rss_le h hs.1
  have hix := idx_lt hm
  rw [preR, if_pos h, perR, if_pos h]
  rcases hs.2 with ⟨g1, g2⟩ | ⟨g1, g2, g3, g4⟩
  · have hz : rs p q b j ≠ 0 := by
      obtain ⟨i, hi, e⟩ := rss_mem hm
      rw [← e]; exact g1 i hi
    obtain ⟨h1, -⟩ := fracOk_t h
    rw [show q.toNat + 1 - j = (q.toNat - j) + 1 by omega, fr_hit hz hm] at g2
    rw [g2, if_neg hz]
    exact ⟨rfl, by rw [show (rss p q b j).idxOf (rs p q b j) + (j - (rss p q b j).idxOf (rs p q b j)) = j by omega]⟩
  · have hi : (rss p q b j).idxOf (rs p q b j) = j - 1 := by
      have e1 : j = (j - 1) + 1 := by omega
      have hnd := hs.1
      rw [e1, rss, List.nodup_append] at hnd
      have hnot : rs p q b (j - 1) ∉ rss p q b (j - 1) := fun hx => hnd.2.2 _ hx _ (by simp) rfl
      rw [g3, ← g2]
      conv => lhs; rw [e1]
      rw [rss, List.idxOf_append, show j - 1 + 1 - 1 = j - 1 by omega, if_neg hnot, rss_len]
      simp
    rw [hi, g4, if_pos g3]
    exact ⟨rfl, by rw [Nat.add_zero, List.drop_of_length_le (by rw [dgs_len]; exact Nat.le_refl _)]⟩

end Go.Proofs.YtdpddbajeldgiaaDoor
