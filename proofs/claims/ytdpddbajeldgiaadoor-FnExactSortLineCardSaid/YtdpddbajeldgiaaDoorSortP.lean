/- The digits of a number sorted: by counting, by the library; the greatest minus the least. Plain Lean, no program. Conditions: none. -/
import Derived.Test.YtdpddbajeldgiaaDoorAbacusP
import Derived.Test.YtdpddbajeldgiaaDoorCycP
namespace Go.Proofs.YtdpddbajeldgiaaDoor
set_option linter.unusedVariables false

def srt (xs : List Int) : List Int := xs.mergeSort fun x y => decide (x ≤ y)
theorem srt_perm (xs : List Int) : (srt xs).Perm xs := List.mergeSort_perm _ _
theorem srt_len (xs : List Int) : (srt xs).length = xs.length := List.length_mergeSort _
theorem srt_mem {xs : List Int} {x : Int} : x ∈ srt xs ↔ x ∈ xs := List.mem_mergeSort
theorem srt_sorted (xs : List Int) : (srt xs).Pairwise (fun x y => x ≤ y) := by
  have h := List.pairwise_mergeSort (le := fun x y : Int => decide (x ≤ y)) (fun a b c h1 h2 => by simp at *; omega) (fun a b => by simp; omega) xs
  exact h.imp (fun h => by simpa using h)
theorem sorted_unique {xs ys : List Int} (h : xs.Perm ys) (hx : xs.Pairwise (fun x y => x ≤ y)) (hy : ys.Pairwise (fun x y => x ≤ y)) : xs = ys :=
  List.Perm.eq_of_pairwise (fun a b _ _ h1 h2 => Int.le_antisymm h1 h2) hx hy h
/-- the numbers of d below m, by counting -/
def csL (d : List Int) : Nat → List Int
  | 0 => []
  | m + 1 => csL d m ++ d.filter (fun y => y == (m : Int))
theorem csL_perm (d : List Int) (h0 : ∀ y ∈ d, 0 ≤ y) : ∀ m : Nat, (csL d m).Perm (d.filter (fun y => decide (y < (m : Int)))) := by
  intro m
  induction m with
  | zero =>
    rw [List.filter_eq_nil_iff.2 (fun y hy => by have := h0 y hy; simp; omega)]
    exact List.Perm.refl _
  | succ m ih =>
    have h1 := List.filter_append_perm (fun y => decide (y < (m : Int))) (d.filter (fun y => decide (y < ((m + 1 : Nat) : Int))))
    rw [List.filter_filter, List.filter_filter] at h1
    refine List.Perm.trans ?_ h1
    have e1 : d.filter (fun a => decide (a < (m : Int)) && decide (a < ((m + 1 : Nat) : Int))) = d.filter (fun y => decide (y < (m : Int))) := by
      apply List.filter_congr
      intro y _
      by_cases h : y < (m : Int)
      · simp [h]; omega
      · simp [h]
    have e2 : d.filter (fun a => (!decide (a < (m : Int))) && decide (a < ((m + 1 : Nat) : Int))) = d.filter (fun y => y == (m : Int)) := by
      apply List.filter_congr
      intro y _
      by_cases h : y = (m : Int)
      · subst h; simp
        try omega
      · have hb : (y == (m : Int)) = false := by rw [beq_eq_false_iff_ne]; exact h
        rw [hb]
        simp
        omega
    rw [e1, e2, csL]
    exact ih.append_right _
theorem csL_sorted (d : List Int) : ∀ m : Nat, (csL d m).Pairwise (fun x y => x ≤ y) ∧ ∀ x ∈ csL d m, x < (m : Int) := by
  intro m
  induction m with
  | zero => exact ⟨List.Pairwise.nil, fun x hx => by simp [csL] at hx⟩
  | succ m ih =>
    have hf : ∀ x ∈ d.filter (fun y => y == (m : Int)), x = m := fun x hx => by simpa using (List.mem_filter.1 hx).2
    refine ⟨?_, fun x hx => ?_⟩
    · rw [csL, List.pairwise_append]
      refine ⟨ih.1, ?_, fun a ha b hb => by have := ih.2 a ha; have := hf b hb; omega⟩
      rw [List.pairwise_iff_getElem]
      intro i j hi hj hij
      have := hf _ (List.getElem_mem hi)
      have := hf _ (List.getElem_mem hj)
      omega
    · rcases List.mem_append.1 hx with h | h
      · have := ih.2 x h; omega
      · have := hf x h; omega
theorem csL_srt (d : List Int) (b : Nat) (h : ∀ y ∈ d, 0 ≤ y ∧ y < (b : Int)) : csL d b = srt d := by
  refine sorted_unique ?_ (csL_sorted d b).1 (srt_sorted d)
  have h1 := csL_perm d (fun y hy => (h y hy).1) b
  rw [List.filter_eq_self.2 (fun y hy => by simp; exact (h y hy).2)] at h1
  exact h1.trans (srt_perm d).symm
/-! a greater one is not less than its turn -/
theorem valL_low (b : Int) (hb : 2 ≤ b) (d : Int) : ∀ (ds : List Int), (∀ x ∈ ds, d ≤ x) → d * (b ^ ds.length - 1) ≤ (b - 1) * valL b ds := by
  intro ds
  induction ds with
  | nil => intro _; simp [valL]
  | cons x ds ih =>
    intro h
    have h1 := h x (by simp)
    have h2 := ih (fun y hy => h y (by simp [hy]))
    have h3 : b * (d * (b ^ ds.length - 1)) ≤ b * ((b - 1) * valL b ds) := Int.mul_le_mul_of_nonneg_left h2 (by omega)
    have h4 : (b - 1) * d ≤ (b - 1) * x := Int.mul_le_mul_of_nonneg_left h1 (by omega)
    have e1 : (b - 1) * valL b (x :: ds) = (b - 1) * x + b * ((b - 1) * valL b ds) := by
      simp only [valL]
      rw [Int.mul_add, Int.mul_left_comm (b - 1) b]
    have e2 : d * (b ^ (x :: ds).length - 1) = (b - 1) * d + b * (d * (b ^ ds.length - 1)) := by
      simp only [List.length_cons, Int.pow_succ, Int.mul_sub, Int.sub_mul, Int.mul_one, Int.one_mul]
      rw [Int.mul_left_comm b d, Int.mul_comm b (b ^ ds.length), Int.mul_comm b d]
      omega
    rw [e1, e2]
    omega
theorem valL_snoc (b : Int) (xs : List Int) (d : Int) : valL b (xs ++ [d]) = valL b xs + b ^ xs.length * d := by
  induction xs with
  | nil => simp [valL]
  | cons x xs ih =>
    simp only [List.cons_append, valL, ih, List.length_cons, Int.pow_succ, Int.mul_add]
    rw [Int.mul_comm (b ^ xs.length) b, Int.mul_assoc]
    omega
theorem valL_turn (b : Int) (hb : 2 ≤ b) : ∀ (xs : List Int), xs.Pairwise (fun x y => x ≤ y) → valL b xs.reverse ≤ valL b xs := by
  intro xs
  induction xs with
  | nil => intro _; simp
  | cons d ds ih =>
    intro h
    rw [List.pairwise_cons] at h
    have h1 := ih h.2
    have h2 := valL_low b hb d ds h.1
    rw [List.reverse_cons, valL_snoc, List.length_reverse]
    simp only [valL]
    rw [Int.mul_sub, Int.sub_mul, Int.mul_one, Int.one_mul] at h2
    rw [Int.mul_comm (b ^ ds.length) d]
    omega
/-! the digits of a number and its places -/
theorem digs_len_le (b : Int) (hb : 2 ≤ b) : ∀ (k : Nat) (n : Int), 0 ≤ n → n ≤ 9223372036854775807 → ((digs n b).length ≤ k ↔ n < b ^ k) := by
  intro k
  induction k with
  | zero =>
    intro n h0 h1
    by_cases hn : n ≤ 0
    · rw [digs_zero n b hn]; simp; omega
    · rw [digs_pos n b hb (by omega) h1]; simp; omega
  | succ k ih =>
    intro n h0 h1
    by_cases hn : n ≤ 0
    · have : 0 < b ^ (k + 1) := Int.pow_pos (by omega)
      rw [digs_zero n b hn]; simp; omega
    · have hd := div_half n b h0 hb
      rw [digs_pos n b hb (by omega) h1, List.length_cons, Nat.add_le_add_iff_right, ih (n / b) hd.1 (by omega), Int.pow_succ, Int.ediv_lt_iff_lt_mul (by omega)]
theorem plcd_zero (b : Int) (hb : 2 ≤ b) : ∀ k, plcd 0 b k = List.replicate k 0 := by
  intro k
  induction k with
  | zero => rfl
  | succ k ih => simp [plcd, ih, List.replicate_succ]
theorem plcd_digs (b : Int) (hb : 2 ≤ b) : ∀ (k : Nat) (n : Int), 0 ≤ n → n ≤ 9223372036854775807 → n < b ^ k → plcd n b k = digs n b ++ List.replicate (k - (digs n b).length) 0 := by
  intro k
  induction k with
  | zero =>
    intro n h0 h1 h2
    simp at h2
    rw [digs_zero n b (by omega)]; rfl
  | succ k ih =>
    intro n h0 h1 h2
    by_cases hn : n ≤ 0
    · obtain rfl : n = 0 := by omega
      rw [digs_zero 0 b (by omega), plcd_zero b hb]; rfl
    · have hd := div_half n b h0 hb
      rw [digs_pos n b hb (by omega) h1, plcd, ih (n / b) hd.1 (by omega) (by rw [Int.pow_succ] at h2; exact Int.ediv_lt_of_lt_mul (by omega) h2)]
      simp
/-- the greatest number of the places minus the least -/
def sst (b : Int) (k : Nat) (n : Int) : Int := valL b (srt (plcd n b k)) - valL b (srt (plcd n b k)).reverse
theorem sst_bd (b : Int) (k : Nat) (n : Int) (hb : 2 ≤ b) : 0 ≤ sst b k n ∧ sst b k n < b ^ k := by
  have h1 := valL_turn b hb _ (srt_sorted (plcd n b k))
  have h2 := valL_bd b hb (srt (plcd n b k)) (fun d hd => plcd_mem b hb k n d (srt_mem.1 hd))
  have h3 := valL_bd b hb (srt (plcd n b k)).reverse (fun d hd => plcd_mem b hb k n d (srt_mem.1 (List.mem_reverse.1 hd)))
  rw [srt_len, plcd_length] at h2
  unfold sst
  omega
theorem pow_k5 : ∀ a : Fin 17, ∀ j : Fin 6, ((a.val : Int)) ^ j.val ≤ 1048576 := by decide
theorem pow_k5' (b : Int) (k : Nat) (hb1 : 2 ≤ b) (hb2 : b ≤ 16) (hk : k ≤ 5) : b ^ k ≤ 1048576 ∧ 0 < b ^ k := by
  obtain ⟨m, rfl⟩ : ∃ m : Nat, b = m := ⟨b.toNat, by omega⟩
  exact ⟨pow_k5 ⟨m, by omega⟩ ⟨k, by omega⟩, Int.pow_pos (by omega)⟩
theorem sst_stays (b : Int) (k : Nat) (hb1 : 2 ≤ b) (hb2 : b ≤ 16) (hk : k ≤ 5) : stays (sst b k) (b ^ k).toNat (b ^ k - 1) := by
  have := pow_k5' b k hb1 hb2 hk
  refine ⟨⟨by omega, by omega, by omega⟩, fun x _ _ => ?_⟩
  have := sst_bd b k x hb1
  omega
def soOk (n b k : Int) : Bool := inB b 2 16 && inB k 2 5 && inB n 0 (b ^ k.toNat - 1)
theorem soOk_t {n b k : Int} (h : soOk n b k = true) : 2 ≤ b ∧ b ≤ 16 ∧ 2 ≤ k ∧ k ≤ 5 ∧ 0 ≤ n ∧ n ≤ b ^ k.toNat - 1 := by
  unfold soOk inB at h
  simp only [Bool.and_eq_true, decide_eq_true_eq] at h
  omega
theorem soOk_fits (n b k : Int) : soOk n b k = (inB b 2 16 && inB n 0 1000000000000 && inB k 2 5 && decide (((digs n b).length : Int) ≤ k)) := by
  unfold soOk
  cases hb : inB b 2 16
  · simp
  cases hk : inB k 2 5
  · simp
  obtain ⟨b1, b2⟩ := inB_t.1 hb
  obtain ⟨k1, k2⟩ := inB_t.1 hk
  have hp := pow_k5' b k.toNat b1 b2 (by omega)
  have hl : 0 ≤ n → n ≤ 1000000000000 → (((digs n b).length : Int) ≤ k ↔ n ≤ b ^ k.toNat - 1) := fun h0 h1 => by
    have := digs_len_le b b1 k.toNat n h0 (by omega)
    omega
  by_cases h0 : 0 ≤ n
  · by_cases h1 : n ≤ 1000000000000
    · have h2 := hl h0 h1
      simp [inB, h0, h1, h2]
    · have : ¬ n ≤ b ^ k.toNat - 1 := by omega
      simp [inB, h1, this]
  · simp [inB, h0]

end Go.Proofs.YtdpddbajeldgiaaDoor
