/- The reduced machine: it is made of the states of different classes, it accepts what the machine accepts, and it is its own reduced machine. Plain Lean, no program. Conditions: those of each lemma. -/
import Derived.Test.YtkapbhlnjmfaaaaDoorRedP
namespace Go.Proofs.YtkapbhlnjmfaaaaDoor
set_option linter.unusedVariables false

section
variable {n b : Nat} {nx : Nat → Nat → Nat} {c0 : Nat → Nat}
/-! the classes stand still after n rounds -/
theorem cnt_repeat (hn : 0 < n) : ∃ i, i < n ∧ cnt n b nx c0 (i + 1) = cnt n b nx c0 i := by
  apply Classical.byContradiction
  intro h
  have h1 : ∀ i, i ≤ n → i < cnt n b nx c0 i := by
    intro i
    induction i with
    | zero => intro _; exact cnt_pos hn
    | succ i ih =>
      intro hi
      have h2 := ih (by omega)
      have h3 := cnt_step n b nx c0 i
      have h4 : cnt n b nx c0 (i + 1) ≠ cnt n b nx c0 i := fun e => h ⟨i, by omega, e⟩
      omega
  have h5 := h1 n (Nat.le_refl _)
  have h6 := cnt_le n b nx c0 n
  omega
theorem cls_fix (hnx : ∀ s d, s < n → d < b → nx s d < n) (hn : 0 < n) (j s : Nat) (hs : s < n) : cls b nx c0 (n + j) s = cls b nx c0 n s := by
  obtain ⟨i, hi, e⟩ := cnt_repeat (b := b) (nx := nx) (c0 := c0) hn
  have h1 := cls_still hnx e (n - (i + 1)) s hs
  have h2 := cls_still hnx e (n - (i + 1) + j) s hs
  rw [show i + 1 + (n - (i + 1)) = n by omega] at h1
  rw [show i + 1 + (n - (i + 1) + j) = n + j by omega] at h2
  rw [h1, h2]
theorem cls_down (i s r : Nat) (h : cls b nx c0 (i + 1) s = cls b nx c0 (i + 1) r) : cls b nx c0 i s = cls b nx c0 i r := by
  have h1 := (num_inj _).1 h
  simp only [ky, List.cons.injEq] at h1
  exact h1.1
theorem cls_downs (i j s r : Nat) (h : cls b nx c0 (i + j) s = cls b nx c0 (i + j) r) : cls b nx c0 i s = cls b nx c0 i r := by
  induction j with
  | zero => exact h
  | succ j ih => exact ih (cls_down (i + j) s r h)
/-- states of one class are of one class in every round -/
theorem cls_any (hnx : ∀ s d, s < n → d < b → nx s d < n) (hn : 0 < n) (i s r : Nat) (hs : s < n) (hr : r < n) (h : cls b nx c0 n s = cls b nx c0 n r) : cls b nx c0 i s = cls b nx c0 i r := by
  rcases Nat.le_total i n with hi | hi
  · exact cls_downs i (n - i) s r (by rw [show i + (n - i) = n by omega]; exact h)
  · rw [show i = n + (i - n) by omega, cls_fix hnx hn _ s hs, cls_fix hnx hn _ r hr, h]
/-- .. and so are the states that follow -/
theorem cls_next (hnx : ∀ s d, s < n → d < b → nx s d < n) (hn : 0 < n) (i s r d : Nat) (hs : s < n) (hr : r < n) (hd : d < b) (h : cls b nx c0 n s = cls b nx c0 n r) : cls b nx c0 i (nx s d) = cls b nx c0 i (nx r d) := by
  have h1 := (num_inj _).1 (cls_any hnx hn (i + 1) s r hs hr h)
  simp only [ky, List.cons.injEq] at h1
  exact List.map_inj_left.1 h1.2 d (List.mem_range.2 hd)
theorem cls_fin (hnx : ∀ s d, s < n → d < b → nx s d < n) (hn : 0 < n) (s r : Nat) (hs : s < n) (hr : r < n) (h : cls b nx c0 n s = cls b nx c0 n r) : c0 s = c0 r := cls_any hnx hn 0 s r hs hr h
end

/-! the states as they are reached -/
def idxC (c : Nat → Nat) (S : List Nat) (s : Nat) : Nat := (clsOf c S).idxOf (c s : Int)
/-- k numbers have been given -/
def InvQ (b : Nat) (c : Nat → Nat) (nx : Nat → Nat → Nat) (Q : List Nat × List Int) (k : Nat) : Prop :=
  Q.2.length = k ∧ ∀ x, x < k → x / b < Q.1.length ∧ (c (nx (Q.1.getD (x / b) 0) (x % b)) : Int) ∈ clsOf c Q.1 ∧ Q.2.getD x 0 = (idxC c Q.1 (nx (Q.1.getD (x / b) 0) (x % b)) : Int)
theorem getD_pre (S t : List Nat) (j : Nat) (h : j < S.length) : (S ++ t).getD j 0 = S.getD j 0 := by
  simp [List.getD, h, List.getElem?_append_left]
theorem clsOf_pre (c : Nat → Nat) (S t : List Nat) : clsOf c (S ++ t) = clsOf c S ++ clsOf c t := by simp [clsOf]
theorem idxC_pre (c : Nat → Nat) (S t : List Nat) (s : Nat) (h : (c s : Int) ∈ clsOf c S) : idxC c (S ++ t) s = idxC c S s := by
  unfold idxC
  rw [clsOf_pre, List.idxOf_append, if_pos h]
theorem InvQ.step {b : Nat} {c : Nat → Nat} {nx : Nat → Nat → Nat} {Q : List Nat × List Int} {k : Nat} (h : InvQ b c nx Q k) (hk : k / b < Q.1.length) : InvQ b c nx (stepQ c Q (nx (Q.1.getD (k / b) 0) (k % b))) (k + 1) := by
  obtain ⟨t, ht⟩ := grow_pre c Q.1 (nx (Q.1.getD (k / b) 0) (k % b))
  have hm := grow_mem c Q.1 (nx (Q.1.getD (k / b) 0) (k % b))
  unfold stepQ
  refine ⟨by simp [h.1], fun x hx => ?_⟩
  dsimp only
  rcases Nat.lt_or_ge x k with h1 | h1
  · obtain ⟨a1, a2, a3⟩ := h.2 x h1
    rw [ht]
    rw [getD_pre _ _ _ a1]
    refine ⟨by simp; omega, by rw [clsOf_pre]; exact List.mem_append_left _ a2, ?_⟩
    rw [idxC_pre _ _ _ _ a2, ← a3]
    have : x < Q.2.length := by rw [h.1]; exact h1
    simp [List.getD, this, List.getElem?_append_left]
  · obtain rfl : x = k := by omega
    have e : (grow c Q.1 (nx (Q.1.getD (x / b) 0) (x % b))).getD (x / b) 0 = Q.1.getD (x / b) 0 := by rw [ht, getD_pre _ _ _ hk]
    rw [e]
    refine ⟨by rw [ht]; simp; omega, hm, ?_⟩
    have hl := h.1
    simp [List.getD, ← hl, idxC]
theorem rowQ_inv {b : Nat} {c : Nat → Nat} {nx : Nat → Nat → Nat} {Q : List Nat × List Int} {i : Nat} (hi : i < Q.1.length) (h : InvQ b c nx Q (i * b)) : ∀ d, d ≤ b → InvQ b c nx (rowQ c nx (Q.1.getD i 0) Q d) (i * b + d) := by
  intro d
  induction d with
  | zero => intro _; exact h
  | succ d ih =>
    intro hd
    have h1 := ih (by omega)
    obtain ⟨t, ht⟩ := rowQ_pre c nx (Q.1.getD i 0) Q d
    have e1 : (i * b + d) / b = i := by rw [Nat.mul_comm, Nat.mul_add_div (by omega), Nat.div_eq_of_lt (by omega)]; rfl
    have e2 : (i * b + d) % b = d := by rw [Nat.mul_comm, Nat.mul_add_mod, Nat.mod_eq_of_lt (by omega)]
    have h2 := h1.step (by rw [e1, ht]; simp; omega)
    rw [e1, e2, ht, getD_pre _ _ _ hi] at h2
    exact h2
theorem bfs_inv {n b : Nat} {c : Nat → Nat} {nx : Nat → Nat → Nat} (hnx : ∀ s d, s < n → d < b → nx s d < n) : ∀ (f i : Nat) (Q : List Nat × List Int), n < f + i → i ≤ Q.1.length → GoodS n c Q.1 → InvQ b c nx Q (i * b) →
    InvQ b c nx (bfs b c nx f i Q) ((bfs b c nx f i Q).1.length * b) ∧ GoodS n c (bfs b c nx f i Q).1 ∧ (∃ t, (bfs b c nx f i Q).1 = Q.1 ++ t) ∧ ∃ t, (bfs b c nx f i Q).2 = Q.2 ++ t := by
  intro f
  induction f with
  | zero =>
    intro i Q hf hi hg h
    have := hg.len
    omega
  | succ f ih =>
    intro i Q hf hi hg h
    rw [bfs]
    split
    · rename_i hlt
      have e : Q.1.getD i 0 = Q.1[i] := by simp [List.getD, hlt]
      have h0 : Q.1.getD i 0 < n := by rw [e]; exact hg.lt _ (List.getElem_mem hlt)
      obtain ⟨t, ht⟩ := rowQ_pre c nx (Q.1.getD i 0) Q b
      have h1 := rowQ_inv hlt h b (Nat.le_refl _)
      have h2 := rowQ_good hnx h0 hg b (Nat.le_refl _)
      obtain ⟨a1, a2, ⟨t2, a3⟩, t3, a4⟩ := ih (i + 1) (rowQ c nx (Q.1.getD i 0) Q b) (by omega) (by rw [ht]; simp; omega) h2 (by rw [Nat.add_mul, Nat.one_mul]; exact h1)
      obtain ⟨t4, ht4⟩ : ∃ t, (rowQ c nx (Q.1.getD i 0) Q b).2 = Q.2 ++ t := by
        have : ∀ d, ∃ t, (rowQ c nx (Q.1.getD i 0) Q d).2 = Q.2 ++ t := by
          intro d
          induction d with
          | zero => exact ⟨[], by simp [rowQ]⟩
          | succ d ihd =>
            obtain ⟨t, e⟩ := ihd
            exact ⟨t ++ _, by rw [rowQ, stepQ, e, List.append_assoc]⟩
        exact this b
      exact ⟨a1, a2, ⟨t ++ t2, by rw [a3, ht, List.append_assoc]⟩, t4 ++ t3, by rw [a4, ht4, List.append_assoc]⟩
    · rename_i hge
      obtain rfl : i = Q.1.length := by omega
      exact ⟨h, hg, ⟨[], by simp⟩, [], by simp⟩
theorem red_inv {n b : Nat} {c : Nat → Nat} {nx : Nat → Nat → Nat} (hnx : ∀ s d, s < n → d < b → nx s d < n) (hn : 0 < n) :
    InvQ b c nx (redQ n b c nx) ((redQ n b c nx).1.length * b) ∧ GoodS n c (redQ n b c nx).1 ∧ (∃ t, (redQ n b c nx).1 = 0 :: t) := by
  obtain ⟨h1, h2, ⟨t, h3⟩, -⟩ := bfs_inv (c := c) hnx (n + 1) 0 ([0], []) (by omega) (by simp) (GoodS.start hn) (by rw [Nat.zero_mul]; exact ⟨rfl, fun x hx => by omega⟩)
  exact ⟨h1, h2, t, h3⟩

end Go.Proofs.YtkapbhlnjmfaaaaDoor
