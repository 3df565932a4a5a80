/- The reduced machine runs as the machine does, and is its own reduced machine. Plain Lean, no program. Conditions: those of each lemma. -/
import Derived.Test.YtkapbhlnjmfaaaaDoorRedT
namespace Go.Proofs.YtkapbhlnjmfaaaaDoor
set_option linter.unusedVariables false

/-- the classes in the end -/
def cE (n b : Nat) (nx : Nat → Nat → Nat) (c0 : Nat → Nat) : Nat → Nat := cls b nx c0 n
/-- the reduced machine's transitions and marks -/
def nx2 (n b : Nat) (nx : Nat → Nat → Nat) (c0 : Nat → Nat) (j d : Nat) : Nat := ((redQ n b (cE n b nx c0) nx).2.getD (j * b + d) 0).toNat
def c02 (n b : Nat) (nx : Nat → Nat → Nat) (c0 : Nat → Nat) (j : Nat) : Nat := c0 ((redQ n b (cE n b nx c0) nx).1.getD j 0)
section
variable {n b : Nat} {nx : Nat → Nat → Nat} {c0 : Nat → Nat}
theorem idxC_at {c : Nat → Nat} {S : List Nat} {s : Nat} (h : (c s : Int) ∈ clsOf c S) : idxC c S s < S.length ∧ c (S.getD (idxC c S s) 0) = c s := by
  have h1 : idxC c S s < (clsOf c S).length := List.idxOf_lt_length_of_mem h
  have h2 : (clsOf c S)[idxC c S s] = (c s : Int) := List.getElem_idxOf h1
  rw [clsOf_len] at h1
  refine ⟨h1, ?_⟩
  have h3 : (clsOf c S)[idxC c S s]'(by rw [clsOf_len]; exact h1) = (c (S[idxC c S s]) : Int) := by simp [clsOf]
  have h4 := h3.symm.trans h2
  simp only [List.getD, List.getElem?_eq_getElem h1, Option.getD_some]
  omega
theorem idxC_congr {c : Nat → Nat} {S : List Nat} {s r : Nat} (h : c s = c r) : idxC c S s = idxC c S r := by unfold idxC; rw [h]
theorem idxC_self {c : Nat → Nat} {S : List Nat} (hn : (clsOf c S).Nodup) (j : Nat) (hj : j < S.length) : idxC c S (S.getD j 0) = j := by
  have hj2 : j < (clsOf c S).length := by rw [clsOf_len]; exact hj
  have e : (clsOf c S)[j] = (c (S.getD j 0) : Int) := by simp [clsOf, List.getD, hj]
  unfold idxC
  rw [← e]
  exact hn.idxOf_getElem j hj2
theorem mem_self {c : Nat → Nat} {S : List Nat} (j : Nat) (hj : j < S.length) : (c (S.getD j 0) : Int) ∈ clsOf c S := by
  unfold clsOf
  rw [List.mem_map]
  exact ⟨S.getD j 0, by simp [List.getD, hj], rfl⟩
/-- all that is asked of a machine: states below n stay below n -/
def stS (n b : Nat) (nx : Nat → Nat → Nat) (c0 : Nat → Nat) : List Nat := (redQ n b (cE n b nx c0) nx).1
def reach (n b : Nat) (nx : Nat → Nat → Nat) (c0 : Nat → Nat) (s : Nat) : Prop := s < n ∧ (cE n b nx c0 s : Int) ∈ clsOf (cE n b nx c0) (stS n b nx c0)
def idxE (n b : Nat) (nx : Nat → Nat → Nat) (c0 : Nat → Nat) (s : Nat) : Nat := idxC (cE n b nx c0) (stS n b nx c0) s
theorem nx2_eq (hnx : ∀ s d, s < n → d < b → nx s d < n) (hn : 0 < n) (j d : Nat) (hj : j < (stS n b nx c0).length) (hd : d < b) :
    (cE n b nx c0 (nx ((stS n b nx c0).getD j 0) d) : Int) ∈ clsOf (cE n b nx c0) (stS n b nx c0) ∧ nx2 n b nx c0 j d = idxE n b nx c0 (nx ((stS n b nx c0).getD j 0) d) ∧ (redQ n b (cE n b nx c0) nx).2.getD (j * b + d) 0 = (nx2 n b nx c0 j d : Int) := by
  obtain ⟨⟨h1, h2⟩, h3, -⟩ := red_inv (c := cE n b nx c0) hnx hn
  have hlt : j * b + d < (stS n b nx c0).length * b := by
    have : (j + 1) * b ≤ (stS n b nx c0).length * b := Nat.mul_le_mul_right b (by omega)
    rw [Nat.add_mul, Nat.one_mul] at this
    omega
  have e1 : (j * b + d) / b = j := by rw [Nat.mul_comm, Nat.mul_add_div (by omega), Nat.div_eq_of_lt (by omega)]; rfl
  have e2 : (j * b + d) % b = d := by rw [Nat.mul_comm, Nat.mul_add_mod, Nat.mod_eq_of_lt (by omega)]
  obtain ⟨-, a2, a3⟩ := h2 _ hlt
  rw [e1, e2] at a2 a3
  have e3 : nx2 n b nx c0 j d = idxE n b nx c0 (nx ((stS n b nx c0).getD j 0) d) := by
    unfold nx2 idxE stS
    rw [a3]
    rfl
  exact ⟨a2, e3, by rw [e3]; exact a3⟩
theorem st_lt (hnx : ∀ s d, s < n → d < b → nx s d < n) (hn : 0 < n) (j : Nat) (hj : j < (stS n b nx c0).length) : (stS n b nx c0).getD j 0 < n := by
  obtain ⟨-, h3, -⟩ := red_inv (c := cE n b nx c0) hnx hn
  have e : (stS n b nx c0).getD j 0 = (stS n b nx c0)[j] := by simp [List.getD, hj]
  rw [e]
  exact h3.lt _ (List.getElem_mem hj)
theorem nx2_lt (hnx : ∀ s d, s < n → d < b → nx s d < n) (hn : 0 < n) : ∀ j d, j < (stS n b nx c0).length → d < b → nx2 n b nx c0 j d < (stS n b nx c0).length := fun j d hj hd => by
  obtain ⟨a1, a2, -⟩ := nx2_eq (c0 := c0) hnx hn j d hj hd
  rw [a2]
  exact (idxC_at a1).1
theorem st_pos (hnx : ∀ s d, s < n → d < b → nx s d < n) (hn : 0 < n) : 0 < (stS n b nx c0).length := by
  obtain ⟨-, -, t, h⟩ := red_inv (c := cE n b nx c0) hnx hn
  unfold stS
  rw [h]
  simp
theorem st_le (hnx : ∀ s d, s < n → d < b → nx s d < n) (hn : 0 < n) : (stS n b nx c0).length ≤ n := (red_inv (c := cE n b nx c0) hnx hn).2.1.len
theorem reach_zero (hnx : ∀ s d, s < n → d < b → nx s d < n) (hn : 0 < n) : reach n b nx c0 0 ∧ idxE n b nx c0 0 = 0 := by
  obtain ⟨-, -, t, h⟩ := red_inv (c := cE n b nx c0) hnx hn
  have e : stS n b nx c0 = 0 :: t := h
  refine ⟨⟨hn, by rw [e]; simp [clsOf]⟩, ?_⟩
  unfold idxE idxC
  rw [e]
  simp [clsOf]
theorem reach_next (hnx : ∀ s d, s < n → d < b → nx s d < n) (hn : 0 < n) (s d : Nat) (hs : reach n b nx c0 s) (hd : d < b) :
    reach n b nx c0 (nx s d) ∧ nx2 n b nx c0 (idxE n b nx c0 s) d = idxE n b nx c0 (nx s d) := by
  obtain ⟨h1, h2⟩ := idxC_at hs.2
  have h3 := st_lt (c0 := c0) hnx hn _ h1
  obtain ⟨a1, a2, -⟩ := nx2_eq (c0 := c0) hnx hn _ d h1 hd
  have h4 : cE n b nx c0 (nx ((stS n b nx c0).getD (idxC (cE n b nx c0) (stS n b nx c0) s) 0) d) = cE n b nx c0 (nx s d) := cls_next hnx hn n _ s d h3 hs.1 hd h2
  rw [h4] at a1
  exact ⟨⟨hnx s d hs.1 hd, a1⟩, by rw [show idxE n b nx c0 s = idxC (cE n b nx c0) (stS n b nx c0) s from rfl, a2]; exact idxC_congr h4⟩
theorem reach_fin (hnx : ∀ s d, s < n → d < b → nx s d < n) (hn : 0 < n) (s : Nat) (hs : reach n b nx c0 s) : c02 n b nx c0 (idxE n b nx c0 s) = c0 s := by
  obtain ⟨h1, h2⟩ := idxC_at hs.2
  exact cls_fin hnx hn _ s (st_lt (c0 := c0) hnx hn _ h1) hs.1 h2

/-! the reduced machine's own classes -/
theorem cls2 (hnx : ∀ s d, s < n → d < b → nx s d < n) (hn : 0 < n) : ∀ i j k, j < (stS n b nx c0).length → k < (stS n b nx c0).length →
    cls b (nx2 n b nx c0) (c02 n b nx c0) i j = cls b (nx2 n b nx c0) (c02 n b nx c0) i k → cls b nx c0 i ((stS n b nx c0).getD j 0) = cls b nx c0 i ((stS n b nx c0).getD k 0) := by
  intro i
  induction i with
  | zero => intro j k hj hk h; exact h
  | succ i ih =>
    intro j k hj hk h
    have h1 := (num_inj _).1 h
    simp only [ky, List.cons.injEq] at h1
    refine (num_inj _).2 ?_
    simp only [ky, List.cons.injEq]
    refine ⟨ih j k hj hk h1.1, List.map_inj_left.2 (fun d hd => ?_)⟩
    have hd' := List.mem_range.1 hd
    have h2 := List.map_inj_left.1 h1.2 d hd
    have h3 := ih _ _ (nx2_lt (c0 := c0) hnx hn j d hj hd') (nx2_lt (c0 := c0) hnx hn k d hk hd') h2
    have key : ∀ j, j < (stS n b nx c0).length → cls b nx c0 i ((stS n b nx c0).getD (nx2 n b nx c0 j d) 0) = cls b nx c0 i (nx ((stS n b nx c0).getD j 0) d) := by
      intro j hj
      obtain ⟨a1, a2, -⟩ := nx2_eq (c0 := c0) hnx hn j d hj hd'
      obtain ⟨b1, b2⟩ := idxC_at a1
      rw [a2]
      exact cls_any hnx hn i _ _ (st_lt (c0 := c0) hnx hn _ b1) (hnx _ d (st_lt (c0 := c0) hnx hn j hj) hd') b2
    rw [← key j hj, ← key k hk]
    exact h3
theorem cls2_inj (hnx : ∀ s d, s < n → d < b → nx s d < n) (hn : 0 < n) (j k : Nat) (hj : j < (stS n b nx c0).length) (hk : k < (stS n b nx c0).length)
    (h : cE (stS n b nx c0).length b (nx2 n b nx c0) (c02 n b nx c0) j = cE (stS n b nx c0).length b (nx2 n b nx c0) (c02 n b nx c0) k) : j = k := by
  have h1 := cls_any (nx2_lt (c0 := c0) hnx hn) (st_pos (c0 := c0) hnx hn) n j k hj hk h
  have h2 := cls2 (c0 := c0) hnx hn n j k hj hk h1
  have h3 : cE n b nx c0 ((stS n b nx c0).getD j 0) = cE n b nx c0 ((stS n b nx c0).getD k 0) := h2
  have hg := (red_inv (c := cE n b nx c0) hnx hn).2.1.nodup
  have e1 := idxC_self (S := stS n b nx c0) hg j hj
  have e2 := idxC_self (S := stS n b nx c0) hg k hk
  rw [← e1, ← e2]
  exact idxC_congr h3
theorem num_id {K : Type} [DecidableEq K] {f : Nat → K} {m : Nat} (h : ∀ s r, s < m → r < m → f s = f r → s = r) : ∀ s, s ≤ m → (dist f s).length = s ∧ ∀ r, r < s → num f r = r := by
  intro s
  induction s with
  | zero => intro _; exact ⟨rfl, fun r hr => by omega⟩
  | succ s ih =>
    intro hs
    obtain ⟨h1, h2⟩ := ih (by omega)
    have hne : f s ∉ dist f s := by
      intro hm
      obtain ⟨r, hr, e⟩ := dist_ex f hm
      have := h r s (by omega) (by omega) e
      omega
    refine ⟨by rw [dist_new hne]; simp [h1], fun r hr => ?_⟩
    rcases Nat.lt_or_ge r s with h3 | h3
    · exact h2 r h3
    · obtain rfl : r = s := by omega
      rw [num_new f hne, h1]
theorem cls2_id (hnx : ∀ s d, s < n → d < b → nx s d < n) (hn : 0 < n) (j : Nat) (hj : j < (stS n b nx c0).length) :
    cE (stS n b nx c0).length b (nx2 n b nx c0) (c02 n b nx c0) j = j := by
  have hinj := cls2_inj (c0 := c0) hnx hn
  have hp := st_pos (c0 := c0) hnx hn
  unfold cE at hinj ⊢
  generalize hS : (stS n b nx c0).length = m at *
  obtain ⟨q, rfl⟩ : ∃ q, m = q + 1 := ⟨m - 1, by omega⟩
  exact (num_id (m := q + 1) (f := ky b (nx2 n b nx c0) (cls b (nx2 n b nx c0) (c02 n b nx c0) q)) (fun s r hs hr e => hinj s r hs hr ((num_inj _).2 e)) (q + 1) (Nat.le_refl _)).2 j hj
end

end Go.Proofs.YtkapbhlnjmfaaaaDoor
