/- Classes of states numbered by first occurrence, refined round by round: when the count of numbers repeats, the numbers stand still. Plain Lean, no program. Conditions: none. -/
import Derived.Test.YtkapbhlnjmfaaaaDoorProg
namespace Go.Proofs.YtkapbhlnjmfaaaaDoor
set_option linter.unusedVariables false

/-- the distinct values of f at 0 .. k-1, in order of first occurrence -/
def dist {K : Type} [DecidableEq K] (f : Nat → K) : Nat → List K
  | 0 => []
  | k + 1 => if f k ∈ dist f k then dist f k else dist f k ++ [f k]
/-- the number of the value f s -/
def num {K : Type} [DecidableEq K] (f : Nat → K) (s : Nat) : Nat := (dist f (s + 1)).idxOf (f s)
section
variable {K L : Type} [DecidableEq K] [DecidableEq L]
theorem dist_old {f : Nat → K} {k : Nat} (h : f k ∈ dist f k) : dist f (k + 1) = dist f k := by rw [dist, if_pos h]
theorem dist_new {f : Nat → K} {k : Nat} (h : f k ∉ dist f k) : dist f (k + 1) = dist f k ++ [f k] := by rw [dist, if_neg h]
theorem dist_len (f : Nat → K) (k : Nat) : (dist f k).length ≤ k := by
  induction k with
  | zero => exact Nat.le_refl _
  | succ k ih => rw [dist]; split <;> (try simp) <;> omega
theorem dist_self (f : Nat → K) (k : Nat) : f k ∈ dist f (k + 1) := by
  by_cases h : f k ∈ dist f k
  · rw [dist_old h]; exact h
  · rw [dist_new h]; simp
theorem dist_mono (f : Nat → K) {x : K} {k : Nat} (h : x ∈ dist f k) : x ∈ dist f (k + 1) := by
  rw [dist]; split
  · exact h
  · exact List.mem_append_left _ h
theorem dist_mono_le (f : Nat → K) {x : K} {k m : Nat} (hm : k ≤ m) (h : x ∈ dist f k) : x ∈ dist f m := by
  induction hm with
  | refl => exact h
  | step _ ih => exact dist_mono f ih
theorem dist_mem (f : Nat → K) {s k : Nat} (h : s < k) : f s ∈ dist f k := dist_mono_le f h (dist_self f s)
theorem dist_ex (f : Nat → K) : ∀ {k : Nat} {x : K}, x ∈ dist f k → ∃ s, s < k ∧ f s = x := by
  intro k
  induction k with
  | zero => intro x h; simp [dist] at h
  | succ k ih =>
    intro x h
    by_cases hk : f k ∈ dist f k
    · rw [dist_old hk] at h
      obtain ⟨s, hs, e⟩ := ih h
      exact ⟨s, by omega, e⟩
    · rw [dist_new hk] at h
      rcases List.mem_append.1 h with h | h
      · obtain ⟨s, hs, e⟩ := ih h
        exact ⟨s, by omega, e⟩
      · simp at h; exact ⟨k, by omega, h.symm⟩
theorem idx_succ (f : Nat → K) {x : K} {k : Nat} (h : x ∈ dist f k) : (dist f (k + 1)).idxOf x = (dist f k).idxOf x := by
  by_cases hk : f k ∈ dist f k
  · rw [dist_old hk]
  · rw [dist_new hk, List.idxOf_append, if_pos h]
theorem idx_le (f : Nat → K) {x : K} {k m : Nat} (hm : k ≤ m) (h : x ∈ dist f k) : (dist f m).idxOf x = (dist f k).idxOf x := by
  induction hm with
  | refl => rfl
  | step hm ih => rw [idx_succ f (dist_mono_le f hm h), ih]
theorem num_at (f : Nat → K) {s k : Nat} (h : s < k) : (dist f k).idxOf (f s) = num f s := idx_le f h (dist_self f s)
theorem num_inj (f : Nat → K) {s r : Nat} : num f s = num f r ↔ f s = f r := by
  constructor
  · intro h
    have hs := dist_mem f (show s < max s r + 1 by omega)
    have hr := dist_mem f (show r < max s r + 1 by omega)
    rw [← num_at f (show s < max s r + 1 by omega), ← num_at f (show r < max s r + 1 by omega)] at h
    have e1 := List.getElem_idxOf (List.idxOf_lt_length_of_mem hs)
    have e2 := List.getElem_idxOf (List.idxOf_lt_length_of_mem hr)
    rw [← e1, ← e2]
    simp only [h]
  · intro h
    rw [← num_at f (show s < max s r + 1 by omega), ← num_at f (show r < max s r + 1 by omega), h]
theorem num_lt (f : Nat → K) {s k : Nat} (h : s < k) : num f s < (dist f k).length := by
  rw [← num_at f h]; exact List.idxOf_lt_length_of_mem (dist_mem f h)
theorem num_new (f : Nat → K) {k : Nat} (h : f k ∉ dist f k) : num f k = (dist f k).length := by
  rw [num, dist_new h, List.idxOf_append, if_neg h]
  simp
/-- g tells apart what f tells apart -/
def finer (n : Nat) (f : Nat → K) (g : Nat → L) : Prop := ∀ s r, s < n → r < n → g s = g r → f s = f r
theorem finer_new {n : Nat} {f : Nat → K} {g : Nat → L} (h : finer n f g) {k : Nat} (hk : k < n) (hn : f k ∉ dist f k) : g k ∉ dist g k := by
  intro hg
  obtain ⟨s, hs, e⟩ := dist_ex g hg
  exact hn (h s k (by omega) hk e ▸ dist_mem f hs)
theorem finer_step {n : Nat} {f : Nat → K} {g : Nat → L} (h : finer n f g) {k : Nat} (hk : k < n) :
    (dist f (k + 1)).length + (dist g k).length ≤ (dist g (k + 1)).length + (dist f k).length := by
  by_cases hf : f k ∈ dist f k
  · rw [dist_old hf, dist]; split <;> (try simp) <;> omega
  · rw [dist_new hf, dist_new (finer_new h hk hf)]; simp; omega
theorem finer_le {n : Nat} {f : Nat → K} {g : Nat → L} (h : finer n f g) : ∀ k, k ≤ n → (dist f k).length ≤ (dist g k).length := by
  intro k
  induction k with
  | zero => intro _; exact Nat.le_refl _
  | succ k ih => intro hk; have := finer_step h (show k < n by omega); have := ih (by omega); omega
theorem finer_eq {n : Nat} {f : Nat → K} {g : Nat → L} (h : finer n f g) (e : (dist f n).length = (dist g n).length) : ∀ d, d ≤ n → (dist f (n - d)).length = (dist g (n - d)).length := by
  intro d
  induction d with
  | zero => intro _; exact e
  | succ d ih =>
    intro hd
    have h1 := ih (by omega)
    have h2 := finer_step h (show n - (d + 1) < n by omega)
    have h3 := finer_le h (n - (d + 1)) (by omega)
    rw [show n - (d + 1) + 1 = n - d by omega] at h2
    omega
theorem finer_num {n : Nat} {f : Nat → K} {g : Nat → L} (h : finer n f g) (e : (dist f n).length = (dist g n).length) : ∀ s, s < n → num f s = num g s := by
  intro s
  induction s using Nat.strongRecOn with
  | _ s ih =>
    intro hs
    have e1 := finer_eq h e (n - s) (by omega)
    have e2 := finer_eq h e (n - (s + 1)) (by omega)
    rw [show n - (n - s) = s by omega] at e1
    rw [show n - (n - (s + 1)) = s + 1 by omega] at e2
    by_cases hf : f s ∈ dist f s
    · have hg : g s ∈ dist g s := by
        by_cases hg : g s ∈ dist g s
        · exact hg
        · rw [dist_old hf, dist_new hg] at e2; simp at e2; omega
      obtain ⟨r, hr, er⟩ := dist_ex g hg
      have ef := h r s (by omega) hs er
      rw [← (num_inj f).2 ef, ih r hr (by omega), (num_inj g).2 er]
    · rw [num_new f hf, num_new g (finer_new h hs hf), e1]
theorem dist_congr {f g : Nat → K} : ∀ (k : Nat), (∀ s, s < k → f s = g s) → dist f k = dist g k := by
  intro k
  induction k with
  | zero => intro _; rfl
  | succ k ih => intro h; rw [dist, dist, ih (fun s hs => h s (by omega)), h k (by omega)]
theorem num_congr {f g : Nat → K} {s : Nat} (h : ∀ r, r ≤ s → f r = g r) : num f s = num g s := by
  rw [num, num, dist_congr (s + 1) (fun r hr => h r (by omega)), h s (Nat.le_refl _)]
end
/-- what tells two states apart in a round: their class, and the classes of the states that follow -/
def ky (b : Nat) (nx : Nat → Nat → Nat) (c : Nat → Nat) (s : Nat) : List Nat := c s :: (List.range b).map (fun d => c (nx s d))
/-- the classes after i rounds -/
def cls (b : Nat) (nx : Nat → Nat → Nat) (c0 : Nat → Nat) : Nat → Nat → Nat
  | 0 => c0
  | i + 1 => num (ky b nx (cls b nx c0 i))
/-- how many keys there are in round i -/
def cnt (n b : Nat) (nx : Nat → Nat → Nat) (c0 : Nat → Nat) (i : Nat) : Nat := (dist (ky b nx (cls b nx c0 i)) n).length
theorem ky_congr {n b : Nat} {nx : Nat → Nat → Nat} (hnx : ∀ s d, s < n → d < b → nx s d < n) {c c' : Nat → Nat} (h : ∀ s, s < n → c s = c' s) : ∀ s, s < n → ky b nx c s = ky b nx c' s := by
  intro s hs
  simp only [ky, h s hs]
  congr 1
  apply List.map_congr_left
  intro d hd
  exact h _ (hnx s d hs (List.mem_range.1 hd))
theorem ky_finer (n b : Nat) (nx : Nat → Nat → Nat) (c0 : Nat → Nat) (i : Nat) : finer n (ky b nx (cls b nx c0 i)) (ky b nx (cls b nx c0 (i + 1))) := by
  intro s r _ _ h
  have h1 : cls b nx c0 (i + 1) s = cls b nx c0 (i + 1) r := by simp only [ky, List.cons.injEq] at h; exact h.1
  exact (num_inj _).1 h1
theorem cnt_le (n b : Nat) (nx : Nat → Nat → Nat) (c0 : Nat → Nat) (i : Nat) : cnt n b nx c0 i ≤ n := dist_len _ _
theorem cnt_step (n b : Nat) (nx : Nat → Nat → Nat) (c0 : Nat → Nat) (i : Nat) : cnt n b nx c0 i ≤ cnt n b nx c0 (i + 1) := finer_le (ky_finer n b nx c0 i) n (Nat.le_refl _)
theorem cls_still {n b : Nat} {nx : Nat → Nat → Nat} (hnx : ∀ s d, s < n → d < b → nx s d < n) {c0 : Nat → Nat} {i : Nat} (e : cnt n b nx c0 (i + 1) = cnt n b nx c0 i) :
    ∀ j s, s < n → cls b nx c0 (i + 1 + j) s = cls b nx c0 (i + 1) s := by
  have h1 : ∀ s, s < n → cls b nx c0 (i + 1 + 1) s = cls b nx c0 (i + 1) s := fun s hs => (finer_num (ky_finer n b nx c0 i) e.symm s hs).symm
  intro j
  induction j with
  | zero => intro s _; rfl
  | succ j ih =>
    intro s hs
    rw [← h1 s hs]
    show num (ky b nx (cls b nx c0 (i + 1 + j))) s = num (ky b nx (cls b nx c0 (i + 1))) s
    exact num_congr (fun r hr => ky_congr hnx ih r (by omega))
theorem cnt_pos {n b : Nat} {nx : Nat → Nat → Nat} {c0 : Nat → Nat} {i : Nat} (hn : 0 < n) : 0 < cnt n b nx c0 i := by
  have := dist_mem (ky b nx (cls b nx c0 i)) hn
  exact List.length_pos_of_mem this
/-- the program stops at the first repeat of the count, the reference after n rounds: the same classes -/
theorem cls_all {n b : Nat} {nx : Nat → Nat → Nat} (hnx : ∀ s d, s < n → d < b → nx s d < n) {c0 : Nat → Nat} {i : Nat} (e : cnt n b nx c0 (i + 1) = cnt n b nx c0 i) (hi : i < cnt n b nx c0 i) :
    ∀ s, s < n → cls b nx c0 (i + 2) s = cls b nx c0 n s := by
  intro s hs
  have h1 := cnt_le n b nx c0 i
  rw [show i + 2 = i + 1 + 1 by omega, cls_still hnx e 1 s hs, show n = i + 1 + (n - (i + 1)) by omega, cls_still hnx e _ s (by omega)]

end Go.Proofs.YtkapbhlnjmfaaaaDoor
