/- Counting the lists that are accepted: the ways to each state, and sums over digits. Plain Lean, no program. Conditions: those of each lemma. -/
import Derived.Test.YtkapbhlnjmfaaaaDoorProg
namespace Go.Proofs.YtkapbhlnjmfaaaaDoor
set_option linter.unusedVariables false

def sumR : Nat → (Nat → Int) → Int
  | 0, _ => 0
  | d + 1, f => sumR d f + f d
theorem sumR_congr {f g : Nat → Int} : ∀ (n : Nat), (∀ x, x < n → f x = g x) → sumR n f = sumR n g := by
  intro n
  induction n with
  | zero => intro _; rfl
  | succ n ih => intro h; rw [sumR, sumR, ih (fun x hx => h x (by omega)), h n (by omega)]
theorem sumR_nonneg {f : Nat → Int} (h : ∀ x, 0 ≤ f x) (n : Nat) : 0 ≤ sumR n f := by
  induction n with
  | zero => exact Int.le_refl _
  | succ n ih => rw [sumR]; have := h n; omega
theorem sumR_mono {f : Nat → Int} (h : ∀ x, 0 ≤ f x) {m n : Nat} (hmn : m ≤ n) : sumR m f ≤ sumR n f := by
  induction hmn with
  | refl => exact Int.le_refl _
  | step _ ih => rw [sumR]; have := h; rename_i k _; have := h k; omega
theorem sumR_ge {f : Nat → Int} (h : ∀ x, 0 ≤ f x) {u n : Nat} (hu : u < n) : f u ≤ sumR n f := by
  have h1 := sumR_mono h (show u + 1 ≤ n from hu)
  rw [sumR] at h1
  have := sumR_nonneg h u
  omega
theorem sumR_le {f : Nat → Int} {M : Int} (h : ∀ x, f x ≤ M) (n : Nat) : sumR n f ≤ n * M := by
  induction n with
  | zero => simp [sumR]
  | succ n ih =>
    rw [sumR]
    have := h n
    have e : ((n + 1 : Nat) : Int) * M = n * M + M := by rw [Int.natCast_add, Int.add_mul]; simp
    omega
theorem sumR_mul (c : Int) (f : Nat → Int) (n : Nat) : sumR n (fun x => c * f x) = c * sumR n f := by
  induction n with
  | zero => simp [sumR]
  | succ n ih => rw [sumR, sumR, ih, Int.mul_add]
theorem sumR_const (c : Int) (n : Nat) : sumR n (fun _ => c) = n * c := by
  induction n with
  | zero => simp [sumR]
  | succ n ih => rw [sumR, ih, Int.natCast_add, Int.add_mul]; simp
theorem sumR_upd {f g : Nat → Int} {u : Nat} (h : ∀ x, x ≠ u → g x = f x) : ∀ (n : Nat), sumR n g = sumR n f + (if u < n then g u - f u else 0) := by
  intro n
  induction n with
  | zero => simp [sumR]
  | succ n ih =>
    rw [sumR, sumR, ih]
    by_cases e : n = u
    · subst e
      rw [if_neg (by omega), if_pos (by omega)]
      omega
    · rw [h n e]
      by_cases h2 : u < n
      · rw [if_pos h2, if_pos (by omega)]; omega
      · rw [if_neg h2, if_neg (by omega)]; omega
/-- how many lists of k digits lead from s to a marked state -/
def accN (b : Nat) (nx : Nat → Nat → Nat) (fin : Nat → Bool) : Nat → Nat → Int
  | 0, s => if fin s then 1 else 0
  | k + 1, s => sumR b (fun d => accN b nx fin k (nx s d))
theorem accN_bd (b : Nat) (nx : Nat → Nat → Nat) (fin : Nat → Bool) : ∀ k s, 0 ≤ accN b nx fin k s ∧ accN b nx fin k s ≤ ((b ^ k : Nat) : Int) := by
  intro k
  induction k with
  | zero => intro s; rw [accN]; split <;> simp
  | succ k ih =>
    intro s
    rw [accN]
    refine ⟨sumR_nonneg (fun x => (ih _).1) b, ?_⟩
    have := sumR_le (fun x => (ih (nx s x)).2) b
    rw [Nat.pow_succ, Nat.mul_comm, Int.natCast_mul]
    exact this
def dot (g : Nat → Int) (L : List Int) : Int := sumR L.length (fun u => L.getD u 0 * g u)
def addAt (L : List Int) (u : Nat) (v : Int) : List Int := L.set u (L.getD u 0 + v)
theorem addAt_len (L : List Int) (u : Nat) (v : Int) : (addAt L u v).length = L.length := by simp [addAt]
theorem addAt_get (L : List Int) (u : Nat) (v : Int) (hu : u < L.length) (x : Nat) : (addAt L u v).getD x 0 = if x = u then L.getD u 0 + v else L.getD x 0 := by
  unfold addAt
  by_cases e : x = u
  · subst e
    rw [if_pos rfl]
    simp [List.getD, hu]
  · rw [if_neg e]
    simp [List.getD, List.getElem?_set_ne (Ne.symm e)]
theorem dot_add (g : Nat → Int) (L : List Int) (u : Nat) (v : Int) (hu : u < L.length) : dot g (addAt L u v) = dot g L + v * g u := by
  unfold dot
  rw [addAt_len, sumR_upd (f := fun x => L.getD x 0 * g x) (u := u) (fun x hx => by rw [addAt_get L u v hu, if_neg hx]), if_pos hu, addAt_get L u v hu, if_pos rfl, Int.add_mul]
  omega
def rowW (nx : Nat → Nat → Nat) (w : Int) (s : Nat) (L : List Int) : Nat → List Int
  | 0 => L
  | d + 1 => addAt (rowW nx w s L d) (nx s d) w
def nextW (b : Nat) (nx : Nat → Nat → Nat) (W L0 : List Int) : Nat → List Int
  | 0 => L0
  | s + 1 => rowW nx (W.getD s 0) s (nextW b nx W L0 s) b
def waysN (n b : Nat) (nx : Nat → Nat → Nat) : Nat → List Int
  | 0 => (List.replicate n 0).set 0 1
  | k + 1 => nextW b nx (waysN n b nx k) (List.replicate n 0) n
theorem rowW_len (nx : Nat → Nat → Nat) (w : Int) (s : Nat) (L : List Int) (d : Nat) : (rowW nx w s L d).length = L.length := by
  induction d with
  | zero => rfl
  | succ d ih => rw [rowW, addAt_len, ih]
theorem nextW_len (b : Nat) (nx : Nat → Nat → Nat) (W L0 : List Int) (s : Nat) : (nextW b nx W L0 s).length = L0.length := by
  induction s with
  | zero => rfl
  | succ s ih => rw [nextW, rowW_len, ih]
theorem waysN_len (n b : Nat) (nx : Nat → Nat → Nat) (k : Nat) : (waysN n b nx k).length = n := by
  cases k with
  | zero => simp [waysN]
  | succ k => rw [waysN, nextW_len]; simp
section
variable {n b : Nat} {nx : Nat → Nat → Nat}
theorem rowW_dot (hnx : ∀ s d, s < n → d < b → nx s d < n) (g : Nat → Int) (w : Int) (s : Nat) (hs : s < n) (L : List Int) (hL : L.length = n) : ∀ d, d ≤ b → dot g (rowW nx w s L d) = dot g L + w * sumR d (fun x => g (nx s x)) := by
  intro d
  induction d with
  | zero => intro _; simp [rowW, sumR]
  | succ d ih =>
    intro hd
    rw [rowW, dot_add g _ _ _ (by rw [rowW_len, hL]; exact hnx s d hs (by omega)), ih (by omega), sumR, Int.mul_add]
    omega
theorem nextW_dot (hnx : ∀ s d, s < n → d < b → nx s d < n) (g : Nat → Int) (W L0 : List Int) (hL : L0.length = n) : ∀ s, s ≤ n → dot g (nextW b nx W L0 s) = dot g L0 + sumR s (fun u => W.getD u 0 * sumR b (fun d => g (nx u d))) := by
  intro s
  induction s with
  | zero => intro _; simp [nextW, sumR]
  | succ s ih =>
    intro hs
    rw [nextW, rowW_dot hnx g _ s (by omega) _ (by rw [nextW_len, hL]) b (Nat.le_refl _), ih (by omega), sumR]
    omega
theorem dot_zero (g : Nat → Int) (n : Nat) : dot g (List.replicate n 0) = 0 := by
  unfold dot
  rw [sumR_congr (g := fun _ => 0) _ (fun x hx => by
    have hx2 : x < n := by simpa using hx
    simp [List.getD, hx2]), sumR_const]
  simp
theorem ways_dot0 (g : Nat → Int) (hn : 0 < n) : dot g (waysN n b nx 0) = g 0 := by
  have h : waysN n b nx 0 = addAt (List.replicate n 0) 0 1 := by
    unfold waysN addAt
    simp [List.getD, hn]
  rw [h, dot_add g _ _ _ (by simpa using hn), dot_zero]
  omega
theorem ways_dot (hnx : ∀ s d, s < n → d < b → nx s d < n) (g : Nat → Int) (k : Nat) : dot g (waysN n b nx (k + 1)) = dot (fun s => sumR b (fun d => g (nx s d))) (waysN n b nx k) := by
  rw [waysN, nextW_dot hnx g _ _ (by simp) n (Nat.le_refl _), dot_zero]
  unfold dot
  rw [waysN_len, Int.zero_add]
/-- the count at the end -/
theorem ways_acc (hnx : ∀ s d, s < n → d < b → nx s d < n) (hn : 0 < n) (fin : Nat → Bool) : ∀ k j, dot (accN b nx fin j) (waysN n b nx k) = accN b nx fin (j + k) 0 := by
  intro k
  induction k with
  | zero => intro j; exact ways_dot0 _ hn
  | succ k ih =>
    intro j
    rw [ways_dot hnx, show j + (k + 1) = (j + 1) + k by omega, ← ih (j + 1)]
    rfl
theorem ways_one (hnx : ∀ s d, s < n → d < b → nx s d < n) (hn : 0 < n) (k : Nat) : dot (fun _ => 1) (waysN n b nx k) = ((b ^ k : Nat) : Int) := by
  induction k with
  | zero => rw [ways_dot0 _ hn]; rfl
  | succ k ih =>
    rw [ways_dot hnx]
    have e : (fun (s : Nat) => sumR b (fun (d : Nat) => (1 : Int))) = (fun (_ : Nat) => (b : Int) * 1) := by funext s; rw [sumR_const]
    rw [e]
    have h : dot (fun _ => (b : Int) * 1) (waysN n b nx k) = (b : Int) * dot (fun _ => 1) (waysN n b nx k) := by
      unfold dot
      rw [← sumR_mul]
      exact sumR_congr _ (fun x _ => by rw [← Int.mul_assoc, Int.mul_comm _ (b : Int), Int.mul_assoc])
    rw [h, ih, Nat.pow_succ, Nat.mul_comm, Int.natCast_mul]
theorem rowW_nn (hnx : ∀ s d, s < n → d < b → nx s d < n) {w : Int} (hw : 0 ≤ w) (s : Nat) (hs : s < n) (L : List Int) (hL : L.length = n) (h : ∀ x, 0 ≤ L.getD x 0) : ∀ d, d ≤ b → ∀ x, 0 ≤ (rowW nx w s L d).getD x 0 := by
  intro d
  induction d with
  | zero => intro _; exact h
  | succ d ih =>
    intro hd x
    rw [rowW, addAt_get _ _ _ (by rw [rowW_len, hL]; exact hnx s d hs (by omega))]
    have h1 := ih (by omega)
    split
    · have := h1 (nx s d); omega
    · exact h1 x
theorem nextW_nn (hnx : ∀ s d, s < n → d < b → nx s d < n) {W L0 : List Int} (hL : L0.length = n) (hW : ∀ x, 0 ≤ W.getD x 0) (h : ∀ x, 0 ≤ L0.getD x 0) : ∀ s, s ≤ n → ∀ x, 0 ≤ (nextW b nx W L0 s).getD x 0 := by
  intro s
  induction s with
  | zero => intro _; exact h
  | succ s ih =>
    intro hs
    exact rowW_nn hnx (hW s) s (by omega) _ (by rw [nextW_len, hL]) (ih (by omega)) b (Nat.le_refl _)
theorem zeros_nn (n x : Nat) : 0 ≤ (List.replicate n (0 : Int)).getD x 0 := by
  by_cases h : x < n
  · simp [List.getD, h]
  · simp [List.getD, h]
theorem waysN_nn (hnx : ∀ s d, s < n → d < b → nx s d < n) (k : Nat) : ∀ x, 0 ≤ (waysN n b nx k).getD x 0 := by
  induction k with
  | zero =>
    intro x
    rw [waysN]
    by_cases hn : 0 < n
    · have e : (List.replicate n (0 : Int)).set 0 1 = addAt (List.replicate n 0) 0 1 := by unfold addAt; simp [List.getD, hn]
      rw [e, addAt_get _ _ _ (by simpa using hn)]
      split
      · have := zeros_nn n 0; omega
      · exact zeros_nn n x
    · obtain rfl : n = 0 := by omega
      simp
  | succ k ih => rw [waysN]; exact nextW_nn hnx (by simp) ih (zeros_nn n) n (Nat.le_refl _)
theorem le_dot1 {L : List Int} (h : ∀ x, 0 ≤ L.getD x 0) {u : Nat} (hu : u < L.length) : L.getD u 0 ≤ dot (fun _ => 1) L := by
  have := sumR_ge (f := fun u => L.getD u 0 * 1) (fun x => by have := h x; omega) hu
  unfold dot
  simp only [Int.mul_one] at this ⊢
  exact this
/-- in the midst of a round: what stands in the list, and what is added -/
theorem ways_mid (hnx : ∀ s d, s < n → d < b → nx s d < n) (hn : 0 < n) (k s d : Nat) (hs : s < n) (hd : d < b) :
    0 ≤ (waysN n b nx k).getD s 0 ∧ (waysN n b nx k).getD s 0 ≤ ((b ^ k : Nat) : Int) ∧ 0 ≤ (rowW nx ((waysN n b nx k).getD s 0) s (nextW b nx (waysN n b nx k) (List.replicate n 0) s) d).getD (nx s d) 0 ∧
    (rowW nx ((waysN n b nx k).getD s 0) s (nextW b nx (waysN n b nx k) (List.replicate n 0) s) d).getD (nx s d) 0 ≤ ((b ^ (k + 1) : Nat) : Int) := by
  have hW := waysN_nn hnx k
  have h1 := nextW_nn hnx (L0 := List.replicate n 0) (by simp) hW (zeros_nn n) s (by omega)
  have hl : (nextW b nx (waysN n b nx k) (List.replicate n 0) s).length = n := by rw [nextW_len]; simp
  have h2 := rowW_nn hnx (hW s) s hs _ hl h1 d (by omega)
  have hl2 : (rowW nx ((waysN n b nx k).getD s 0) s (nextW b nx (waysN n b nx k) (List.replicate n 0) s) d).length = n := by rw [rowW_len, hl]
  refine ⟨hW s, ?_, h2 _, ?_⟩
  · rw [← ways_one hnx hn k]
    exact le_dot1 hW (by rw [waysN_len]; exact hs)
  · refine Int.le_trans (le_dot1 h2 (by rw [hl2]; exact hnx s d hs hd)) ?_
    rw [← ways_one hnx hn (k + 1), waysN, nextW_dot hnx _ _ _ (by simp) n (Nat.le_refl _), rowW_dot hnx _ _ s hs _ hl d (by omega), nextW_dot hnx _ _ _ (by simp) s (by omega), dot_zero]
    simp only [sumR_const]
    have h3 := sumR_mono (f := fun u => (waysN n b nx k).getD u 0 * ((b : Int) * 1)) (fun x => Int.mul_nonneg (hW x) (by omega)) (show s + 1 ≤ n from hs)
    rw [sumR] at h3
    have h4 : (waysN n b nx k).getD s 0 * ((d : Int) * 1) ≤ (waysN n b nx k).getD s 0 * ((b : Int) * 1) := Int.mul_le_mul_of_nonneg_left (by omega) (hW s)
    omega
/-- the sum in the end -/
theorem ways_end (hnx : ∀ s d, s < n → d < b → nx s d < n) (hn : 0 < n) (fin : Nat → Bool) (k : Nat) : sumR n (fun u => (waysN n b nx k).getD u 0 * (if fin u then 1 else 0)) = accN b nx fin k 0 := by
  have h := ways_acc hnx hn fin k 0
  unfold dot at h
  rw [waysN_len, Nat.zero_add] at h
  exact h
end

end Go.Proofs.YtkapbhlnjmfaaaaDoor
