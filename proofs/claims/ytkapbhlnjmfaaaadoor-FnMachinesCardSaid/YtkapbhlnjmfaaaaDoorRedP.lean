/- Classes of states by their keys' texts, by the list of firsts, and the reduced machine's states in the order in which they are reached. Plain Lean, no program. Conditions: those of each lemma. -/
import Derived.Test.YtkapbhlnjmfaaaaDoorClassP
import Derived.Lib.ItoaNum
namespace Go.Proofs.YtkapbhlnjmfaaaaDoor
set_option linter.unusedVariables false

/-! keys as text -/
def tailT (ys : List Nat) : List UInt8 := ys.flatMap (fun y => 44 :: Lib.decDigits y)
def strOf : List Nat → List UInt8
  | [] => []
  | x :: ys => Lib.decDigits x ++ tailT ys
theorem u8_val {d : Nat} (h : d < 10) : (UInt8.ofNat (48 + d)).toNat = 48 + d := by
  rw [UInt8.toNat_ofNat']
  omega
theorem u8_ne {d : Nat} (h : d < 10) : UInt8.ofNat (48 + d) ≠ 44 := by
  intro e
  have := congrArg UInt8.toNat e
  rw [u8_val h] at this
  simp at this
  omega
theorem dec_ne : ∀ (u : Nat), ∀ c ∈ Lib.decDigits u, c ≠ 44 := by
  intro u
  induction u using Nat.strongRecOn with
  | _ u ih =>
    intro c hc
    by_cases h : u < 10
    · rw [Lib.decDigits_one h, List.mem_singleton] at hc
      subst hc
      exact u8_ne h
    · rw [Lib.decDigits, dif_neg h] at hc
      rcases List.mem_append.1 hc with hc | hc
      · exact ih (u / 10) (by omega) c hc
      · rw [List.mem_singleton] at hc
        subst hc
        exact u8_ne (Nat.mod_lt _ (by omega))
def decVal (l : List UInt8) : Nat := l.foldl (fun a c => a * 10 + (c.toNat - 48)) 0
theorem decVal_dec : ∀ (u : Nat), decVal (Lib.decDigits u) = u := by
  intro u
  induction u using Nat.strongRecOn with
  | _ u ih =>
    by_cases h : u < 10
    · rw [Lib.decDigits_one h]
      simp only [decVal, List.foldl_cons, List.foldl_nil]
      rw [u8_val h]
      omega
    · have h1 := ih (u / 10) (by omega)
      rw [Lib.decDigits, dif_neg h]
      unfold decVal at h1 ⊢
      rw [List.foldl_append, h1]
      simp only [List.foldl_cons, List.foldl_nil]
      rw [u8_val (Nat.mod_lt _ (by omega))]
      omega
theorem dec_inj {u v : Nat} (h : Lib.decDigits u = Lib.decDigits v) : u = v := by
  rw [← decVal_dec u, h, decVal_dec]
theorem dec_len (u : Nat) : ∀ k, u < 10 ^ (k + 1) → (Lib.decDigits u).length ≤ k + 1 := by
  induction u using Nat.strongRecOn with
  | _ u ih =>
    intro k hk
    by_cases h : u < 10
    · rw [Lib.decDigits_one h]; simp
    · rw [Lib.decDigits, dif_neg h]
      cases k with
      | zero => simp at hk; omega
      | succ k =>
        have := ih (u / 10) (by omega) k (by rw [Nat.div_lt_iff_lt_mul (by omega)]; rwa [Nat.pow_succ] at hk)
        simp
        omega
theorem tailT_take (ys : List Nat) : (tailT ys).takeWhile (· != 44) = [] := by
  cases ys with
  | nil => rfl
  | cons y r => simp [tailT]
theorem tailT_drop (ys : List Nat) : (tailT ys).dropWhile (· != 44) = tailT ys := by
  cases ys with
  | nil => rfl
  | cons y r => simp [tailT]
theorem cut_take (x : Nat) (ys : List Nat) : (Lib.decDigits x ++ tailT ys).takeWhile (· != 44) = Lib.decDigits x := by
  rw [List.takeWhile_append_of_pos (fun c hc => by simpa using dec_ne x c hc), tailT_take, List.append_nil]
theorem cut_drop (x : Nat) (ys : List Nat) : (Lib.decDigits x ++ tailT ys).dropWhile (· != 44) = tailT ys := by
  rw [List.dropWhile_append_of_pos (fun c hc => by simpa using dec_ne x c hc), tailT_drop]
theorem tailT_inj : ∀ (ys zs : List Nat), tailT ys = tailT zs → ys = zs := by
  intro ys
  induction ys with
  | nil =>
    intro zs h
    cases zs with
    | nil => rfl
    | cons z r => simp [tailT] at h
  | cons y r ih =>
    intro zs h
    cases zs with
    | nil => simp [tailT] at h
    | cons z s =>
      have h1 : Lib.decDigits y ++ tailT r = Lib.decDigits z ++ tailT s := by
        simpa [tailT] using h
      have h2 := congrArg (List.takeWhile (· != 44)) h1
      have h3 := congrArg (List.dropWhile (· != 44)) h1
      rw [cut_take, cut_take] at h2
      rw [cut_drop, cut_drop] at h3
      rw [dec_inj h2, ih s h3]
theorem strOf_inj {x y : Nat} {xs ys : List Nat} (h : strOf (x :: xs) = strOf (y :: ys)) : x :: xs = y :: ys := by
  have h1 : Lib.decDigits x ++ tailT xs = Lib.decDigits y ++ tailT ys := h
  have h2 := congrArg (List.takeWhile (· != 44)) h1
  have h3 := congrArg (List.dropWhile (· != 44)) h1
  rw [cut_take, cut_take] at h2
  rw [cut_drop, cut_drop] at h3
  rw [dec_inj h2, tailT_inj _ _ h3]

/-! numbering by another name of the same keys -/
theorem num_map {K L : Type} [DecidableEq K] [DecidableEq L] {f : Nat → K} {g : Nat → L} (h1 : ∀ s r, g s = g r → f s = f r) (h2 : ∀ s r, f s = f r → g s = g r) (k : Nat) :
    (dist g k).length = (dist f k).length ∧ ∀ s, s < k → num g s = num f s := by
  have a1 : finer k f g := fun s r _ _ h => h1 s r h
  have a2 : finer k g f := fun s r _ _ h => h2 s r h
  have e1 := finer_le a1 k (Nat.le_refl _)
  have e2 := finer_le a2 k (Nat.le_refl _)
  have e : (dist f k).length = (dist g k).length := by omega
  exact ⟨e.symm, fun s hs => (finer_num a1 e s hs).symm⟩
/-- the key's text of a state -/
def kst (b : Nat) (nx : Nat → Nat → Nat) (c : Nat → Nat) (s : Nat) : List UInt8 := strOf (ky b nx c s)
/-- its first k parts -/
def kpre (nx : Nat → Nat → Nat) (c : Nat → Nat) (s k : Nat) : List UInt8 := Lib.decDigits (c s) ++ tailT ((List.range k).map (fun d => c (nx s d)))
theorem kpre_zero (nx : Nat → Nat → Nat) (c : Nat → Nat) (s : Nat) : kpre nx c s 0 = Lib.decDigits (c s) := by simp [kpre, tailT]
theorem kpre_succ (nx : Nat → Nat → Nat) (c : Nat → Nat) (s k : Nat) : kpre nx c s (k + 1) = kpre nx c s k ++ (44 :: Lib.decDigits (c (nx s k))) := by
  simp [kpre, tailT, List.range_succ, List.flatMap_append]
theorem kpre_all (b : Nat) (nx : Nat → Nat → Nat) (c : Nat → Nat) (s : Nat) : kpre nx c s b = kst b nx c s := rfl
theorem kpre_len (nx : Nat → Nat → Nat) (c : Nat → Nat) (s : Nat) (hc : (Lib.decDigits (c s)).length ≤ 20) (k : Nat) (hd : ∀ d, d < k → (Lib.decDigits (c (nx s d))).length ≤ 20) : (kpre nx c s k).length ≤ 20 + 21 * k := by
  induction k with
  | zero => rw [kpre_zero]; omega
  | succ k ih => rw [kpre_succ]; have := hd k (by omega); have := ih (fun d h => hd d (by omega)); simp; omega
theorem kst_ne (b : Nat) (nx : Nat → Nat → Nat) (c : Nat → Nat) (s : Nat) : kst b nx c s ≠ [] := by
  intro h
  have h1 : Lib.decDigits (c s) ++ tailT ((List.range b).map (fun d => c (nx s d))) = [] := h
  have h2 := (List.append_eq_nil_iff.1 h1).1
  rw [Lib.decDigits] at h2
  split at h2
  · cases h2
  · simp at h2
theorem kst_iff (b : Nat) (nx : Nat → Nat → Nat) (c : Nat → Nat) (s r : Nat) : kst b nx c s = kst b nx c r ↔ ky b nx c s = ky b nx c r := by
  constructor
  · intro h; exact strOf_inj h
  · intro h; unfold kst; rw [h]
theorem kst_num (b : Nat) (nx : Nat → Nat → Nat) (c : Nat → Nat) (s : Nat) : num (kst b nx c) s = num (ky b nx c) s :=
  (num_map (fun s r h => (kst_iff b nx c s r).1 h) (fun s r h => (kst_iff b nx c s r).2 h) (s + 1)).2 s (by omega)
theorem kst_cnt (b : Nat) (nx : Nat → Nat → Nat) (c : Nat → Nat) (k : Nat) : (dist (kst b nx c) k).length = (dist (ky b nx c) k).length :=
  (num_map (fun s r h => (kst_iff b nx c s r).1 h) (fun s r h => (kst_iff b nx c s r).2 h) k).1
/-- what the map of numbers reads as, behind k states -/
def msF {K : Type} [DecidableEq K] (F : Nat → K) (k : Nat) (y : K) : Option Int := if y ∈ dist F k then some (((dist F k).idxOf y : Nat) : Int) else none
theorem msF_zero {K : Type} [DecidableEq K] (F : Nat → K) (y : K) : msF F 0 y = none := by simp [msF, dist]
theorem msF_known {K : Type} [DecidableEq K] (F : Nat → K) (k : Nat) (y : K) : (msF F k y).isSome = decide (y ∈ dist F k) := by
  unfold msF; split <;> simp [*]
theorem msF_old {K : Type} [DecidableEq K] {F : Nat → K} {k : Nat} (h : F k ∈ dist F k) (y : K) : msF F (k + 1) y = msF F k y := by
  unfold msF; rw [dist_old h]
theorem msF_new {K : Type} [DecidableEq K] {F : Nat → K} {k : Nat} (h : F k ∉ dist F k) (y : K) : msF F (k + 1) y = if y = F k then some ((dist F k).length : Int) else msF F k y := by
  unfold msF
  rw [dist_new h]
  by_cases e : y = F k
  · subst e
    rw [if_pos (by simp), if_pos rfl, List.idxOf_append, if_neg h]
    simp
  · rw [if_neg e]
    by_cases h2 : y ∈ dist F k
    · rw [if_pos (List.mem_append_left _ h2), if_pos h2, List.idxOf_append, if_pos h2]
    · rw [if_neg (by simp [h2, e]), if_neg h2]
theorem msF_at {K : Type} [DecidableEq K] (F : Nat → K) (k : Nat) : msF F (k + 1) (F k) = some ((num F k : Nat) : Int) := by
  unfold msF; rw [if_pos (dist_self F k)]; rfl

/-! the list of firsts -/
def reps {K : Type} [DecidableEq K] (f : Nat → K) : Nat → List Nat
  | 0 => []
  | k + 1 => if f k ∈ dist f k then reps f k else reps f k ++ [k]
section
variable {K : Type} [DecidableEq K]
theorem reps_map (f : Nat → K) (k : Nat) : (reps f k).map f = dist f k := by
  induction k with
  | zero => rfl
  | succ k ih => rw [reps, dist]; split <;> simp [ih]
theorem reps_len (f : Nat → K) (k : Nat) : (reps f k).length = (dist f k).length := by rw [← reps_map]; simp
theorem reps_lt (f : Nat → K) (k : Nat) : ∀ r ∈ reps f k, r < k := by
  induction k with
  | zero => intro r h; simp [reps] at h
  | succ k ih =>
    intro r h
    rw [reps] at h
    split at h
    · have := ih r h; omega
    · rcases List.mem_append.1 h with h | h
      · have := ih r h; omega
      · simp at h; omega
theorem idx_first : ∀ (l : List K) (x : K) (i : Nat) (hi : i < l.length), l[i] = x → (∀ j (hj : j < l.length), j < i → l[j] ≠ x) → l.idxOf x = i := by
  intro l
  induction l with
  | nil => intro x i hi; simp at hi
  | cons y r ih =>
    intro x i hi he hn
    cases i with
    | zero => simp at he; subst he; simp
    | succ i =>
      have h0 := hn 0 (by simp) (by omega)
      simp only [List.getElem_cons_zero] at h0
      rw [List.idxOf_cons, ih x i (by simpa using hi) (by simpa using he) (fun j hj hji => by
        have := hn (j + 1) (by simpa using hj) (by omega)
        simpa using this)]
      rw [show (y == x) = false from by simpa using h0]
      rfl
theorem reps_found (f : Nat → K) (k i : Nat) (hi : i < (reps f k).length) (he : f k = f (reps f k)[i]) (hn : ∀ j (hj : j < (reps f k).length), j < i → f k ≠ f (reps f k)[j]) : num f k = i ∧ reps f (k + 1) = reps f k := by
  have hl : i < (dist f k).length := by rw [← reps_len]; exact hi
  have hg : ∀ j (hj : j < (reps f k).length), (dist f k)[j]'(by rw [← reps_len]; exact hj) = f (reps f k)[j] := by
    intro j hj
    have := List.getElem_map (f := f) (l := reps f k) (i := j) (h := by simpa using hj)
    rw [← this]
    congr 1
    exact (reps_map f k).symm
  have hm : f k ∈ dist f k := by
    rw [he, ← hg i hi]; exact List.getElem_mem hl
  have e := idx_first (dist f k) (f k) i hl (by rw [hg i hi]; exact he.symm) (fun j hj hji => by
    rw [hg j (by rw [reps_len]; exact hj)]
    exact fun h => hn j (by rw [reps_len]; exact hj) hji h.symm)
  refine ⟨?_, by rw [reps, if_pos hm]⟩
  rw [num, dist_old hm, e]
theorem reps_none (f : Nat → K) (k : Nat) (hn : ∀ j (hj : j < (reps f k).length), f k ≠ f (reps f k)[j]) : num f k = (reps f k).length ∧ reps f (k + 1) = reps f k ++ [k] := by
  have hm : f k ∉ dist f k := by
    rw [← reps_map]
    intro h
    obtain ⟨r, hr, e⟩ := List.mem_map.1 h
    obtain ⟨j, hj, rfl⟩ := List.getElem_of_mem hr
    exact hn j hj e.symm
  exact ⟨by rw [num_new f hm, reps_len], by rw [reps, if_neg hm]⟩
end

/-! the reduced machine: the first state that is reached of each class, in the order in which these are reached -/
/-- the classes of a list of states -/
def clsOf (c : Nat → Nat) (S : List Nat) : List Int := S.map (fun s => (c s : Int))
def grow (c : Nat → Nat) (S : List Nat) (s : Nat) : List Nat := if (c s : Int) ∈ clsOf c S then S else S ++ [s]
def stepQ (c : Nat → Nat) (Q : List Nat × List Int) (s : Nat) : List Nat × List Int := (grow c Q.1 s, Q.2 ++ [(((clsOf c (grow c Q.1 s)).idxOf (c s : Int) : Nat) : Int)])
def rowQ (c : Nat → Nat) (nx : Nat → Nat → Nat) (s0 : Nat) (Q : List Nat × List Int) : Nat → List Nat × List Int
  | 0 => Q
  | d + 1 => stepQ c (rowQ c nx s0 Q d) (nx s0 d)
def bfs (b : Nat) (c : Nat → Nat) (nx : Nat → Nat → Nat) : Nat → Nat → List Nat × List Int → List Nat × List Int
  | 0, _, Q => Q
  | f + 1, i, Q => if i < Q.1.length then bfs b c nx f (i + 1) (rowQ c nx (Q.1.getD i 0) Q b) else Q
/-- all of it, for n states -/
def redQ (n b : Nat) (c : Nat → Nat) (nx : Nat → Nat → Nat) : List Nat × List Int := bfs b c nx (n + 1) 0 ([0], [])
structure GoodS (n : Nat) (c : Nat → Nat) (S : List Nat) : Prop where
  nodup : (clsOf c S).Nodup
  lt : ∀ s ∈ S, s < n
theorem grow_old {c : Nat → Nat} {S : List Nat} {s : Nat} (h : (c s : Int) ∈ clsOf c S) : grow c S s = S := by rw [grow, if_pos h]
theorem grow_new {c : Nat → Nat} {S : List Nat} {s : Nat} (h : (c s : Int) ∉ clsOf c S) : grow c S s = S ++ [s] := by rw [grow, if_neg h]
theorem clsOf_app (c : Nat → Nat) (S : List Nat) (s : Nat) : clsOf c (S ++ [s]) = clsOf c S ++ [(c s : Int)] := by simp [clsOf]
theorem clsOf_len (c : Nat → Nat) (S : List Nat) : (clsOf c S).length = S.length := by simp [clsOf]
theorem GoodS.grow {n : Nat} {c : Nat → Nat} {S : List Nat} {s : Nat} (h : GoodS n c S) (hs : s < n) : GoodS n c (grow c S s) := by
  by_cases hm : (c s : Int) ∈ clsOf c S
  · rw [grow_old hm]; exact h
  · rw [grow_new hm]
    refine ⟨?_, ?_⟩
    · rw [clsOf_app, List.nodup_append]
      refine ⟨h.nodup, by simp, ?_⟩
      intro x hx y hy
      simp at hy
      subst hy
      exact fun e => hm (e ▸ hx)
    · intro x hx
      rcases List.mem_append.1 hx with hx | hx
      · exact h.lt x hx
      · simp at hx; omega
theorem pigN : ∀ (q : Nat) (l : List Nat), l.Nodup → (∀ x ∈ l, x < q) → l.length ≤ q := by
  intro q
  induction q with
  | zero =>
    intro l _ h
    cases l with
    | nil => exact Nat.le_refl _
    | cons x r => have := h x List.mem_cons_self; omega
  | succ q ih =>
    intro l hn h
    have h1 := ih (l.erase q) (hn.erase _) (fun x hx => by
      have h2 := (List.Nodup.mem_erase_iff hn).1 hx
      have h3 := h x h2.2
      have := h2.1
      omega)
    by_cases hm : q ∈ l
    · rw [List.length_erase_of_mem hm] at h1; omega
    · rw [List.erase_of_not_mem hm] at h1; omega
theorem nodup_of_map {f : Nat → Int} : ∀ (l : List Nat), (l.map f).Nodup → l.Nodup := by
  intro l
  induction l with
  | nil => intro _; exact List.nodup_nil
  | cons x r ih =>
    intro h
    rw [List.map_cons, List.nodup_cons] at h
    rw [List.nodup_cons]
    exact ⟨fun hm => h.1 (List.mem_map_of_mem hm), ih h.2⟩
theorem GoodS.len {n : Nat} {c : Nat → Nat} {S : List Nat} (h : GoodS n c S) : S.length ≤ n := pigN n S (nodup_of_map S h.nodup) h.lt
theorem GoodS.start {n : Nat} {c : Nat → Nat} (h : 0 < n) : GoodS n c [0] := ⟨by simp [clsOf], by simpa using h⟩
theorem grow_pre (c : Nat → Nat) (S : List Nat) (s : Nat) : ∃ t, Go.Proofs.YtkapbhlnjmfaaaaDoor.grow c S s = S ++ t := by
  by_cases hm : (c s : Int) ∈ clsOf c S
  · exact ⟨[], by rw [grow_old hm]; simp⟩
  · exact ⟨[s], grow_new hm⟩
theorem rowQ_pre (c : Nat → Nat) (nx : Nat → Nat → Nat) (s0 : Nat) (Q : List Nat × List Int) (d : Nat) : ∃ t, (rowQ c nx s0 Q d).1 = Q.1 ++ t := by
  induction d with
  | zero => exact ⟨[], by simp [rowQ]⟩
  | succ d ih =>
    obtain ⟨t, e⟩ := ih
    obtain ⟨u, e2⟩ := grow_pre c (rowQ c nx s0 Q d).1 (nx s0 d)
    exact ⟨t ++ u, by rw [rowQ, stepQ, e2, e, List.append_assoc]⟩
theorem rowQ_good {n b : Nat} {c : Nat → Nat} {nx : Nat → Nat → Nat} (hnx : ∀ s d, s < n → d < b → nx s d < n) {s0 : Nat} (h0 : s0 < n) {Q : List Nat × List Int} (h : GoodS n c Q.1) : ∀ d, d ≤ b → GoodS n c (rowQ c nx s0 Q d).1 := by
  intro d
  induction d with
  | zero => intro _; exact h
  | succ d ih => intro hd; exact (ih (by omega)).grow (hnx s0 d h0 (by omega))
theorem rowQ_len (c : Nat → Nat) (nx : Nat → Nat → Nat) (s0 : Nat) (Q : List Nat × List Int) (d : Nat) : (rowQ c nx s0 Q d).2.length = Q.2.length + d := by
  induction d with
  | zero => rfl
  | succ d ih => rw [rowQ, stepQ]; simp [ih]; omega
theorem stepQ_new {c : Nat → Nat} {Q : List Nat × List Int} {s : Nat} (h : (c s : Int) ∉ clsOf c Q.1) : stepQ c Q s = (Q.1 ++ [s], Q.2 ++ [((Q.1.length : Nat) : Int)]) := by
  rw [stepQ, grow_new h, clsOf_app, List.idxOf_append, if_neg h]
  simp [clsOf_len]
/-- what the map from class to number reads as -/
def numF (c : Nat → Nat) (S : List Nat) (x : Int) : Option Int := if x ∈ clsOf c S then some (((clsOf c S).idxOf x : Nat) : Int) else none
theorem numF_known (c : Nat → Nat) (S : List Nat) (x : Int) : (numF c S x).isSome = decide (x ∈ clsOf c S) := by
  unfold numF; split <;> simp [*]
theorem numF_new {c : Nat → Nat} {S : List Nat} {s : Nat} (h : (c s : Int) ∉ clsOf c S) (x : Int) : numF c (S ++ [s]) x = if x = (c s : Int) then some (S.length : Int) else numF c S x := by
  unfold numF
  rw [clsOf_app]
  by_cases e : x = (c s : Int)
  · subst e
    rw [if_pos (by simp), if_pos rfl, List.idxOf_append, if_neg h]
    simp [clsOf_len]
  · rw [if_neg e]
    by_cases h2 : x ∈ clsOf c S
    · rw [if_pos (List.mem_append_left _ h2), if_pos h2, List.idxOf_append, if_pos h2]
    · rw [if_neg (by simp [h2, e]), if_neg h2]
theorem numF_at {c : Nat → Nat} {S : List Nat} {x : Int} (h : x ∈ clsOf c S) : numF c S x = some (((clsOf c S).idxOf x : Nat) : Int) := by rw [numF, if_pos h]
theorem grow_mem (c : Nat → Nat) (S : List Nat) (s : Nat) : (c s : Int) ∈ clsOf c (Go.Proofs.YtkapbhlnjmfaaaaDoor.grow c S s) := by
  by_cases hm : (c s : Int) ∈ clsOf c S
  · rw [grow_old hm]; exact hm
  · rw [grow_new hm, clsOf_app]; simp

end Go.Proofs.YtkapbhlnjmfaaaaDoor
