/- The reduced machine is its own reduced machine. Plain Lean, no program. Conditions: those of each lemma. -/
import Derived.Test.YtkapbhlnjmfaaaaDoorRedU
namespace Go.Proofs.YtkapbhlnjmfaaaaDoor
set_option linter.unusedVariables false

section
variable {m : Nat} {c' : Nat → Nat}
theorem clsOf_range (hid : ∀ j, j < m → c' j = j) (L : Nat) (hL : L ≤ m) : clsOf c' (List.range L) = (List.range L).map (fun (s : Nat) => (s : Int)) := by
  unfold clsOf
  apply List.map_congr_left
  intro s hs
  rw [hid s (by have := List.mem_range.1 hs; omega)]
theorem mem_range_int (L v : Nat) : (v : Int) ∈ (List.range L).map (fun (s : Nat) => (s : Int)) ↔ v < L := by
  rw [List.mem_map]
  constructor
  · rintro ⟨s, hs, e⟩
    have := List.mem_range.1 hs
    omega
  · intro h
    exact ⟨v, List.mem_range.2 h, rfl⟩
theorem idx_range_int (L v : Nat) (h : v < L) : ((List.range L).map (fun (s : Nat) => (s : Int))).idxOf (v : Int) = v := by
  have hn : ((List.range L).map (fun (s : Nat) => (s : Int))).Nodup := by
    rw [List.nodup_iff_pairwise_ne, List.pairwise_map]
    exact (List.nodup_range (n := L)).imp (fun h e => h (by omega))
  have hv : v < ((List.range L).map (fun (s : Nat) => (s : Int))).length := by simpa using h
  have e : ((List.range L).map (fun (s : Nat) => (s : Int)))[v] = (v : Int) := by simp
  rw [← e]
  exact hn.idxOf_getElem v hv
theorem step_range_old (hid : ∀ j, j < m → c' j = j) (L v : Nat) (hL : L ≤ m) (hv : v < L) (N : List Int) : stepQ c' (List.range L, N) v = (List.range L, N ++ [(v : Int)]) := by
  have h : (c' v : Int) ∈ clsOf c' (List.range L) := by
    rw [clsOf_range hid L hL, hid v (by omega)]
    exact (mem_range_int L v).2 hv
  unfold stepQ
  rw [grow_old h, clsOf_range hid L hL, hid v (by omega), idx_range_int L v hv]
theorem step_range_new (hid : ∀ j, j < m → c' j = j) (L : Nat) (hL : L + 1 ≤ m) (N : List Int) : stepQ c' (List.range L, N) L = (List.range (L + 1), N ++ [(L : Int)]) := by
  have h : (c' L : Int) ∉ clsOf c' (List.range L) := by
    rw [clsOf_range hid L (by omega), hid L (by omega)]
    exact fun h => by have := (mem_range_int L L).1 h; omega
  have e := stepQ_new (Q := (List.range L, N)) h
  rw [e, List.range_succ]
  simp
theorem stepQ_old {c : Nat → Nat} {Q : List Nat × List Int} {s : Nat} (h : (c s : Int) ∈ clsOf c Q.1) : stepQ c Q s = (Q.1, Q.2 ++ [((idxC c Q.1 s : Nat) : Int)]) := by
  rw [stepQ, grow_old h]; rfl
/-- what a step gives, and the same step of the reduced machine -/
theorem step_both (hid : ∀ j, j < m → c' j = j) {c : Nat → Nat} {Q : List Nat × List Int} {s : Nat} (hl : (stepQ c Q s).1.length ≤ m) :
    ∃ v : Nat, (stepQ c Q s).2 = Q.2 ++ [(v : Int)] ∧ stepQ c' (List.range Q.1.length, Q.2) v = (List.range (stepQ c Q s).1.length, (stepQ c Q s).2) := by
  by_cases h : (c s : Int) ∈ clsOf c Q.1
  · have e := stepQ_old h
    have h1 := (idxC_at h).1
    rw [e] at hl ⊢
    exact ⟨idxC c Q.1 s, rfl, step_range_old hid _ _ hl h1 _⟩
  · have e := stepQ_new h
    rw [e] at hl ⊢
    simp only [List.length_append, List.length_singleton] at hl ⊢
    exact ⟨Q.1.length, rfl, step_range_new hid _ hl _⟩
/-- a row of both -/
theorem row_both {b : Nat} (hid : ∀ j, j < m → c' j = j) {c : Nat → Nat} {nx nx' : Nat → Nat → Nat} {s0 i : Nat} {Q : List Nat × List Int} {N : List Int} (hQ : Q.2.length = i * b)
    (hN : ∃ t, N = (rowQ c nx s0 Q b).2 ++ t) (hl : (rowQ c nx s0 Q b).1.length ≤ m) (hx : ∀ d, d < b → nx' i d = (N.getD (i * b + d) 0).toNat) :
    ∀ d, d ≤ b → rowQ c' nx' i (List.range Q.1.length, Q.2) d = (List.range (rowQ c nx s0 Q d).1.length, (rowQ c nx s0 Q d).2) := by
  have hpre : ∀ d e, d + e = b → (∃ t, (rowQ c nx s0 Q b).1 = (rowQ c nx s0 Q d).1 ++ t) ∧ ∃ t, (rowQ c nx s0 Q b).2 = (rowQ c nx s0 Q d).2 ++ t := by
    intro d e
    induction e generalizing d with
    | zero => intro h; obtain rfl : d = b := by omega
              exact ⟨⟨[], by simp⟩, [], by simp⟩
    | succ e ih =>
      intro h
      obtain ⟨⟨t1, h1⟩, t2, h2⟩ := ih (d + 1) (by omega)
      obtain ⟨t3, h3⟩ := grow_pre c (rowQ c nx s0 Q d).1 (nx s0 d)
      refine ⟨⟨t3 ++ t1, ?_⟩, [(((clsOf c (grow c (rowQ c nx s0 Q d).1 (nx s0 d))).idxOf (c (nx s0 d) : Int) : Nat) : Int)] ++ t2, ?_⟩
      · rw [h1, rowQ, stepQ, h3, List.append_assoc]
      · rw [h2, rowQ, stepQ, List.append_assoc]
  intro d
  induction d with
  | zero => intro _; rfl
  | succ d ih =>
    intro hd
    obtain ⟨⟨t1, h1⟩, t2, h2⟩ := hpre (d + 1) (b - (d + 1)) (by omega)
    have hl2 : (stepQ c (rowQ c nx s0 Q d) (nx s0 d)).1.length ≤ m := by
      have e := congrArg List.length h1
      rw [List.length_append] at e
      have : (rowQ c nx s0 Q (d + 1)).1.length ≤ m := by omega
      exact this
    obtain ⟨v, hv, hs⟩ := step_both hid hl2
    have hvn : nx' i d = v := by
      obtain ⟨t, ht⟩ := hN
      have h3 : (rowQ c nx s0 Q (d + 1)).2 = (rowQ c nx s0 Q d).2 ++ [(v : Int)] := hv
      have h4 := rowQ_len c nx s0 Q d
      rw [hx d (by omega), ht, h2, h3]
      have e : i * b + d = (rowQ c nx s0 Q d).2.length := by omega
      rw [e]
      simp [List.getD]
    rw [rowQ, ih (by omega), hvn]
    exact hs
theorem bfs_both {n b : Nat} (hid : ∀ j, j < m → c' j = j) {c : Nat → Nat} {nx nx' : Nat → Nat → Nat} (hnx : ∀ s d, s < n → d < b → nx s d < n) {S : List Nat} {N : List Int} (hS : S.length = m) (hx : ∀ j d, j < m → d < b → nx' j d = (N.getD (j * b + d) 0).toNat) :
    ∀ (f f' i : Nat) (Q : List Nat × List Int), n < f + i → m < f' + i → i ≤ Q.1.length → GoodS n c Q.1 → InvQ b c nx Q (i * b) → bfs b c nx f i Q = (S, N) →
    bfs b c' nx' f' i (List.range Q.1.length, Q.2) = (List.range m, N) := by
  intro f
  induction f with
  | zero =>
    intro f' i Q hf hf' hi hg h he
    have := hg.len
    omega
  | succ f ih =>
    intro f' i Q hf hf' hi hg h he
    obtain ⟨-, -, ⟨tp, hp⟩, -⟩ := bfs_inv hnx (f + 1) i Q hf hi hg h
    rw [he] at hp
    have hQl : Q.1.length ≤ m := by
      have e := congrArg List.length hp
      rw [List.length_append] at e
      dsimp only at e
      omega
    rw [bfs] at he
    split at he
    · rename_i hlt
      have e : Q.1.getD i 0 = Q.1[i] := by simp [List.getD, hlt]
      have h0 : Q.1.getD i 0 < n := by rw [e]; exact hg.lt _ (List.getElem_mem hlt)
      obtain ⟨t, ht⟩ := rowQ_pre c nx (Q.1.getD i 0) Q b
      have h1 := rowQ_inv hlt h b (Nat.le_refl _)
      have h2 := rowQ_good hnx h0 hg b (Nat.le_refl _)
      have h1' : InvQ b c nx (rowQ c nx (Q.1.getD i 0) Q b) ((i + 1) * b) := by rw [Nat.add_mul, Nat.one_mul]; exact h1
      have hi1 : i + 1 ≤ (rowQ c nx (Q.1.getD i 0) Q b).1.length := by rw [ht]; simp; omega
      obtain ⟨-, -, ⟨t3, a3⟩, t4, a4⟩ := bfs_inv hnx f (i + 1) _ (by omega) hi1 h2 h1'
      rw [he] at a3 a4
      obtain ⟨g, rfl⟩ : ∃ g, f' = g + 1 := ⟨f' - 1, by omega⟩
      have hrl : (rowQ c nx (Q.1.getD i 0) Q b).1.length ≤ m := by
        have e := congrArg List.length a3
        rw [List.length_append] at e
        dsimp only at e
        omega
      have hrow := row_both (nx' := nx') (N := N) hid h.1 ⟨t4, a4⟩ hrl (fun d hd => hx i d (by omega) hd) b (Nat.le_refl _)
      have hgi : (List.range Q.1.length).getD i 0 = i := by simp [List.getD, hlt]
      rw [bfs, if_pos (by simpa using hlt), hgi, hrow]
      exact ih g (i + 1) (rowQ c nx (Q.1.getD i 0) Q b) (by omega) (by omega) hi1 h2 h1' he
    · rename_i hge
      have e1 : S = Q.1 := by rw [he]
      have e2 : N = Q.2 := by rw [he]
      subst e1 e2
      cases f' with
      | zero => rw [bfs, hS]
      | succ g => rw [bfs, if_neg (by simpa using hge), hS]
end
/-- the reduced machine of the reduced machine -/
theorem red_twice {n b : Nat} {nx : Nat → Nat → Nat} {c0 : Nat → Nat} (hnx : ∀ s d, s < n → d < b → nx s d < n) (hn : 0 < n) :
    redQ (stS n b nx c0).length b (cE (stS n b nx c0).length b (nx2 n b nx c0) (c02 n b nx c0)) (nx2 n b nx c0) = (List.range (stS n b nx c0).length, (redQ n b (cE n b nx c0) nx).2) := by
  have h := bfs_both (m := (stS n b nx c0).length) (S := stS n b nx c0) (N := (redQ n b (cE n b nx c0) nx).2) (nx' := nx2 n b nx c0) (cls2_id (c0 := c0) hnx hn) hnx rfl (fun j d _ _ => rfl) (n + 1) ((stS n b nx c0).length + 1) 0 ([0], []) (by omega) (by omega) (by simp) (GoodS.start hn)
    (by rw [Nat.zero_mul]; exact ⟨rfl, fun x hx => by omega⟩) rfl
  exact h

end Go.Proofs.YtkapbhlnjmfaaaaDoor
