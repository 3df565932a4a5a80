/- The reduced machine of a machine's value: valid, its own reduced machine, accepting the same. Conditions: those of each lemma. -/
import Derived.Test.YtkapbhlnjmfaaaaDoorRedV
import Derived.Test.YtkapbhlnjmfaaaaDoorRedM
import Derived.Test.YtkapbhlnjmfaaaaDoorMachD
namespace Go.Proofs.YtkapbhlnjmfaaaaDoor
set_option linter.unusedVariables false
open Go.RowKit

theorem cls_congr0 {n b : Nat} {nx : Nat → Nat → Nat} {c0 c0' : Nat → Nat} (hnx : ∀ s d, s < n → d < b → nx s d < n) (h : ∀ s, s < n → c0 s = c0' s) : ∀ i s, s < n → cls b nx c0 i s = cls b nx c0' i s := by
  intro i
  induction i with
  | zero => exact h
  | succ i ih =>
    intro s hs
    exact num_congr (fun r hr => ky_congr hnx ih r (by omega))
theorem clsOf_congr {n : Nat} {c c' : Nat → Nat} (h : ∀ s, s < n → c s = c' s) {S : List Nat} (hS : ∀ s ∈ S, s < n) : clsOf c S = clsOf c' S := by
  unfold clsOf
  exact List.map_congr_left (fun s hs => by rw [h s (hS s hs)])
theorem grow_lt {n : Nat} {c : Nat → Nat} {S : List Nat} {s : Nat} (hS : ∀ x ∈ S, x < n) (hs : s < n) : ∀ x ∈ grow c S s, x < n := by
  intro x hx
  unfold grow at hx
  split at hx
  · exact hS x hx
  · rcases List.mem_append.1 hx with hx | hx
    · exact hS x hx
    · simp at hx; omega
theorem stepQ_congr {n : Nat} {c c' : Nat → Nat} (h : ∀ s, s < n → c s = c' s) {Q : List Nat × List Int} {s : Nat} (hQ : ∀ x ∈ Q.1, x < n) (hs : s < n) : stepQ c Q s = stepQ c' Q s := by
  have e : grow c Q.1 s = grow c' Q.1 s := by unfold grow; rw [clsOf_congr h hQ, h s hs]
  unfold stepQ
  rw [← e, clsOf_congr h (grow_lt hQ hs), h s hs]
theorem rowQ_congr {n b : Nat} {c c' : Nat → Nat} {nx : Nat → Nat → Nat} (hnx : ∀ s d, s < n → d < b → nx s d < n) (h : ∀ s, s < n → c s = c' s) {s0 : Nat} (h0 : s0 < n) {Q : List Nat × List Int} (hQ : ∀ x ∈ Q.1, x < n) : ∀ d, d ≤ b → rowQ c nx s0 Q d = rowQ c' nx s0 Q d ∧ ∀ x ∈ (rowQ c nx s0 Q d).1, x < n := by
  intro d
  induction d with
  | zero => intro _; exact ⟨rfl, hQ⟩
  | succ d ih =>
    intro hd
    obtain ⟨e, hl⟩ := ih (by omega)
    have hs := hnx s0 d h0 (by omega)
    refine ⟨?_, grow_lt hl hs⟩
    rw [rowQ, rowQ, ← e]
    exact stepQ_congr h hl hs
theorem bfs_congr {n b : Nat} {c c' : Nat → Nat} {nx : Nat → Nat → Nat} (hnx : ∀ s d, s < n → d < b → nx s d < n) (h : ∀ s, s < n → c s = c' s) : ∀ (f i : Nat) (Q : List Nat × List Int), (∀ x ∈ Q.1, x < n) → bfs b c nx f i Q = bfs b c' nx f i Q := by
  intro f
  induction f with
  | zero => intro i Q _; rfl
  | succ f ih =>
    intro i Q hQ
    rw [bfs, bfs]
    split
    · rename_i hi
      have e : Q.1.getD i 0 = Q.1[i] := by simp [List.getD, hi]
      have h0 : Q.1.getD i 0 < n := by rw [e]; exact hQ _ (List.getElem_mem hi)
      obtain ⟨e2, hl⟩ := rowQ_congr hnx h h0 hQ b (Nat.le_refl _)
      rw [← e2]
      exact ih _ _ hl
    · rfl

/-! of a machine's value -/
theorem redM_fin (m : Ma) : (redM m).final.length = (stS m.final.length m.base.toNat (nxM m) (c0M m)).length := by
  show ((redS m).1.map (finN m)).length = _
  rw [List.length_map]
  rfl
theorem redM_nx {m : Ma} (hok : maOk m = true) : nxM (redM m) = nx2 m.final.length m.base.toNat (nxM m) (c0M m) := by
  obtain ⟨q2, -⟩ := maOk_t hok
  funext j d
  show (List.getD (redM m).next ((j : Int) * (redM m).base + (d : Int)).toNat 0).toNat = ((redQ m.final.length m.base.toNat (cE m.final.length m.base.toNat (nxM m) (c0M m)) (nxM m)).2.getD (j * m.base.toNat + d) 0).toNat
  have e : ((j : Int) * (redM m).base + (d : Int)).toNat = j * m.base.toNat + d := by
    show ((j : Int) * m.base + (d : Int)).toNat = _
    have h : (j : Int) * m.base = ((j * m.base.toNat : Nat) : Int) := by rw [Int.natCast_mul, Int.toNat_of_nonneg (by omega)]
    rw [h]
    omega
  rw [e]
  rfl
theorem redM_finN {m : Ma} (j : Nat) (hj : j < (stS m.final.length m.base.toNat (nxM m) (c0M m)).length) : finN (redM m) j = finN m ((stS m.final.length m.base.toNat (nxM m) (c0M m)).getD j 0) := by
  show List.getD ((redS m).1.map (finN m)) j false = _
  have hj2 : j < (redS m).1.length := hj
  simp only [List.getD, List.getElem?_map, List.getElem?_eq_getElem hj2, Option.map_some, Option.getD_some]
  rw [show (stS m.final.length m.base.toNat (nxM m) (c0M m)) = (redS m).1 from rfl, List.getElem?_eq_getElem hj2]
  rfl
theorem redM_c0 {m : Ma} (j : Nat) (hj : j < (stS m.final.length m.base.toNat (nxM m) (c0M m)).length) : c0M (redM m) j = c02 m.final.length m.base.toNat (nxM m) (c0M m) j := by
  unfold c0M
  rw [redM_finN j hj]
  rfl
theorem redM_ok {m : Ma} (hok : maOk m = true) : maOk (redM m) = true ∧ (redM m).final.length ≤ m.final.length := by
  obtain ⟨q2, q10, n1, n144, -, -⟩ := maOk_t hok
  have hnx := nxM_lt hok
  have h1 := st_pos (c0 := c0M m) hnx (by omega)
  have h2 := st_le (c0 := c0M m) hnx (by omega)
  have h3 := (red_inv (c := cE m.final.length m.base.toNat (nxM m) (c0M m)) hnx (by omega)).1
  rw [← redM_fin] at h1 h2
  refine ⟨?_, h2⟩
  have hl : (redM m).next.length = (stS m.final.length m.base.toNat (nxM m) (c0M m)).length * m.base.toNat := h3.1
  simp only [maOk, Bool.and_eq_true, inB_t, decide_eq_true_eq, allIn_t]
  refine ⟨⟨⟨⟨q2, q10⟩, by omega, by omega⟩, ?_⟩, ?_⟩
  · rw [hl, ← redM_fin]
    show _ = m.base * _
    rw [Int.natCast_mul, Int.toNat_of_nonneg (by omega), Int.mul_comm]
  · intro x hx
    obtain ⟨y, hy, rfl⟩ := List.getElem_of_mem hx
    have hy2 : y < (stS m.final.length m.base.toNat (nxM m) (c0M m)).length * m.base.toNat := by rw [← hl]; exact hy
    obtain ⟨-, a2, a3⟩ := h3.2 y hy2
    have a4 := (idxC_at a2).1
    have e : (redM m).next[y] = (redQ m.final.length m.base.toNat (cE m.final.length m.base.toNat (nxM m) (c0M m)) (nxM m)).2.getD y 0 := by
      simp only [List.getD]
      have : (redQ m.final.length m.base.toNat (cE m.final.length m.base.toNat (nxM m) (c0M m)) (nxM m)).2[y]? = some (redM m).next[y] := List.getElem?_eq_getElem hy
      rw [this]
      rfl
    rw [e, a3, redM_fin]
    have a5 : idxC (cE m.final.length m.base.toNat (nxM m) (c0M m)) (redQ m.final.length m.base.toNat (cE m.final.length m.base.toNat (nxM m) (c0M m)) (nxM m)).1 (nxM m ((redQ m.final.length m.base.toNat (cE m.final.length m.base.toNat (nxM m) (c0M m)) (nxM m)).1.getD (y / m.base.toNat) 0) (y % m.base.toNat)) < (stS m.final.length m.base.toNat (nxM m) (c0M m)).length := a4
    omega
theorem redM_twice {m : Ma} (hok : maOk m = true) : redM (redM m) = redM m := by
  obtain ⟨q2, q10, n1, n144, -, -⟩ := maOk_t hok
  have hnx := nxM_lt hok
  have h1 := red_twice (c0 := c0M m) hnx (by omega)
  have hn2 := nx2_lt (c0 := c0M m) hnx (by omega)
  have e0 := redM_fin m
  have e1 := redM_nx hok
  have h2 : redS (redM m) = (List.range (stS m.final.length m.base.toNat (nxM m) (c0M m)).length, (redS m).2) := by
    refine Eq.trans ?_ h1
    unfold redS
    rw [e0, e1]
    show bfs m.base.toNat (clM (redM m) (stS m.final.length m.base.toNat (nxM m) (c0M m)).length) (nx2 m.final.length m.base.toNat (nxM m) (c0M m)) ((stS m.final.length m.base.toNat (nxM m) (c0M m)).length + 1) 0 ([0], []) = bfs m.base.toNat (cE (stS m.final.length m.base.toNat (nxM m) (c0M m)).length m.base.toNat (nx2 m.final.length m.base.toNat (nxM m) (c0M m)) (c02 m.final.length m.base.toNat (nxM m) (c0M m))) (nx2 m.final.length m.base.toNat (nxM m) (c0M m)) ((stS m.final.length m.base.toNat (nxM m) (c0M m)).length + 1) 0 ([0], [])
    refine bfs_congr hn2 (fun s hs => ?_) _ _ _ (by simpa using st_pos (c0 := c0M m) hnx (by omega))
    unfold clM cE
    rw [e1]
    exact cls_congr0 hn2 (fun s hs => redM_c0 s hs) _ s hs
  have h3 : (redS (redM m)).1.map (finN (redM m)) = (redM m).final := by
    rw [h2]
    apply List.ext_getElem
    · simp [e0]
    · intro j hj1 hj2
      simp only [List.getElem_map, List.getElem_range]
      unfold finN
      simp [List.getD, hj2]
  show (⟨m.base, (redS (redM m)).2, (redS (redM m)).1.map (finN (redM m))⟩ : Ma) = _
  rw [h3, h2]
  rfl

/-! what it accepts -/
theorem red_run {m : Ma} (hok : maOk m = true) (ds : List Int) (hd : ∀ d ∈ ds, 0 ≤ d ∧ d < m.base) :
    ∃ s : Nat, runM m ds = (s : Int) ∧ reach m.final.length m.base.toNat (nxM m) (c0M m) s ∧ runM (redM m) ds = (idxE m.final.length m.base.toNat (nxM m) (c0M m) s : Int) := by
  obtain ⟨q2, q10, n1, n144, -, -⟩ := maOk_t hok
  have hnx := nxM_lt hok
  have hok2 := (redM_ok hok).1
  induction ds with
  | nil =>
    obtain ⟨h1, h2⟩ := reach_zero (c0 := c0M m) hnx (by omega)
    exact ⟨0, rfl, h1, by rw [h2]; rfl⟩
  | cons d r ih =>
    obtain ⟨s, e1, h1, e2⟩ := ih (fun x hx => hd x (List.mem_cons_of_mem _ hx))
    obtain ⟨d0, d1⟩ := hd d List.mem_cons_self
    obtain ⟨k, rfl⟩ : ∃ k : Nat, d = (k : Int) := ⟨d.toNat, by omega⟩
    have hk : k < m.base.toNat := by omega
    obtain ⟨r1, r2⟩ := reach_next (c0 := c0M m) hnx (by omega) s k h1 hk
    refine ⟨nxM m s k, ?_, r1, ?_⟩
    · show stepM m (runM m r) (k : Int) = _
      rw [e1]
      exact (nxM_eq hok s k h1.1 hk).1
    · show stepM (redM m) (runM (redM m) r) (k : Int) = _
      have hi : idxE m.final.length m.base.toNat (nxM m) (c0M m) s < (redM m).final.length := by
        rw [redM_fin]
        exact (idxC_at h1.2).1
      rw [e2, (nxM_eq hok2 _ k hi hk).1, redM_nx hok, r2]
theorem red_finN {m : Ma} (hok : maOk m = true) (s : Nat) (hs : reach m.final.length m.base.toNat (nxM m) (c0M m) s) : finN (redM m) (idxE m.final.length m.base.toNat (nxM m) (c0M m) s) = finN m s := by
  obtain ⟨q2, q10, n1, n144, -, -⟩ := maOk_t hok
  have hi := (idxC_at hs.2).1
  have h1 := reach_fin (c0 := c0M m) (nxM_lt hok) (by omega) s hs
  have h0 := redM_c0 _ hi
  rw [show c02 m.final.length m.base.toNat (nxM m) (c0M m) (idxE m.final.length m.base.toNat (nxM m) (c0M m) s) = c02 m.final.length m.base.toNat (nxM m) (c0M m) (idxC (cE m.final.length m.base.toNat (nxM m) (c0M m)) (stS m.final.length m.base.toNat (nxM m) (c0M m)) s) from rfl, ← h0] at h1
  unfold c0M at h1
  show finN (redM m) (idxC (cE m.final.length m.base.toNat (nxM m) (c0M m)) (stS m.final.length m.base.toNat (nxM m) (c0M m)) s) = finN m s
  have h2 : (if finN (redM m) (idxC (cE m.final.length m.base.toNat (nxM m) (c0M m)) (stS m.final.length m.base.toNat (nxM m) (c0M m)) s) then 1 else 0) = (if finN m s then 1 else 0 : Nat) := h1
  cases h3 : finN (redM m) (idxC (cE m.final.length m.base.toNat (nxM m) (c0M m)) (stS m.final.length m.base.toNat (nxM m) (c0M m)) s) <;> cases h4 : finN m s <;> rw [h3, h4] at h2 <;> simp at h2 <;> rfl
theorem red_finM {m : Ma} (hok : maOk m = true) (x : Int) : finM (redM m) x = finM m x := by
  obtain ⟨s, e1, h1, e2⟩ := red_run hok (digs x m.base) (digs_mem x m.base (maOk_t hok).1)
  show List.getD (redM m).final (runM (redM m) (digs x m.base)).toNat false = List.getD m.final (runM m (digs x m.base)).toNat false
  rw [e1, e2]
  exact red_finN hok s h1
theorem red_acc {m : Ma} (hok : maOk m = true) (x : Int) : accR (redM m) x = accR m x := by
  unfold accR
  rw [red_finM hok, hok, (redM_ok hok).1]
theorem red_least {m : Ma} (hok : maOk m = true) : leastR (redM m) = leastR m := by
  unfold leastR
  rw [hok, (redM_ok hok).1]
  have e : (fun (x : Nat) => finM (redM m) (x : Int)) = (fun (x : Nat) => finM m (x : Int)) := funext (fun x => red_finM hok (x : Int))
  rw [e]

end Go.Proofs.YtkapbhlnjmfaaaaDoor
