/- The law on the pairs of unit fractions. Conditions: none. -/
import Derived.Test.YtkcjjhdmklhepaaUnitsE
import Derived.StillTailTactics
namespace Go.Proofs.Ytkcjjhdmklhepaa
set_option linter.unusedVariables false
open Go.RowKit

/-- a slice of rows of two numbers, all in blocks from L on, below U -/
def OwnSS (w : World) (L U : Nat) (a : Option Addr) (cap : Nat) (rows : List (List Int)) : Prop :=
  ∃ gs, Rows2 w L U gs rows ∧ w.ownsRow L 24 1 (.slice a rows.length cap) rows.length (gs.map slv) ∧ ∀ g o s, a = some ⟨g, o, s⟩ → g < U
theorem OwnSV.ss {w : World} {base : Nat} {v : Value} {rows : List (List Int)} (h : OwnSV w base v rows) : ∃ a cap, v = .slice a rows.length cap ∧ OwnSS w base w.heap.size a cap rows := by
  obtain ⟨a, cap, rfl⟩ := h.shape
  obtain ⟨gs, h1, h2⟩ := h
  refine ⟨a, cap, rfl, gs, h1, h2, fun g o s e => ?_⟩
  subst e
  exact (World.ownsRow.lt h2 g rfl).2
theorem Upd.widen {L U g : Nat} {w w1 w2 : World} (h : Upd L U w w1) (h2 : Upd g (g + 1) w1 w2) (hL : L ≤ g) (hU : g < U) : Upd L U w w2 :=
  ⟨h2.os.trans h.os, h2.tape.trans h.tape, h2.output.trans h.output, Nat.le_trans h.size h2.size, fun k hk hc => (h2.block k (Nat.lt_of_lt_of_le hk h.size) (by omega)).trans (h.block k hk hc)⟩
theorem ownsRow_keep {w w' : World} {L : Nat} {t : TypeId} {a : Option Addr} {n cap : Nat} {xs : List Value} (h : w.ownsRow L t 1 (.slice a n cap) n xs) (he : ∀ g cur, a = some ⟨g, 0, none⟩ → w.heap[g]? = some (Obj.cells cur t (0, 0)) → w'.heap[g]? = w.heap[g]?) :
    w'.ownsRow L t 1 (.slice a n cap) n xs := by
  refine ⟨h.1, ?_⟩
  rcases h.2 with h1 | ⟨g, cap', cur, hv, hg, hh, r⟩
  · exact Or.inl h1
  · refine Or.inr ⟨g, cap', cur, hv, hg, ?_, r⟩
    have hv' := hv
    simp only [Value.slice.injEq] at hv'
    rw [he g cur hv'.1 hh]; exact hh
theorem OwnSS.upd {w w' : World} {L U L' U' : Nat} {a : Option Addr} {cap : Nat} {rows : List (List Int)} (h : OwnSS w L U a cap rows) (hu : Upd L' U' w w') (hc : U ≤ L' ∨ U' ≤ L) : OwnSS w' L U a cap rows := by
  obtain ⟨gs, h1, h2, h3⟩ := h
  have hg : ∀ g ∈ gs, w'.heap[g]? = w.heap[g]? := by
    intro g hg
    obtain ⟨i, hi, rfl⟩ := List.getElem_of_mem hg
    obtain ⟨r1, r2, r3, r4⟩ := h1.row i hi (by rw [← h1.len]; exact hi)
    obtain ⟨cur, hcur⟩ := r4.blk
    exact hu.block _ (lt_of_block hcur) (by omega)
  refine ⟨gs, h1.keep (Nat.le_refl _) hg, ?_, h3⟩
  refine ownsRow_keep h2 (fun g cur e hh => hu.block g (lt_of_block hh) ?_)
  have := h3 g 0 none e
  have hL : L ≤ g := by
    subst e
    exact (World.ownsRow.lt h2 g rfl).1
  omega
theorem OwnSS.below {w w' : World} {L U : Nat} {a : Option Addr} {cap : Nat} {rows : List (List Int)} (h : OwnSS w L U a cap rows) (hb : Below w.heap.size w w') (hU : U ≤ w.heap.size) : OwnSS w' L U a cap rows :=
  h.upd (Below.upd hb) (Or.inl hU)
theorem OwnSS.at {w : World} {L U : Nat} {a : Option Addr} {cap : Nat} {rows : List (List Int)} (h : OwnSS w L U a cap rows) (i : Nat) (hi : i < rows.length) :
    ∃ b g, a = some ⟨b, 0, none⟩ ∧ w.cell? ⟨b, i, none⟩ = some (.slice (some ⟨g, 0, none⟩) 2 2) ∧ rows[i].length = 2 ∧ OwnI w g (some ⟨g, 0, none⟩) 2 rows[i] := by
  obtain ⟨gs, h1, h2, h3⟩ := h
  have hi2 : i < gs.length := by rw [h1.len]; exact hi
  obtain ⟨r1, r2, r3, r4⟩ := h1.row i hi2 hi
  have h2' := h2
  rcases h2.2 with ⟨hv, hn⟩ | ⟨b, cap', cur, hv, hb, hh, r⟩
  · omega
  · simp only [Value.slice.injEq] at hv
    obtain ⟨rfl, -, -⟩ := hv
    have hc := World.ownsRow.cellAt h2' i (by omega)
    rw [List.getElem?_map, List.getElem?_eq_getElem hi2] at hc
    exact ⟨b, gs[i], rfl, hc, r3, r4⟩
def marksSS (k0 : Int) (n : Nat) : List (List Int) := (List.range n).map (fun (j : Nat) => marks (k0 + 2 * (j : Int)) 2)
theorem marksSS_len (k0 : Int) (n : Nat) : (marksSS k0 n).length = n := by simp [marksSS]
theorem marksSS_get (k0 : Int) (n i : Nat) (h : i < (marksSS k0 n).length) : (marksSS k0 n)[i] = marks (k0 + 2 * (i : Int)) 2 := by simp [marksSS]
def mkr (k0 : Int) (rows : List (List Int)) (i : Nat) : List (List Int) := marksSS k0 i ++ rows.drop i
theorem mkr_len (k0 : Int) (rows : List (List Int)) (i : Nat) (h : i ≤ rows.length) : (mkr k0 rows i).length = rows.length := by simp [mkr, marksSS_len]; omega
theorem mkr_get (k0 : Int) (rows : List (List Int)) (i : Nat) (h : i < rows.length) : (mkr k0 rows i)[i]'(by rw [mkr_len k0 rows i (by omega)]; exact h) = rows[i] := by
  unfold mkr
  rw [List.getElem_append_right (by rw [marksSS_len]; exact Nat.le_refl _)]
  simp [marksSS_len]
theorem mkr_set (k0 : Int) (rows : List (List Int)) (i : Nat) (h : i < rows.length) : (mkr k0 rows i).set i (marks (k0 + 2 * (i : Int)) 2) = mkr k0 rows (i + 1) := by
  unfold mkr
  have e : marksSS k0 (i + 1) = marksSS k0 i ++ [marks (k0 + 2 * (i : Int)) 2] := by simp [marksSS, List.range_succ]
  rw [e, List.set_append_right _ _ (by rw [marksSS_len]; exact Nat.le_refl _), marksSS_len, Nat.sub_self, List.drop_eq_getElem_cons h, List.set_cons_zero]
  simp
/-- one row marked -/
theorem OwnSS.mark {w w' : World} {L U : Nat} {a : Option Addr} {cap : Nat} {rows : List (List Int)} (h : OwnSS w L U a cap rows) (i : Nat) (hi : i < rows.length) (ms : List Int) (hm : ms.length = 2) :
    ∃ b g, a = some ⟨b, 0, none⟩ ∧ L ≤ g ∧ g < U ∧ w.cell? ⟨b, i, none⟩ = some (.slice (some ⟨g, 0, none⟩) 2 2) ∧ rows[i].length = 2 ∧ OwnI w g (some ⟨g, 0, none⟩) 2 rows[i] ∧
      (Upd g (g + 1) w w' → OwnI w' g (some ⟨g, 0, none⟩) 2 ms → OwnSS w' L U a cap (rows.set i ms)) := by
  obtain ⟨gs, h1, h2, h3⟩ := h
  have hi2 : i < gs.length := by rw [h1.len]; exact hi
  obtain ⟨r1, r2, r3, r4⟩ := h1.row i hi2 hi
  have h2' := h2
  rcases h2.2 with ⟨hv, hn⟩ | ⟨b, cap', cur, hv, hb, hh, r⟩
  · omega
  · simp only [Value.slice.injEq] at hv
    obtain ⟨rfl, -, -⟩ := hv
    have hc := World.ownsRow.cellAt h2' i (by omega)
    rw [List.getElem?_map, List.getElem?_eq_getElem hi2] at hc
    refine ⟨b, gs[i], rfl, r1, r2, hc, r3, r4, fun hu ho => ?_⟩
    obtain ⟨cg, hcg⟩ := r4.blk
    refine ⟨gs, ⟨by rw [List.length_set]; exact h1.len, h1.inc, fun j hj hj' => ?_⟩, ?_, h3⟩
    · rw [List.length_set] at hj'
      obtain ⟨s1, s2, s3, s4⟩ := h1.row j hj hj'
      by_cases hij : i = j
      · subst hij
        rw [List.getElem_set_self]
        exact ⟨s1, s2, hm, ho⟩
      · rw [List.getElem_set_ne hij]
        obtain ⟨cj, hcj⟩ := s4.blk
        have hne : gs[j] < gs[i] ∨ gs[i] < gs[j] := by
          rcases Nat.lt_or_gt_of_ne hij with hlt | hlt
          · exact Or.inr (List.pairwise_iff_getElem.1 h1.inc i j hi2 hj hlt)
          · exact Or.inl (List.pairwise_iff_getElem.1 h1.inc j i hj hi2 hlt)
        exact ⟨s1, s2, s3, s4.same (hu.block _ (lt_of_block hcj) (by omega))⟩
    · rw [List.length_set]
      refine ownsRow_keep h2 (fun g cur' e hh' => hu.block g (lt_of_block hh') ?_)
      have hne : g ≠ gs[i] := by
        intro he
        rw [he, hcg] at hh'
        simp at hh'
      omega

end Go.Proofs.Ytkcjjhdmklhepaa
