/- The program's classes of states. Conditions: those of each contract. -/
import Derived.Test.YtkapbhlnjmfaaaaDoorRedM
import Derived.Test.YtkapbhlnjmfaaaaDoorMapS
import Derived.Test.YtkapbhlnjmfaaaaDoorBldr
import Derived.Test.YtkapbhlnjmfaaaaDoorShelf
import Derived.Test.YtkapbhlnjmfaaaaDoorRepA
import Derived.Lib.BufferMore
namespace Go.Proofs.YtkapbhlnjmfaaaaDoor
set_option linter.unusedVariables false
open Go.RowKit

/-- block g is a row of the n integers xs -/
def RowN (w : World) (g n : Nat) (xs : List Int) : Prop := w.ownsRow g 3 1 (.slice (some ⟨g, 0, none⟩) n n) n (xs.map (Value.int .i64)) ∧ xs.length = n
theorem RowN.same {w w' : World} {g n : Nat} {xs : List Int} (h : RowN w g n xs) (he : w'.heap[g]? = w.heap[g]?) : RowN w' g n xs := by
  refine ⟨⟨h.1.1, ?_⟩, h.2⟩
  rcases h.1.2 with ⟨h1, h2⟩ | ⟨g', cap', cur, hv, hg, hh, r⟩
  · exact Or.inl ⟨h1, h2⟩
  · have e := hv
    simp only [Value.slice.injEq, Option.some.injEq, Addr.mk.injEq] at e
    obtain ⟨⟨rfl, -⟩, -⟩ := e
    exact Or.inr ⟨g, cap', cur, hv, hg, he.trans hh, r⟩
theorem RowN.kept {w w' : World} {g n B : Nat} {xs : List Int} (h : RowN w g n xs) (hb : Below B w w') (hg : g < B) : RowN w' g n xs := h.same (hb.block g hg)
theorem RowN.cell {w : World} {g n : Nat} {xs : List Int} (h : RowN w g n xs) (i : Nat) (hi : i < xs.length) : w.cell? ⟨g, i, none⟩ = some (.int .i64 xs[i]) := by
  have h1 := World.ownsRow.cellAt h.1 i (by have := h.2; omega)
  rw [List.getElem?_map, List.getElem?_eq_getElem hi] at h1
  exact h1
theorem RowN.frozen {w : World} {g n : Nat} {xs : List Int} (h : RowN w g n xs) (i : Nat) : w.frozen? ⟨g, i, none⟩ = false := World.ownsRow.frozenAt h.1 i
theorem RowN.set {w : World} {g n : Nat} {xs : List Int} (h : RowN w g n xs) (i : Nat) (y : Int) : RowN (w.setCell ⟨g, i, none⟩ (.int .i64 y)) g n (xs.set i y) := by
  have h1 := (World.ownsRow.stored h.1 i (.int .i64 y)).1
  rw [← List.map_set] at h1
  exact ⟨h1, by rw [List.length_set]; exact h.2⟩
theorem RowN.blk {w : World} {g n : Nat} {xs : List Int} (h : RowN w g n xs) (hn : 0 < n) : g < w.heap.size := by
  have := h.cell 0 (by rw [h.2]; exact hn)
  exact World.block_lt_of_cell? w ⟨g, 0, none⟩ this
theorem RowN.ints {w : World} {g n : Nat} {xs : List Int} (h : RowN w g n xs) (hn : 0 < n) (hm : n ≤ maxLen) : Ints w w.heap.size (some ⟨g, 0, none⟩) n xs :=
  ⟨by rw [h.2]; exact Nat.le_refl _, hm, g, 0, fun _ => ⟨rfl, h.blk hn⟩, fun i hi => by rw [Nat.zero_add]; exact h.cell i hi⟩
theorem RowN.made {w : World} {g n : Nat} (h : w.ownsRow g 3 1 (.slice (some ⟨g, 0, none⟩) n n) n (madeCells #[.int .i64 0] (n * 1)).toList) : RowN w g n (List.replicate n 0) := by
  refine ⟨?_, by simp⟩
  rw [List.map_replicate, ← toList_madeCells_one]
  simpa using h
theorem IsB.turn {B b : Nat} {l : List UInt8} {w w' : World} {k : Nat} (h : IsB B b l w) (hg : w.grownBy w' (some k)) (hk : k < B) : IsB B b l w' := by
  have key : ∀ p, Lib.BuilderAtF 74 5 B b p (Lib.byteCells l) w → Lib.BuilderAtF 74 5 B b p (Lib.byteCells l) w' := by
    intro p h
    have hlt := h.lt
    obtain ⟨hB, v, hb1, hown, hne⟩ := h
    refine ⟨hB, v, (hg.block b hlt (fun e => by cases e; omega)).trans hb1, hown.kept hg ?_, hne⟩
    cases hv : v.ownBlock with
    | none => simp
    | some g =>
      have := (hown.lt g hv).1
      simp
      omega
  rcases h with h | h
  · exact Or.inl (key _ h)
  · exact Or.inr (key _ h)
theorem IsB.blk {B b : Nat} {l : List UInt8} {w : World} (h : IsB B b l w) : b < w.heap.size := by
  rcases h with h | h <;> exact h.lt
theorem String_any (B b : Nat) (l : List UInt8) (w : World) (h : IsB B b l w) (h0 : l ≠ []) :
    Calls Tryd.prog 55 #[.pointer (some ⟨b, 0, none⟩)] w fun e w' => e = .returned (.string ⟨l.toArray⟩) ∧ IsB B b l w' ∧ Below B w w' := by
  refine (Tryd.Builder_String_k B b l w h h0).mono ?_
  rintro e w' ⟨rfl, h1, h2, -⟩
  exact ⟨rfl, h1, h2⟩
theorem i64W_ok (n : Int) (h0 : -9223372036854775808 ≤ n) (h1 : n ≤ 9223372036854775807) : i64W n := by
  simp [i64W, Lit.wf, IntKind.min, IntKind.max, IntKind.signed, IntKind.bits]
  omega
/-- how many keys the round before had -/
def mnM (m : Ma) (r : Nat) : Int := if r = 0 then -1 else (cntM m (r - 1) : Int)
/-- the list of the numbers given so far, the rest 0 -/
def partL (m : Ma) (r k : Nat) : List Int := (List.range k).map (fun s => (clM m (r + 1) s : Int)) ++ List.replicate (m.final.length - k) 0
theorem partL_set (m : Ma) (r k : Nat) (hk : k < m.final.length) : (partL m r k).set k (clM m (r + 1) k : Int) = partL m r (k + 1) := by
  unfold partL
  rw [List.set_append_right _ _ (by simp), show m.final.length - k = (m.final.length - (k + 1)) + 1 from by omega, List.replicate_succ, List.range_succ]
  simp
theorem partL_all (m : Ma) (r : Nat) : partL m r m.final.length = clL m (r + 1) := by simp [partL, clL]
theorem partL_zero (m : Ma) (r : Nat) : partL m r 0 = List.replicate m.final.length 0 := by simp [partL]
theorem partL_len (m : Ma) (r k : Nat) (hk : k ≤ m.final.length) : (partL m r k).length = m.final.length := by simp [partL]; omega
/-- the first list: 1 for a final state -/
def firstL (m : Ma) (k : Nat) : List Int := (List.range k).map (fun s => (clM m 0 s : Int)) ++ List.replicate (m.final.length - k) 0
theorem firstL_set (m : Ma) (k : Nat) (hk : k < m.final.length) (hf : m.final[k] = true) : (firstL m k).set k 1 = firstL m (k + 1) := by
  unfold firstL
  have e : clM m 0 k = 1 := by show c0M m k = 1; simp [c0M, finN, List.getD, hk, hf]
  rw [List.set_append_right _ _ (by simp), show m.final.length - k = (m.final.length - (k + 1)) + 1 from by omega, List.replicate_succ, List.range_succ]
  simp [e]
theorem firstL_skip (m : Ma) (k : Nat) (hk : k < m.final.length) (hf : m.final[k] = false) : firstL m k = firstL m (k + 1) := by
  unfold firstL
  have e : clM m 0 k = 0 := by show c0M m k = 0; simp [c0M, finN, List.getD, hk, hf]
  rw [show m.final.length - k = (m.final.length - (k + 1)) + 1 from by omega, List.replicate_succ, List.range_succ]
  simp [e]
theorem firstL_all (m : Ma) : firstL m m.final.length = clL m 0 := by simp [firstL, clL]
theorem firstL_zero (m : Ma) : firstL m 0 = List.replicate m.final.length 0 := by simp [firstL]

end Go.Proofs.YtkapbhlnjmfaaaaDoor
