/- The reduced machine in the making: what stands in memory while the states are gone through. Conditions: those of each lemma. -/
import Derived.Test.YtkapbhlnjmfaaaaDoorClsW
import Derived.Deep.AppendLies
import Derived.Deep.RegionWith
import Derived.Deep.RegionLaw
namespace Go.Proofs.YtkapbhlnjmfaaaaDoor
set_option linter.unusedVariables false
open Go.RowKit

theorem info_bool1 : (Tryd.prog.info? 4).map (fun i => (i.zero, i.size, i.bytes)) = some (some (.bool false), 1, 1) := by kernel_rfl
/-- 'append(s, y)' onto a slice of the call's own, and where the new slice lies -/
theorem wpList_append_one {ops : Array Oper} {rest : List Oper} {o : Oper} {a : Act} {Q : Exit → Act → World → Prop} {W : World} (hgd : o.guard = none) (s x : Operand) (ts e : TypeId) (z : Value) (bytes : Nat)
    (ht : Tryd.prog.underlying ts = some (.slice e)) (hinfo : (Tryd.prog.info? e).map (fun i => (i.zero, i.size, i.bytes)) = some (some z, 1, bytes)) (hzs : z.cells.size = 1) (hby : bytes ≤ 8)
    (ho : o.op = .call { callee := .builtin .append, args := #[s, x], argTypes := #[ts, ts] }) (base : Nat) (v : Value) (n : Nat) (xs : List Value) (hs : a.eval s = v) (hown : W.ownsRow base e 1 v n xs)
    (y : Value) (hy : y.oneCell' = true) (hx : a.eval x = .slice (some ⟨W.heap.size, 0, none⟩) 1 1) (hl : n ≤ 1000000) (hb : base ≤ W.heap.size)
    (h : ∀ g cap w', w'.ownsRow base e 1 (.slice (some ⟨g, 0, none⟩) (n + 1) cap) (n + 1) (xs ++ [y]) → W.grownBy w' v.ownBlock → (v.ownBlock = some g ∨ W.heap.size < g) → g < w'.heap.size → wpList Tryd.prog ops Q rest (a.put o.dst (.slice (some ⟨g, 0, none⟩) (n + 1) cap)) w') :
    wpList Tryd.prog ops Q (o :: rest) a (W.alloc (.cells #[y] e)) := by
  obtain ⟨i0, hi, hz0, hz1, hz2⟩ := info_parts hinfo
  refine wpList_append_lies _ hgd s x ts ho base e i0 z 1 bytes ht hi hz0 hz1 hz2 hzs (by decide) v n xs hs (World.ownsRow.alloc hown _) ⟨W.heap.size, 0, none⟩ 1 1 [y] hx rfl (cell_one_new _ _ _) (fun u hu => by simp at hu; subst hu; exact hy) (by decide) ?c3 ?c4 ?c5 (W.heap.size + 1) (by simp) ?_
  case c3 => unfold maxLen; omega
  case c4 => have := Nat.mul_le_mul (show n + 1 ≤ 1000001 by omega) hby; omega
  case c5 => simp; omega
  intro g cap w' h1 h2 h3 h4
  refine h g cap w' h1 ((World.grownBy_alloc W _ v.ownBlock).andThen h2 (fun j hj => Or.inr hj)) (h3.imp id (fun e => by omega)) h4
theorem step_append_one {ops : Array Oper} {o : Oper} {a : Act} {K : Act → World → Prop} {Q : Exit → Act → World → Prop} {E : Prop} {W : World} (hgd : o.guard = none) (s x : Operand) (ts e : TypeId) (z : Value) (bytes : Nat)
    (ht : Tryd.prog.underlying ts = some (.slice e)) (hinfo : (Tryd.prog.info? e).map (fun i => (i.zero, i.size, i.bytes)) = some (some z, 1, bytes)) (hzs : z.cells.size = 1) (hby : bytes ≤ 8)
    (ho : o.op = .call { callee := .builtin .append, args := #[s, x], argTypes := #[ts, ts] }) (base : Nat) (v : Value) (n : Nat) (xs : List Value) (hs : a.eval s = v) (hown : W.ownsRow base e 1 v n xs)
    (y : Value) (hy : y.oneCell' = true) (hx : a.eval x = .slice (some ⟨W.heap.size, 0, none⟩) 1 1) (hl : n ≤ 1000000) (hb : base ≤ W.heap.size)
    (h : ∀ g cap w', w'.ownsRow base e 1 (.slice (some ⟨g, 0, none⟩) (n + 1) cap) (n + 1) (xs ++ [y]) → W.grownBy w' v.ownBlock → (v.ownBlock = some g ∨ W.heap.size < g) → g < w'.heap.size → K (a.put o.dst (.slice (some ⟨g, 0, none⟩) (n + 1) cap)) w') :
    if Region.wanted o (yielded ops a.tmps) = true then Oper.wp Tryd.prog o a (W.alloc (.cells #[y] e)) K Q else E := by
  obtain ⟨i0, hi, hz0, hz1, hz2⟩ := info_parts hinfo
  refine step_append_lies _ hgd s x ts ho base e i0 z 1 bytes ht hi hz0 hz1 hz2 hzs (by decide) v n xs hs (World.ownsRow.alloc hown _) ⟨W.heap.size, 0, none⟩ 1 1 [y] hx rfl (cell_one_new _ _ _) (fun u hu => by simp at hu; subst hu; exact hy) (by decide) ?c3 ?c4 ?c5 (W.heap.size + 1) (by simp) ?_
  case c3 => unfold maxLen; omega
  case c4 => have := Nat.mul_le_mul (show n + 1 ≤ 1000001 by omega) hby; omega
  case c5 => simp; omega
  intro g cap w' h1 h2 h3 h4
  refine h g cap w' h1 ((World.grownBy_alloc W _ v.ownBlock).andThen h2 (fun j hj => Or.inr hj)) (h3.imp id (fun e => by omega)) h4

/-- two slices do not share a block -/
def ap (u v : Value) : Prop := ∀ g, u.ownBlock = some g → v.ownBlock ≠ some g
theorem ap.row {w : World} {base n : Nat} {e : TypeId} {u v : Value} {xs : List Value} (h : ap u v) : v.ownBlock = none ∨ v.ownBlock ≠ u.ownBlock := by
  cases hv : v.ownBlock with
  | none => exact Or.inl rfl
  | some g =>
    right
    intro e
    exact h g e.symm hv
theorem ap.row' {u v : Value} (h : ap u v) : u.ownBlock = none ∨ u.ownBlock ≠ v.ownBlock := by
  cases hu : u.ownBlock with
  | none => exact Or.inl rfl
  | some g =>
    right
    intro e
    exact h g hu e.symm
theorem ap_nil (v : Value) (n c : Nat) : ap (.slice none n c) v := fun g hg => by simp [Value.ownBlock] at hg
theorem ap_nil' (v : Value) (n c : Nat) : ap v (.slice none n c) := fun g hg => by simp [Value.ownBlock]
/-- a slice that has grown is as far from the others as before -/
theorem ap.grow {w w' : World} {base n m cap g : Nat} {e : TypeId} {u v : Value} {xs : List Value} (h : ap u v) (hv : w.ownsRow base e 1 v n xs) (hg : u.ownBlock = some g ∨ w.heap.size < g) : ap (.slice (some ⟨g, 0, none⟩) m cap) v := by
  intro g' e1 e2
  simp [Value.ownBlock] at e1
  subst e1
  rcases hg with hg | hg
  · exact h g hg e2
  · have := (World.ownsRow.lt hv g e2).2
    omega
theorem ap.grow' {w w' : World} {base n m cap g : Nat} {e : TypeId} {u v : Value} {xs : List Value} (h : ap v u) (hv : w.ownsRow base e 1 v n xs) (hg : u.ownBlock = some g ∨ w.heap.size < g) : ap v (.slice (some ⟨g, 0, none⟩) m cap) := by
  intro g' e1 e2
  simp [Value.ownBlock] at e2
  subst e2
  rcases hg with hg | hg
  · exact h g e1 hg
  · have := (World.ownsRow.lt hv g e1).2
    omega
/-- in block O the machine in the making, its slices v2, v3; the states in v1, their classes in v4 -/
structure RedSt (w : World) (E O : Nat) (q : Int) (v1 v2 v3 v4 : Value) (S : List Nat) (N : List Int) (F : List Bool) (L : List Int) : Prop where
  st : w.ownsRow E 3 1 v1 S.length (S.map (fun (s : Nat) => Value.int .i64 (s : Int)))
  nx : w.ownsRow (O + 1) 3 1 v2 N.length (N.map (Value.int .i64))
  fi : w.ownsRow (O + 1) 4 1 v3 F.length (F.map Value.bool)
  cl : w.ownsRow E 3 1 v4 L.length (L.map (Value.int .i64))
  out : w.heap[O]? = some (.cells #[.int .i64 q, v2, v3] 27 (0, 0))
  a12 : ap v1 v2
  a13 : ap v1 v3
  a14 : ap v1 v4
  a23 : ap v2 v3
  a24 : ap v2 v4
  a34 : ap v3 v4
  m1 : ∀ g, v1.ownBlock = some g → g = E ∨ O < g
  m4 : ∀ g, v4.ownBlock = some g → g = E + 1 ∨ O < g
  eo : E + 2 ≤ O
section
variable {w w' : World} {E O : Nat} {q : Int} {v1 v2 v3 v4 : Value} {S : List Nat} {N : List Int} {F : List Bool} {L : List Int}
theorem RedSt.blk (h : RedSt w E O q v1 v2 v3 v4 S N F L) : O < w.heap.size := by
  rcases Nat.lt_or_ge (O) w.heap.size with h1 | h1
  · exact h1
  · have := h.out
    rw [Array.getElem?_eq_none h1] at this
    cases this
theorem RedSt.grown (h : RedSt w E O q v1 v2 v3 v4 S N F L) {row : Option Nat} (hg : w.grownBy w' row) (h1 : v1.ownBlock = none ∨ v1.ownBlock ≠ row) (h2 : v2.ownBlock = none ∨ v2.ownBlock ≠ row) (h3 : v3.ownBlock = none ∨ v3.ownBlock ≠ row) (h4 : v4.ownBlock = none ∨ v4.ownBlock ≠ row) (h5 : some (O) ≠ row) : RedSt w' E O q v1 v2 v3 v4 S N F L :=
  ⟨h.st.kept hg h1, h.nx.kept hg h2, h.fi.kept hg h3, h.cl.kept hg h4, (hg.block _ h.blk h5).trans h.out, h.a12, h.a13, h.a14, h.a23, h.a24, h.a34, h.m1, h.m4, h.eo⟩
theorem RedSt.kept (h : RedSt w E O q v1 v2 v3 v4 S N F L) (hb : Below w.heap.size w w') : RedSt w' E O q v1 v2 v3 v4 S N F L :=
  h.grown (row := none) ⟨hb.os, hb.tape, hb.output, hb.size, fun k hk _ => hb.block k hk⟩ (by cases v1.ownBlock <;> simp) (by cases v2.ownBlock <;> simp) (by cases v3.ownBlock <;> simp) (by cases v4.ownBlock <;> simp) (by simp)
theorem RedSt.drew (h : RedSt w E O q v1 v2 v3 v4 S N F L) : RedSt w.drew E O q v1 v2 v3 v4 S N F L := h.kept (Below.refl _ _).drew
/-- the map in block E + 1 has changed -/
theorem RedSt.turn (h : RedSt w E O q v1 v2 v3 v4 S N F L) (hg : w.grownBy w' (some (E + 1))) (hn : v4.ownBlock = none) : RedSt w' E O q v1 v2 v3 v4 S N F L := by
  have heo := h.eo
  refine h.grown hg ?_ ?_ ?_ (Or.inl hn) (by simp; omega)
  · right; intro e; have := h.m1 _ e; omega
  · right; intro e; have := (World.ownsRow.lt h.nx _ e).1; omega
  · right; intro e; have := (World.ownsRow.lt h.fi _ e).1; omega
/-- one state more -/
theorem RedSt.addS (h : RedSt w E O q v1 v2 v3 v4 S N F L) {g cap : Nat} {s : Nat} (ho : w'.ownsRow E 3 1 (.slice (some ⟨g, 0, none⟩) (S.length + 1) cap) (S.length + 1) (S.map (fun (s : Nat) => Value.int .i64 (s : Int)) ++ [.int .i64 s]))
    (hg : w.grownBy w' v1.ownBlock) (hat : v1.ownBlock = some g ∨ w.heap.size < g) : RedSt w' E O q (.slice (some ⟨g, 0, none⟩) (S.length + 1) cap) v2 v3 v4 (S ++ [s]) N F L := by
  have hb := h.blk
  have heo := h.eo
  refine ⟨by simpa using ho, h.nx.kept hg (h.a12.row (w := w) (base := 0) (n := 0) (e := 0) (xs := [])), h.fi.kept hg (h.a13.row (w := w) (base := 0) (n := 0) (e := 0) (xs := [])), h.cl.kept hg (h.a14.row (w := w) (base := 0) (n := 0) (e := 0) (xs := [])), (hg.block _ hb ?_).trans h.out,
    h.a12.grow (w' := w) h.nx hat, h.a13.grow (w' := w) h.fi hat, h.a14.grow (w' := w) h.cl hat, h.a23, h.a24, h.a34, ?_, h.m4, h.eo⟩
  · intro e
    have := h.m1 _ e.symm
    omega
  · intro g' e
    simp [Value.ownBlock] at e
    subst e
    rcases hat with hat | hat
    · exact h.m1 _ hat
    · right; omega
/-- one class more -/
theorem RedSt.addL (h : RedSt w E O q v1 v2 v3 v4 S N F L) {g cap : Nat} {y : Int} (ho : w'.ownsRow E 3 1 (.slice (some ⟨g, 0, none⟩) (L.length + 1) cap) (L.length + 1) (L.map (Value.int .i64) ++ [.int .i64 y]))
    (hg : w.grownBy w' v4.ownBlock) (hat : v4.ownBlock = some g ∨ w.heap.size < g) : RedSt w' E O q v1 v2 v3 (.slice (some ⟨g, 0, none⟩) (L.length + 1) cap) S N F (L ++ [y]) := by
  have hb := h.blk
  have heo := h.eo
  refine ⟨h.st.kept hg h.a14.row', h.nx.kept hg h.a24.row', h.fi.kept hg h.a34.row', by simpa using ho, (hg.block _ hb ?_).trans h.out,
    h.a12, h.a13, h.a14.grow' (w' := w) h.st hat, h.a23, h.a24.grow' (w' := w) h.nx hat, h.a34.grow' (w' := w) h.fi hat, h.m1, ?_, h.eo⟩
  · intro e
    have := h.m4 _ e.symm
    omega
  · intro g' e
    simp [Value.ownBlock] at e
    subst e
    rcases hat with hat | hat
    · exact h.m4 _ hat
    · right; omega
theorem set_other (w : World) (b i : Nat) (v : Value) : w.grownBy (w.setCell ⟨b, i, none⟩ v) (some b) :=
  ⟨rfl, rfl, rfl, by simp [World.setCell], fun k _ hk => Below.heap_setCell _ _ _ _ (fun e => hk (by simp [e]))⟩
theorem RedSt.setLow (h : RedSt w E O q v1 v2 v3 v4 S N F L) (b i : Nat) (v : Value) (hb : b < E) : RedSt (w.setCell ⟨b, i, none⟩ v) E O q v1 v2 v3 v4 S N F L := by
  have heo := h.eo
  refine h.grown (set_other w b i v) ?_ ?_ ?_ ?_ (by simp; omega)
  · right; intro e; have := h.m1 _ e; omega
  · right; intro e; have := (World.ownsRow.lt h.nx _ e).1; omega
  · right; intro e; have := (World.ownsRow.lt h.fi _ e).1; omega
  · right; intro e; have := h.m4 _ e; omega
/-- the machine's first slice has grown, and is stored -/
theorem RedSt.addN (h : RedSt w E O q v1 v2 v3 v4 S N F L) {g cap : Nat} {y : Int} (ho : w'.ownsRow (O + 1) 3 1 (.slice (some ⟨g, 0, none⟩) (N.length + 1) cap) (N.length + 1) (N.map (Value.int .i64) ++ [.int .i64 y]))
    (hg : w.grownBy w' v2.ownBlock) (hat : v2.ownBlock = some g ∨ w.heap.size < g) :
    w'.cell? ⟨O, 1, none⟩ = some v2 ∧ w'.frozen? ⟨O, 1, none⟩ = false ∧ RedSt (w'.setCell ⟨O, 1, none⟩ (.slice (some ⟨g, 0, none⟩) (N.length + 1) cap)) E O q v1 (.slice (some ⟨g, 0, none⟩) (N.length + 1) cap) v3 v4 S (N ++ [y]) F L := by
  have hb := h.blk
  have heo := h.eo
  have ho2 : w'.heap[O]? = some (.cells #[.int .i64 q, v2, v3] 27 (0, 0)) := (hg.block _ hb (fun e => by have := (World.ownsRow.lt h.nx _ e.symm).1; omega)).trans h.out
  have hgE : O + 1 ≤ g := (World.ownsRow.lt ho g rfl).1
  have hs := set_other w' (O) 1 (.slice (some ⟨g, 0, none⟩) (N.length + 1) cap)
  have h1 := h.st.kept hg h.a12.row'
  have h3 := h.fi.kept hg (h.a23.row (w := w) (base := 0) (n := 0) (e := 0) (xs := []))
  have h4 := h.cl.kept hg (h.a24.row (w := w) (base := 0) (n := 0) (e := 0) (xs := []))
  refine ⟨by simp [World.cell?, ho2], by simp [World.frozen?, ho2], h1.kept hs ?_, ?_, h3.kept hs ?_, h4.kept hs ?_, by simp [World.setCell, Array.getElem?_modify, ho2], h.a12.grow' (w' := w) h.st hat, h.a13, h.a14, h.a23.grow (w' := w) h.fi hat, h.a24.grow (w' := w) h.cl hat, h.a34, h.m1, h.m4, h.eo⟩
  · right; intro e; have := h.m1 _ e; omega
  · have h2 := ho.kept hs (Or.inr (by simp [Value.ownBlock]; omega))
    simpa using h2
  · right; intro e; have := (World.ownsRow.lt h.fi _ e).1; omega
  · right; intro e; have := h.m4 _ e; omega
theorem RedSt.addF (h : RedSt w E O q v1 v2 v3 v4 S N F L) {g cap : Nat} {y : Bool} (ho : w'.ownsRow (O + 1) 4 1 (.slice (some ⟨g, 0, none⟩) (F.length + 1) cap) (F.length + 1) (F.map Value.bool ++ [.bool y]))
    (hg : w.grownBy w' v3.ownBlock) (hat : v3.ownBlock = some g ∨ w.heap.size < g) :
    w'.cell? ⟨O, 2, none⟩ = some v3 ∧ w'.frozen? ⟨O, 2, none⟩ = false ∧ RedSt (w'.setCell ⟨O, 2, none⟩ (.slice (some ⟨g, 0, none⟩) (F.length + 1) cap)) E O q v1 v2 (.slice (some ⟨g, 0, none⟩) (F.length + 1) cap) v4 S N (F ++ [y]) L := by
  have hb := h.blk
  have heo := h.eo
  have ho2 : w'.heap[O]? = some (.cells #[.int .i64 q, v2, v3] 27 (0, 0)) := (hg.block _ hb (fun e => by have := (World.ownsRow.lt h.fi _ e.symm).1; omega)).trans h.out
  have hgE : O + 1 ≤ g := (World.ownsRow.lt ho g rfl).1
  have hs := set_other w' (O) 2 (.slice (some ⟨g, 0, none⟩) (F.length + 1) cap)
  have h1 := h.st.kept hg h.a13.row'
  have h2 := h.nx.kept hg h.a23.row'
  have h4 := h.cl.kept hg (h.a34.row (w := w) (base := 0) (n := 0) (e := 0) (xs := []))
  refine ⟨by simp [World.cell?, ho2], by simp [World.frozen?, ho2], h1.kept hs ?_, h2.kept hs ?_, ?_, h4.kept hs ?_, by simp [World.setCell, Array.getElem?_modify, ho2], h.a12, h.a13.grow' (w' := w) h.st hat, h.a14, h.a23.grow' (w' := w) h.nx hat, h.a24, h.a34.grow (w' := w) h.cl hat, h.m1, h.m4, h.eo⟩
  · right; intro e; have := h.m1 _ e; omega
  · right; intro e; have := (World.ownsRow.lt h.nx _ e).1; omega
  · have h2 := ho.kept hs (Or.inr (by simp [Value.ownBlock]; omega))
    simpa using h2
  · right; intro e; have := h.m4 _ e; omega
end

end Go.Proofs.YtkapbhlnjmfaaaaDoor
