/- What the laws on lists need: rows of a call's own in a range of blocks, copies of arguments, marks. Conditions: those of each contract. -/
import Derived.Test.YtkcjjhdmklhepaaMem
namespace Go.Proofs.Ytkcjjhdmklhepaa
set_option linter.unusedVariables false
open Go.RowKit

/-- what a law is told of a slice of integers that came in -/
def IsRow (k : IntKind) (w : World) (a : Option Addr) (len cap : Nat) (zs : List Int) : Prop :=
  (a = none ∧ len = 0 ∧ cap = 0 ∧ zs = []) ∨
  ∃ x, a = some x ∧ len ≤ cap ∧ cap ≤ maxLen ∧ zs.length = cap ∧ (∀ i, i < zs.length → w.cell? (x.add i) = some (.int k (zs.getD i 0))) ∧ ∀ n ∈ zs, (Lit.int k n).wf = true
theorem IsRow.op {w : World} {a : Option Addr} {len cap : Nat} {zs : List Int} (h : IsRow .i64 w a len cap zs) : ∃ xs : List Int, xs.length = len ∧ Ints w w.heap.size a cap xs := by
  rcases h with ⟨rfl, rfl, rfl, rfl⟩ | ⟨x, rfl, hl, hc, hz, hcell, -⟩
  · exact ⟨[], rfl, by simp, by simp [maxLen], 0, 0, by simp, by simp⟩
  · refine ⟨zs.take len, by simp; omega, by simp; omega, hc, ?_⟩
    obtain ⟨b, off, spot⟩ := x
    by_cases hp : 0 < zs.length
    · have hspot : spot = none := by simpa [Addr.add] using World.cell?_spot (hcell 0 hp)
      subst hspot
      have hc0 : w.cell? (⟨b, off, none⟩ : Addr) = some (.int .i64 (zs.getD 0 0)) := by
        have := hcell 0 hp
        simpa [Addr.add] using this
      have hlt := World.block_lt_of_cell? w (⟨b, off, none⟩ : Addr) hc0
      refine ⟨b, off, fun _ => ⟨rfl, hlt⟩, fun i hi => ?_⟩
      · have hi' : i < zs.length := by simp at hi; omega
        have := hcell i hi'
        rw [show (⟨b, off, none⟩ : Addr).add i = ⟨b, off + i, none⟩ from by simp [Addr.add]] at this
        rw [this]
        simp [List.getD, hi']
    · exact ⟨b, off, fun h => by simp at h; omega, fun i hi => by simp at hi; omega⟩

/-- w' is w but for blocks from L on that lie below U, and new blocks -/
structure Upd (L U : Nat) (w w' : World) : Prop where
  os : w'.os = w.os
  tape : w'.tape = w.tape
  output : w'.output = w.output
  size : w.heap.size ≤ w'.heap.size
  block : ∀ k, k < w.heap.size → (k < L ∨ U ≤ k) → w'.heap[k]? = w.heap[k]?
theorem Upd.refl (L U : Nat) (w : World) : Upd L U w w := ⟨rfl, rfl, rfl, Nat.le_refl _, fun _ _ _ => rfl⟩
theorem Upd.setCell {L U : Nat} {w w' : World} (h : Upd L U w w') {p : Addr} (h1 : L ≤ p.block) (h2 : p.block < U) (u : Value) : Upd L U w (w'.setCell p u) := by
  refine ⟨h.os, h.tape, h.output, by simp [World.setCell]; exact h.size, fun k hk hc => ?_⟩
  rw [Below.heap_setCell _ _ _ _ (by omega)]
  exact h.block k hk hc
theorem Upd.below {L U B : Nat} {w w' : World} (h : Upd L U w w') (h1 : B ≤ L) (h2 : B ≤ w.heap.size) : Below B w w' :=
  ⟨h.os, h.tape, h.output, h.size, fun k hk => h.block k (by omega) (Or.inl (by omega))⟩
theorem Below.upd {w w' : World} (h : Below w.heap.size w w') : Upd w.heap.size w.heap.size w w' :=
  ⟨h.os, h.tape, h.output, h.size, fun k hk _ => h.block k hk⟩

/-- a row of the call's own in a block from L on, below U -/
def OwnR (w : World) (L U : Nat) (a : Option Addr) (cap : Nat) (xs : List Int) : Prop := OwnI w L a cap xs ∧ ∀ g o s, a = some ⟨g, o, s⟩ → g < U
theorem OwnI.ownR {w : World} {base : Nat} {a : Option Addr} {cap : Nat} {xs : List Int} (h : OwnI w base a cap xs) : OwnR w base w.heap.size a cap xs := by
  refine ⟨h, fun g o s e => ?_⟩
  subst e
  exact (World.ownsRow.lt h g rfl).2
theorem OwnR.ints {w : World} {L U : Nat} {a : Option Addr} {cap : Nat} {xs : List Int} (h : OwnR w L U a cap xs) : Ints w w.heap.size a cap xs := h.1.ints
theorem OwnR.upd {w w' : World} {L U L' U' : Nat} {a : Option Addr} {cap : Nat} {xs : List Int} (h : OwnR w L U a cap xs) (hu : Upd L' U' w w') (hc : U ≤ L' ∨ U' ≤ L) : OwnR w' L U a cap xs := by
  refine ⟨?_, h.2⟩
  rcases h.1.2 with ⟨hv, hn⟩ | ⟨g, cap', cur, hv, hg, hh, r⟩
  · exact ⟨h.1.1, Or.inl ⟨hv, hn⟩⟩
  · have hgU : g < U := by
      simp only [Value.slice.injEq] at hv
      exact h.2 g 0 none hv.1
    exact ⟨h.1.1, Or.inr ⟨g, cap', cur, hv, hg, by rw [hu.block g (lt_of_block hh) (by omega)]; exact hh, r⟩⟩


end Go.Proofs.Ytkcjjhdmklhepaa
