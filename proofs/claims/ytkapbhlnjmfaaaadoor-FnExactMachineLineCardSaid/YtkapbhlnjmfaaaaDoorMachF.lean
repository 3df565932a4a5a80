/- The law on RunMachine. Conditions: none. -/
import Derived.Test.YtkapbhlnjmfaaaaDoorMachE
namespace Go.Proofs.YtkapbhlnjmfaaaaDoor
set_option linter.unusedVariables false
open Go.RowKit

theorem szR_neg {l1 l2 : Nat} (h : ¬ l1 + l2 ≤ 1048576) : szR l1 l2 = -1 := by simp only [szR]; rw [if_neg h]
theorem szR_pos {l1 l2 : Nat} (h : l1 + l2 ≤ 1048576) : 0 ≤ szR l1 l2 ∧ szR l1 l2 ≤ 1048576 := by simp only [szR]; rw [if_pos h]; omega
/-- the cells of a box of a machine, in whatever later world -/
theorem box_keep {t w0 : World} {q : Int} {a1 : Option Addr} {l1 c1 : Nat} {a2 : Option Addr} {l2 c2 : Nat} {N : Nat} (hN : N < w0.heap.size) (k : w0.cell? ⟨N, 0, none⟩ = some (.int .i64 q) ∧ w0.cell? ⟨N, 1, none⟩ = some (.slice a1 l1 c1) ∧ w0.cell? ⟨N, 2, none⟩ = some (.slice a2 l2 c2)) (hW : Below w0.heap.size w0 t) :
    t.cell? ⟨N, 0, none⟩ = some (.int .i64 q) ∧ t.cell? ⟨N, 1, none⟩ = some (.slice a1 l1 c1) ∧ t.cell? ⟨N, 2, none⟩ = some (.slice a2 l2 c2) :=
  ⟨(hW.cell (p := ⟨N, 0, none⟩) hN).trans k.1, (hW.cell (p := ⟨N, 1, none⟩) hN).trans k.2.1, (hW.cell (p := ⟨N, 2, none⟩) hN).trans k.2.2⟩

end Go.Proofs.YtkapbhlnjmfaaaaDoor
