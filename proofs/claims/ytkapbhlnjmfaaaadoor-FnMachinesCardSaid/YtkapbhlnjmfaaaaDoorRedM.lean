/- The classes and the reduced machine of a machine's value. Plain, beside the facts on memory. Conditions: those of each lemma. -/
import Derived.Test.YtkapbhlnjmfaaaaDoorRedP
import Derived.Test.YtkapbhlnjmfaaaaDoorMachA
namespace Go.Proofs.YtkapbhlnjmfaaaaDoor
set_option linter.unusedVariables false
open Go.RowKit

def nxM (m : Ma) (s d : Nat) : Nat := (stepM m s d).toNat
def finN (m : Ma) (s : Nat) : Bool := m.final.getD s false
def c0M (m : Ma) (s : Nat) : Nat := if finN m s then 1 else 0
def clM (m : Ma) (i : Nat) : Nat → Nat := cls m.base.toNat (nxM m) (c0M m) i
def cntM (m : Ma) (i : Nat) : Nat := cnt m.final.length m.base.toNat (nxM m) (c0M m) i
/-- the classes after i rounds -/
def clL (m : Ma) (i : Nat) : List Int := (List.range m.final.length).map (fun s => (clM m i s : Int))
theorem clL_len (m : Ma) (i : Nat) : (clL m i).length = m.final.length := by simp [clL]
theorem clL_get (m : Ma) (i s : Nat) (h : s < (clL m i).length) : (clL m i)[s] = (clM m i s : Int) := by simp [clL]
theorem nxM_eq {m : Ma} (hok : maOk m = true) (s d : Nat) (hs : s < m.final.length) (hd : d < m.base.toNat) : stepM m (s : Int) (d : Int) = (nxM m s d : Int) ∧ nxM m s d < m.final.length := by
  obtain ⟨i, -, hi, h3, h4, h5⟩ := step_get hok (s : Int) (d : Int) (by omega) (by omega) (by omega) (by omega)
  unfold nxM
  omega
theorem nxM_lt {m : Ma} (hok : maOk m = true) : ∀ s d, s < m.final.length → d < m.base.toNat → nxM m s d < m.final.length := fun s d hs hd => (nxM_eq hok s d hs hd).2
theorem clM_lt {m : Ma} (hok : maOk m = true) (i s : Nat) (hs : s < m.final.length) : clM m i s ≤ 144 := by
  obtain ⟨-, -, -, h144, -⟩ := maOk_t hok
  cases i with
  | zero => show c0M m s ≤ 144; unfold c0M; split <;> omega
  | succ i =>
    have h1 := num_lt (ky m.base.toNat (nxM m) (clM m i)) hs
    have h2 := dist_len (ky m.base.toNat (nxM m) (clM m i)) m.final.length
    show num (ky m.base.toNat (nxM m) (clM m i)) s ≤ 144
    omega
theorem clM_succ (m : Ma) (i s : Nat) : clM m (i + 1) s = num (kst m.base.toNat (nxM m) (clM m i)) s := (kst_num _ _ _ _).symm
theorem cntM_kst (m : Ma) (i : Nat) : cntM m i = (dist (kst m.base.toNat (nxM m) (clM m i)) m.final.length).length := (kst_cnt _ _ _ _).symm
theorem dec_small {x : Nat} (h : x ≤ 144) : (Lib.decDigits x).length ≤ 20 := by
  have := dec_len x 2 (by omega)
  omega
theorem kpre_small {m : Ma} (hok : maOk m = true) (i s k : Nat) (hs : s < m.final.length) (hk : k ≤ m.base.toNat) : (kpre (nxM m) (clM m i) s k).length ≤ 300 := by
  have := kpre_len (nxM m) (clM m i) s (dec_small (clM_lt hok i s hs)) k (fun d hd => dec_small (clM_lt hok i _ (nxM_lt hok s d hs (by omega))))
  obtain ⟨b1, b2, -⟩ := maOk_t hok
  omega
theorem clL_all {m : Ma} (hok : maOk m = true) (i : Nat) (e : cntM m (i + 1) = cntM m i) (hi : i < cntM m i) : clL m (i + 2) = clL m m.final.length := by
  unfold clL
  apply List.map_congr_left
  intro s hs
  have := cls_all (nxM_lt hok) e hi s (List.mem_range.1 hs)
  unfold clM
  rw [this]
theorem clL_next (m : Ma) (i k : Nat) : ((List.range k).map (fun s => (clM m (i + 1) s : Int))) ++ [((num (kst m.base.toNat (nxM m) (clM m i)) k : Nat) : Int)] = (List.range (k + 1)).map (fun s => (clM m (i + 1) s : Int)) := by
  rw [List.range_succ, List.map_append, ← clM_succ]; rfl
/-- the reduced machine: its states, and what follows them -/
def redS (m : Ma) : List Nat × List Int := redQ m.final.length m.base.toNat (clM m m.final.length) (nxM m)
def redM (m : Ma) : Ma := ⟨m.base, (redS m).2, (redS m).1.map (finN m)⟩

end Go.Proofs.YtkapbhlnjmfaaaaDoor
