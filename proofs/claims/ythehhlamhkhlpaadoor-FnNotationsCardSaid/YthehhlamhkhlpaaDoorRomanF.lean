/- The model's Join and TallyOf; the law on TallyOf. Conditions: none. -/
import Derived.Test.YthehhlamhkhlpaaDoorRomanE
namespace Go.Proofs.YthehhlamhkhlpaaDoor
set_option linter.unusedVariables false
open Go.RowKit

theorem ba_app2 (a : List UInt8) (b : ByteArray) : (⟨a.toArray⟩ : ByteArray) ++ b = ⟨(a ++ b.data.toList).toArray⟩ := by
  have := ba_app a b.data.toList
  rw [show (⟨b.data.toList.toArray⟩ : ByteArray) = b from rfl] at this
  exact this
/-- the first k texts joined by a blank -/
def jp (xs : List ByteArray) : Nat → List UInt8
  | 0 => []
  | k + 1 => (if k = 0 then jp xs k else jp xs k ++ [32]) ++ (xs.getD k ⟨#[]⟩).data.toList
theorem jp_cons (x : ByteArray) (r : List ByteArray) (k : Nat) (hk : k ≤ r.length) : jp (x :: r) (k + 1) = x.data.toList ++ Lib.joinTail [32] ((r.take k).map (·.data.toList)) := by
  induction k with
  | zero => simp [jp, Lib.joinTail]
  | succ k ih =>
    have h1 := ih (by omega)
    have hlt : k < r.length := by omega
    have e : r.take (k + 1) = r.take k ++ [r[k]] := by rw [List.take_add_one, List.getElem?_eq_getElem hlt]; rfl
    have e2 : (x :: r).getD (k + 1) ⟨#[]⟩ = r[k] := by simp [List.getD, hlt]
    rw [jp, if_neg (by omega), h1, e, e2]
    generalize r.take k = rk
    simp [Lib.joinTail]
theorem jp_all (xs : List ByteArray) : (⟨(jp xs xs.length).toArray⟩ : ByteArray) = joinB xs ⟨#[32]⟩ := by
  cases xs with
  | nil => rfl
  | cons x r =>
    unfold joinB
    rw [List.map_cons, Lib.join_cons, List.length_cons, jp_cons x r r.length (Nat.le_refl _), List.take_length]
theorem jp_len (xs : List ByteArray) (h : ∀ x ∈ xs, x.data.toList.length ≤ 10) (k : Nat) : (jp xs k).length ≤ 11 * k := by
  induction k with
  | zero => simp [jp]
  | succ k ih =>
    have h2 : (xs.getD k ⟨#[]⟩).data.toList.length ≤ 10 := by
      rcases Nat.lt_or_ge k xs.length with hlt | hge
      · have e : xs.getD k ⟨#[]⟩ = xs[k] := by simp [List.getD, hlt]
        rw [e]; exact h _ (List.getElem_mem hlt)
      · have e : xs.getD k ⟨#[]⟩ = ⟨#[]⟩ := by simp [List.getD, hge]
        rw [e]; simp
    rw [jp]
    split
    · simp at h2 ⊢; omega
    · simp at h2 ⊢; omega

end Go.Proofs.YthehhlamhkhlpaaDoor
