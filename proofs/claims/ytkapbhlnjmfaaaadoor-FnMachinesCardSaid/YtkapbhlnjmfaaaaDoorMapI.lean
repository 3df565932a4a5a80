/- A map from numbers to numbers of the call's own. Conditions: those of each law. -/
import Derived.Test.YtkapbhlnjmfaaaaDoorMem
import Derived.Maps.OwnSet
import Derived.Maps.Views
namespace Go.Proofs.YtkapbhlnjmfaaaaDoor
set_option linter.unusedVariables false
open Go.RowKit Go.Maps

def i64W (n : Int) : Prop := (Lit.int .i64 n).wf = true
theorem klaw : Keyed Tryd.prog 3 := int_keyed Tryd.underlying3
theorem kzero (w : World) : (zeroValue 3).run Tryd.prog w = .ok (.int .i64 0) w := by kernel_rfl
/-- block b holds a map of at most n entries that reads as f -/
def MapI (w : World) (b n : Nat) (f : Int → Option Int) : Prop :=
  ∃ D : DataW Unit, w.ownsMap Tryd.prog 3 (plainElem Tryd.prog 3) b n D ∧ IsMap D ∧ ∀ x, has D (.int .i64 x) = (f x).isSome ∧ ∀ v, f x = some v → D.atKey (.int .i64 x) (.lit (.int .i64 0)) = .lit (.int .i64 v)
theorem MapI.made (w : World) : MapI (w.alloc (.map #[] 0)) w.heap.size 0 (fun _ => none) :=
  ⟨.map [], World.ownsMap_made _ _ _ _, isMap_empty, fun x => ⟨rfl, fun v h => by cases h⟩⟩
theorem MapI.blk {w : World} {b n : Nat} {f : Int → Option Int} (h : MapI w b n f) : b < w.heap.size := by
  obtain ⟨D, h1, -⟩ := h
  exact h1.lt
theorem MapI.same {w w' : World} {b n : Nat} {f : Int → Option Int} (h : MapI w b n f) (he : w'.heap[b]? = w.heap[b]?) : MapI w' b n f := by
  obtain ⟨D, ⟨es, clock, hb, r⟩, h2⟩ := h
  exact ⟨D, ⟨es, clock, he.trans hb, r⟩, h2⟩
theorem MapI.kept {w w' : World} {b n : Nat} {f : Int → Option Int} (h : MapI w b n f) {B : Nat} (hb : Below B w w') (hB : b < B) : MapI w' b n f := h.same (hb.block b hB)
theorem MapI.congr {w : World} {b n : Nat} {f g : Int → Option Int} (h : MapI w b n f) (he : ∀ x, g x = f x) : MapI w b n g := by
  have e : g = f := funext he
  rw [e]; exact h
/-- 'v, ok := m[k]' -/
theorem wpList_mapI_ok {ops : Array Oper} {rest : List Oper} {o : Oper} {a : Act} {Q : Exit → Act → World → Prop} {wr : World} (hgd : o.guard = none) (m x : Operand) (hop : o.op = Op.lookup 52 m x true)
    (b n : Nat) (f : Int → Option Int) (hm : a.eval m = .map (some b)) (hown : MapI wr b n f) (y : Int) (hx : a.eval x = .int .i64 y) (hw : i64W y)
    (h : ∀ c : Int, (∀ v, f y = some v → c = v) → wpList Tryd.prog ops Q rest (a.put o.dst (.tuple #[.int .i64 c, .bool (f y).isSome])) wr) :
    wpList Tryd.prog ops Q (o :: rest) a wr := by
  obtain ⟨D, h1, h2, h3⟩ := hown
  refine wpList_lookup_own_ok_int wr hgd m x _ hop 3 3 .i64 klaw Tryd.underlying52 Tryd.underlying3 (kzero wr) b n D hm h1 _ _ hx (keyOf_int_mk Tryd.underlying3 hw) ?_
  intro c hat _
  have h4 := h c (fun v hv => by
    have := (h3 y).2 v hv
    rw [hat] at this
    simpa using this)
  rwa [← (h3 y).1] at h4
/-- 'm[k]' of a key that is there -/
theorem wpList_mapI_at {ops : Array Oper} {rest : List Oper} {o : Oper} {a : Act} {Q : Exit → Act → World → Prop} {wr : World} (hgd : o.guard = none) (m x : Operand) (hop : o.op = Op.lookup 52 m x false)
    (b n : Nat) (f : Int → Option Int) (hm : a.eval m = .map (some b)) (hown : MapI wr b n f) (y : Int) (hx : a.eval x = .int .i64 y) (hw : i64W y) (v : Int) (hv : f y = some v)
    (h : wpList Tryd.prog ops Q rest (a.put o.dst (.int .i64 v)) wr) :
    wpList Tryd.prog ops Q (o :: rest) a wr := by
  obtain ⟨D, h1, h2, h3⟩ := hown
  refine wpList_lookup_own_int wr hgd m x _ hop 3 3 .i64 klaw Tryd.underlying52 Tryd.underlying3 (kzero wr) b n D hm h1 _ _ hx (keyOf_int_mk Tryd.underlying3 hw) ?_
  intro c hat _
  have := (h3 y).2 v hv
  rw [hat] at this
  have e : c = v := by simpa using this
  rw [e]; exact h
/-- 'm[k] = v' -/
theorem wpList_mapI_set {ops : Array Oper} {rest : List Oper} {o : Oper} {a : Act} {Q : Exit → Act → World → Prop} {wr : World} (hgd : o.guard = none) (m x v : Operand) (hop : o.op = Op.mapUpdate 52 m x v)
    (b n : Nat) (f : Int → Option Int) (hm : a.eval m = .map (some b)) (hown : MapI wr b n f) (hn : n < maxLen) (y u : Int) (hx : a.eval x = .int .i64 y) (hv : a.eval v = .int .i64 u) (hw : i64W y) (hu : i64W u)
    (h : ∀ w', MapI w' b (n + 1) (fun z => if z = y then some u else f z) → wr.grownBy w' (some b) → wpList Tryd.prog ops Q rest (a.put o.dst undef) w') :
    wpList Tryd.prog ops Q (o :: rest) a wr := by
  obtain ⟨D, h1, h2, h3⟩ := hown
  refine wpList_mapUpdate_own wr hgd m x v _ hop 3 3 klaw Tryd.underlying52 _ b n D hm h1 hn _ _ _ hx hv (keyOf_int_mk Tryd.underlying3 hw) _ [] (plainElem_int Tryd.underlying3 hu) ?_
  intro w' h4 hg
  refine h w' ⟨_, h4, h2.put _ _, fun z => ?_⟩ hg
  dsimp only
  by_cases hz : z = y
  · subst hz
    rw [if_pos rfl]
    refine ⟨by rw [has_put_same h2 (show WideAt.IsKeyLit (Lit.int .i64 z) from trivial)]; rfl, fun v' hv' => ?_⟩
    rw [atKey_put_same h2 (show WideAt.IsKeyLit (Lit.int .i64 z) from trivial), Option.some.inj hv']
  · have hne : (Lit.int .i64 z) ≠ (Lit.int .i64 y) := fun e => hz (by simpa using e)
    rw [if_neg hz]
    refine ⟨by rw [has_put_other hne]; exact (h3 z).1, fun v' hv' => ?_⟩
    rw [atKey_put_other hne]
    exact (h3 z).2 v' hv'

end Go.Proofs.YtkapbhlnjmfaaaaDoor
