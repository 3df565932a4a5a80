/- A map from texts to numbers of the call's own, with its size. Conditions: those of each law. -/
import Derived.Test.YtkapbhlnjmfaaaaDoorMapI
import Derived.Maps.OwnOps
import Derived.StringKeys
namespace Go.Proofs.YtkapbhlnjmfaaaaDoor
set_option linter.unusedVariables false
open Go.RowKit Go.Maps

theorem klawS : Keyed Tryd.prog 9 := string_keyed Tryd.underlying9
/-- block b holds a map of at most n entries that reads as f, and has sz entries -/
def MapS (w : World) (b n : Nat) (f : List UInt8 → Option Int) (sz : Nat) : Prop :=
  ∃ D : DataW Unit, w.ownsMap Tryd.prog 9 (plainElem Tryd.prog 3) b n D ∧ IsMap D ∧ Maps.size D = sz ∧ ∀ x, has D (.string x) = (f x).isSome ∧ ∀ v, f x = some v → D.atKey (.string x) (.lit (.int .i64 0)) = .lit (.int .i64 v)
theorem MapS.made (w : World) : MapS (w.alloc (.map #[] 0)) w.heap.size 0 (fun _ => none) 0 :=
  ⟨.map [], World.ownsMap_made _ _ _ _, isMap_empty, rfl, fun x => ⟨rfl, fun v h => by cases h⟩⟩
theorem MapS.blk {w : World} {b n : Nat} {f : List UInt8 → Option Int} {sz : Nat} (h : MapS w b n f sz) : b < w.heap.size := by
  obtain ⟨D, h1, -⟩ := h
  exact h1.lt
theorem MapS.same {w w' : World} {b n : Nat} {f : List UInt8 → Option Int} {sz : Nat} (h : MapS w b n f sz) (he : w'.heap[b]? = w.heap[b]?) : MapS w' b n f sz := by
  obtain ⟨D, ⟨es, clock, hb, r⟩, h2⟩ := h
  exact ⟨D, ⟨es, clock, he.trans hb, r⟩, h2⟩
theorem MapS.kept {w w' : World} {b n : Nat} {f : List UInt8 → Option Int} {sz : Nat} (h : MapS w b n f sz) {B : Nat} (hb : Below B w w') (hB : b < B) : MapS w' b n f sz := h.same (hb.block b hB)
theorem MapS.congr {w : World} {b n : Nat} {f g : List UInt8 → Option Int} {sz : Nat} (h : MapS w b n f sz) (he : ∀ x, g x = f x) : MapS w b n g sz := by
  have e : g = f := funext he
  rw [e]; exact h
theorem keyS (y : List UInt8) (hy : y.length ≤ maxLen) : keyOf Tryd.prog 9 (.string ⟨y.toArray⟩) = some (.string y) :=
  Go.WideMaps.keyOf_string_mk Tryd.underlying9 (s := ⟨y.toArray⟩) (by simpa [ByteArray.size] using hy)
/-- 'v, ok := m[k]' -/
theorem wpList_mapS_ok {ops : Array Oper} {rest : List Oper} {o : Oper} {a : Act} {Q : Exit → Act → World → Prop} {wr : World} (hgd : o.guard = none) (m x : Operand) (hop : o.op = Op.lookup 71 m x true)
    (b n : Nat) (f : List UInt8 → Option Int) (sz : Nat) (hm : a.eval m = .map (some b)) (hown : MapS wr b n f sz) (y : List UInt8) (hx : a.eval x = .string ⟨y.toArray⟩) (hw : y.length ≤ maxLen)
    (h : ∀ c : Int, (∀ v, f y = some v → c = v) → wpList Tryd.prog ops Q rest (a.put o.dst (.tuple #[.int .i64 c, .bool (f y).isSome])) wr) :
    wpList Tryd.prog ops Q (o :: rest) a wr := by
  obtain ⟨D, h1, h2, hs, h3⟩ := hown
  refine wpList_lookup_own_ok_int wr hgd m x _ hop 9 3 .i64 klawS Tryd.underlying71 Tryd.underlying3 (kzero wr) b n D hm h1 _ _ hx (keyS y hw) ?_
  intro c hat _
  have h4 := h c (fun v hv => by
    have := (h3 y).2 v hv
    rw [hat] at this
    simpa using this)
  rwa [← (h3 y).1] at h4
/-- 'm[k]' of a key that is there -/
theorem wpList_mapS_at {ops : Array Oper} {rest : List Oper} {o : Oper} {a : Act} {Q : Exit → Act → World → Prop} {wr : World} (hgd : o.guard = none) (m x : Operand) (hop : o.op = Op.lookup 71 m x false)
    (b n : Nat) (f : List UInt8 → Option Int) (sz : Nat) (hm : a.eval m = .map (some b)) (hown : MapS wr b n f sz) (y : List UInt8) (hx : a.eval x = .string ⟨y.toArray⟩) (hw : y.length ≤ maxLen) (v : Int) (hv : f y = some v)
    (h : wpList Tryd.prog ops Q rest (a.put o.dst (.int .i64 v)) wr) :
    wpList Tryd.prog ops Q (o :: rest) a wr := by
  obtain ⟨D, h1, h2, hs, h3⟩ := hown
  refine wpList_lookup_own_int wr hgd m x _ hop 9 3 .i64 klawS Tryd.underlying71 Tryd.underlying3 (kzero wr) b n D hm h1 _ _ hx (keyS y hw) ?_
  intro c hat _
  have := (h3 y).2 v hv
  rw [hat] at this
  have e : c = v := by simpa using this
  rw [e]; exact h
/-- 'm[k] = v' -/
theorem wpList_mapS_set {ops : Array Oper} {rest : List Oper} {o : Oper} {a : Act} {Q : Exit → Act → World → Prop} {wr : World} (hgd : o.guard = none) (m x v : Operand) (hop : o.op = Op.mapUpdate 71 m x v)
    (b n : Nat) (f : List UInt8 → Option Int) (sz : Nat) (hm : a.eval m = .map (some b)) (hown : MapS wr b n f sz) (hn : n < maxLen) (y : List UInt8) (u : Int) (hx : a.eval x = .string ⟨y.toArray⟩) (hv : a.eval v = .int .i64 u) (hw : y.length ≤ maxLen) (hu : i64W u) (hf : f y = none)
    (h : ∀ w', MapS w' b (n + 1) (fun z => if z = y then some u else f z) (sz + 1) → wr.grownBy w' (some b) → wpList Tryd.prog ops Q rest (a.put o.dst undef) w') :
    wpList Tryd.prog ops Q (o :: rest) a wr := by
  obtain ⟨D, h1, h2, hs, h3⟩ := hown
  refine wpList_mapUpdate_own wr hgd m x v _ hop 9 3 klawS Tryd.underlying71 _ b n D hm h1 hn _ _ _ hx hv (keyS y hw) _ [] (plainElem_int Tryd.underlying3 hu) ?_
  intro w' h4 hg
  refine h w' ⟨_, h4, h2.put _ _, ?_, fun z => ?_⟩ hg
  · rw [size_put (h1.tidy klawS), (h3 y).1, hf, hs]; rfl
  dsimp only
  by_cases hz : z = y
  · subst hz
    rw [if_pos rfl]
    refine ⟨by rw [has_put_same h2 (show WideAt.IsKeyLit (Lit.string z) from trivial)]; rfl, fun v' hv' => ?_⟩
    rw [atKey_put_same h2 (show WideAt.IsKeyLit (Lit.string z) from trivial), Option.some.inj hv']
  · have hne : (Lit.string z) ≠ (Lit.string y) := fun e => hz (by simpa using e)
    rw [if_neg hz]
    refine ⟨by rw [has_put_other hne]; exact (h3 z).1, fun v' hv' => ?_⟩
    rw [atKey_put_other hne]
    exact (h3 z).2 v' hv'
/-- 'len(m)' -/
theorem wpList_mapS_len {ops : Array Oper} {rest : List Oper} {o : Oper} {a : Act} {Q : Exit → Act → World → Prop} {wr : World} (hgd : o.guard = none) (m : Operand) (hop : o.op = Op.call { callee := Callee.builtin Builtin.len, args := #[m], argTypes := #[71] })
    (b n : Nat) (f : List UInt8 → Option Int) (sz : Nat) (hm : a.eval m = .map (some b)) (hown : MapS wr b n f sz)
    (h : wpList Tryd.prog ops Q rest (a.put o.dst (.int .i64 sz)) wr) :
    wpList Tryd.prog ops Q (o :: rest) a wr := by
  obtain ⟨D, h1, h2, hs, h3⟩ := hown
  refine wpList_len_own wr hgd m 71 hop 9 3 Tryd.underlying71 _ b n D hm h1 ?_
  rw [hs]; exact h

end Go.Proofs.YtkapbhlnjmfaaaaDoor
