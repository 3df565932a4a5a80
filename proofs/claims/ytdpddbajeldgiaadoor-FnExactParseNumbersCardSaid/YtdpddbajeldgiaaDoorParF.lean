/- ParseNumbers of the program: a range over the pieces between commas. Conditions: a text of at most a million bytes; the table of powers of ten stands; the two variables of errors hold interface values. -/
import Derived.Test.YtdpddbajeldgiaaDoorParE
namespace Go.Proofs.YtdpddbajeldgiaaDoor
set_option linter.unusedVariables false
open Go.RowKit Go.Shelf
attribute [local go_sem] Oper.semAt_some

theorem SplitSeq_any (s : ByteArray) (w : World) :
    Calls Tryd.prog 61 #[.string s, .string ⟨#[44]⟩] w fun e w' => e = .returned (.func (.func 124) #[] #[.pointer (some ⟨w.heap.size + 1, 0, none⟩), .pointer (some ⟨w.heap.size, 0, none⟩), .pointer (some ⟨w.heap.size + 2, 0, none⟩)]) ∧
      w' = ((w.alloc (.cells #[.string s] 9)).alloc (.cells #[.string ⟨#[44]⟩] 9)).alloc (.cells #[.int .i64 0] 3) := by
  have h : Hid (∀ W : World, Calls Tryd.prog 101 #[.string s, .string ⟨#[44]⟩, .int .i64 0] W fun e w' => e = .returned (.func (.func 124) #[] #[.pointer (some ⟨W.heap.size + 1, 0, none⟩), .pointer (some ⟨W.heap.size, 0, none⟩), .pointer (some ⟨W.heap.size + 2, 0, none⟩)]) ∧
      w' = ((W.alloc (.cells #[.string s] 9)).alloc (.cells #[.string ⟨#[44]⟩] 9)).alloc (.cells #[.int .i64 0] 3)) := fun W => by
    go_enter Tryd.func101, Tryd.ntmps101
    go_wp2
    go_ret
    exact ⟨rfl, rfl⟩
  go_enter Tryd.func61, Tryd.ntmps61
  go_wp2_with fail
  refine (h.out _).mono ?_
  rintro e w' ⟨rfl, rfl⟩
  go_wp2_with fail
  go_ret
  exact ⟨rfl, rfl⟩
theorem results_box {W : World} {tmps : Array Value} {v1 v2 : Value} {B C : Nat} (ha : tmps[2]? = some (.pointer (some ⟨B, 0, none⟩))) (hb : tmps[3]? = some (.pointer (some ⟨C, 0, none⟩)))
    (h1 : W.cell? ⟨B, 0, none⟩ = some v1) (h2 : W.cell? ⟨C, 0, none⟩ = some v2) : (results Tryd.f26 tmps).run Tryd.prog W = .ok (.tuple #[v1, v2]) W := by
  simp [results, ha, hb, loadVar, isAgg, underlying, Tryd.underlying22, Tryd.underlying4, go_sem, h1, h2, Result.andThen]
theorem putObj_box {W : World} {B k : Nat} {t : TypeId} {v : Value} (h : Boxed W B t v) (o' : Obj) (hne : B ≠ k) : Boxed (W.putObj k o') B t v := (World.putObj_heap_other hne).trans h
theorem putObj_below {w W : World} {B k : Nat} (h : Below B w W) (o' : Obj) (hk : B ≤ k) : Below B w (W.putObj k o') :=
  ⟨h.os, h.tape, h.output, by rw [World.putObj_size]; exact h.size, fun j hj => (World.putObj_heap_other (by omega)).trans (h.block j hj)⟩
/-- a range over the iterator: what the iterator keeps in its box is turned between two rounds -/
theorem wp_pieces {Q : Exit → Act → World → Prop} {a : Act} {w : World} {g : Operand} {ps : Array Tmp} {assign body : Code} {n : Nat} (hn : 2 ≤ n) (s : ByteArray) (Bs Bp Bv : Nat) (hs : s.size ≤ 1048576) (hsp : Bs ≠ Bp) (hsv : Bs ≠ Bv)
    (hg : a.eval g = .func (.func 124) #[] #[.pointer (some ⟨Bp, 0, none⟩), .pointer (some ⟨Bs, 0, none⟩), .pointer (some ⟨Bv, 0, none⟩)]) (hps : ps.size = 1)
    (eg : ∀ args w, (callFunc 124 args).run Tryd.prog w = .ok (.enter 124 args) w)
    (b1 : Boxed w Bs 9 (.string s)) (b2 : Boxed w Bp 9 (.string ⟨#[44]⟩)) (b3 : Boxed w Bv 3 (.int .i64 0))
    (I : List ByteArray → World → Prop) (Ix : Code → List ByteArray → World → Prop)
    (hI : ∀ pre W k o o', I pre W → w.heap.size ≤ k → W.heap[k]? = some o → o.isCells = false → I pre (W.putObj k o'))
    (hIx : ∀ c pre W k o o', Ix c pre W → w.heap.size ≤ k → W.heap[k]? = some o → o.isCells = false → Ix c pre (W.putObj k o'))
    (hIs : ∀ pre W v, I pre W → I pre (W.setCell ⟨Bs, 0, none⟩ v))
    (h0 : ∀ r, I [] ((w.alloc (.deferred (some []))).alloc (.loop r))) (a₁ : ByteArray → Act)
    (hassign : ∀ (l : Nat) (x : ByteArray) (W : World) (K : Act → World → Prop), K (a₁ x) W →
      assign.wpIn (Fence.wide.inRound l) (n - 1 - 1) Tryd.prog (Exit.then K (fun _ _ _ => False)) { tmps := (ps.zip #[Value.string x]).foldl (fun t (p, v) => t.setIfInBounds p v) a.tmps, defers := [] } W)
    (hbody : ∀ (l : Nat) (pre : List ByteArray) (x : ByteArray) (W : World), I pre W → x.size ≤ 1048576 → body.wpIn (Fence.wide.inRound l) (n - 1 - 1) Tryd.prog (ownPostG w.heap.size (K3 Bs Bp Bv) I Ix (pre ++ [x]) W) (a₁ x) W)
    (hdone : ∀ (D : Nat) (xs : List ByteArray) (W : World), w.heap.size ≤ D → lst xs = splitL s.data.toList → I xs W → W.heap[D]? = some (.deferred (some [])) → Q .normal { a with defers := { target := .collected D, args := #[] } :: a.defers } W)
    (hstop : ∀ (D : Nat) (c : Code) (pre : List ByteArray) (r : List (List UInt8)) (W : World), w.heap.size ≤ D → splitL s.data.toList = lst pre ++ r → Ix c pre W → W.heap[D]? = some (.deferred (some [])) → c.wpIn Fence.wide n Tryd.prog Q { a with defers := { target := .collected D, args := #[] } :: a.defers } W) :
    (Code.rangeFunc g ps assign body).wpIn Fence.wide n Tryd.prog Q a w := by
  have hlt1 := b1.lt
  have hlt2 := b2.lt
  have hlt3 := b3.lt
  refine wpIn_rangeFunc ?_
  intro fn hfn
  obtain ⟨rec, hrec⟩ : ∃ rec : LoopState → Option Code → Loop, rec = fun st pe => { state := st, pending := pe, fn, tmps := a.tmps, params := ps, assign, body, defers := w.heap.size } := ⟨_, rfl⟩
  obtain ⟨W1, hW1⟩ : ∃ W1, (w.alloc (.deferred (some []))).alloc (.loop (rec .ready none)) = W1 := ⟨_, rfl⟩
  have hL1 : W1.heap[w.heap.size + 1]? = some (.loop (rec .ready none)) := by
    rw [← hW1]; have := World.alloc_heap_new (w.alloc (.deferred (some []))) (.loop (rec .ready none)); rwa [World.size_alloc] at this
  have hK1 : W1.heap[w.heap.size]? = some (.deferred (some [])) := by
    rw [← hW1]; exact (Below.heap_alloc _ _ _ (by simp)).trans (World.alloc_heap_new w _)
  have hI1 : I [] W1 := by rw [← hW1]; exact h0 _
  have hb1 : Below w.heap.size w W1 := by
    rw [← hW1]; exact ((Below.refl _ w).alloc (Nat.le_refl _) _).alloc (by simp) _
  have d1 : Boxed W1 Bs 9 (.string s) := (hb1.block Bs hlt1).trans b1
  have d2 : Boxed W1 Bp 9 (.string ⟨#[44]⟩) := (hb1.block Bp hlt2).trans b2
  have d3 : Boxed W1 Bv 3 (.int .i64 0) := (hb1.block Bv hlt3).trans b3
  refine ⟨w.heap.size + 1, [{ target := .collected w.heap.size, args := #[] }], W1, { target := .fn (.func 124) #[.pointer (some ⟨Bp, 0, none⟩), .pointer (some ⟨Bs, 0, none⟩), .pointer (some ⟨Bv, 0, none⟩)], args := #[.func (.yield (w.heap.size + 1)) #[] #[]] }, W1, 124,
    #[.func (.yield (w.heap.size + 1)) #[] #[], .pointer (some ⟨Bp, 0, none⟩), .pointer (some ⟨Bs, 0, none⟩), .pointer (some ⟨Bv, 0, none⟩)], W1, ?_, ?_, ?_, ?_, ?_, ?_⟩
  · rw [← hW1, hrec]; exact run_enterLoop_outer _ _ _ _ _
  · simp only [resolve, hg]
    simp [go_sem]
  · intro f' _; trivial
  · simp [invoke, go_sem, eg]
  · intro _; omega
  · refine (split_in (n - 1) (w.heap.size + 1) Bs Bp Bv s (by omega) hs hsp hsv
      (fun pre W => I pre W ∧ W.heap[w.heap.size + 1]? = some (.loop (rec .ready none)) ∧ W.heap[w.heap.size]? = some (.deferred (some [])))
      (fun pre W => ∃ c, Ix c pre W ∧ W.heap[w.heap.size + 1]? = some (.loop (rec .done (some c))) ∧ W.heap[w.heap.size]? = some (.deferred (some [])))
      (fun pre W v hs => ⟨hIs _ _ _ hs.1, (Below.heap_setCell _ _ _ _ (by show w.heap.size + 1 ≠ Bs; omega)).trans hs.2.1, (Below.heap_setCell _ _ _ _ (by show w.heap.size ≠ Bs; omega)).trans hs.2.2⟩)
      ?_ W1 d1 d2 d3 ⟨hI1, hL1, hK1⟩).mono ?_
    · -- one round
      rintro pre x W ⟨hi, hl, hk⟩ hxs
      have hlt : w.heap.size + 1 < W.heap.size := (Array.getElem?_eq_some_iff.1 hl).1
      have hy := run_yield (P := Tryd.prog) (args := #[Value.string x]) hl (by rw [hrec]; exact hps.symm)
      rw [hrec] at hy
      refine ⟨fn, _, assign, body, hy, roundIn_of_wpIn hfn (hassign _ x W _ ?_)⟩
      clear hy
      refine ⟨_, run_beginRound hl (by rw [hrec]), ?_⟩
      have hl2 : (W.putObj (w.heap.size + 1) (.loop { rec .ready none with state := .busy })).heap[w.heap.size + 1]? = some (.loop { rec .ready none with state := .busy }) := World.putObj_heap_same hlt
      have hk2 : (W.putObj (w.heap.size + 1) (.loop { rec .ready none with state := .busy })).heap[w.heap.size]? = some (.deferred (some [])) := (World.putObj_heap_other (by omega)).trans hk
      have hw2 : K3 Bs Bp Bv W (W.putObj (w.heap.size + 1) (.loop { rec .ready none with state := .busy })) := ⟨World.putObj_heap_other (by omega), World.putObj_heap_other (by omega), World.putObj_heap_other (by omega)⟩
      refine wpIn_mono (hbody _ pre x _ (hI _ _ _ _ _ hi (by omega) hl rfl) hxs) ?_
      have fin : ∀ (jump : Option Code) (W3 : World), KeepsFrom w.heap.size (W.putObj (w.heap.size + 1) (.loop { rec .ready none with state := .busy })) W3 →
          (Instr.endRound (w.heap.size + 1) jump).run Tryd.prog W3 = .ok (.bool jump.isNone) (W3.putObj (w.heap.size + 1) (.loop (rec (if jump.isNone then .ready else .done) jump))) ∧
          W3.heap[w.heap.size + 1]? = some (.loop { rec .ready none with state := .busy }) ∧
          (W3.putObj (w.heap.size + 1) (.loop (rec (if jump.isNone then .ready else .done) jump))).heap[w.heap.size + 1]? = some (.loop (rec (if jump.isNone then .ready else .done) jump)) ∧
          (W3.putObj (w.heap.size + 1) (.loop (rec (if jump.isNone then .ready else .done) jump))).heap[w.heap.size]? = some (.deferred (some [])) := fun jump W3 hk3 => by
        have hl3 := hk3.same _ _ (by omega) hl2 rfl
        have := run_endRound (P := Tryd.prog) jump hl3
        rw [hrec] at this ⊢
        exact ⟨this, by rw [hrec] at hl3; exact hl3, World.putObj_heap_same (Array.getElem?_eq_some_iff.1 hl3).1, (World.putObj_heap_other (by omega)).trans (hk3.same _ _ (Nat.le_refl _) hk2 rfl)⟩
      have hkp : ∀ (W3 : World) (o' : Obj), K3 Bs Bp Bv W3 (W3.putObj (w.heap.size + 1) o') := fun W3 o' => ⟨World.putObj_heap_other (by omega), World.putObj_heap_other (by omega), World.putObj_heap_other (by omega)⟩
      rintro e a3 W3 hp
      cases e with
      | normal =>
        obtain ⟨hk3, hkp3, hi3⟩ := hp
        obtain ⟨hr, hl3, hl4, hk4⟩ := fin none W3 hk3
        exact ⟨_, _, hr, .inl ⟨rfl, ⟨hI _ _ _ _ _ hi3 (by omega) hl3 rfl, hl4, hk4⟩, (hw2.trans hkp3).trans (hkp _ _)⟩⟩
      | ret =>
        obtain ⟨hk3, hi3⟩ := hp
        obtain ⟨hr, hl3, hl4, hk4⟩ := fin (some .ret) W3 hk3
        exact ⟨_, _, hr, .inr ⟨rfl, .ret, hIx _ _ _ _ _ _ hi3 (by omega) hl3 rfl, hl4, hk4⟩⟩
      | exit id =>
        obtain ⟨hk3, hi3⟩ := hp
        obtain ⟨hr, hl3, hl4, hk4⟩ := fin (some (.exit id)) W3 hk3
        exact ⟨_, _, hr, .inr ⟨rfl, .exit id, hIx _ _ _ _ _ _ hi3 (by omega) hl3 rfl, hl4, hk4⟩⟩
      | goto t =>
        obtain ⟨hk3, hi3⟩ := hp
        obtain ⟨hr, hl3, hl4, hk4⟩ := fin (some (.goto t)) W3 hk3
        exact ⟨_, _, hr, .inr ⟨rfl, .goto t, hIx _ _ _ _ _ _ hi3 (by omega) hl3 rfl, hl4, hk4⟩⟩
      | panic ch => exact hp.elim
      | outgrown => exact hp.elim
    · -- behind the iterator
      rintro e W2 ⟨⟨v, rfl⟩, (⟨xs, hS, hi, hl, hk⟩ | ⟨pre, ⟨r, hSp⟩, c, hi, hl, hk⟩)⟩
      · exact ⟨none, _, by have := run_endLoop (P := Tryd.prog) hl (by rw [hrec]; simp); rw [hrec] at this; exact this, hdone _ xs _ (Nat.le_refl _) hS (hI _ _ _ _ _ hi (by omega) hl rfl) ((World.putObj_heap_other (by omega)).trans hk)⟩
      · exact ⟨some c, _, by have := run_endLoop (P := Tryd.prog) hl (by rw [hrec]; simp); rw [hrec] at this; exact this, hstop _ c pre r _ (Nat.le_refl _) hSp (hIx _ _ _ _ _ _ hi (by omega) hl rfl) ((World.putObj_heap_other (by omega)).trans hk)⟩
theorem six_boxes (w : World) (t0 t1 t2 t3 t4 t5 : TypeId) (v0 v1 v2 v3 v4 v5 : Value) (W : World)
    (hW : W = (((((w.alloc (.cells #[v0] t0)).alloc (.cells #[v1] t1)).alloc (.cells #[v2] t2)).alloc (.cells #[v3] t3)).alloc (.cells #[v4] t4)).alloc (.cells #[v5] t5)) :
    (Boxed W w.heap.size t0 v0 ∧ Boxed W (w.heap.size + 1) t1 v1 ∧ Boxed W (w.heap.size + 1 + 1) t2 v2 ∧ Boxed W (w.heap.size + 1 + 1 + 1) t3 v3 ∧ Boxed W (w.heap.size + 1 + 1 + 1 + 1) t4 v4 ∧ Boxed W (w.heap.size + 1 + 1 + 1 + 2) t5 v5) ∧ W.heap.size = w.heap.size + 6 ∧ Below w.heap.size w W := by
  subst hW
  have b0 := Boxed.new w t0 v0
  have b1 := Boxed.new (w.alloc (.cells #[v0] t0)) t1 v1
  have b2 := Boxed.new ((w.alloc (.cells #[v0] t0)).alloc (.cells #[v1] t1)) t2 v2
  have b3 := Boxed.new (((w.alloc (.cells #[v0] t0)).alloc (.cells #[v1] t1)).alloc (.cells #[v2] t2)) t3 v3
  have b4 := Boxed.new ((((w.alloc (.cells #[v0] t0)).alloc (.cells #[v1] t1)).alloc (.cells #[v2] t2)).alloc (.cells #[v3] t3)) t4 v4
  have b5 := Boxed.new (((((w.alloc (.cells #[v0] t0)).alloc (.cells #[v1] t1)).alloc (.cells #[v2] t2)).alloc (.cells #[v3] t3)).alloc (.cells #[v4] t4)) t5 v5
  simp only [World.size_alloc] at b1 b2 b3 b4 b5
  refine ⟨⟨((((b0.alloc _).alloc _).alloc _).alloc _).alloc _, (((b1.alloc _).alloc _).alloc _).alloc _, ((b2.alloc _).alloc _).alloc _, (b3.alloc _).alloc _, b4.alloc _, b5⟩, by simp, ?_⟩
  refine ((((((Below.refl _ w).alloc (Nat.le_refl _) _).alloc ?_ _).alloc ?_ _).alloc ?_ _).alloc ?_ _).alloc ?_ _ <;> simp <;> omega
theorem colN_app : ∀ (a b : List (List UInt8)) (acc : List Int), colN (a ++ b) acc = match colN a acc with
    | none => none
    | some acc' => colN b acc'
  | [], b, acc => rfl
  | x :: a, b, acc => by
    rw [List.cons_append, colN, colN]
    cases pI x with
    | none => rfl
    | some n =>
      simp only
      split
      · rfl
      · exact colN_app a b _
theorem colN_snoc {pre : List ByteArray} {acc : List Int} (x : ByteArray) (h : colN (lst pre) [] = some acc) : colN (lst (pre ++ [x])) [] = match pI x.data.toList with
    | none => none
    | some n => if acc.length = 60 then none else some (acc ++ [n]) := by
  rw [lst_app, colN_app, h]
  rfl
theorem OwnV.low {w : World} {base base' : Nat} {v : Value} {xs : List Int} (h : OwnV w base v xs) (hb : base' ≤ base) : OwnV w base' v xs :=
  ⟨h.1, h.2.imp id (fun ⟨g, cap, cur, hv, hg, r⟩ => ⟨g, cap, cur, hv, Nat.le_trans hb hg, r⟩)⟩
theorem append_keeps {w2 w1 : World} {n0 : Nat} {v : Value} {xs : List Int} {tmp : Obj} (hrow : OwnV w2 n0 v xs) (hg : (w2.alloc tmp).grownBy w1 v.ownBlock) : KeepsOthers w2 w1 :=
  (KeepsOthers.alloc w2 tmp).trans (KeepsOthers.of_grownBy hg fun j o ej hj => by
    rcases (World.ownsRow.alloc hrow tmp).2 with ⟨rfl, _⟩ | ⟨g, cap, cur, rfl, _, hgb, _⟩
    · simp [Value.ownBlock] at ej
    · obtain rfl : g = j := by simpa [Value.ownBlock] using ej
      rw [hgb] at hj; cases hj; rfl)
theorem keepsFrom_below {B : Nat} {W W' : World} (h : Below W.heap.size W W') : KeepsFrom B W W' := ⟨h.size, fun k o _ hk _ => (h.block k (Array.getElem?_eq_some_iff.1 hk).1).trans hk⟩
set_option maxRecDepth 100000 in
set_option maxHeartbeats 2000000 in
theorem ParseNumbers_any (s : ByteArray) (w : World) (hs : s.size ≤ 1048576) (ht : Tab w) (he : Errs w) :
    Calls Tryd.prog 26 #[.string s] w (RetN w (pN s.data.toList)) := by
  have HT := Lib.hid ht
  have HE := Lib.hid he
  clear ht he
  refine (callsIn_wide (n := 3)).1 ?_
  refine callsIn_of_wp_marks Tryd.func26 rfl trivial ?_ rfl
  simp only [Tryd.ntmps26, List.size_toArray, List.length_cons, List.length_nil, Nat.reduceAdd, Nat.reduceSub, Array.replicate_succ, Array.replicate_zero, List.push_toArray, List.append_toArray, List.nil_append, List.cons_append]
  by_cases h1 : s = ⟨#[45]⟩
  · have HP : Hid (pN s.data.toList = some []) := by show _ = _; rw [h1]; rfl
    have hc1 := Boxed.new w 22 (.slice none 0 0)
    gi_wp2
    refine ⟨_, results_box (v1 := .slice none 0 0) (v2 := .bool true) rfl rfl (by simp) (by simp), ?_⟩
    exact ⟨none, 0, by rw [HP.out] <;> rfl, by rw [HP.out]; exact OwnI.nil _ _, ((Below.refl _ _).alloc (Nat.le_refl _) _).alloc (by simp) _⟩
  · have hne1 := str_ne h1
    have hne2 : (s.toList == [45]) = false := by
      have : (⟨#[45]⟩ : ByteArray).toList = [45] := by rw [ByteArray.toList_eq]
      rw [← this]; exact hne1
    have HP : Hid (pN s.data.toList = colN (splitL s.data.toList) []) := by
      show _ = _
      unfold pN
      rw [if_neg (fun e => h1 (by
        have : s.data = #[45] := by rw [← Array.toArray_toList (xs := s.data), e]
        exact ByteArray.ext this))]
    gi_wp2_with (refine ⟨trivial, ?_⟩; gi_at_call 61; refine (callsIn_wide.2 (SplitSeq_any s _)).mono ?_; rintro e w' ⟨rfl, rfl⟩)
    clear hne1 hne2 h1
    obtain ⟨W6, hW6⟩ : ∃ W6, W6 = (((((w.alloc (.cells #[.slice none 0 0] 22)).alloc (.cells #[.bool false] 4)).alloc (.cells #[.slice none 0 0] 22)).alloc (.cells #[.string s] 9)).alloc (.cells #[.string ⟨#[44]⟩] 9)).alloc (.cells #[.int .i64 0] 3) := ⟨_, rfl⟩
    obtain ⟨⟨c0, c1, c2, b1, b2, b3⟩, hM, hB6⟩ := six_boxes w _ _ _ _ _ _ _ _ _ _ _ _ W6 hW6
    rw [← hW6]
    clear hW6
    obtain ⟨i0, hi, hz0, hz1, hz2⟩ := info_parts info_int
    refine wp_pieces (n := 3) (by omega) s (w.heap.size + 1 + 1 + 1) (w.heap.size + 1 + 1 + 1 + 1) (w.heap.size + 1 + 1 + 1 + 2) hs (by omega) (by omega) rfl rfl (enters_of Tryd.func124 (by kernel_rfl) rfl) b1 b2 b3
      (fun pre W => ∃ acc v, colN (lst pre) [] = some acc ∧ acc.length ≤ 60 ∧ Boxed W w.heap.size 22 (.slice none 0 0) ∧ Boxed W (w.heap.size + 1) 4 (.bool false) ∧ Boxed W (w.heap.size + 1 + 1) 22 v ∧ OwnV W (w.heap.size + 6) v acc ∧ Below w.heap.size w W ∧ w.heap.size + 6 ≤ W.heap.size)
      (fun c pre W => c = .ret ∧ colN (lst pre) [] = none ∧ Boxed W w.heap.size 22 (.slice none 0 0) ∧ Boxed W (w.heap.size + 1) 4 (.bool false) ∧ Below w.heap.size w W)
      ?hI ?hIx ?hIs ?h0
      (fun x => { tmps := #[.string s, undef, .pointer (some ⟨w.heap.size, 0, none⟩), .pointer (some ⟨w.heap.size + 1, 0, none⟩), .pointer (some ⟨w.heap.size + 1 + 1, 0, none⟩), .string x, undef, undef, .string s, .bool false, .string s, .func (.func 124) #[] #[.pointer (some ⟨w.heap.size + 1 + 1 + 1 + 1, 0, none⟩), .pointer (some ⟨w.heap.size + 1 + 1 + 1, 0, none⟩), .pointer (some ⟨w.heap.size + 1 + 1 + 1 + 2, 0, none⟩)], .string x, undef, undef, undef, undef, undef, undef, undef, undef, undef, undef, undef, undef, undef, undef, undef, undef, undef], defers := [] }) ?assign ?body ?done ?stop
    case hI =>
      rintro pre W k o o' ⟨acc, v, e, hl, x0, x1, x2, x3, x4, x5⟩ hk hko hoc
      exact ⟨acc, v, e, hl, putObj_box x0 _ (by omega), putObj_box x1 _ (by omega), putObj_box x2 _ (by omega), ownsRow_putObj x3 _ hko hoc, putObj_below x4 _ (by omega), by rw [World.putObj_size]; exact x5⟩
    case hIx =>
      rintro c pre W k o o' ⟨rfl, e, x0, x1, x4⟩ hk hko hoc
      exact ⟨rfl, e, putObj_box x0 _ (by omega), putObj_box x1 _ (by omega), putObj_below x4 _ (by omega)⟩
    case hIs =>
      rintro pre W u ⟨acc, v, e, hl, x0, x1, x2, x3, x4, x5⟩
      exact ⟨acc, v, e, hl, x0.other (by omega) u, x1.other (by omega) u, x2.other (by omega) u, ownsRow_setCell_below x3 (by show w.heap.size + 1 + 1 + 1 < w.heap.size + 6; omega) u, x4.setCell (p := ⟨w.heap.size + 1 + 1 + 1, 0, none⟩) (by show w.heap.size ≤ w.heap.size + 1 + 1 + 1; omega) u, by simp [World.setCell]; exact x5⟩
    case h0 =>
      intro r
      exact ⟨[], .slice none 0 0, rfl, by simp, (c0.alloc _).alloc _, (c1.alloc _).alloc _, (c2.alloc _).alloc _, OwnV.nil _ _, (hB6.alloc (by omega) _).alloc (by simp; omega) _, by simp; omega⟩
    case assign =>
      intro l x W K hK
      gi_wp2
      exact hK
    case body =>
      rintro l pre x W ⟨acc, v, he, hl, x0, x1, x2, x3, x4, x5⟩ hxs
      obtain ⟨aa, ac, rfl, -⟩ := OwnV.own x3
      have HX3 := Lib.hid x3
      have HX0 := Lib.hid x0
      have HX1 := Lib.hid x1
      have HX2 := Lib.hid x2
      have HX4 := Lib.hid x4
      have HEC := Lib.hid (colN_snoc x he)
      have HTW := Lib.hid (HT.out.upd x4)
      have HEW := Lib.hid (HE.out.upd x4)
      clear x0 x1 x2 x3 x4 he c0 c1 c2 b1 b2 b3
      gi_wp2
      refine ⟨trivial, ?_⟩
      refine (CallsIn.inRound l (callsIn_wide.2 (ParseInt_any x _ hxs HTW.out HEW.out))).mono ?_
      rintro e w2 ⟨rfl, hb⟩
      have hs2 := hb.size
      have x0 : Boxed w2 w.heap.size 22 (.slice none 0 0) := (hb.block _ HX0.out.lt).trans HX0.out
      have x1 : Boxed w2 (w.heap.size + 1) 4 (.bool false) := (hb.block _ HX1.out.lt).trans HX1.out
      have x2 : Boxed w2 (w.heap.size + 1 + 1) 22 (.slice aa acc.length ac) := (hb.block _ HX2.out.lt).trans HX2.out
      have y0 := x0.cell
      have y1 := x1.cell
      have y2 := x2.cell
      have f0 := x0.frozen
      have f1 := x1.frozen
      have HX0 := Lib.hid x0
      have HX1 := Lib.hid x1
      have HX2 := Lib.hid x2
      have HX3 := Lib.hid (HX3.out.kept hb)
      have HX4 := Lib.hid (HX4.out.trans (hb.mono HX4.out.size))
      have HKF : Hid (KeepsFrom W6.heap.size W w2) := keepsFrom_below hb
      have HK3 : Hid (K3 (w.heap.size + 1 + 1 + 1) (w.heap.size + 1 + 1 + 1 + 1) (w.heap.size + 1 + 1 + 1 + 2) W w2) := ⟨hb.block _ (by omega), hb.block _ (by omega), hb.block _ (by omega)⟩
      clear x0 x1 x2 hb
      have HOUT : Hid (∀ a' : Act, colN (lst (pre ++ [x])) [] = none → ownPostG W6.heap.size (K3 (w.heap.size + 1 + 1 + 1) (w.heap.size + 1 + 1 + 1 + 1) (w.heap.size + 1 + 1 + 1 + 2))
          (fun pre W => ∃ acc v, colN (lst pre) [] = some acc ∧ acc.length ≤ 60 ∧ Boxed W w.heap.size 22 (.slice none 0 0) ∧ Boxed W (w.heap.size + 1) 4 (.bool false) ∧ Boxed W (w.heap.size + 1 + 1) 22 v ∧ OwnV W (w.heap.size + 6) v acc ∧ Below w.heap.size w W ∧ w.heap.size + 6 ≤ W.heap.size)
          (fun c pre W => c = .ret ∧ colN (lst pre) [] = none ∧ Boxed W w.heap.size 22 (.slice none 0 0) ∧ Boxed W (w.heap.size + 1) 4 (.bool false) ∧ Below w.heap.size w W) (pre ++ [x]) W .ret a'
          ((w2.setCell ⟨w.heap.size, 0, none⟩ (.slice none 0 0)).setCell ⟨w.heap.size + 1, 0, none⟩ (.bool false))) := fun a' h =>
        ⟨HKF.out.trans (((KeepsOthers.setCell _ _ _).from _).trans ((KeepsOthers.setCell _ _ _).from _)), rfl, h, (HX0.out.set _).other (by omega) _, (HX1.out.other (by omega) _).set _, (HX4.out.setCell (p := ⟨w.heap.size, 0, none⟩) (Nat.le_refl _) _).setCell (p := ⟨w.heap.size + 1, 0, none⟩) (by show w.heap.size ≤ w.heap.size + 1; omega) _⟩
      cases hp : pI x.data.toList with
      | none =>
        have HN : Hid (colN (lst (pre ++ [x])) [] = none) := by show _ = _; rw [HEC.out, hp]
        simp only [Option.getD_none, Option.isSome_none]
        clear hp
        gi_wp2
        exact HOUT.out _ HN.out
      | some m =>
        have HC2 : Hid (colN (lst (pre ++ [x])) [] = if acc.length = 60 then none else some (acc ++ [m])) := by show _ = _; rw [HEC.out, hp]
        simp only [Option.getD_some, Option.isSome_some]
        clear hp HEC
        by_cases h60 : acc.length = 60
        · have HN : Hid (colN (lst (pre ++ [x])) [] = none) := by show _ = _; rw [HC2.out, if_pos h60]
          have h60b : ((acc.length : Int) == 60) = true := by simp [h60]
          have H60 := Lib.hid h60
          clear h60
          gi_wp2
          exact HOUT.out _ HN.out
        · have HN : Hid (colN (lst (pre ++ [x])) [] = some (acc ++ [m])) := by show _ = _; rw [HC2.out, if_neg h60]
          have h60b : ((acc.length : Int) == 60) = false := by rw [beq_eq_false_iff_ne]; omega
          have H60 : Hid (acc.length ≤ 59) := by show _ ≤ _; omega
          have hrow := HX3.out
          clear h60 HOUT HC2
          gi_wp2_with (gi_at_builtin; refine wpListIn_append_own _ rfl _ _ 22 rfl (w.heap.size + 6) 3 i0 (.int .i64 0) 1 8 Tryd.underlying22 hi hz0 hz1 hz2 rfl (by decide) _ _ _ rfl (World.ownsRow.alloc hrow _) ⟨w2.heap.size, 0, none⟩ 1 1 [.int .i64 m] rfl rfl (cell_one_new _ _ _) (by intro u hu; simp at hu; subst hu; rfl) (by unfold maxLen; omega) (by omega) (by simp; omega) ?_; intro v' w1 hown' hgrow _; obtain ⟨g', cap', rfl⟩ := ownsRow_succ hown'; have hbl : Below (w.heap.size + 6) w2 w1 := ((Below.refl _ w2).alloc (by omega) _).grown hgrow (by simp; omega) (fun k hk => (World.ownsRow.lt hrow k hk).1); have z2 : Boxed w1 (w.heap.size + 1 + 1) 22 (.slice aa acc.length ac) := (hbl.block _ (by omega)).trans HX2.out; have hc1 := z2.cell; have hf1 := z2.frozen)
          have hkk := append_keeps hrow hgrow
          have hs1 := hbl.size
          refine ⟨HKF.out.trans ((hkk.from _).trans ((KeepsOthers.setCell _ _ _).from _)), HK3.out.trans ⟨?_, ?_, ?_⟩, acc ++ [m], _, HN.out, by rw [List.length_append]; have := H60.out; simp; omega, ?_, ?_, z2.set _, ?_, ?_, ?_⟩
          · exact (Below.heap_setCell _ _ _ _ (by show w.heap.size + 1 + 1 + 1 ≠ w.heap.size + 1 + 1; omega)).trans (hbl.block _ (by omega))
          · exact (Below.heap_setCell _ _ _ _ (by show w.heap.size + 1 + 1 + 1 + 1 ≠ w.heap.size + 1 + 1; omega)).trans (hbl.block _ (by omega))
          · exact (Below.heap_setCell _ _ _ _ (by show w.heap.size + 1 + 1 + 1 + 2 ≠ w.heap.size + 1 + 1; omega)).trans (hbl.block _ (by omega))
          · exact (Boxed.other ((hbl.block _ (by omega)).trans HX0.out) (by omega) _)
          · exact (Boxed.other ((hbl.block _ (by omega)).trans HX1.out) (by omega) _)
          · refine ownsRow_setCell_below ?_ (by show w.heap.size + 1 + 1 < _; omega) _
            simpa using hown'
          · exact (HX4.out.trans (hbl.mono (by omega))).setCell (p := ⟨w.heap.size + 1 + 1, 0, none⟩) (by show w.heap.size ≤ w.heap.size + 1 + 1; omega) _
          · simp [World.setCell]; omega
    case done =>
      rintro D xs W hD hS ⟨acc, v, he, hl, x0, x1, x2, x3, x4, x5⟩ hK
      obtain ⟨aa, ac, rfl, -⟩ := OwnV.own x3
      have y0 := x0.cell
      have y1 := x1.cell
      have y2 := x2.cell
      have f0 := x0.frozen
      have f1 := x1.frozen
      have HN : Hid (pN s.data.toList = some acc) := by show _ = _; rw [HP.out, ← hS, he]
      gi_wp2
      have hK2 : (((W.setCell ⟨w.heap.size, 0, none⟩ (.slice aa acc.length ac)).setCell ⟨w.heap.size + 1, 0, none⟩ (.bool true)).heap[D]?) = some (.deferred (some [])) :=
        (Below.heap_setCell _ _ _ _ (by show D ≠ w.heap.size + 1; omega)).trans ((Below.heap_setCell _ _ _ _ (by show D ≠ w.heap.size; omega)).trans hK)
      refine ⟨by simp, .inl ⟨_, _, rfl, run_takeDeferred hK2, ?_⟩⟩
      refine ⟨_, results_box rfl rfl (putObj_box ((x0.set _).other (by omega) _) _ (by omega)).cell (putObj_box ((x1.other (by omega) _).set _) _ (by omega)).cell, ?_⟩
      refine ⟨aa, ac, by rw [HN.out] <;> rfl, ?_, ?_⟩
      · rw [HN.out]
        exact OwnV.low (ownsRow_putObj (ownsRow_setCell_below (ownsRow_setCell_below x3 (by show w.heap.size < _; omega) _) (by show w.heap.size + 1 < _; omega) _) _ hK2 rfl) (by omega)
      · exact putObj_below ((x4.setCell (p := ⟨w.heap.size, 0, none⟩) (Nat.le_refl _) _).setCell (p := ⟨w.heap.size + 1, 0, none⟩) (by show w.heap.size ≤ w.heap.size + 1; omega) _) _ (by omega)
    case stop =>
      rintro D c pre r W hD hSp ⟨rfl, he, x0, x1, x4⟩ hK
      have HN : Hid (pN s.data.toList = none) := by show _ = _; rw [HP.out, hSp, colN_app, he]
      gi_wp2
      refine ⟨by simp, .inl ⟨_, _, rfl, run_takeDeferred hK, ?_⟩⟩
      refine ⟨_, results_box rfl rfl (putObj_box x0 _ (by omega)).cell (putObj_box x1 _ (by omega)).cell, ?_⟩
      exact ⟨none, 0, by rw [HN.out] <;> rfl, by rw [HN.out]; exact OwnI.nil _ _, putObj_below x4 _ (by omega)⟩

end Go.Proofs.YtdpddbajeldgiaaDoor
