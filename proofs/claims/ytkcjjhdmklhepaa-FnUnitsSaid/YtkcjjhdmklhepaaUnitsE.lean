/- Pairs of unit fractions, and their number: program and reference. Conditions: those of each contract. -/
import Derived.Test.YtkcjjhdmklhepaaUnitsB
namespace Go.Proofs.Ytkcjjhdmklhepaa
set_option linter.unusedVariables false
open Go.RowKit

/-- a row of two numbers in block g -/
def slv (g : Nat) : Value := .slice (some ⟨g, 0, none⟩) 2 2
structure Rows2 (w : World) (L U : Nat) (gs : List Nat) (rows : List (List Int)) : Prop where
  len : gs.length = rows.length
  inc : gs.Pairwise (· < ·)
  row : ∀ i (h : i < gs.length) (h' : i < rows.length), L ≤ gs[i] ∧ gs[i] < U ∧ rows[i].length = 2 ∧ OwnI w gs[i] (some ⟨gs[i], 0, none⟩) 2 rows[i]
/-- a slice of rows of two numbers, all in blocks of the call's own: for a loop that appends -/
def OwnSV (w : World) (base : Nat) (v : Value) (rows : List (List Int)) : Prop := ∃ gs, Rows2 w base w.heap.size gs rows ∧ w.ownsRow base 24 1 v rows.length (gs.map slv)
theorem OwnI.blk {w : World} {B g : Nat} {cap : Nat} {xs : List Int} (h : OwnI w B (some ⟨g, 0, none⟩) cap xs) : ∃ cur, w.heap[g]? = some (.cells cur 3 (0, 0)) := by
  rcases h.2 with ⟨hv, -⟩ | ⟨g', cap', cur, hv, hg, hh, r⟩
  · simp at hv
  · simp only [Value.slice.injEq, Option.some.injEq, Addr.mk.injEq, and_true, true_and] at hv
    obtain ⟨rfl, -⟩ := hv
    exact ⟨cur, hh⟩
theorem OwnI.same {w w' : World} {B g : Nat} {cap : Nat} {xs : List Int} (h : OwnI w B (some ⟨g, 0, none⟩) cap xs) (he : w'.heap[g]? = w.heap[g]?) : OwnI w' B (some ⟨g, 0, none⟩) cap xs := by
  rcases h.2 with ⟨hv, hn⟩ | ⟨g', cap', cur, hv, hg, hh, r⟩
  · simp at hv
  · have hv' := hv
    simp only [Value.slice.injEq, Option.some.injEq, Addr.mk.injEq, and_true, true_and] at hv'
    obtain ⟨rfl, -⟩ := hv'
    exact ⟨h.1, Or.inr ⟨g, cap', cur, hv, hg, by rw [he]; exact hh, r⟩⟩
theorem Rows2.keep {w w' : World} {L U U' : Nat} {gs : List Nat} {rows : List (List Int)} (h : Rows2 w L U gs rows) (hU : U ≤ U') (he : ∀ g ∈ gs, w'.heap[g]? = w.heap[g]?) : Rows2 w' L U' gs rows :=
  ⟨h.len, h.inc, fun i h1 h2 => by
    obtain ⟨r1, r2, r3, r4⟩ := h.row i h1 h2
    exact ⟨r1, by omega, r3, r4.same (he _ (List.getElem_mem h1))⟩⟩
theorem info_ints : (Try.prog.info? 24).map (fun i => (i.zero, i.size, i.bytes)) = some (some (.slice none 0 0), 1, 24) := by kernel_rfl
theorem OwnSV.nil (w : World) (base : Nat) : OwnSV w base (.slice none 0 0) [] := ⟨[], ⟨rfl, List.Pairwise.nil, fun i h => by simp at h⟩, World.ownsRow_nil _ _ _ _⟩
theorem OwnSV.lit0 (w : World) (base : Nat) (h : base ≤ w.heap.size) : OwnSV (w.alloc (.cells #[] 24)) base (.slice (some ⟨w.heap.size, 0, none⟩) 0 0) [] :=
  ⟨[], ⟨rfl, List.Pairwise.nil, fun i h => by simp at h⟩, World.ownsRow_lit _ #[] 0 h (by simp [maxLen]) rfl⟩
theorem OwnSV.shape {w : World} {base : Nat} {v : Value} {rows : List (List Int)} (h : OwnSV w base v rows) : ∃ a cap, v = .slice a rows.length cap := by
  obtain ⟨gs, -, h2⟩ := h
  rcases h2.2 with ⟨h1, h3⟩ | ⟨g, cap', cur, hv, -⟩
  · exact ⟨none, 0, by rw [h3]; exact h1⟩
  · exact ⟨_, _, hv⟩
/-- 'append(out, []int{x, y})' -/
theorem wpList_append_row {ops : Array Oper} {rest : List Oper} {o : Oper} {a : Act} {Q : Exit → Act → World → Prop} {wr : World} (hgd : o.guard = none) (s x : Operand)
    (ho : o.op = .call { callee := .builtin .append, args := #[s, x], argTypes := #[38, 38] }) (base : Nat) (v : Value) (rows : List (List Int)) (hs : a.eval s = v) (hown : OwnSV wr base v rows)
    (p q : Int) (hx : a.eval x = .slice (some ⟨wr.heap.size + 1, 0, none⟩) 1 1) (hl : rows.length ≤ 100000) (hb : base ≤ wr.heap.size)
    (h : ∀ v' w', OwnSV w' base v' (rows ++ [[p, q]]) → Below base wr w' → wpList Try.prog ops Q rest (a.put o.dst v') w') :
    wpList Try.prog ops Q (o :: rest) a ((wr.alloc (.cells #[.int .i64 p, .int .i64 q] 3)).alloc (.cells #[.slice (some ⟨wr.heap.size, 0, none⟩) 2 2] 24)) := by
  obtain ⟨i0, hi, hz0, hz1, hz2⟩ := info_parts info_ints
  obtain ⟨gs, hr, hrow⟩ := hown
  have hc1 : ∀ j u, [slv wr.heap.size][j]? = some u → ((wr.alloc (.cells #[.int .i64 p, .int .i64 q] 3)).alloc (.cells #[.slice (some ⟨wr.heap.size, 0, none⟩) 2 2] 24)).cell? ((⟨wr.heap.size + 1, 0, none⟩ : Addr).add j) = some u := by
    have := cell_one_new (wr.alloc (.cells #[.int .i64 p, .int .i64 q] 3)) (slv wr.heap.size) 24
    have e : (wr.alloc (.cells #[.int .i64 p, .int .i64 q] 3)).heap.size = wr.heap.size + 1 := by simp
    rw [e] at this
    exact this
  refine wpList_append_own _ hgd s x 38 ho base 24 i0 (.slice none 0 0) 1 24 Try.underlying38 hi hz0 hz1 hz2 rfl (by decide) v rows.length _ hs ((World.ownsRow.alloc (World.ownsRow.alloc hrow _) _)) ⟨wr.heap.size + 1, 0, none⟩ 1 1 [slv wr.heap.size] hx rfl hc1 ?c2 ?c3 ?c4 ?c5 ?_
  case c2 => intro u hu; simp at hu; subst hu; rfl
  case c3 => unfold maxLen; omega
  case c4 => omega
  case c5 => simp; omega
  intro v' w1 hown' hgrow _
  have hlt := World.ownsRow.lt hrow
  have hbel : Below base wr w1 := (((Below.refl _ _).alloc hb _).alloc (by simp; omega) _).grown hgrow (by simp; omega) (fun k hk => (hlt k hk).1)
  refine h v' w1 ⟨gs ++ [wr.heap.size], ?_, by simpa [slv] using hown'⟩ hbel
  have hsz1 : wr.heap.size + 2 ≤ w1.heap.size := by have := hgrow.size; simpa using this
  have hnot : ∀ (g : Nat) (cur : Array Value), wr.heap[g]? = some (Obj.cells cur 3 (0, 0)) → some g ≠ v.ownBlock := by
    intro g cur hg he
    rcases hrow.2 with ⟨rfl, -⟩ | ⟨g', cap', cur', rfl, -, hh, -⟩
    · simp [Value.ownBlock] at he
    · simp only [Value.ownBlock, Option.some.injEq] at he
      subst he
      rw [hh] at hg
      simp at hg
  have hkeep : ∀ (g : Nat) (cur : Array Value), wr.heap[g]? = some (Obj.cells cur 3 (0, 0)) → w1.heap[g]? = wr.heap[g]? := by
    intro g cur hg
    have hlt' := lt_of_block hg
    rw [hgrow.block g (by simp; omega) (hnot g cur hg), Below.heap_alloc _ _ g (by simp; omega), Below.heap_alloc _ _ g hlt']
  have hnew : w1.heap[wr.heap.size]? = some (.cells #[.int .i64 p, .int .i64 q] 3 (0, 0)) := by
    have e : ((wr.alloc (.cells #[.int .i64 p, .int .i64 q] 3)).alloc (.cells #[.slice (some ⟨wr.heap.size, 0, none⟩) 2 2] 24)).heap[wr.heap.size]? = some (.cells #[.int .i64 p, .int .i64 q] 3 (0, 0)) := by
      rw [Below.heap_alloc _ _ wr.heap.size (by simp), heap_alloc_new]
    rw [hgrow.block _ (by simp; omega) ?_, e]
    intro he
    have := hlt wr.heap.size he.symm
    omega
  refine ⟨by simp [hr.len], ?_, ?_⟩
  · rw [List.pairwise_append]
    refine ⟨hr.inc, by simp, fun x hx y hy => ?_⟩
    simp at hy; subst hy
    obtain ⟨i, hi1, rfl⟩ := List.getElem_of_mem hx
    exact (hr.row i hi1 (by rw [← hr.len]; exact hi1)).2.1
  · intro i h1 h2
    by_cases hi1 : i < gs.length
    · have hi2 : i < rows.length := by rw [← hr.len]; exact hi1
      obtain ⟨r1, r2, r3, r4⟩ := hr.row i hi1 hi2
      rw [List.getElem_append_left hi1, List.getElem_append_left hi2]
      obtain ⟨cur, hcur⟩ := r4.blk
      exact ⟨r1, by omega, r3, r4.same (hkeep _ cur hcur)⟩
    · have hie : i = gs.length := by simp at h1; omega
      subst hie
      have e1 : (gs ++ [wr.heap.size])[gs.length] = wr.heap.size := by simp
      have e2 : (rows ++ [[p, q]])[gs.length] = [p, q] := by simp [hr.len]
      rw [e1, e2]
      refine ⟨hb, by omega, rfl, ⟨by simp, Or.inr ⟨wr.heap.size, 2, _, rfl, Nat.le_refl _, hnew, Nat.le_refl _, by simp [maxLen], by simp, by simp⟩⟩⟩

theorem sq_1000 (q : Int) (h1 : 1 ≤ q) (h2 : q ≤ 1000) : 1 ≤ q * q ∧ q * q ≤ 1000000 := by
  have h3 : 1 * 1 ≤ q * q := Int.mul_le_mul h1 h1 (by omega) (by omega)
  have h4 : q * q ≤ 1000 * 1000 := Int.mul_le_mul h2 h2 (by omega) (by omega)
  omega
/-- the pairs of the first k divisors -/
def pairL (q : Int) : Nat → List (List Int)
  | 0 => []
  | k + 1 => pairL q k ++ (if q * q % (1 + k) == 0 then [[q + (1 + k), q + q * q / (1 + k)]] else [])
theorem pairL_len (q : Int) (k : Nat) : (pairL q k).length ≤ k := by
  induction k with
  | zero => simp [pairL]
  | succ k ih => simp only [pairL]; split <;> simp <;> omega
theorem pairL_yes {q : Int} {k : Nat} (h : (q * q % (1 + (k : Int)) == 0) = true) : pairL q (k + 1) = pairL q k ++ [[q + (1 + k), q + q * q / (1 + k)]] := by simp only [pairL, h, if_true]
theorem pairL_no {q : Int} {k : Nat} (h : (q * q % (1 + (k : Int)) == 0) = false) : pairL q (k + 1) = pairL q k := by simp [pairL, h]
def pairR (q : Int) : List (List Int) := if inB q 1 1000 then pairL q q.toNat else []
theorem pairR_len (q : Int) : (pairR q).length ≤ 1000 := by
  unfold pairR
  split
  · rename_i h; rw [inB_t] at h; have := pairL_len q q.toNat; omega
  · simp
/-- A call returns a new slice of rows of two numbers. -/
def RetSS (w : World) (rows : List (List Int)) (e : Ending) (w' : World) : Prop := ∃ v, e = .returned v ∧ OwnSV w' w.heap.size v rows ∧ Below w.heap.size w w'
set_option maxHeartbeats 400000 in
theorem PairsFor_any (q : Int) (w : World) : Calls Try.prog 27 #[.int .i64 q] w (RetSS w (pairR q)) := by
  cases hq : inB q 1 1000
  · have HF : Hid (pairR q = []) := by show _ = _; simp [pairR, hq]
    rw [HF.out]
    go_enter Try.func27, Try.ntmps27
    go_wp2_with (go_at_call 47; refine (within_any _ _ _ _).mono ?_; rintro e w' ⟨rfl, rfl⟩)
    go_ret
    exact ⟨_, rfl, OwnSV.nil _ _, Below.refl _ _⟩
  obtain ⟨hq1, hq2⟩ := inB_t.1 hq
  have HF : Hid (pairR q = pairL q q.toNat) := by show _ = _; simp [pairR, hq]
  rw [HF.out]
  obtain ⟨m1, m2⟩ := sq_1000 q hq1 hq2
  go_enter Try.func27, Try.ntmps27
  go_wp2_with (go_at_call 47; refine (within_any _ _ _ _).mono ?_; rintro e w' ⟨rfl, rfl⟩)
  clear hq
  go_loopw [3, 4] (fun v dv wr => ∃ k : Nat, dv = .int .i64 (1 + k) ∧ (k : Int) ≤ q ∧ OwnSV wr w.heap.size v (pairL q k) ∧ Below w.heap.size w wr) (fun _ dv _ => (q + 1 - intOf dv).toNat)
  case atStart => exact ⟨0, rfl, by omega, OwnSV.nil _ _, Below.refl _ _⟩
  case round =>
    obtain ⟨k, rfl, hk, hown, hbl⟩ := hrel
    have hsz := hbl.size
    have HBL := Lib.hid hbl; clear hbl
    by_cases hlt : (k : Int) < q
    · have hpl := pairL_len q k
      have hd1 : 0 ≤ q * q / (1 + (k : Int)) := Int.ediv_nonneg (by omega) (by omega)
      have hd2 : q * q / (1 + (k : Int)) ≤ q * q := Int.ediv_le_self _ (by omega)
      cases hs : (q * q % (1 + (k : Int)) == 0)
      · have HN := Lib.hid (pairL_no hs)
        go_wp2_with fail
        go_roundw
        case rel => exact ⟨k + 1, by go_num, by omega, by rw [HN.out]; exact hown, HBL.out⟩
        case measure => simp [intOf] <;> omega
      · have HY := Lib.hid (pairL_yes hs)
        go_wp2_with (at_builtin; refine wpList_append_row rfl _ _ rfl w.heap.size _ _ rfl hown _ _ rfl (by omega) (by omega) ?_; intro v' w2 hown2 hbl2)
        have HB2 := Lib.hid hbl2; clear hbl2
        go_roundw
        case rel => exact ⟨k + 1, by go_num, by omega, by rw [HY.out]; exact hown2, HBL.out.trans HB2.out⟩
        case measure => simp [intOf] <;> omega
    · have HK : Hid (q.toNat = k) := by show _ = _; omega
      go_wp2_with fail
      go_ret
      rw [HK.out]
      exact ⟨_, rfl, hown, HBL.out⟩
def cntP (q : Int) : Int := if inB q 1 1000 then (pairR q).length else -1
theorem CountPairs_any (q : Int) (w : World) : Calls Try.prog 30 #[.int .i64 q] w fun e w' => e = .returned (.int .i64 (cntP q)) ∧ Below w.heap.size w w' := by
  cases hq : inB q 1 1000
  · go_enter Try.func30, Try.ntmps30
    go_wp2_with (go_at_call 47; refine (within_any _ _ _ _).mono ?_; rintro e w' ⟨rfl, rfl⟩)
    go_ret
    exact ⟨by simp [cntP, hq], Below.refl _ _⟩
  have HF : Hid (cntP q = (pairR q).length) := by show _ = _; simp [cntP, hq]
  go_enter Try.func30, Try.ntmps30
  go_wp2_with (go_at_call 47; refine (within_any _ _ _ _).mono ?_; rintro e w' ⟨rfl, rfl⟩)
  refine (PairsFor_any _ _).mono ?_
  rintro e w1 ⟨v, rfl, ho, hb⟩
  obtain ⟨a, c, rfl⟩ := ho.shape
  have HB := Lib.hid hb; clear ho hb
  go_wp2_with fail
  go_ret
  exact ⟨by rw [HF.out] <;> rfl, HB.out⟩

end Go.Proofs.Ytkcjjhdmklhepaa
