/- slices.Min, slices.Index of the least number, slices.Grow of nil, slices.Concat of two. Conditions: those of each contract. -/
import Derived.Test.YtdpddbajeldgiaaDoorCycP
import Derived.Test.YtdpddbajeldgiaaDoorMem
import Derived.Lib.MinMax
import Derived.Lib.AppendZeros
namespace Go.Proofs.YtdpddbajeldgiaaDoor
set_option linter.unusedVariables false
open Go.RowKit

/-- 'append(out, ys...)' onto a slice of the call's own -/
theorem wpList_append_many {ops : Array Oper} {rest : List Oper} {o : Oper} {a : Act} {Q : Exit → Act → World → Prop} {wr : World} (hgd : o.guard = none) (s x : Operand)
    (ho : o.op = .call { callee := .builtin .append, args := #[s, x], argTypes := #[22, 22] }) (base : Nat) (v : Value) (xs : List Int) (hs : a.eval s = v) (hown : OwnV wr base v xs)
    (b off cap n : Nat) (ys : List Int) (hn : ys.length = n) (hx : a.eval x = .slice (some ⟨b, off, none⟩) n cap) (hc : ∀ i (h : i < ys.length), wr.cell? ⟨b, off + i, none⟩ = some (.int .i64 ys[i])) (hl : xs.length + ys.length ≤ 1000000000) (hb : base ≤ wr.heap.size)
    (h : ∀ v' w', OwnV w' base v' (xs ++ ys) → Below base wr w' → wpList Tryd.prog ops Q rest (a.put o.dst v') w') :
    wpList Tryd.prog ops Q (o :: rest) a wr := by
  subst hn
  obtain ⟨i0, hi, hz0, hz1, hz2⟩ := info_parts info_int
  refine wpList_append_own _ hgd s x 22 ho base 3 i0 (.int .i64 0) 1 8 Tryd.underlying22 hi hz0 hz1 hz2 rfl (by decide) v xs.length _ hs hown ⟨b, off, none⟩ ys.length cap (ys.map (Value.int .i64)) hx (by simp) ?c1 (ints_oneCell _ _) ?c3 ?c4 ?c5 ?_
  case c1 =>
    intro j u hu
    rw [List.getElem?_map] at hu
    by_cases hj : j < ys.length
    · rw [List.getElem?_eq_getElem hj] at hu
      simp only [Option.map_some, Option.some.injEq] at hu
      subst hu
      rw [show (⟨b, off, none⟩ : Addr).add j = ⟨b, off + j, none⟩ from by simp [Addr.add]]
      exact hc j hj
    · rw [List.getElem?_eq_none (by omega)] at hu; cases hu
  case c3 => unfold maxLen; omega
  case c4 => omega
  case c5 => first | omega | (simp; omega) | simp
  intro v' w1 hown' hgrow _
  refine h v' w1 (by unfold OwnV; simpa using hown') ?_
  exact (Below.refl _ _).grown hgrow hb (fun k hk => (World.ownsRow.lt hown k hk).1)
theorem getD_at (xs : List Int) (k : Nat) (h : k < xs.length) : xs.getD k 0 = xs[k] := by simp [List.getD, h]
theorem amP_next (xs : List Int) (k : Nat) : xs.getD (amP xs (k + 1)) 0 = min (xs.getD (amP xs k) 0) (xs.getD k 0) := by
  rw [amP]
  split <;> omega
theorem Min_any (a : Option Addr) (cap : Nat) (xs : List Int) (w : World) (hx : Ints w w.heap.size a cap xs) (h0 : 0 < xs.length) :
    Calls Tryd.prog 120 #[.slice a xs.length cap] w fun e w' => e = .returned (.int .i64 (xs.getD (amP xs xs.length) 0)) ∧ w = w' := by
  have hl := hx.len
  obtain ⟨-, -, b, off, ha, hc⟩ := hx
  obtain ⟨rfl, -⟩ := ha h0
  have HC := Lib.hid hc
  have hc0 : w.cell? ⟨b, off, none⟩ = some (.int .i64 (xs.getD (amP xs 1) 0)) := by
    have := hc 0 h0
    rw [Nat.add_zero] at this
    rw [this, amP_next, amP, ← getD_at xs 0 h0]
    simp
  have HN : Hid (∀ k, k < xs.length → xs.getD (amP xs (k + 1)) 0 = min (xs.getD (amP xs k) 0) xs[k]!) := fun k hk => by rw [amP_next, getD_at xs k hk]; simp [hk]
  have HG : Hid (∀ k (h : k < xs.length), xs[k] = xs[k]!) := fun k h => by simp [h]
  clear hc
  go_enter Tryd.func120, Tryd.ntmps120
  go_wp2
  go_loop [3, 4] (fun m i => ∃ k : Nat, 0 < k ∧ k ≤ xs.length ∧ i = .int .i64 k ∧ m = .int .i64 (xs.getD (amP xs k) 0)) (fun _ i => xs.length - (intOf i).toNat)
  case atStart => exact ⟨1, by omega, by omega, rfl, rfl⟩
  case round =>
    obtain ⟨k, hk0, hk, rfl, rfl⟩ := hrel
    by_cases hlt : k < xs.length
    · have hcx := HC.out k hlt
      rw [HG.out k hlt] at hcx
      have HN2 := Lib.hid (HN.out k hlt)
      generalize xs[k]! = d at *
      generalize xs.getD (amP xs k) 0 = m at *
      go_wp2
      go_round
      case rel => exact ⟨k + 1, by omega, by omega, by go_num, by rw [HN2.out]⟩
      case measure => simp [intOf]; omega
    · go_wp2
      go_ret
      obtain rfl : k = xs.length := by omega
      exact ⟨rfl, rfl⟩
theorem IndexAt_any (a : Option Addr) (cap : Nat) (xs : List Int) (d : Int) (p : Nat) (w : World) (hx : Ints w w.heap.size a cap xs) (hp : p < xs.length) (hd : xs.getD p 0 = d) (hne : ∀ j, j < p → xs.getD j 0 ≠ d) :
    Calls Tryd.prog 115 #[.slice a xs.length cap, .int .i64 d] w fun e w' => e = .returned (.int .i64 p) ∧ w = w' := by
  have hl := hx.len
  obtain ⟨-, -, b, off, ha, hc⟩ := hx
  obtain ⟨rfl, -⟩ := ha (by omega)
  have HC := Lib.hid hc; clear hc ha
  have HD : Hid ((d == xs[p]) = true) := by show _ = _; rw [← getD_at xs p hp, hd]; exact beq_self_eq_true _
  have HE : Hid (∀ j (h : j < xs.length), j < p → (d == xs[j]) = false) := fun j h hj => by
    rw [beq_eq_false_iff_ne, ← getD_at xs j h]
    exact fun e => hne j hj e.symm
  clear hd hne
  go_enter Tryd.func115, Tryd.ntmps115
  go_wp2
  go_loop [8] (fun i => ∃ k : Nat, k ≤ p ∧ i = .int .i64 k) (fun i => xs.length - (intOf i).toNat)
  case atStart => exact ⟨0, Nat.zero_le _, rfl⟩
  case round =>
    obtain ⟨k, hk, rfl⟩ := hrel
    have hlt : k < xs.length := by omega
    have hcx := HC.out k hlt
    by_cases hkp : k < p
    · have hz := HE.out k hlt hkp
      go_wp2
      go_round
      case rel => exact ⟨k + 1, by omega, by go_num⟩
      case measure => simp [intOf]; omega
    · obtain rfl : k = p := by omega
      have hz := HD.out
      go_wp2
      go_ret
      exact ⟨rfl, rfl⟩
set_option maxRecDepth 8000 in
theorem GrowNil_any (n : Nat) (w : World) (h0 : 0 < n) (h1 : n ≤ 1000000000) :
    Calls Tryd.prog 141 #[.slice none 0 0, .int .i64 n] w fun e w' => ∃ v, e = .returned v ∧ OwnV w' w.heap.size v [] ∧ Below w.heap.size w w' := by
  obtain ⟨i0, hi, hz0, hz1, hz2⟩ := info_parts info_int
  have hrun := fun (wx : World) => Lib.run_append_nil_zeros (P := Tryd.prog) wx 22 3 22 3 i0 (.int .i64 0) .i64 .i64 Tryd.underlying22 Tryd.underlying3 hi hz0 n h0 (by rw [hz1]; omega) (by omega) (by rw [hz2]; omega)
  have hge := grownCap_ge w n 0 3
  have hml := grownCap_le_maxLen w n 0 3 (by unfold maxLen; omega)
  have hml2 : grownCap w n 0 3 ≤ 9223372036854775807 := by unfold maxLen at hml; exact hml
  have HO : Hid (OwnV (w.drew.alloc (.cells (Builtin.zeroCells (Value.int .i64 0).cells n ++ Builtin.zeroCells (Value.int .i64 0).cells (grownCap w n 0 3 - n)) 3)) w.heap.size (.slice (some ⟨w.heap.size, 0, none⟩) 0 (grownCap w n 0 3)) []) := by
    show OwnV _ _ _ _
    refine ⟨rfl, Or.inr ⟨w.heap.size, _, _, rfl, Nat.le_refl _, heap_alloc_new w.drew _, Nat.zero_le _, hml, ?_, by simp⟩⟩
    rw [Array.size_append, size_zeroCells, size_zeroCells]
    simp [Value.cells]
    omega
  have HB : Hid (Below w.heap.size w (w.drew.alloc (.cells (Builtin.zeroCells (Value.int .i64 0).cells n ++ Builtin.zeroCells (Value.int .i64 0).cells (grownCap w n 0 3 - n)) 3))) := ((Below.refl _ _).drew).alloc (Nat.le_refl _) _
  have HR := Lib.hid (hrun w)
  clear hrun hml hi hz0 hz1 hz2
  generalize (w.drew.alloc (.cells (Builtin.zeroCells (Value.int .i64 0).cells n ++ Builtin.zeroCells (Value.int .i64 0).cells (grownCap w n 0 3 - n)) 3)) = wx at *
  generalize grownCap w n 0 3 = cp at *
  have hn0 : (0 : Int) < (n : Int) := by omega
  go_enter Tryd.func141, Tryd.ntmps141
  go_wp2_with (at_builtin; refine Lib.wpList_append_run _ rfl _ _ _ _ rfl _ _ rfl rfl _ _ HR.out ?_)
  go_ret
  exact ⟨_, rfl, HO.out, HB.out⟩
theorem Concat_any (gs b o1 n1 c1 o2 n2 c2 : Nat) (xs ys : List Int) (w : World) (hx : xs.length = n1) (hy : ys.length = n2) (hxc : ∀ i (h : i < xs.length), w.cell? ⟨b, o1 + i, none⟩ = some (.int .i64 xs[i])) (hyc : ∀ i (h : i < ys.length), w.cell? ⟨b, o2 + i, none⟩ = some (.int .i64 ys[i])) (hbw : b < w.heap.size) (hgw : gs < w.heap.size)
    (hs0 : w.cell? ⟨gs, 0, none⟩ = some (.slice (some ⟨b, o1, none⟩) n1 c1)) (hs1 : w.cell? ⟨gs, 1, none⟩ = some (.slice (some ⟨b, o2, none⟩) n2 c2)) (h0 : 0 < n1 + n2) (hl : n1 + n2 ≤ 1000000000) :
    Calls Tryd.prog 121 #[.slice (some ⟨gs, 0, none⟩) 2 2] w (RetI w (xs ++ ys)) := by
  have HX := Lib.hid hx
  have HY := Lib.hid hy
  have HXC := Lib.hid hxc
  have HYC := Lib.hid hyc
  have HG : Hid (∀ W : World, Calls Tryd.prog 141 #[.slice none 0 0, .int .i64 ((n1 : Int) + (n2 : Int))] W fun e w' => ∃ v, e = .returned v ∧ OwnV w' W.heap.size v [] ∧ Below W.heap.size W w') := fun W => by
    have := GrowNil_any (n1 + n2) W h0 hl
    rwa [Int.natCast_add] at this
  clear hx hy hxc hyc
  go_enter Tryd.func121, Tryd.ntmps121
  go_wp2
  go_loop [3, 11] (fun s i => (i = .int .i64 0 ∧ s = .int .i64 0) ∨ (i = .int .i64 1 ∧ s = .int .i64 n1) ∨ (i = .int .i64 2 ∧ s = .int .i64 ((n1 : Int) + (n2 : Int)))) (fun _ i => 2 - (intOf i).toNat)
  case atStart => exact Or.inl ⟨rfl, rfl⟩
  case round =>
    rcases hrel with ⟨rfl, rfl⟩ | ⟨rfl, rfl⟩ | ⟨rfl, rfl⟩
    · go_wp2
      go_round
      case rel => exact Or.inr (Or.inl ⟨by go_num, by go_num⟩)
      case measure => simp [intOf]
    · go_wp2
      go_round
      case rel => exact Or.inr (Or.inr ⟨by go_num, by go_num⟩)
      case measure => simp [intOf]
    · go_wp2_with fail
      refine (HG.out _).mono ?_
      rintro e w1 ⟨v1, rfl, ho1, hb1⟩
      have HO1 := Lib.hid ho1
      have HB1 := Lib.hid hb1
      clear ho1 hb1
      go_wp2_with fail
      go_loopw [6, 27] (fun v i wr => Below w.heap.size w wr ∧ ((i = .int .i64 0 ∧ OwnV wr w.heap.size v []) ∨ (i = .int .i64 1 ∧ OwnV wr w.heap.size v xs) ∨ (i = .int .i64 2 ∧ OwnV wr w.heap.size v (xs ++ ys)))) (fun _ i _ => 2 - (intOf i).toNat)
      case atStart => exact ⟨HB1.out, Or.inl ⟨rfl, HO1.out⟩⟩
      case round =>
        obtain ⟨hb, hrel⟩ := hrel
        have HB := Lib.hid hb
        clear hb
        rcases hrel with ⟨rfl, hown⟩ | ⟨rfl, hown⟩ | ⟨rfl, hown⟩
        · have hcs := (HB.out.cell (p := ⟨gs, 0, none⟩) hgw).trans hs0
          go_wp2_with (at_builtin; refine wpList_append_many rfl _ _ rfl w.heap.size _ _ rfl hown b o1 c1 n1 xs HX.out rfl (fun i h => (HB.out.cell (p := ⟨b, o1 + i, none⟩) hbw).trans (HXC.out i h)) (by have := HX.out; simp; omega) HB.out.size ?_; intro v' w2 hown2 hb2)
          have HB2 := Lib.hid (HB.out.trans hb2)
          have HO2 := Lib.hid hown2
          clear hb2 hown2
          go_wp2_with fail
          go_roundw
          case rel => exact ⟨HB2.out, Or.inr (Or.inl ⟨by go_num, HO2.out⟩)⟩
          case measure => simp [intOf]
        · have hcs := (HB.out.cell (p := ⟨gs, 1, none⟩) hgw).trans hs1
          go_wp2_with (at_builtin; refine wpList_append_many rfl _ _ rfl w.heap.size _ _ rfl hown b o2 c2 n2 ys HY.out rfl (fun i h => (HB.out.cell (p := ⟨b, o2 + i, none⟩) hbw).trans (HYC.out i h)) (by have := HX.out; have := HY.out; omega) HB.out.size ?_; intro v' w2 hown2 hb2)
          have HB2 := Lib.hid (HB.out.trans hb2)
          have HO2 := Lib.hid hown2
          clear hb2 hown2
          go_wp2_with fail
          go_roundw
          case rel => exact ⟨HB2.out, Or.inr (Or.inr ⟨by go_num, HO2.out⟩)⟩
          case measure => simp [intOf]
        · go_wp2_with fail
          go_ret
          exact hown.ret HB.out

end Go.Proofs.YtdpddbajeldgiaaDoor
