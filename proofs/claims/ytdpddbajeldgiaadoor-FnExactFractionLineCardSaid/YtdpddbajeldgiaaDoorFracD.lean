/- FormatExpansion, program and reference. Conditions: those of each contract. -/
import Derived.Test.YtdpddbajeldgiaaDoorFracC
import Derived.Test.YtdpddbajeldgiaaDoorFracA
namespace Go.Proofs.YtdpddbajeldgiaaDoor
set_option linter.unusedVariables false
open Go.RowKit

/-- 'append(out, ys...)' onto a slice of the call's own -/
theorem wpList_append_ints {ops : Array Oper} {rest : List Oper} {o : Oper} {a : Act} {Q : Exit → Act → World → Prop} {wr : World} (hgd : o.guard = none) (s x : Operand)
    (ho : o.op = .call { callee := .builtin .append, args := #[s, x], argTypes := #[22, 22] }) (base : Nat) (v : Value) (xs : List Int) (hs : a.eval s = v) (hown : OwnV wr base v xs)
    (b off cap n : Nat) (ys : List Int) (hn : ys.length = n) (hx : a.eval x = .slice (some ⟨b, off, none⟩) n cap) (hc : ∀ i (h : i < ys.length), wr.cell? ⟨b, off + i, none⟩ = some (.int .i64 ys[i])) (hl : xs.length + ys.length ≤ 1000000) (hb : base ≤ wr.heap.size)
    (h : ∀ v' w', OwnV w' base v' (xs ++ ys) → Below base wr w' → wpList Tryd.prog ops Q rest (a.put o.dst v') w') :
    wpList Tryd.prog ops Q (o :: rest) a wr := by
  subst hn
  obtain ⟨i0, hi, hz0, hz1, hz2⟩ := info_parts info_int
  refine wpList_append_own _ hgd s x 22 ho base 3 i0 (.int .i64 0) 1 8 Tryd.underlying22 hi hz0 hz1 hz2 rfl (by decide) v xs.length _ hs hown ⟨b, off, none⟩ ys.length cap (ys.map (Value.int .i64)) hx (by simp) ?c1 (ints_oneCell _ _) ?c3 ?c4 ?c5 ?_
  case c1 =>
    intro j u hu
    rw [List.getElem?_map] at hu
    by_cases hj : j < ys.length
    · rw [List.getElem?_eq_getElem hj] at hu
      simp only [Option.map_some, Option.some.injEq] at hu
      subst hu
      rw [show (⟨b, off, none⟩ : Addr).add j = ⟨b, off + j, none⟩ from by simp [Addr.add]]
      exact hc j hj
    · rw [List.getElem?_eq_none (by omega)] at hu; cases hu
  case c3 => unfold maxLen; omega
  case c4 => omega
  case c5 => first | omega | (simp; omega) | simp
  intro v' w1 hown' hgrow _
  refine h v' w1 (by unfold OwnV; simpa using hown') ?_
  exact (Below.refl _ _).grown hgrow hb (fun k hk => (World.ownsRow.lt hown k hk).1)
theorem allIn_of {xs : List Int} {b : Int} (h : ∀ x ∈ xs, 0 ≤ x ∧ x < b) : allIn xs 0 (b - 1) = true := by
  rw [allIn_t]
  intro x hx
  have := h x hx
  omega
def fxL (pre per : List Int) : List UInt8 := if pre.length + per.length ≤ 9 then [48, 46] ++ marksT pre ++ (if per.length = 0 then [] else [40] ++ marksT per ++ [41]) else []
theorem expansionOk_any (a a' : Option Addr) (cap cap' : Nat) (xs ys : List Int) (b : Int) (w : World) (hx : Ints w w.heap.size a cap xs) (hy : Ints w w.heap.size a' cap' ys) (hb : inB b 2 16 = true) (hxd : ∀ x ∈ xs, 0 ≤ x ∧ x < b) (hyd : ∀ x ∈ ys, 0 ≤ x ∧ x < b) (hl : xs.length ≤ 5000) (hl2 : ys.length ≤ 5000) :
    Calls Tryd.prog 77 #[.slice a xs.length cap, .slice a' ys.length cap', .int .i64 b] w fun e w' => e = .returned (.bool (decide (xs.length + ys.length ≤ 9))) ∧ Below w.heap.size w w' := by
  obtain ⟨hb1, hb2⟩ := inB_t.1 hb
  have HA : Hid (∀ W : World, Below w.heap.size w W → Calls Tryd.prog 112 #[.slice a xs.length cap, .int .i64 0, .int .i64 (b - 1)] W fun e w' => e = .returned (.bool true) ∧ Below W.heap.size W w') := fun W hW => by rw [← allIn_of hxd]; exact allWithin_any a cap xs 0 (b - 1) W ((hx.below hW).mono hW.size)
  have HB : Hid (∀ W : World, Below w.heap.size w W → Calls Tryd.prog 112 #[.slice a' ys.length cap', .int .i64 0, .int .i64 (b - 1)] W fun e w' => e = .returned (.bool true) ∧ Below W.heap.size W w') := fun W hW => by rw [← allIn_of hyd]; exact allWithin_any a' cap' ys 0 (b - 1) W ((hy.below hW).mono hW.size)
  clear hx hy hxd hyd
  by_cases h9 : xs.length + ys.length ≤ 9
  · have h9' : (xs.length : Int) + (ys.length : Int) ≤ 9 := by omega
    rw [decide_eq_true h9]
    go_enter Tryd.func77, Tryd.ntmps77
    go_wp2_with (go_at_call 75; refine (BaseOk_any _ _).mono ?_; rintro e w' ⟨rfl, rfl⟩)
    refine (HA.out _ (Below.refl _ _)).mono ?_
    rintro e w1 ⟨rfl, hb1⟩
    have HB1 := Lib.hid hb1
    clear hb1
    go_wp2_with fail
    refine (HB.out _ HB1.out).mono ?_
    rintro e w2 ⟨rfl, hb2⟩
    have HB2 := Lib.hid (HB1.out.trans (hb2.mono HB1.out.size))
    clear hb2
    go_wp2_with fail
    go_ret
    exact ⟨rfl, HB2.out⟩
  · have h9' : 9 < (xs.length : Int) + (ys.length : Int) := by omega
    rw [decide_eq_false h9]
    go_enter Tryd.func77, Tryd.ntmps77
    go_wp2_with (go_at_call 75; refine (BaseOk_any _ _).mono ?_; rintro e w' ⟨rfl, rfl⟩)
    go_ret
    exact ⟨rfl, Below.refl _ _⟩
set_option maxRecDepth 8000 in
theorem FormatExpansion_any (a a' : Option Addr) (cap cap' : Nat) (xs ys : List Int) (b : Int) (w : World) (hx : Ints w w.heap.size a cap xs) (hy : Ints w w.heap.size a' cap' ys) (hb : inB b 2 16 = true) (hxd : ∀ x ∈ xs, 0 ≤ x ∧ x < b) (hyd : ∀ x ∈ ys, 0 ≤ x ∧ x < b) (hl : xs.length ≤ 5000) (hl2 : ys.length ≤ 5000) :
    Calls Tryd.prog 38 #[.slice a xs.length cap, .slice a' ys.length cap', .int .i64 b] w fun e w' => e = .returned (.string ⟨(fxL xs ys).toArray⟩) ∧ Below w.heap.size w w' := by
  obtain ⟨hb1, hb2⟩ := inB_t.1 hb
  have HOK : Hid (Calls Tryd.prog 77 #[.slice a xs.length cap, .slice a' ys.length cap', .int .i64 b] w fun e w' => e = .returned (.bool (decide (xs.length + ys.length ≤ 9))) ∧ Below w.heap.size w w') := expansionOk_any a a' cap cap' xs ys b w hx hy hb hxd hyd hl hl2
  have HX := Lib.hid hx
  have HY := Lib.hid hy
  by_cases h9 : xs.length + ys.length ≤ 9
  · rw [decide_eq_true h9] at HOK
    have HM1 : Hid (∀ W : World, Below w.heap.size w W → Calls Tryd.prog 78 #[.slice a xs.length cap] W fun e w' => e = .returned (.string ⟨(marksT xs).toArray⟩) ∧ Below W.heap.size W w') := fun W hW => markText_any a cap xs W ((HX.out.below hW).mono hW.size) (by omega) (fun x hx => by have := hxd x hx; omega)
    have HM2 : Hid (∀ W : World, Below w.heap.size w W → Calls Tryd.prog 78 #[.slice a' ys.length cap'] W fun e w' => e = .returned (.string ⟨(marksT ys).toArray⟩) ∧ Below W.heap.size W w') := fun W hW => markText_any a' cap' ys W ((HY.out.below hW).mono hW.size) (by omega) (fun x hx => by have := hyd x hx; omega)
    have hm1 : (⟨(marksT xs).toArray⟩ : ByteArray).size ≤ 9 := by show (marksT xs).toArray.size ≤ 9; rw [List.size_toArray, marksT_len]; omega
    have hm2 : (⟨(marksT ys).toArray⟩ : ByteArray).size ≤ 9 := by show (marksT ys).toArray.size ≤ 9; rw [List.size_toArray, marksT_len]; omega
    clear hx hy hxd hyd
    by_cases hz : ys.length = 0
    · obtain rfl : ys = [] := List.eq_nil_of_length_eq_zero hz
      have HV : Hid ((⟨#[48, 46]⟩ : ByteArray) ++ ⟨(marksT xs).toArray⟩ = ⟨(fxL xs []).toArray⟩) := by
        show _ = _
        rw [fxL, if_pos h9, if_pos hz, List.append_nil]
        exact ba_app [48, 46] _
      generalize (⟨(marksT xs).toArray⟩ : ByteArray) = s1 at *
      clear HM2 hm2
      go_enter Tryd.func38, Tryd.ntmps38
      go_wp2_with fail
      refine HOK.out.mono ?_
      rintro e w1 ⟨rfl, hb1⟩
      have HB1 := Lib.hid hb1
      clear hb1
      go_wp2_with fail
      refine (HM1.out _ HB1.out).mono ?_
      rintro e w2 ⟨rfl, hb2⟩
      have HB2 := Lib.hid (HB1.out.trans (hb2.mono HB1.out.size))
      clear hb2
      go_wp2_with fail
      go_ret
      exact ⟨by rw [← HV.out] <;> rfl, HB2.out⟩
    · have hpos : 0 < (ys.length : Int) := by omega
      have HV : Hid ((⟨#[48, 46]⟩ : ByteArray) ++ ⟨(marksT xs).toArray⟩ ++ (⟨#[40]⟩ ++ ⟨(marksT ys).toArray⟩ ++ ⟨#[41]⟩) = ⟨(fxL xs ys).toArray⟩) := by
        show _ = _
        rw [fxL, if_pos h9, if_neg hz]
        rw [show (⟨#[48, 46]⟩ : ByteArray) = ⟨[(48 : UInt8), 46].toArray⟩ from rfl, show (⟨#[40]⟩ : ByteArray) = ⟨[(40 : UInt8)].toArray⟩ from rfl, show (⟨#[41]⟩ : ByteArray) = ⟨[(41 : UInt8)].toArray⟩ from rfl]
        simp only [ba_app]
      generalize (⟨(marksT xs).toArray⟩ : ByteArray) = s1 at *
      generalize (⟨(marksT ys).toArray⟩ : ByteArray) = s2 at *
      go_enter Tryd.func38, Tryd.ntmps38
      go_wp2_with fail
      refine HOK.out.mono ?_
      rintro e w1 ⟨rfl, hb1⟩
      have HB1 := Lib.hid hb1
      clear hb1
      go_wp2_with fail
      refine (HM1.out _ HB1.out).mono ?_
      rintro e w2 ⟨rfl, hb2⟩
      have HB2 := Lib.hid (HB1.out.trans (hb2.mono HB1.out.size))
      clear hb2
      go_wp2_with fail
      refine (HM2.out _ HB2.out).mono ?_
      rintro e w3 ⟨rfl, hb3⟩
      have HB3 := Lib.hid (HB2.out.trans (hb3.mono HB2.out.size))
      clear hb3
      go_wp2_with fail
      go_ret
      exact ⟨by rw [← HV.out] <;> rfl, HB3.out⟩
  · rw [decide_eq_false h9] at HOK
    have HV : Hid (fxL xs ys = []) := by show _ = _; rw [fxL, if_neg h9]
    clear hx hy hxd hyd
    go_enter Tryd.func38, Tryd.ntmps38
    go_wp2_with fail
    refine HOK.out.mono ?_
    rintro e w1 ⟨rfl, hb1⟩
    have HB1 := Lib.hid hb1
    clear hb1
    go_wp2_with fail
    go_ret
    exact ⟨by rw [HV.out] <;> rfl, HB1.out⟩

end Go.Proofs.YtdpddbajeldgiaaDoor
