/- l22Cycle: the reference's way to the cycle. Conditions: those of each contract. -/
import Derived.Test.YtdpddbajeldgiaaDoorCycC
import Derived.Deep.RegionLaw
namespace Go.Proofs.YtdpddbajeldgiaaDoor
set_option linter.unusedVariables false
open Go.RowKit

/-- 'append(out, ys...)' onto a slice of the call's own, as a step of a region that draws -/
theorem step_append_many {ops : Array Oper} {o : Oper} {a : Act} {K : Act → World → Prop} {Q : Exit → Act → World → Prop} {E : Prop} {wr : World} (hgd : o.guard = none) (s x : Operand)
    (ho : o.op = .call { callee := .builtin .append, args := #[s, x], argTypes := #[22, 22] }) (base : Nat) (v : Value) (xs : List Int) (hs : a.eval s = v) (hown : OwnV wr base v xs)
    (b off cap n : Nat) (ys : List Int) (hn : ys.length = n) (hx : a.eval x = .slice (some ⟨b, off, none⟩) n cap) (hc : ∀ i (h : i < ys.length), wr.cell? ⟨b, off + i, none⟩ = some (.int .i64 ys[i])) (hl : xs.length + ys.length ≤ 1000000000) (hb : base ≤ wr.heap.size)
    (h : ∀ v' w', OwnV w' base v' (xs ++ ys) → Below base wr w' → K (a.put o.dst v') w') :
    if Region.wanted o (yielded ops a.tmps) = true then Oper.wp Tryd.prog o a wr K Q else E := by
  have hw : Region.wanted o (yielded ops a.tmps) = true := by simp [Region.wanted, hgd]
  rw [if_pos hw]
  subst hn
  obtain ⟨i0, hi, hz0, hz1, hz2⟩ := info_parts info_int
  refine wp_append_own _ s x 22 ho base 3 i0 (.int .i64 0) 1 8 Tryd.underlying22 hi hz0 hz1 hz2 rfl (by decide) v xs.length _ hs hown ⟨b, off, none⟩ ys.length cap (ys.map (Value.int .i64)) hx (by simp) ?c1 (ints_oneCell _ _) ?c3 ?c4 ?c5 ?_
  case c1 =>
    intro j u hu
    rw [List.getElem?_map] at hu
    by_cases hj : j < ys.length
    · rw [List.getElem?_eq_getElem hj] at hu
      simp only [Option.map_some, Option.some.injEq] at hu
      subst hu
      rw [show (⟨b, off, none⟩ : Addr).add j = ⟨b, off + j, none⟩ from by simp [Addr.add]]
      exact hc j hj
    · rw [List.getElem?_eq_none (by omega)] at hu; cases hu
  case c3 => unfold maxLen; omega
  case c4 => omega
  case c5 => first | omega | (simp; omega) | simp
  intro v' w1 hown' hgrow _
  refine h v' w1 (by unfold OwnV; simpa using hown') ?_
  exact (Below.refl _ _).grown hgrow hb (fun k hk => (World.ownsRow.lt hown k hk).1)
/-- the last place below k where x stands, or -1 -/
def scanI (xs : List Int) (x : Int) : Nat → Int
  | 0 => -1
  | k + 1 => if xs.getD k 0 = x then (k : Int) else scanI xs x k
theorem scanI_bd (xs : List Int) (x : Int) (k : Nat) : -1 ≤ scanI xs x k ∧ scanI xs x k < k := by
  induction k with
  | zero => exact ⟨by simp [scanI], by simp [scanI]⟩
  | succ k ih => rw [scanI]; split <;> omega
theorem scanI_none (xs : List Int) (x : Int) (h : x ∉ xs) : ∀ k, k ≤ xs.length → scanI xs x k = -1 := by
  intro k
  induction k with
  | zero => intro _; rfl
  | succ k ih =>
    intro hk
    rw [scanI, if_neg, ih (by omega)]
    rw [getD_at xs k hk]
    exact fun e => h (e ▸ List.getElem_mem hk)
theorem scanI_some (xs : List Int) (x : Int) (hn : xs.Nodup) (h : x ∈ xs) : ∀ k, k ≤ xs.length → scanI xs x k = if xs.idxOf x < k then ((xs.idxOf x : Nat) : Int) else -1 := by
  have hl := List.idxOf_lt_length_of_mem h
  have hg : xs[xs.idxOf x] = x := List.getElem_idxOf hl
  intro k
  induction k with
  | zero => intro _; simp [scanI]
  | succ k ih =>
    intro hk
    have hk' : k < xs.length := hk
    rw [scanI, getD_at xs k hk', ih (by omega)]
    by_cases e : xs[k] = x
    · have hik : xs.idxOf x = k := by
        rcases Nat.lt_trichotomy (xs.idxOf x) k with h1 | h1 | h1
        · exact absurd (hg.trans e.symm) (List.pairwise_iff_getElem.1 hn _ _ hl hk' h1)
        · exact h1
        · exact absurd (e.trans hg.symm) (List.pairwise_iff_getElem.1 hn _ _ hk' hl h1)
      rw [if_pos e, if_pos (by omega), hik]
    · rw [if_neg e]
      have hne : xs.idxOf x ≠ k := fun e2 => e (by subst e2; exact hg)
      by_cases h2 : xs.idxOf x < k
      · rw [if_pos h2, if_pos (by omega)]
      · rw [if_neg h2, if_neg (by omega)]
/-- a call returns the cycle, and after how many steps it begins -/
def RetL (w : World) (i : Nat) (xs : List Int) (e : Ending) (w' : World) : Prop :=
  ∃ a cap, e = .returned (.tuple #[.slice a xs.length cap, .int .i64 i]) ∧ OwnI w' w.heap.size a cap xs ∧ Below w.heap.size w w'
set_option maxRecDepth 8000 in
set_option maxHeartbeats 2000000 in
theorem l22Cycle_any (b e kd : Int) (M : Nat) (N : Int) (st : Int → Int) (n : Int) (w : World) (hs : stays st M N) (h0 : 0 ≤ n) (h1 : n ≤ N)
    (hst : ∀ (x : Int) (W : World), 0 ≤ x → x ≤ N → Calls Tryd.prog 118 #[.int .i64 x, .int .i64 b, .int .i64 e, .int .i64 kd] W fun r w' => r = .returned (.int .i64 (st x)) ∧ Below W.heap.size W w') :
    Calls Tryd.prog 95 #[.int .i64 n, .int .i64 b, .int .i64 e, .int .i64 kd] w (RetL w (cycI st n) (cycR st n)) := by
  have HS := Lib.hid hst
  have HBD : Hid (∀ k, 0 ≤ it st n k ∧ it st n k ≤ N) := fun k => ⟨(it_bd hs h0 h1 k).1, (it_bd hs h0 h1 k).2.1⟩
  have HLE : Hid (∀ k, (itL st n k).Nodup → k ≤ M + 1) := fun k hk => itL_le hs h0 h1 hk
  obtain ⟨hM, hN, -⟩ := hs.1
  clear hst hs
  have hrow : Hid (OwnV (w.alloc (.cells #[] 3)) w.heap.size (.slice (some ⟨w.heap.size, 0, none⟩) 0 0) []) := OwnV.lit0 _ _ (Nat.le_refl _)
  go_enter Tryd.func95, Tryd.ntmps95
  go_wp2_with fail
  go_loopw [0, 10, 11] (fun nv lv pv wr => ∃ j : Nat, nv = .int .i64 (it st n j) ∧ OwnV wr w.heap.size lv (itL st n j) ∧ Below w.heap.size w wr ∧ ((pv = .int .i64 (-1) ∧ (itL st n (j + 1)).Nodup) ∨ (pv = .int .i64 (((itL st n j).idxOf (it st n j) : Nat) : Int) ∧ hit st n j))) (fun _ lv _ _ => M + 3 - sliceLen lv)
  case atStart => exact ⟨0, rfl, hrow.out, (Below.refl _ _).alloc (Nat.le_refl _) _, Or.inl ⟨rfl, by simp [itL]⟩⟩
  case round =>
    obtain ⟨j, rfl, hown, hb, hor⟩ := hrel
    have hdl := itL_len (st := st) (n := n) j
    obtain ⟨r0, r1⟩ := HBD.out j
    have HB := Lib.hid hb
    have HDL := Lib.hid hdl
    have hbs := HB.out.size
    clear hb
    rcases hor with ⟨rfl, hnd⟩ | ⟨rfl, hht⟩
    · have hjm := HLE.out (j + 1) hnd
      have HND := Lib.hid hnd
      have HRN : Hid (it st n (j + 1) = st (it st n j)) := rfl
      have HDN : Hid (itL st n j ++ [it st n j] = itL st n (j + 1)) := rfl
      have hdl2 := itL_len (st := st) (n := n) (j + 1)
      have hbd2 := HBD.out (j + 1)
      have HST : Hid (∀ W : World, Calls Tryd.prog 118 #[.int .i64 (it st n j), .int .i64 b, .int .i64 e, .int .i64 kd] W fun r w' => r = .returned (.int .i64 (it st n (j + 1))) ∧ Below W.heap.size W w') := fun W => HS.out _ W r0 r1
      obtain ⟨ad, cd, rfl, hoi⟩ := hown.own
      have hov := hoi.ownV
      rw [hdl] at hov
      rw [hdl]
      clear hown hoi hnd
      go_wp2_with (at_builtin; refine wpList_append_int rfl _ _ rfl w.heap.size _ _ rfl hov (it st n j) rfl (by omega) (by omega) ?_; intro v' w3 hown3 hbl3)
      rw [HDN.out] at hown3
      have HB3 := Lib.hid (HB.out.trans hbl3)
      obtain ⟨a3, c3, rfl, ho3⟩ := hown3.own
      obtain ⟨g3, rfl, hg31, hg32, hg33⟩ := ho3.someN (by omega)
      have HO3 := Lib.hid ho3
      clear hbl3 hown3 ho3 hov
      rw [hdl2]
      refine (HST.out _).mono ?_
      rintro r w4 ⟨rfl, hb4⟩
      have HB4 := Lib.hid (HB3.out.trans (hb4.mono HB3.out.size))
      have HO4 := Lib.hid (HO3.out.ownV.kept hb4)
      have hcx4 : Hid (∀ k (h : k < (itL st n (j + 1)).length), w4.cell? ⟨g3, k, none⟩ = some (.int .i64 (itL st n (j + 1))[k])) := by
        intro k h
        have h2 := World.ownsRow.cellAt HO4.out k (by omega)
        rw [List.getElem?_map (l := itL st n (j + 1)), List.getElem?_eq_getElem h] at h2
        exact h2
      rw [hdl2] at HO4
      have HL2 := Lib.hid hdl2
      clear hb4 hdl2
      have HSB := Lib.hid (scanI_bd (itL st n (j + 1)) (it st n (j + 1)))
      have HSN : Hid (∀ k (h : k < (itL st n (j + 1)).length), scanI (itL st n (j + 1)) (it st n (j + 1)) (k + 1) = if (itL st n (j + 1))[k] = it st n (j + 1) then (k : Int) else scanI (itL st n (j + 1)) (it st n (j + 1)) k) := fun k h => by rw [scanI, getD_at _ k h]
      go_wp2_with fail
      go_loop [11, 32] (fun pv iv => ∃ k : Nat, k ≤ j + 1 ∧ iv = .int .i64 k ∧ pv = .int .i64 (scanI (itL st n (j + 1)) (it st n (j + 1)) k)) (fun _ iv => j + 1 - (intOf iv).toNat)
      case atStart => exact ⟨0, Nat.zero_le _, rfl, rfl⟩
      case round =>
        obtain ⟨k, hk, rfl, rfl⟩ := hrel
        by_cases hlt : k < j + 1
        · have hkl : k < (itL st n (j + 1)).length := by rw [HL2.out]; exact hlt
          have hcx := hcx4.out k hkl
          have hsn := HSN.out k hkl
          by_cases heq : (itL st n (j + 1))[k] = it st n (j + 1)
          · rw [if_pos heq] at hsn
            have hz : ((itL st n (j + 1))[k] == it st n (j + 1)) = true := by rw [heq]; exact beq_self_eq_true _
            have HSN2 := Lib.hid hsn
            clear heq hsn
            go_wp2_with fail
            go_round
            case rel => exact ⟨k + 1, by omega, by go_num, by rw [HSN2.out]⟩
            case measure => simp [intOf]; omega
          · rw [if_neg heq] at hsn
            have hz : ((itL st n (j + 1))[k] == it st n (j + 1)) = false := by rw [beq_eq_false_iff_ne]; exact heq
            have HSN2 := Lib.hid hsn
            clear heq hsn
            go_wp2_with fail
            go_round
            case rel => exact ⟨k + 1, by omega, by go_num, by rw [HSN2.out]⟩
            case measure => simp [intOf]; omega
        · go_wp2_with fail
          go_roundw
          case rel =>
            refine ⟨j + 1, rfl, HO4.out, HB4.out, ?_⟩
            obtain rfl : k = j + 1 := by omega
            by_cases hm : it st n (j + 1) ∈ itL st n (j + 1)
            · refine Or.inr ⟨?_, HND.out, hm⟩
              rw [scanI_some _ _ HND.out hm (j + 1) (by rw [HL2.out]; exact Nat.le_refl _), if_pos]
              rw [← HL2.out]
              have := List.idxOf_lt_length_of_mem hm
              rw [HL2.out] at this ⊢
              exact this
            · exact Or.inl ⟨by rw [scanI_none _ _ hm (j + 1) (by rw [HL2.out]; exact Nat.le_refl _)], itL_nodup HND.out hm⟩
          case measure => simp [sliceLen]; omega
    · obtain ⟨e1, e2, hix⟩ := cyc_of hht
      have hjm := HLE.out j hht.1
      have HE1 := Lib.hid e1
      have HE2 := Lib.hid e2
      clear e1 e2 hht
      generalize (itL st n j).idxOf (it st n j) = i at *
      obtain ⟨ad, cd, rfl, hoi⟩ := hown.own
      obtain ⟨g, rfl, hg1, hg2, hg3⟩ := hoi.someN (by omega)
      have hI := hoi.ints.part i (by omega) hg2
      rw [hdl] at hg3
      have hcl : ((itL st n j).drop i).length = j - i := by rw [List.length_drop, hdl]
      have HE3 : Hid (cycR st n = turnL ((itL st n j).drop i)) := by show _ = _; rw [cycR, HE2.out]
      clear hown hoi HE2
      rw [hdl]
      generalize (itL st n j).drop i = c at *
      have HCL := Lib.hid hcl
      have HAL : Hid (∀ k, k ≤ j - i → amP c k < j - i) := fun k hk => by rw [← HCL.out]; exact amP_lt c (by rw [HCL.out]; omega) k (by rw [HCL.out]; exact hk)
      have HE4 : Hid (turnL c = c.drop (amP c (j - i)) ++ c.take (amP c (j - i))) := by show _ = _; rw [turnL, HCL.out]
      have HCE : Hid (∀ k (h : k < c.length), wr.cell? ⟨g, i + k, none⟩ = some (.int .i64 c[k])) := by
        obtain ⟨-, -, b', o', q1, q2⟩ := hI
        obtain ⟨q3, -⟩ := q1 (by omega)
        simp only [Option.some.injEq, Addr.mk.injEq, and_true] at q3
        obtain ⟨rfl, rfl⟩ := q3
        exact q2
      have HCD : Hid (∀ k, k < j - i → wr.cell? ⟨g, i + k, none⟩ = some (.int .i64 (c.getD k 0))) := fun k hk => by
        have hk2 : k < c.length := by rw [HCL.out]; exact hk
        rw [getD_at c k hk2]; exact HCE.out k hk2
      have HAN : Hid (∀ k, amP c (k + 1) = if c.getD k 0 < c.getD (amP c k) 0 then k else amP c k) := fun k => rfl
      have hcne : ¬ cd = i := by omega
      have hicd : i ≤ cd := by omega
      have hwi : IntKind.i64.wrap (i : Int) = i := by rw [IntKind.wrap_i64]; omega
      clear hI hcl
      go_wp2_with fail
      go_loop [15, 47] (fun lv kv => ∃ k : Nat, k ≤ j - i ∧ kv = .int .i64 k ∧ lv = .int .i64 (amP c k)) (fun _ kv => (j - i) - (intOf kv).toNat)
      case atStart => exact ⟨0, Nat.zero_le _, rfl, rfl⟩
      case round =>
        obtain ⟨k, hk, rfl, rfl⟩ := hrel
        have hal := HAL.out k hk
        by_cases hlt : k < j - i
        · have hcx := HCD.out k hlt
          have hcy := HCD.out (amP c k) hal
          have han := HAN.out k
          by_cases hle : c.getD k 0 < c.getD (amP c k) 0
          · rw [if_pos hle] at han
            have HAN2 := Lib.hid han
            clear han
            generalize amP c k = l at *
            generalize c.getD k 0 = x at *
            generalize c.getD l 0 = y at *
            go_wp2_with fail
            go_round
            case rel => exact ⟨k + 1, by omega, by go_num, by rw [HAN2.out]⟩
            case measure => simp [intOf]; omega
          · rw [if_neg hle] at han
            have HAN2 := Lib.hid han
            clear han
            generalize amP c k = l at *
            generalize c.getD k 0 = x at *
            generalize c.getD l 0 = y at *
            go_wp2_with fail
            go_round
            case rel => exact ⟨k + 1, by omega, by go_num, by rw [HAN2.out]⟩
            case measure => simp [intOf]; omega
        · obtain rfl : k = j - i := by omega
          have HCE1 : Hid (∀ W : World, Below wr.heap.size wr W → ∀ k (h : k < (c.drop (amP c (j - i))).length), W.cell? ⟨g, i + amP c (j - i) + k, none⟩ = some (.int .i64 (c.drop (amP c (j - i)))[k])) := fun W hW k hk => by
            rw [List.length_drop] at hk
            rw [hW.cell (p := ⟨g, i + amP c (j - i) + k, none⟩) hg2, List.getElem_drop, Nat.add_assoc]
            exact HCE.out (amP c (j - i) + k) (by omega)
          have HCE2 : Hid (∀ W : World, Below wr.heap.size wr W → ∀ k (h : k < (c.take (amP c (j - i))).length), W.cell? ⟨g, i + k, none⟩ = some (.int .i64 (c.take (amP c (j - i)))[k])) := fun W hW k hk => by
            rw [List.length_take] at hk
            rw [hW.cell (p := ⟨g, i + k, none⟩) hg2, List.getElem_take]
            exact HCE.out k (by omega)
          have HL1 : Hid ((c.drop (amP c (j - i))).length = j - i - amP c (j - i)) := by show _ = _; rw [List.length_drop, HCL.out]
          have HL2 : Hid ((c.take (amP c (j - i))).length = amP c (j - i)) := by show _ = _; rw [List.length_take, HCL.out]; omega
          have HTL : Hid ((cycR st n).length = j - i) := by show _ = _; rw [HE3.out, turnL_len, HCL.out]
          have HE5 : Hid (cycR st n = c.drop (amP c (j - i)) ++ c.take (amP c (j - i))) := by show _ = _; rw [HE3.out, HE4.out]
          generalize c.drop (amP c (j - i)) = d1 at *
          generalize c.take (amP c (j - i)) = d2 at *
          clear HE3 HE4 HCE HCD HAN HAL
          generalize amP c (j - i) = l at *
          have hlc : ¬ cd - i = l := by omega
          have hlj : l ≤ j - i := by omega
          have hld : l ≤ cd - i := by omega
          go_wp2_with fail
          have hol : OwnV (wr.alloc (.cells #[] 3)).drew wr.heap.size (.slice (some ⟨wr.heap.size, 0, none⟩) 0 0) [] := OwnV.lit0 wr _ (Nat.le_refl _)
          have hb0 : Below wr.heap.size wr (wr.alloc (.cells #[] 3)).drew := ((Below.refl _ _).alloc (Nat.le_refl _) _).drew
          have HOL := Lib.hid hol
          have HB0 := Lib.hid hb0
          clear hol hb0
          go_region_law (first
            | (refine step_append_many rfl (.tmp 60) (.tmp 63) rfl wr.heap.size _ [] rfl HOL.out g (i + l) (cd - i - l) (j - i - l) d1 HL1.out rfl (HCE1.out _ HB0.out) (by have := HL1.out; simp; omega) HB0.out.size ?_; intro v5 w5 ho5 hb5)
            | (refine step_append_many rfl (.tmp 64) (.tmp 67) rfl wr.heap.size _ ([] ++ d1) rfl ho5 g i (cd - i) l d2 HL2.out rfl (HCE2.out _ (HB0.out.trans hb5)) (by have := HL1.out; have := HL2.out; simp; omega) (Nat.le_trans HB0.out.size hb5.size) ?_; intro v6 w6 ho6 hb6))
          all_goals
            have HB6 := Lib.hid (HB0.out.trans (hb5.trans hb6))
            have ho7 : OwnV w6 wr.heap.size v6 (cycR st n) := by rw [HE5.out]; simpa using ho6
            obtain ⟨a7, c7, rfl, ho8⟩ := ho7.own
            have HO8 := Lib.hid (ho8.lower HB.out.size)
            clear ho5 hb5 ho6 hb6 ho7 ho8
            go_wp2_with fail
            go_ret2
            exact ⟨a7, c7, by rw [HE1.out] <;> rfl, HO8.out, HB.out.trans (HB6.out.mono HB.out.size)⟩

end Go.Proofs.YtdpddbajeldgiaaDoor
