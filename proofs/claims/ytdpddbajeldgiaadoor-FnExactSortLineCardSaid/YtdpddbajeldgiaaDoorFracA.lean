/- Expansions: ExpansionOf, program and reference. Conditions: those of each contract. -/
import Derived.Test.YtdpddbajeldgiaaDoorFracP
import Derived.Test.YtdpddbajeldgiaaDoorMapI
import Derived.Lib.BufferMore
import Derived.Deep.RegionWith
namespace Go.Proofs.YtdpddbajeldgiaaDoor
set_option linter.unusedVariables false
open Go.RowKit

theorem Clone_any (a : Option Addr) (cap : Nat) (xs : List Int) (w : World) (hx : Ints w w.heap.size a cap xs) (h1 : 0 < xs.length) (h2 : xs.length ≤ 1048576) :
    Calls Tryd.prog 76 #[.slice a xs.length cap] w (RetI w xs) := by
  obtain ⟨-, -, b, off, ha, hc⟩ := hx
  obtain ⟨rfl, hb⟩ := ha h1
  have HB := Lib.hid hb; clear ha hb
  have HC := Lib.hid hc; clear hc
  obtain ⟨i0, hi, hz0, hz1, hz2⟩ := info_parts info_int
  have hq := fun (w : World) => Lib.run_eql_slice_nil (P := Tryd.prog) w 22 3 (some ⟨b, off, none⟩) xs.length cap 0 0 Tryd.underlying22
  go_enter Tryd.func76, Tryd.ntmps76
  go_wp2_with (at_builtin; refine wpList_append_own _ rfl _ _ 22 rfl w.heap.size 3 i0 (.int .i64 0) 1 8 Tryd.underlying22 hi hz0 hz1 hz2 rfl (by decide) _ 0 [] rfl (OwnV.lit0 _ _ (Nat.le_refl _)) ⟨b, off, none⟩ xs.length cap (xs.map (Value.int .i64)) rfl (by simp) ?c1 (ints_oneCell _ _) ?c3 ?c4 ?c5 ?_)
  case c1 =>
    intro j u hu
    rw [List.getElem?_map] at hu
    by_cases hj : j < xs.length
    · rw [List.getElem?_eq_getElem hj] at hu
      simp only [Option.map_some, Option.some.injEq] at hu
      subst hu
      rw [show (⟨b, off, none⟩ : Addr).add j = ⟨b, off + j, none⟩ from by simp [Addr.add], World.cell?_alloc_past _ _ _ HB.out]
      exact HC.out j hj
    · rw [List.getElem?_eq_none (by omega)] at hu; cases hu
  case c3 => unfold maxLen; omega
  case c4 => omega
  case c5 => simp
  intro v' w1 hown' hgrow _
  have hb1 : Below w.heap.size w w1 := ((Below.refl _ _).alloc (Nat.le_refl _) _).grown hgrow (by simp) (fun k hk => by simp [Value.ownBlock] at hk; omega)
  have HO : Hid (OwnV w1 w.heap.size v' xs) := by show OwnV _ _ _ _; unfold OwnV; simpa using hown'
  have HB1 := Lib.hid hb1
  clear hown' hgrow hb1
  go_wp2
  go_ret
  exact HO.out.ret HB1.out
theorem Clone_zero (b off cap : Nat) (w : World) :
    Calls Tryd.prog 76 #[.slice (some ⟨b, off, none⟩) 0 cap] w (RetI w []) := by
  have hq := fun (w : World) => Lib.run_eql_slice_nil (P := Tryd.prog) w 22 3 (some ⟨b, off, none⟩) 0 cap 0 0 Tryd.underlying22
  obtain ⟨i0, hi, hz0, hz1, hz2⟩ := info_parts info_int
  go_enter Tryd.func76, Tryd.ntmps76
  go_wp2_with (at_builtin; refine wpList_append_own _ rfl _ _ 22 rfl w.heap.size 3 i0 (.int .i64 0) 1 8 Tryd.underlying22 hi hz0 hz1 hz2 rfl (by decide) _ 0 [] rfl (OwnV.lit0 _ _ (Nat.le_refl _)) ⟨b, off, none⟩ 0 cap [] rfl (by simp) (by intro j u hu; simp at hu) (by intro u hu; simp at hu) (by unfold maxLen; omega) (by omega) (by simp) ?_)
  intro v' w1 hown' hgrow _
  have hb1 : Below w.heap.size w w1 := ((Below.refl _ _).alloc (Nat.le_refl _) _).grown hgrow (by simp) (fun k hk => by simp [Value.ownBlock] at hk; omega)
  have HO : Hid (OwnV w1 w.heap.size v' []) := by show OwnV _ _ _ _; unfold OwnV; simpa using hown'
  have HB1 := Lib.hid hb1
  clear hown' hgrow hb1
  go_wp2
  go_ret
  exact HO.out.ret HB1.out
theorem Clone_all (b off cap : Nat) (xs : List Int) (n : Nat) (w : World) (hn : xs.length = n) (hx : Ints w w.heap.size (some ⟨b, off, none⟩) cap xs) (h2 : n ≤ 1048576) :
    Calls Tryd.prog 76 #[.slice (some ⟨b, off, none⟩) n cap] w (RetI w xs) := by
  subst hn
  by_cases h : 0 < xs.length
  · exact Clone_any _ cap xs w hx h h2
  · obtain rfl : xs = [] := List.eq_nil_of_length_eq_zero (by omega)
    exact Clone_zero b off cap w
theorem isFraction_any (p q : Int) (w : World) :
    Calls Tryd.prog 74 #[.int .i64 p, .int .i64 q] w fun e w' => e = .returned (.bool (inB q 1 1000 && inB p 0 (q - 1))) ∧ w = w' := by
  cases hq : inB q 1 1000
  · go_enter Tryd.func74, Tryd.ntmps74
    go_wp2_with (go_at_call 87; refine (within_any _ _ _ _).mono ?_; rintro e w' ⟨rfl, rfl⟩)
    go_ret
    exact ⟨by simp, rfl⟩
  · obtain ⟨q1, q2⟩ := inB_t.1 hq
    go_enter Tryd.func74, Tryd.ntmps74
    go_wp2_with (go_at_call 87; refine (within_any _ _ _ _).mono ?_; rintro e w' ⟨rfl, rfl⟩)
    go_ret
    exact ⟨by simp, rfl⟩
theorem l14Ok_any (p q b : Int) (w : World) :
    Calls Tryd.prog 69 #[.int .i64 p, .int .i64 q, .int .i64 b] w fun e w' => e = .returned (.bool (fracOk p q b)) ∧ w = w' := by
  have HF : Hid (fracOk p q b = (inB q 1 1000 && inB p 0 (q - 1) && inB b 2 16)) := rfl
  cases hb : inB b 2 16
  · have HB := Lib.hid hb
    go_enter Tryd.func69, Tryd.ntmps69
    go_wp2_with (first | (go_at_call 83; refine (sBaseOk_any _ _).mono ?_; rintro e w' ⟨rfl, rfl⟩) | (go_at_call 84; refine (l01In_any _ _ _ _).mono ?_; rintro e w' ⟨rfl, rfl⟩))
    go_ret
    exact ⟨by rw [HF.out, HB.out]; simp, rfl⟩
  have HB := Lib.hid hb
  cases hq : inB q 1 1000
  · have HQ := Lib.hid hq
    go_enter Tryd.func69, Tryd.ntmps69
    go_wp2_with (first | (go_at_call 83; refine (sBaseOk_any _ _).mono ?_; rintro e w' ⟨rfl, rfl⟩) | (go_at_call 84; refine (l01In_any _ _ _ _).mono ?_; rintro e w' ⟨rfl, rfl⟩))
    go_ret
    exact ⟨by rw [HF.out, HB.out, HQ.out]; simp, rfl⟩
  · have HQ := Lib.hid hq
    obtain ⟨q1, q2⟩ := inB_t.1 hq
    go_enter Tryd.func69, Tryd.ntmps69
    go_wp2_with (first | (go_at_call 83; refine (sBaseOk_any _ _).mono ?_; rintro e w' ⟨rfl, rfl⟩) | (go_at_call 84; refine (l01In_any _ _ _ _).mono ?_; rintro e w' ⟨rfl, rfl⟩))
    go_ret
    exact ⟨by rw [HF.out, HB.out, HQ.out]; simp, rfl⟩
theorem Ints.takeF {w : World} {B : Nat} {a : Option Addr} {cap : Nat} {xs : List Int} (h : Ints w B a cap xs) (k : Nat) (hk : k ≤ xs.length) : Ints w B a cap (xs.take k) := by
  obtain ⟨h1, h2, b, off, h3, h4⟩ := h
  refine ⟨by simp; omega, h2, b, off, fun h => h3 (by simp at h; omega), fun i hi => ?_⟩
  rw [List.getElem_take]
  exact h4 i (by simp at hi; omega)
theorem OwnV.turn {w w' : World} {base b : Nat} {v : Value} {xs : List Int} (h : OwnV w base v xs) (hg : w.grownBy w' (some b)) (hb : b < base) : OwnV w' base v xs := by
  refine World.ownsRow.kept (row := some b) h hg ?_
  cases hv : v.ownBlock with
  | none => simp
  | some g =>
    have := (World.ownsRow.lt h g hv).1
    simp
    omega
def sliceLen : Value → Nat
  | .slice _ n _ => n
  | _ => 0
theorem i64W_of (n : Int) (h0 : -9223372036854775808 ≤ n) (h1 : n ≤ 9223372036854775807) : i64W n := by
  simp [i64W, Lit.wf, IntKind.min, IntKind.max, IntKind.signed, IntKind.bits]
  omega
/-- a call returns two slices of the integers xs, ys, and a bool -/
def RetTwo (w : World) (xs ys : List Int) (ok : Bool) (e : Ending) (w' : World) : Prop :=
  ∃ a cap a' cap', e = .returned (.tuple #[.slice a xs.length cap, .slice a' ys.length cap', .bool ok]) ∧ Ints w' w'.heap.size a cap xs ∧ Ints w' w'.heap.size a' cap' ys ∧ Below w.heap.size w w'
theorem Ints.none0 (w : World) (B : Nat) : Ints w B none 0 [] := ⟨by simp, by simp [maxLen], 0, 0, by simp, by simp⟩
theorem OwnI.someN {w : World} {base : Nat} {a : Option Addr} {cap : Nat} {xs : List Int} (h : OwnI w base a cap xs) (hl : xs.length ≠ 0) : ∃ g, a = some ⟨g, 0, none⟩ ∧ base ≤ g ∧ g < w.heap.size ∧ xs.length ≤ cap := by
  rcases h.2 with ⟨hv, hn⟩ | ⟨g, cap', cur, hv, hg, hh, hnc, r⟩
  · omega
  · simp only [Value.slice.injEq] at hv
    obtain ⟨h1, -, h3⟩ := hv
    exact ⟨g, h1, hg, lt_of_block hh, by omega⟩
theorem Ints.part {w : World} {B g cap : Nat} {xs : List Int} (h : Ints w B (some ⟨g, 0, none⟩) cap xs) (i : Nat) (hi : i ≤ xs.length) (hg : g < B) : Ints w B (some ⟨g, i, none⟩) (cap - i) (xs.drop i) := by
  obtain ⟨h1, h2, b, off, h3, h4⟩ := h
  refine ⟨by simp; omega, by omega, g, i, fun _ => ⟨rfl, hg⟩, fun j hj => ?_⟩
  have hj2 : i + j < xs.length := by simp at hj; omega
  obtain ⟨e, -⟩ := h3 (by omega)
  simp only [Option.some.injEq, Addr.mk.injEq, and_true] at e
  obtain ⟨rfl, rfl⟩ := e
  have h5 := h4 (i + j) hj2
  rw [Nat.zero_add] at h5
  rw [List.getElem_drop]
  exact h5
set_option maxRecDepth 8000 in
set_option maxHeartbeats 1000000 in
theorem ExpansionOf_any (p q b : Int) (w : World) :
    Calls Tryd.prog 37 #[.int .i64 p, .int .i64 q, .int .i64 b] w (RetTwo w (preR p q b) (perR p q b) (fracOk p q b)) := by
  have HF : Hid (fracOk p q b = (inB q 1 1000 && inB p 0 (q - 1) && inB b 2 16)) := rfl
  cases hA : (inB q 1 1000 && inB p 0 (q - 1))
  · have hF : fracOk p q b = false := by rw [HF.out, hA]; rfl
    have HP : Hid (preR p q b = []) := by show _ = _; simp [preR, hF]
    have HQ : Hid (perR p q b = []) := by show _ = _; simp [perR, hF]
    have HF2 := Lib.hid hF
    clear hF
    go_enter Tryd.func37, Tryd.ntmps37
    go_wp2_with (first | (go_at_call 74; refine (isFraction_any _ _ _).mono ?_; rintro e w' ⟨rfl, rfl⟩) | (go_at_call 75; refine (BaseOk_any _ _).mono ?_; rintro e w' ⟨rfl, rfl⟩))
    go_ret3
    rw [HP.out, HQ.out, HF2.out]
    exact ⟨none, 0, none, 0, rfl, Ints.none0 _ _, Ints.none0 _ _, Below.refl _ _⟩
  cases hB : inB b 2 16
  · have hF : fracOk p q b = false := by rw [HF.out, hB]; simp
    have HP : Hid (preR p q b = []) := by show _ = _; simp [preR, hF]
    have HQ : Hid (perR p q b = []) := by show _ = _; simp [perR, hF]
    have HF2 := Lib.hid hF
    clear hF
    go_enter Tryd.func37, Tryd.ntmps37
    go_wp2_with (first | (go_at_call 74; refine (isFraction_any _ _ _).mono ?_; rintro e w' ⟨rfl, rfl⟩) | (go_at_call 75; refine (BaseOk_any _ _).mono ?_; rintro e w' ⟨rfl, rfl⟩))
    go_ret3
    rw [HP.out, HQ.out, HF2.out]
    exact ⟨none, 0, none, 0, rfl, Ints.none0 _ _, Ints.none0 _ _, Below.refl _ _⟩
  have hF : fracOk p q b = true := by rw [HF.out, hA, hB]; rfl
  obtain ⟨h1, h2, h3, h4, h5, h6⟩ := fracOk_t hF
  have HF2 := Lib.hid hF
  have HRB : Hid (∀ k, 0 ≤ rs p q b k ∧ rs p q b k < q) := rs_bd hF
  have HRM : Hid (∀ k, 0 ≤ rs p q b k * b ∧ rs p q b k * b ≤ 16000 ∧ 0 ≤ dg p q b k ∧ dg p q b k < b) := rs_mul hF
  clear hF
  have hmm := @run_makeMap Tryd.prog
  go_enter Tryd.func37, Tryd.ntmps37
  go_wp2_with (first | (go_at_call 74; refine (isFraction_any _ _ _).mono ?_; rintro e w' ⟨rfl, rfl⟩) | (go_at_call 75; refine (BaseOk_any _ _).mono ?_; rintro e w' ⟨rfl, rfl⟩))
  clear hA hB
  go_loopw [0, 10] (fun pv v wr => ∃ j : Nat, pv = .int .i64 (rs p q b j) ∧ OwnV wr (w.heap.size + 1) v (dgs p q b j) ∧ MapI wr w.heap.size j (ixR p q b j) ∧ Below w.heap.size w wr ∧ stF p q b j ∧ w.heap.size < wr.heap.size) (fun _ v _ => q.toNat + 1 - sliceLen v)
  case atStart => exact ⟨0, rfl, OwnV.nil _ _, (MapI.made w).congr (fun x => ixR_zero p q b x), (Below.refl _ _).alloc (Nat.le_refl _) _, stF_zero p q b, by simp⟩
  case round =>
    obtain ⟨j, rfl, hown, hmap, hb, hst, hlt⟩ := hrel
    have hjq := rss_le HF2.out hst.1
    have hdl := dgs_len p q b j
    obtain ⟨r0, r1⟩ := HRB.out j
    obtain ⟨m0, m1, m2, m3⟩ := HRM.out j
    have hw : i64W (rs p q b j) := i64W_of _ (by omega) (by omega)
    have HST := Lib.hid hst
    have HB := Lib.hid hb
    have HDL := Lib.hid hdl
    clear hst hb
    by_cases hm : rs p q b j ∈ rss p q b j
    · obtain ⟨e1, e2⟩ := stF_end HF2.out HST.out hm
      have hix := idx_lt hm
      have HIX : Hid (ixR p q b j (rs p q b j) = some (((rss p q b j).idxOf (rs p q b j) : Nat) : Int)) := by show _ = _; rw [ixR, if_pos hm]
      have hsome : (ixR p q b j (rs p q b j)).isSome = true := by rw [HIX.out]; rfl
      have HE1 := Lib.hid e1
      have HE2 := Lib.hid e2
      clear e1 e2 hm
      generalize (rss p q b j).idxOf (rs p q b j) = i at *
      obtain ⟨ad, cd, rfl, hoi⟩ := hown.own
      obtain ⟨g, rfl, hg1, hg2, hg3⟩ := hoi.someN (by omega)
      have hxi := hoi.ints
      have hpre : (dgs p q b j).take i = dgs p q b i := by
        have := dgs_take p q b i (j - i)
        rwa [show i + (j - i) = j by omega] at this
      have hI1 : Ints wr wr.heap.size (some ⟨g, 0, none⟩) cd (dgs p q b i) := by rw [← hpre]; exact hxi.takeF i (by omega)
      have hI2 := hxi.part i (by omega) hg2
      rw [hdl] at hg3
      have hdl2 := dgs_len p q b i
      have hdl3 : ((dgs p q b j).drop i).length = j - i := by rw [List.length_drop, hdl]
      have HC1 : Hid (∀ W : World, Below wr.heap.size wr W → Calls Tryd.prog 76 #[.slice (some ⟨g, 0, none⟩) i cd] W (RetI W (dgs p q b i))) := fun W hW => Clone_all g 0 cd (dgs p q b i) i W hdl2 ((hI1.below hW).mono hW.size) (by omega)
      have HC2 : Hid (∀ W : World, Below wr.heap.size wr W → Calls Tryd.prog 76 #[.slice (some ⟨g, i, none⟩) (j - i) (cd - i)] W (RetI W ((dgs p q b j).drop i))) := fun W hW => Clone_all g i (cd - i) ((dgs p q b j).drop i) (j - i) W hdl3 ((hI2.below hW).mono hW.size) (by omega)
      have hcne : ¬ cd = i := by omega
      have hicd : i ≤ cd := by omega
      rw [hdl]
      clear hI1 hI2 hxi hoi hpre hown
      by_cases hz : rs p q b j = 0
      · have hz2 : (rs p q b j == 0) = true := by rw [hz]; rfl
        have HE3 : Hid (perR p q b = []) := by show _ = _; rw [HE2.out, if_pos hz]
        clear hz
        go_wp2_with (at_lookup; refine wpList_mapI_ok rfl _ _ rfl _ _ _ rfl hmap _ rfl hw ?_; intro c hc; obtain rfl := hc _ HIX.out)
        refine (HC1.out _ (Below.refl _ _)).mono ?_
        rintro e w1 ⟨a1, c1, rfl, ho1, hb1⟩
        have HO1 := Lib.hid ho1.ints
        have HB1 := Lib.hid (HB.out.trans (hb1.mono HB.out.size))
        clear ho1 hb1
        go_wp2_with fail
        go_ret3
        rw [HE1.out, HE3.out, HF2.out]
        refine ⟨a1, c1, none, 0, ?_, HO1.out, Ints.none0 _ _, HB1.out⟩
        rw [dgs_len]
        rfl
      · have hz2 : (rs p q b j == 0) = false := by rw [beq_eq_false_iff_ne]; exact hz
        have HE3 : Hid (perR p q b = (dgs p q b j).drop i) := by show _ = _; rw [HE2.out, if_neg hz]
        clear hz
        go_wp2_with (at_lookup; refine wpList_mapI_ok rfl _ _ rfl _ _ _ rfl hmap _ rfl hw ?_; intro c hc; obtain rfl := hc _ HIX.out)
        go_region_with (first
          | (go_at_call 76; refine (HC1.out _ (by first | exact Below.refl _ _ | exact (Below.refl _ _).drew | exact (Below.refl _ _).drew.trans hb2)).mono ?_; rintro e w1 ⟨a1, c1, rfl, ho1, hb1⟩)
          | (go_at_call 76; refine (HC2.out _ (by first | exact Below.refl _ _ | exact (Below.refl _ _).drew | exact (Below.refl _ _).drew.trans hb1)).mono ?_; rintro e w2 ⟨a2, c2, rfl, ho2, hb2⟩))
        all_goals go_wp2_with fail
        all_goals go_ret3
        all_goals rw [HE1.out, HE3.out, HF2.out]
        all_goals
          have hw1 : Below wr.heap.size wr w1 := (Below.refl wr.heap.size wr).drew.trans hb1
          refine ⟨a1, c1, a2, c2, ?_, (ho1.ints.below hb2).mono hb2.size, ho2.ints, HB.out.trans ((hw1.trans (hb2.mono hw1.size)).mono HB.out.size)⟩
          rw [dgs_len, List.length_drop, dgs_len]
          rfl
    · have hnone : (ixR p q b j (rs p q b j)).isSome = false := by rw [ixR, if_neg hm]; rfl
      have HNX : Hid (∀ x, ixR p q b (j + 1) x = if x = rs p q b j then some (j : Int) else ixR p q b j x) := ixR_next p q b j hm
      have HSN := Lib.hid (stF_go HF2.out HST.out hm)
      have HRN : Hid (rs p q b (j + 1) = rs p q b j * b % q) := rfl
      have HDN : Hid (dgs p q b (j + 1) = dgs p q b j ++ [rs p q b j * b / q]) := rfl
      have hwj : i64W (j : Int) := i64W_of _ (by omega) (by omega)
      have hbs := HB.out.size
      have m4 : rs p q b j * b / q < b := m3
      have m5 : 0 ≤ rs p q b j * b / q := m2
      have m6 := Int.emod_nonneg (rs p q b j * b) (show q ≠ 0 by omega)
      have m7 := Int.emod_lt_of_pos (rs p q b j * b) (show 0 < q by omega)
      have hjm : j < maxLen := by unfold maxLen; omega
      obtain ⟨ad, cd, rfl, hoi⟩ := hown.own
      have hov := hoi.ownV
      have HOV := Lib.hid hov
      rw [hdl] at hov
      clear hm hown hoi hov m2 m3
      rw [hdl]
      go_wp2_with (first
        | (at_lookup; refine wpList_mapI_ok rfl _ _ rfl _ _ _ rfl hmap _ rfl hw ?_; intro c hc; clear hc)
        | (at_mapUpdate; refine wpList_mapI_set rfl _ _ _ rfl _ _ _ rfl hmap hjm _ (j : Int) rfl rfl hw hwj ?_; intro w2 hmap2 hgr2; refine Hid.out ?_))
      refine Lib.hid ?_
      have hb2 := HB.out.grown hgr2 HB.out.size (fun k hk => by cases hk; exact Nat.le_refl _)
      have hov2 := HOV.out.turn hgr2 (Nat.lt_succ_self _)
      have hs2 := hgr2.size
      rw [hdl] at hov2
      have hmap3 := hmap2.congr HNX.out
      have HB2 := Lib.hid hb2
      clear hb2 hmap2 hmap hgr2 hnone
      go_wp2_with (at_builtin; refine wpList_append_int rfl _ _ rfl (w.heap.size + 1) _ _ rfl hov2 (rs p q b j * b / q) rfl (by omega) (by omega) ?_; intro v' w3 hown3 hbl3)
      have HB3 := Lib.hid (HB2.out.trans (hbl3.mono (by omega)))
      have hmap4 := hmap3.kept hbl3 (Nat.lt_succ_self _)
      have hs3 := hbl3.size
      obtain ⟨a3, c3, rfl, ho3⟩ := hown3.own
      have hl3 : (dgs p q b j ++ [rs p q b j * b / q]).length = j + 1 := by rw [List.length_append, hdl]; rfl
      have HO3 := Lib.hid ho3.ownV
      rw [hl3] at HO3
      rw [hl3]
      clear hbl3 hown3 ho3 hmap3 hov2 HOV
      go_roundw
      case rel => exact ⟨j + 1, by rw [HRN.out], by rw [HDN.out]; exact HO3.out, hmap4, HB3.out, HSN.out, by omega⟩
      case measure => simp [sliceLen]; omega

end Go.Proofs.YtdpddbajeldgiaaDoor
