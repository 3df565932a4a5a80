/- cycleFrom: the program's way to the cycle. Conditions: those of each contract. -/
import Derived.Test.YtdpddbajeldgiaaDoorCycB
import Derived.Test.YtdpddbajeldgiaaDoorFracA
namespace Go.Proofs.YtdpddbajeldgiaaDoor
set_option linter.unusedVariables false
open Go.RowKit

theorem OwnI.lower {w : World} {B B' : Nat} {a : Option Addr} {cap : Nat} {xs : List Int} (h : OwnI w B a cap xs) (hB : B' ≤ B) : OwnI w B' a cap xs := by
  rcases h.2 with h1 | ⟨g, cap', cur, hv, hg, r⟩
  · exact ⟨h.1, Or.inl h1⟩
  · exact ⟨h.1, Or.inr ⟨g, cap', cur, hv, Nat.le_trans hB hg, r⟩⟩
/-- a call returns after how many steps the cycle begins, and the cycle -/
def RetC (w : World) (i : Nat) (xs : List Int) (e : Ending) (w' : World) : Prop :=
  ∃ a cap, e = .returned (.tuple #[.int .i64 i, .slice a xs.length cap]) ∧ OwnI w' w.heap.size a cap xs ∧ Below w.heap.size w w'
set_option maxRecDepth 8000 in
set_option maxHeartbeats 1000000 in
theorem cycleFrom_any (F p q M : Nat) (N : Int) (st : Int → Int) (n : Int) (w : World) (hs : stays st M N) (h0 : 0 ≤ n) (h1 : n ≤ N)
    (hcf : ∀ (args : Array Value) (W : World), Sem.run Tryd.prog (callFunc F args) W = .ok (.enter F args) W)
    (hst : ∀ (x : Int) (W : World), 0 ≤ x → x ≤ N → Below w.heap.size w W → Calls Tryd.prog F #[.int .i64 x, .pointer (some ⟨p, 0, none⟩), .pointer (some ⟨q, 0, none⟩)] W fun e w' => e = .returned (.int .i64 (st x)) ∧ Below W.heap.size W w') :
    Calls Tryd.prog 97 #[.int .i64 n, .func (.func F) #[] #[.pointer (some ⟨p, 0, none⟩), .pointer (some ⟨q, 0, none⟩)]] w (RetC w (cycI st n) (cycR st n)) := by
  have HS := Lib.hid hst
  have HBD : Hid (∀ k, 0 ≤ it st n k ∧ it st n k ≤ N) := fun k => ⟨(it_bd hs h0 h1 k).1, (it_bd hs h0 h1 k).2.1⟩
  have HLE : Hid (∀ k, (itL st n k).Nodup → k ≤ M + 1) := fun k hk => itL_le hs h0 h1 hk
  obtain ⟨hM, hN, -⟩ := hs.1
  clear hst hs
  have hmm := @run_makeMap Tryd.prog
  go_enter Tryd.func97, Tryd.ntmps97
  go_wp2_with fail
  go_loopw [0, 7] (fun pv v wr => ∃ j : Nat, pv = .int .i64 (it st n j) ∧ OwnV wr (w.heap.size + 1) v (itL st n j) ∧ MapI wr w.heap.size j (ixI st n j) ∧ Below w.heap.size w wr ∧ (itL st n j).Nodup ∧ w.heap.size < wr.heap.size) (fun _ v _ => M + 2 - sliceLen v)
  case atStart => exact ⟨0, rfl, OwnV.nil _ _, (MapI.made w).congr (fun x => ixI_zero st n x), (Below.refl _ _).alloc (Nat.le_refl _) _, List.nodup_nil, by simp⟩
  case round =>
    obtain ⟨j, rfl, hown, hmap, hb, hnd, hlt⟩ := hrel
    have hjq := HLE.out j hnd
    have hdl := itL_len (st := st) (n := n) j
    obtain ⟨r0, r1⟩ := HBD.out j
    have hw : i64W (it st n j) := i64W_of _ (by omega) (by omega)
    have HND := Lib.hid hnd
    have HB := Lib.hid hb
    have HDL := Lib.hid hdl
    clear hnd hb
    by_cases hm : it st n j ∈ itL st n j
    · obtain ⟨e1, e2, hix⟩ := cyc_of (st := st) (n := n) (j := j) ⟨HND.out, hm⟩
      have HIX : Hid (ixI st n j (it st n j) = some (((itL st n j).idxOf (it st n j) : Nat) : Int)) := by show _ = _; rw [ixI, if_pos hm]
      have hsome : (ixI st n j (it st n j)).isSome = true := by rw [HIX.out]; rfl
      have HE1 := Lib.hid e1
      have HE2 := Lib.hid e2
      clear e1 e2 hm
      generalize (itL st n j).idxOf (it st n j) = i at *
      obtain ⟨ad, cd, rfl, hoi⟩ := hown.own
      obtain ⟨g, rfl, hg1, hg2, hg3⟩ := hoi.someN (by omega)
      have hI := hoi.ints.part i (by omega) hg2
      rw [hdl] at hg3
      have hcl : ((itL st n j).drop i).length = j - i := by rw [List.length_drop, hdl]
      have HE3 : Hid (cycR st n = turnL ((itL st n j).drop i)) := by show _ = _; rw [cycR, HE2.out]
      clear hown hoi HE2
      rw [hdl]
      generalize (itL st n j).drop i = c at *
      have hl0 := amP_lt c (by omega) c.length (Nat.le_refl _)
      obtain ⟨m1, m2, m3⟩ := amP_min c c.length
      have HMIN : Hid (∀ W : World, Below wr.heap.size wr W → Calls Tryd.prog 120 #[.slice (some ⟨g, i, none⟩) (j - i) (cd - i)] W fun e w' => e = .returned (.int .i64 (c.getD (amP c c.length) 0)) ∧ W = w') := fun W hW => by
        rw [← hcl]
        exact Min_any _ _ c W ((hI.below hW).mono hW.size) (by omega)
      have HIDX : Hid (∀ W : World, Below wr.heap.size wr W → Calls Tryd.prog 115 #[.slice (some ⟨g, i, none⟩) (j - i) (cd - i), .int .i64 (c.getD (amP c c.length) 0)] W fun e w' => e = .returned (.int .i64 (amP c c.length)) ∧ W = w') := fun W hW => by
        rw [← hcl]
        exact IndexAt_any _ _ c _ (amP c c.length) W ((hI.below hW).mono hW.size) hl0 rfl (fun k hk => by have := m2 k hk; omega)
      have HE4 : Hid (turnL c = c.drop (amP c c.length) ++ c.take (amP c c.length)) := rfl
      have HTL : Hid ((cycR st n).length = j - i) := by show _ = _; rw [HE3.out, turnL_len, hcl]
      have HCE : Hid (∀ k (h : k < c.length), wr.cell? ⟨g, i + k, none⟩ = some (.int .i64 c[k])) := by
        obtain ⟨-, -, b', o', q1, q2⟩ := hI
        obtain ⟨q3, -⟩ := q1 (by omega)
        simp only [Option.some.injEq, Addr.mk.injEq, and_true] at q3
        obtain ⟨rfl, rfl⟩ := q3
        exact q2
      have hl1 : amP c c.length < j - i := by omega
      clear hl0
      generalize amP c c.length = l at *
      generalize c.getD l 0 = mn at *
      have HCO : Hid (∀ (gs : Nat) (W : World), Below wr.heap.size wr W → gs < W.heap.size → W.cell? ⟨gs, 0, none⟩ = some (.slice (some ⟨g, i + l, none⟩) (j - i - l) (cd - i - l)) → W.cell? ⟨gs, 1, none⟩ = some (.slice (some ⟨g, i, none⟩) l (cd - i)) → Calls Tryd.prog 121 #[.slice (some ⟨gs, 0, none⟩) 2 2] W (RetI W (cycR st n))) := fun gs W hW hgs hc0 hc1 => by
        rw [HE3.out, HE4.out]
        exact Concat_any gs g (i + l) (j - i - l) (cd - i - l) i l (cd - i) (c.drop l) (c.take l) W (by rw [List.length_drop, hcl]) (by rw [List.length_take, hcl]; omega)
          (fun k hk => by
            rw [List.length_drop] at hk
            rw [hW.cell (p := ⟨g, i + l + k, none⟩) hg2, List.getElem_drop, Nat.add_assoc]
            exact HCE.out (l + k) (by omega))
          (fun k hk => by
            rw [List.length_take] at hk
            rw [hW.cell (p := ⟨g, i + k, none⟩) hg2, List.getElem_take]
            exact HCE.out k (by omega))
          (Nat.lt_of_lt_of_le hg2 hW.size) hgs hc0 hc1 (by omega) (by omega)
      have hcne : ¬ cd = i := by omega
      have hicd : i ≤ cd := by omega
      clear hI m1 m2 m3 HE4 HCE hcl
      go_wp2_with (at_lookup; refine wpList_mapI_ok rfl _ _ rfl _ _ _ rfl hmap _ rfl hw ?_; intro c hc; obtain rfl := hc _ HIX.out)
      refine (HMIN.out _ (Below.refl _ _)).mono ?_
      rintro e w1 ⟨rfl, rfl⟩
      go_wp2_with fail
      refine (HIDX.out _ (Below.refl _ _)).mono ?_
      rintro e w1 ⟨rfl, rfl⟩
      go_wp2_with fail
      have hlc : ¬ cd - i = l := by omega
      have hlj : l ≤ j - i := by omega
      have hld : l ≤ cd - i := by omega
      have hbw : Below wr.heap.size wr (wr.alloc (.cells #[.slice (some ⟨g, i + l, none⟩) (j - i - l) (cd - i - l), .slice (some ⟨g, i, none⟩) l (cd - i)] 22)).drew := ((Below.refl _ _).alloc (Nat.le_refl _) _).drew
      have HCO2 := Lib.hid (HCO.out wr.heap.size _ hbw (by show _ < (World.alloc _ _).heap.size; simp) (by show World.cell? (World.alloc _ _) _ = _; rw [World.cell?_alloc_at _ _ _ _ (by rfl)]; rfl) (by show World.cell? (World.alloc _ _) _ = _; rw [World.cell?_alloc_at _ _ _ _ (by rfl)]; rfl))
      have HBW := Lib.hid hbw
      clear hbw HCO
      go_region_with (go_at_call 121; refine HCO2.out.mono ?_; rintro e w1 ⟨a1, c1, rfl, ho1, hb1⟩)
      have HO1 := Lib.hid ho1
      have HB1 := Lib.hid (HBW.out.trans (hb1.mono HBW.out.size))
      clear ho1 hb1
      go_wp2_with fail
      go_ret2
      exact ⟨a1, c1, by rw [HE1.out] <;> rfl, HO1.out.lower (Nat.le_trans HB.out.size HBW.out.size), HB.out.trans (HB1.out.mono HB.out.size)⟩
    · have hnone : (ixI st n j (it st n j)).isSome = false := by rw [ixI, if_neg hm]; rfl
      have HNX : Hid (∀ x, ixI st n (j + 1) x = if x = it st n j then some (j : Int) else ixI st n j x) := ixI_next st n j hm
      have HSN : Hid (itL st n (j + 1)).Nodup := itL_nodup HND.out hm
      have HRN : Hid (it st n (j + 1) = st (it st n j)) := rfl
      have HDN : Hid (itL st n (j + 1) = itL st n j ++ [it st n j]) := rfl
      have hj2 := HLE.out (j + 1) HSN.out
      have hwj : i64W (j : Int) := i64W_of _ (by omega) (by omega)
      have hbs := HB.out.size
      have hjm : j < maxLen := by unfold maxLen; omega
      obtain ⟨ad, cd, rfl, hoi⟩ := hown.own
      have hov := hoi.ownV
      have HOV := Lib.hid hov
      have HST : Hid (∀ W : World, Below w.heap.size w W → Calls Tryd.prog F #[.int .i64 (it st n j), .pointer (some ⟨p, 0, none⟩), .pointer (some ⟨q, 0, none⟩)] W fun e w' => e = .returned (.int .i64 (st (it st n j))) ∧ Below W.heap.size W w') := fun W hW => HS.out _ W r0 r1 hW
      rw [hdl] at hov
      clear hm hown hoi hov
      rw [hdl]
      go_wp2_with (first
        | (at_lookup; refine wpList_mapI_ok rfl _ _ rfl _ _ _ rfl hmap _ rfl hw ?_; intro c hc; clear hc)
        | (at_mapUpdate; refine wpList_mapI_set rfl _ _ _ rfl _ _ _ rfl hmap hjm _ (j : Int) rfl rfl hw hwj ?_; intro w2 hmap2 hgr2; refine Hid.out ?_))
      refine Lib.hid ?_
      have hb2 := HB.out.grown hgr2 HB.out.size (fun k hk => by cases hk; exact Nat.le_refl _)
      have hov2 := HOV.out.turn hgr2 (Nat.lt_succ_self _)
      have hs2 := hgr2.size
      rw [hdl] at hov2
      have hmap3 := hmap2.congr HNX.out
      have HB2 := Lib.hid hb2
      clear hb2 hmap2 hmap hgr2 hnone
      go_wp2_with (at_builtin; refine wpList_append_int rfl _ _ rfl (w.heap.size + 1) _ _ rfl hov2 (it st n j) rfl (by omega) (by omega) ?_; intro v' w3 hown3 hbl3)
      have HB3 := Lib.hid (HB2.out.trans (hbl3.mono (by omega)))
      have hmap4 := hmap3.kept hbl3 (Nat.lt_succ_self _)
      have hs3 := hbl3.size
      obtain ⟨a3, c3, rfl, ho3⟩ := hown3.own
      have hl3 : (itL st n j ++ [it st n j]).length = j + 1 := by rw [List.length_append, hdl]; rfl
      have HO3 := Lib.hid ho3.ownV
      rw [hl3] at HO3
      rw [hl3]
      clear hbl3 hown3 ho3 hmap3 hov2 HOV
      refine (HST.out _ HB3.out).mono ?_
      rintro e w4 ⟨rfl, hb4⟩
      have HB4 := Lib.hid (HB3.out.trans (hb4.mono HB3.out.size))
      have hmap5 := hmap4.kept hb4 (by omega)
      have HO4 := Lib.hid (HO3.out.kept hb4)
      have hs4 := hb4.size
      clear hb4
      go_wp2_with fail
      go_roundw
      case rel => exact ⟨j + 1, by rw [HRN.out], by rw [HDN.out]; exact HO4.out, hmap5, HB4.out, HSN.out, by omega⟩
      case measure => simp [sliceLen]; omega

end Go.Proofs.YtdpddbajeldgiaaDoor
