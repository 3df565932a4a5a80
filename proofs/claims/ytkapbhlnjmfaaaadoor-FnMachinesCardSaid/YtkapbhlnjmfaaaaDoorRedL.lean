/- The law on reduced machines: the walk. Conditions: the table of powers of ten stands. -/
import Derived.Test.YtkapbhlnjmfaaaaDoorJoinW
import Derived.Test.YtkapbhlnjmfaaaaDoorDrawN
import Derived.Test.YtkapbhlnjmfaaaaDoorRedK
import Derived.Deep.RegionHeld3
import Derived.Deep.CutRange
namespace Go.Proofs.YtkapbhlnjmfaaaaDoor
set_option linter.unusedVariables false
open Go.RowKit

/-- the three cells of a machine's block -/
def Box (W : World) (B : Nat) (a1 : Option Addr) (c1 : Nat) (a2 : Option Addr) (c2 : Nat) (m : Ma) : Prop :=
  W.heap[B]? = some (.cells #[.int .i64 m.base, .slice a1 m.next.length c1, .slice a2 m.final.length c2] 27 (0, 0))
theorem Box.later {W W' : World} {B n : Nat} {a1 : Option Addr} {c1 : Nat} {a2 : Option Addr} {c2 : Nat} {m : Ma} (h : Box W B a1 c1 a2 c2 m) (hb : Below n W W') (hn : B < n) : Box W' B a1 c1 a2 c2 m := by
  unfold Box; rw [hb.block B hn]; exact h
theorem Box.cells {W : World} {B : Nat} {a1 : Option Addr} {c1 : Nat} {a2 : Option Addr} {c2 : Nat} {m : Ma} (h : Box W B a1 c1 a2 c2 m) :
    W.cell? ⟨B, 0, none⟩ = some (.int .i64 m.base) ∧ W.cell? ⟨B, 1, none⟩ = some (.slice a1 m.next.length c1) ∧ W.cell? ⟨B, 2, none⟩ = some (.slice a2 m.final.length c2) := (box_in h).1
theorem box_mk (m : Ma) (a1 : Option Addr) (c1 : Nat) (a2 : Option Addr) (c2 : Nat) (w : World) : ∃ w0, w0 = w.alloc (.cells #[.int .i64 m.base, .slice a1 m.next.length c1, .slice a2 m.final.length c2] 27) ∧ Below w.heap.size w w0 ∧ w0.heap.size = w.heap.size + 1 ∧
    Box w0 w.heap.size a1 c1 a2 c2 m := by
  refine ⟨_, rfl, (Below.refl _ _).alloc (Nat.le_refl _) _, by simp, heap_alloc_new _ _⟩
set_option maxRecDepth 20000 in
set_option maxHeartbeats 4000000 in
theorem law_FnReduced (a : Option Addr) (len cap : Nat) (zs : List Int) (w : World) (hz : IsRow .u8 w a len cap zs) (ht : Tab w) :
    Calls Tryd.prog 3 #[.slice a len cap] w fun e w' => e = .returned (.bool true) ∧ Below w.heap.size w w' := by
  obtain ⟨xs, rfl, hx⟩ := hz.opB
  have hl := hx.len
  clear hz
  by_cases hlen : xs.length ≤ 1048576
  rotate_left
  · go_enter Tryd.func3, Tryd.ntmps3
    go_wp2
    go_ret
    exact ⟨rfl, Below.refl _ _⟩
  have HX := Lib.hid hx; clear hx
  have HT := Lib.hid ht; clear ht
  go_enter Tryd.func3, Tryd.ntmps3
  go_wp2_with fail
  refine (MakeNum_any a cap xs 0 _ HX.out hlen (by decide)).mono ?_
  rintro e w1 ⟨⟨x, rfl, x0, x1⟩, hb1⟩
  have HX1 := Lib.hid ((HX.out.below hb1).mono hb1.size)
  have HB1 := Lib.hid hb1
  clear hb1
  go_wp2_with fail
  obtain ⟨b, hbx, hb2, hb3⟩ : ∃ b : Nat, 2 + x % 2 = (b : Int) ∧ 2 ≤ b ∧ b ≤ 3 := ⟨(2 + x % 2).toNat, by omega, by omega, by omega⟩
  rw [hbx]
  clear hbx x0 x1
  refine (MakeMachine_any a cap xs 2 b _ HX1.out hlen (by decide) hb2 (by omega)).mono ?_
  rintro e w2 ⟨a1, c1, a2, c2, m, rfl, hok, hmb, hml, hmm, hbb⟩
  have HB2 := Lib.hid (HB1.out.trans (hbb.mono HB1.out.size))
  have HM2 := Lib.hid hmm
  have HOKM := Lib.hid hok
  have HMB := Lib.hid hmb
  have HML := Lib.hid hml
  clear hok hmb hml hmm hbb
  obtain ⟨w3, e3, hb3', hs3, hx3⟩ := box_mk m a1 c1 a2 c2 w2
  have HB3 := Lib.hid (HB2.out.trans (hb3'.mono HB2.out.size))
  have HM3 := Lib.hid (HM2.out.later hb3')
  have HX3 := Lib.hid ((HX.out.below HB3.out).mono HB3.out.size)
  have HBX4 := Lib.hid hx3
  clear hb3' hx3
  go_wp2_with fail
  rw [← e3]
  clear e3
  refine (MakeMachine_any a cap xs 40 b _ HX3.out hlen (by decide) hb2 (by omega)).mono ?_
  rintro e w4 ⟨a3, c3, a4, c4, p, rfl, hok, hpb, hpl, hmp, hbb⟩
  have HB4 := Lib.hid (HB3.out.trans (hbb.mono HB3.out.size))
  have HM4 := Lib.hid (HM3.out.later hbb)
  have HP4 := Lib.hid hmp
  have HOKP := Lib.hid hok
  have HPB := Lib.hid hpb
  have HBX4b := Lib.hid (HBX4.out.later hbb (by omega))
  have hs4 : w3.heap.size ≤ w4.heap.size := hbb.size
  clear hok hpb hpl hmp hbb
  obtain ⟨w5, e5, hb5', hs5, hx5⟩ := box_mk p a3 c3 a4 c4 w4
  have HB5 := Lib.hid (HB4.out.trans (hb5'.mono HB4.out.size))
  have HS5 := Lib.hid hb5'
  have HP5 := Lib.hid (HP4.out.later hb5')
  have HX5 := Lib.hid ((HX.out.below HB5.out).mono HB5.out.size)
  have HBX5 := Lib.hid hx5
  clear hb5' hx5
  go_wp2_with fail
  rw [← e5]
  clear e5
  refine (MakeNum_any a cap xs 80 _ HX5.out hlen (by decide)).mono ?_
  rintro e w6 ⟨⟨y, rfl, y0, y1⟩, hb6⟩
  have HB6 := Lib.hid hb6
  clear hb6
  go_upto_if 30 with fail
  go_cut [] from 14 (fun wx => ∃ (a3 : Option Addr) (c3 : Nat) (a4 : Option Addr) (c4 : Nat) (p : Ma), Box wx w4.heap.size a3 c3 a4 c4 p ∧ Mach wx wx.heap.size a3 c3 a4 c4 p ∧ maOk p = true ∧ Below w4.heap.size w4 wx)
  case first =>
    have HPB6 := Lib.hid (HBX5.out.later HB6.out (by omega))
    have HP6 := Lib.hid (HP5.out.later HB6.out)
    have HW6 := Lib.hid (HS5.out.trans (HB6.out.mono HS5.out.size))
    clear y0 y1
    by_cases hy : y % 2 = 0
    · have hyb : (y % 2 == 0) = true := by simp [hy]
      have HM6 := Lib.hid (HM4.out.later HW6.out)
      have hB4 := HBX4b.out.later HW6.out (by omega)
      obtain ⟨x0, x1, x2⟩ := hB4.cells
      clear hB4
      go_wp2_with fail
      refine (JoinMachines_ok a1 c1 a2 c2 m a1 c1 a2 c2 m true w6 HM6.out HM6.out (by
        unfold joinOk
        have h1 := HML.out
        have h2 : m.final.length * m.final.length ≤ 5 * 5 := Nat.mul_le_mul h1 h1
        rw [HOKM.out, decide_eq_true (show m.final.length * m.final.length ≤ 144 by omega)]
        simp)).mono ?_
      rintro e w7 ⟨a5, c5, a6, c6, rfl, hmj, hbj⟩
      have HJB := Lib.hid hbj
      have HJM := Lib.hid hmj
      have hok2 := joinM_ok (a := m) (c := m) (show joinOk m m = true by
        unfold joinOk
        have h1 := HML.out
        have h2 : m.final.length * m.final.length ≤ 5 * 5 := Nat.mul_le_mul h1 h1
        rw [HOKM.out, decide_eq_true (show m.final.length * m.final.length ≤ 144 by omega)]
        simp) true
      have HOK2 := Lib.hid hok2
      have hb5 := HPB6.out.later hbj (by have := HW6.out.size; have := HB6.out.size; omega)
      have HB5b := Lib.hid hb5
      obtain ⟨⟨y0, y1, y2⟩, z0, z1, z2⟩ := box_in hb5
      clear hmj hbj hok2 hb5
      generalize joinM m m true = jm at *
      go_wp2_with fail
      go_meet
      case rel =>
        refine ⟨a5, c5, a6, c6, jm, set_three HB5b.out, ?_, HOK2.out, ?_⟩
        · obtain ⟨n2, f1⟩ := two_next HOK2.out
          have h := mach_other (W := ((w7.setCell ⟨w4.heap.size, 0, none⟩ (.int .i64 jm.base)).setCell ⟨w4.heap.size, 1, none⟩ (.slice a5 jm.next.length c5)).setCell ⟨w4.heap.size, 2, none⟩ (.slice a6 jm.final.length c6)) HJM.out HB5b.out n2 f1 (fun k hk => by
            rw [Below.heap_setCell _ _ _ _ (by exact hk), Below.heap_setCell _ _ _ _ (by exact hk), Below.heap_setCell _ _ _ _ (by exact hk)])
          exact h.mono (by simp [World.setCell])
        · exact (((HW6.out.trans (HJB.out.mono HW6.out.size)).setCell (p := ⟨w4.heap.size, 0, none⟩) (Nat.le_refl _) _).setCell (p := ⟨w4.heap.size, 1, none⟩) (Nat.le_refl _) _).setCell (p := ⟨w4.heap.size, 2, none⟩) (Nat.le_refl _) _
    · have hyb : (y % 2 == 0) = false := by simp [hy]
      go_wp2_with fail
      go_meet
      case rel => exact ⟨a3, c3, a4, c4, p, HPB6.out, HP6.out, HOKP.out, HW6.out⟩
  case rest =>
    obtain ⟨a3, c3, a4, c4, p, hbp, hpp, hokp, hbc⟩ := hcut
    have HBP := Lib.hid hbp
    have HPP := Lib.hid hpp
    have HOKP2 := Lib.hid hokp
    have HBC := Lib.hid (HB4.out.trans (hbc.mono HB4.out.size))
    have HMC := Lib.hid (HM4.out.later hbc)
    have HBM := Lib.hid (HBX4b.out.later hbc (by omega))
    have hsc : w4.heap.size ≤ wc.heap.size := hbc.size
    have hsp : w4.heap.size < wc.heap.size := lt_of_block hbp
    clear HBX4 HBX4b HP4 HP5 HOKP HPB HX5 HX3 HX1 HBX5 HS5 HB6 HM2 HM3 hbp hpp hokp HB5 HB2 HB1 HX
    obtain ⟨x0, x1, x2⟩ := HBM.out.cells
    go_wp2_with fail
    refine (ReduceMachine_any a1 c1 a2 c2 m _ HMC.out (HT.out.upd HBC.out)).mono ?_
    rw [if_pos HOKM.out, HOKM.out]
    obtain ⟨x, hx⟩ : ∃ x, x = redM m := ⟨_, rfl⟩
    rw [← hx]
    rintro e w7 ⟨a5, c5, a6, c6, rfl, hm7, hb7⟩
    have HXR := Lib.hid hx
    have HX7 := Lib.hid hm7
    have HS7 := Lib.hid hb7
    clear hx hm7 hb7 x0 x1 x2
    obtain ⟨w8, e8, hb8, hs8, hx8⟩ := box_mk x a5 c5 a6 c6 w7
    have HS8 := Lib.hid (HS7.out.trans (hb8.mono HS7.out.size))
    have HX8 := Lib.hid (HX7.out.later hb8)
    have HBX := Lib.hid hx8
    have HBP8 := Lib.hid (HBP.out.later HS8.out hsp)
    have HPP8 := Lib.hid (HPP.out.later HS8.out)
    have hs7c : wc.heap.size ≤ w7.heap.size := HS7.out.size
    clear hb8 hx8
    obtain ⟨x0, x1, x2⟩ := HBP8.out.cells
    rw [e8] at x0 x1 x2
    go_wp2_with fail
    rw [← e8]
    clear e8
    refine (ReduceMachine_any a3 c3 a4 c4 p _ HPP8.out (HT.out.upd (HBC.out.trans (HS8.out.mono HBC.out.size)))).mono ?_
    rw [if_pos HOKP2.out, HOKP2.out]
    obtain ⟨y, hy⟩ : ∃ y, y = redM p := ⟨_, rfl⟩
    rw [← hy]
    rintro e w9 ⟨a7, c7, a8, c8, rfl, hm9, hb9⟩
    have HYR := Lib.hid hy
    have HY9 := Lib.hid hm9
    have HS9 := Lib.hid hb9
    clear hy hm9 hb9 x0 x1 x2
    obtain ⟨w10, e10, hb10, hs10, hx10⟩ := box_mk y a7 c7 a8 c8 w9
    have HS10 := Lib.hid (HS9.out.trans (hb10.mono HS9.out.size))
    have HY10 := Lib.hid (HY9.out.later hb10)
    have HBY := Lib.hid hx10
    have hs9c : w8.heap.size ≤ w9.heap.size := HS9.out.size
    have HBX10 := Lib.hid (HBX.out.later HS10.out (by omega))
    have HX10 := Lib.hid (HX8.out.later HS10.out)
    have HS10c := Lib.hid (HS8.out.trans (HS10.out.mono HS8.out.size))
    clear hb10 hx10
    obtain ⟨x0, x1, x2⟩ := HBX10.out.cells
    rw [e10] at x0 x1 x2
    go_wp2_with fail
    rw [← e10]
    clear e10
    refine (ReduceMachine_any a5 c5 a6 c6 x _ HX10.out (HT.out.upd (HBC.out.trans (HS10c.out.mono HBC.out.size)))).mono ?_
    have HOKX : Hid (maOk x = true) := by show _ = _; rw [HXR.out]; exact (redM_ok HOKM.out).1
    rw [if_pos HOKX.out, HOKX.out]
    have hz : redM x = x := by rw [HXR.out]; exact redM_twice HOKM.out
    rw [hz]
    clear hz
    rintro e w11 ⟨a9, c9, aa, cc, rfl, hm11, hb11⟩
    have HZ11 := Lib.hid hm11
    have HS11 := Lib.hid hb11
    clear hm11 hb11 x0 x1 x2
    obtain ⟨wT, eT, hbT, hsT, hxT⟩ := box_mk x a9 c9 aa cc w11
    have HST := Lib.hid (HS11.out.trans (hbT.mono HS11.out.size))
    have hs11c : w10.heap.size ≤ w11.heap.size := HS11.out.size
    have HBT := Lib.hid (HBC.out.trans ((HS10c.out.trans (HST.out.mono HS10c.out.size)).mono HBC.out.size))
    have HZT := Lib.hid (HZ11.out.later hbT)
    have HBZ := Lib.hid hxT
    have HBYT := Lib.hid (HBY.out.later HST.out (by omega))
    have HBXT := Lib.hid (HBX10.out.later HST.out (by omega))
    have HSTc := Lib.hid (HS10c.out.trans (HST.out.mono HS10c.out.size))
    have HBPT := Lib.hid (HBP.out.later HSTc.out hsp)
    have HBMT := Lib.hid (HBM.out.later HSTc.out (by omega))
    have HXT := Lib.hid (HX10.out.later HST.out)
    have HYT := Lib.hid (HY10.out.later HST.out)
    have HPT := Lib.hid (HPP.out.later HSTc.out)
    have HMT := Lib.hid (HMC.out.later HSTc.out)
    have HTT := Lib.hid (HT.out.upd HBT.out)
    have hB4 : w2.heap.size < wT.heap.size := by omega
    have hB5 : w4.heap.size < wT.heap.size := by omega
    have hB6 : w7.heap.size < wT.heap.size := by omega
    have hB8 : w9.heap.size < wT.heap.size := by omega
    have hB10 : w11.heap.size < wT.heap.size := by omega
    clear hbT hxT HBZ HBY HBX10 HBX HBP8 HBP HBM HX10 HX8 HX7 HY10 HY9 HPP HPP8 HMC HZ11 HS11 HS10c HS10 HS9 HS8 HS7 HM4 HT HB3 HB4 HBC hs8 hs10 hs11c hs9c hs7c hsc hsp
    have HBZT : Hid (Box wT w11.heap.size a9 c9 aa cc x) := by
      have h : Box (w11.alloc (.cells #[.int .i64 x.base, .slice a9 x.next.length c9, .slice aa x.final.length cc] 27)) w11.heap.size a9 c9 aa cc x := heap_alloc_new _ _
      rw [← eT] at h; exact h
    go_upto_region 11 with fail
    rw [← eT]
    clear eT hs3 hs4 hs5
    generalize w2.heap.size = B4 at *
    generalize w4.heap.size = B5 at *
    generalize w7.heap.size = B6 at *
    generalize w9.heap.size = B8 at *
    generalize w11.heap.size = B10 at *
    have hxm : x.final.length ≤ m.final.length := by rw [HXR.out]; exact (redM_ok HOKM.out).2
    have HKEEP : Hid (∀ W : World, Below wT.heap.size wT W → Box W B4 a1 c1 a2 c2 m ∧ Box W B5 a3 c3 a4 c4 p ∧ Box W B6 a5 c5 a6 c6 x ∧ Box W B8 a7 c7 a8 c8 y ∧ Box W B10 a9 c9 aa cc x) := fun W hW => ⟨HBMT.out.later hW hB4, HBPT.out.later hW hB5, HBXT.out.later hW hB6, HBYT.out.later hW hB8, HBZT.out.later hW hB10⟩
    have hsame : sameR m x = true := by rw [HXR.out]; exact same_self HOKM.out
    have heq : sameR m p = eqMa x y := by
      unfold sameR
      rw [HOKM.out, HOKP2.out, ← HXR.out, ← HYR.out]
      rfl
    have HC1 : Hid (∀ W : World, Below wT.heap.size wT W → Calls Tryd.prog 10 #[.agg #[.int .i64 x.base, .slice a5 x.next.length c5, .slice a6 x.final.length c6], .agg #[.int .i64 x.base, .slice a9 x.next.length c9, .slice aa x.final.length cc]] W fun e w' => e = .returned (.bool true) ∧ Below wT.heap.size wT w') := fun W hW =>
      (machines_any a5 c5 a6 c6 x a9 c9 aa cc x W (HXT.out.later hW) (HZT.out.later hW)).mono (fun e w' h => ⟨by rw [h.1, eqMa_self], hW.trans (h.2.mono hW.size)⟩)
    have HC2 : Hid (∀ W : World, Below wT.heap.size wT W → Calls Tryd.prog 11 #[.agg #[.int .i64 m.base, .slice a1 m.next.length c1, .slice a2 m.final.length c2], .agg #[.int .i64 x.base, .slice a5 x.next.length c5, .slice a6 x.final.length c6]] W fun e w' => e = .returned (.bool true) ∧ Below wT.heap.size wT w') := fun W hW =>
      (SameLists_any a1 c1 a2 c2 m a5 c5 a6 c6 x W (HMT.out.later hW) (HXT.out.later hW) (HTT.out.upd hW)).mono (fun e w' h => ⟨by rw [h.1, hsame], hW.trans (h.2.mono hW.size)⟩)
    have HC3 : Hid (∀ W : World, Below wT.heap.size wT W → Calls Tryd.prog 11 #[.agg #[.int .i64 m.base, .slice a1 m.next.length c1, .slice a2 m.final.length c2], .agg #[.int .i64 p.base, .slice a3 p.next.length c3, .slice a4 p.final.length c4]] W fun e w' => e = .returned (.bool (eqMa x y)) ∧ Below wT.heap.size wT w') := fun W hW =>
      (SameLists_any a1 c1 a2 c2 m a3 c3 a4 c4 p W (HMT.out.later hW) (HPT.out.later hW) (HTT.out.upd hW)).mono (fun e w' h => ⟨by rw [h.1, heq], hW.trans (h.2.mono hW.size)⟩)
    have HC4 : Hid (∀ W : World, Below wT.heap.size wT W → Calls Tryd.prog 10 #[.agg #[.int .i64 x.base, .slice a5 x.next.length c5, .slice a6 x.final.length c6], .agg #[.int .i64 y.base, .slice a7 y.next.length c7, .slice a8 y.final.length c8]] W fun e w' => e = .returned (.bool (eqMa x y)) ∧ Below wT.heap.size wT w') := fun W hW =>
      (machines_any a5 c5 a6 c6 x a7 c7 a8 c8 y W (HXT.out.later hW) (HYT.out.later hW)).mono (fun e w' h => ⟨h.1, hW.trans (h.2.mono hW.size)⟩)
    have HCC : Hid (∀ (l : Nat), l ≤ 5 → ∃ cn pw : Int, 0 ≤ cn ∧ cn ≤ pw ∧ ∀ W : World, Below wT.heap.size wT W → (Calls Tryd.prog 12 #[.agg #[.int .i64 m.base, .slice a1 m.next.length c1, .slice a2 m.final.length c2], .int .i64 l] W fun e w' => e = .returned (.int .i64 cn) ∧ Below wT.heap.size wT w') ∧
        (Calls Tryd.prog 12 #[.agg #[.int .i64 x.base, .slice a5 x.next.length c5, .slice a6 x.final.length c6], .int .i64 l] W fun e w' => e = .returned (.int .i64 cn) ∧ Below wT.heap.size wT w') ∧
        (Calls Tryd.prog 13 #[.int .i64 (b : Int), .int .i64 l] W fun e w' => e = .returned (.int .i64 pw) ∧ Below wT.heap.size wT w')) := by
      intro l hl
      obtain ⟨h1, h2⟩ := cnt_bd HOKM.out l (by omega)
      refine ⟨cntR m l, m.base ^ l, h1, h2, fun W hW => ⟨?_, ?_, ?_⟩⟩
      · exact (CountAccepted_any a1 c1 a2 c2 m l W (HMT.out.later hW)).mono (fun e w' h => ⟨h.1, hW.trans (h.2.mono hW.size)⟩)
      · exact (CountAccepted_any a5 c5 a6 c6 x l W (HXT.out.later hW)).mono (fun e w' h => ⟨by rw [h.1, HXR.out, red_cnt HOKM.out], hW.trans (h.2.mono hW.size)⟩)
      · have hp : (b : Int) ^ l ≤ 4611686018427387904 := by
          have h3 : b ^ l ≤ 3 ^ 5 := Nat.le_trans (Nat.pow_le_pow_left hb3 l) (Nat.pow_le_pow_right (by decide) hl)
          have h4 : ((b ^ l : Nat) : Int) = (b : Int) ^ l := Int.natCast_pow b l
          omega
        exact (lpw_any (b : Int) l W (by omega) hp (by omega)).mono (fun e w' h => ⟨by rw [h.1, HMB.out], h.2 ▸ hW⟩)
    have HL : Hid (∀ W : World, Below wT.heap.size wT W → (Calls Tryd.prog 14 #[.agg #[.int .i64 m.base, .slice a1 m.next.length c1, .slice a2 m.final.length c2]] W fun e w' => e = .returned (.int .i64 (leastR m)) ∧ Below wT.heap.size wT w') ∧
        (Calls Tryd.prog 14 #[.agg #[.int .i64 x.base, .slice a5 x.next.length c5, .slice a6 x.final.length c6]] W fun e w' => e = .returned (.int .i64 (leastR m)) ∧ Below wT.heap.size wT w')) := fun W hW =>
      ⟨(LeastAccepted_any a1 c1 a2 c2 m W (HMT.out.later hW)).mono (fun e w' h => ⟨h.1, hW.trans (h.2.mono hW.size)⟩), (LeastAccepted_any a5 c5 a6 c6 x W (HXT.out.later hW)).mono (fun e w' h => ⟨by rw [h.1, HXR.out, red_least HOKM.out], hW.trans (h.2.mono hW.size)⟩)⟩
    have HA : Hid (0 ≤ leastR m → ∀ W : World, Below wT.heap.size wT W → (Calls Tryd.prog 15 #[.agg #[.int .i64 m.base, .slice a1 m.next.length c1, .slice a2 m.final.length c2], .int .i64 (leastR m)] W fun e w' => e = .returned (.bool true) ∧ Below wT.heap.size wT w') ∧
        (Calls Tryd.prog 15 #[.agg #[.int .i64 x.base, .slice a5 x.next.length c5, .slice a6 x.final.length c6], .int .i64 (leastR m)] W fun e w' => e = .returned (.bool true) ∧ Below wT.heap.size wT w')) := fun hn W hW => by
      have h1 := least_acc HOKM.out hn
      exact ⟨(AcceptsNumber_any a1 c1 a2 c2 m _ W (HMT.out.later hW)).mono (fun e w' h => ⟨by rw [h.1, h1], hW.trans (h.2.mono hW.size)⟩), (AcceptsNumber_any a5 c5 a6 c6 x _ W (HXT.out.later hW)).mono (fun e w' h => ⟨by rw [h.1, HXR.out, red_acc HOKM.out, h1], hW.trans (h.2.mono hW.size)⟩)⟩
    clear HBMT HBPT HBXT HBYT HBZT HMT HPT HXT HYT HZT HTT heq hsame HSTc HMB HML hB4 hB5 hB6 hB8 hB10 HOKM HOKP2 HOKX HXR HYR HST
    have HBR : Hid (Below wT.heap.size wT wT.drew) := (Below.refl _ _).drew
    have HKEEP2 : Hid (∀ W : World, Below wT.heap.size wT W → (W.cell? ⟨B4, 0, none⟩ = some (.int .i64 m.base) ∧ W.cell? ⟨B4, 1, none⟩ = some (.slice a1 m.next.length c1) ∧ W.cell? ⟨B4, 2, none⟩ = some (.slice a2 m.final.length c2)) ∧ (W.cell? ⟨B5, 0, none⟩ = some (.int .i64 p.base) ∧ W.cell? ⟨B5, 1, none⟩ = some (.slice a3 p.next.length c3) ∧ W.cell? ⟨B5, 2, none⟩ = some (.slice a4 p.final.length c4)) ∧ (W.cell? ⟨B6, 0, none⟩ = some (.int .i64 x.base) ∧ W.cell? ⟨B6, 1, none⟩ = some (.slice a5 x.next.length c5) ∧ W.cell? ⟨B6, 2, none⟩ = some (.slice a6 x.final.length c6)) ∧ (W.cell? ⟨B8, 0, none⟩ = some (.int .i64 y.base) ∧ W.cell? ⟨B8, 1, none⟩ = some (.slice a7 y.next.length c7) ∧ W.cell? ⟨B8, 2, none⟩ = some (.slice a8 y.final.length c8)) ∧ (W.cell? ⟨B10, 0, none⟩ = some (.int .i64 x.base) ∧ W.cell? ⟨B10, 1, none⟩ = some (.slice a9 x.next.length c9) ∧ W.cell? ⟨B10, 2, none⟩ = some (.slice aa x.final.length cc))) := fun W hW => by
      obtain ⟨h1, h2, h3, h4, h5⟩ := HKEEP.out W hW
      exact ⟨h1.cells, h2.cells, h3.cells, h4.cells, h5.cells⟩
    clear HKEEP
    generalize m.base = qm at *
    generalize p.base = qp at *
    generalize x.base = qx at *
    generalize y.base = qy at *
    generalize m.next.length = lm at *
    generalize p.next.length = lp at *
    generalize x.next.length = lx at *
    generalize y.next.length = ly at *
    generalize m.final.length = fm at *
    generalize p.final.length = fp at *
    generalize x.final.length = fx at *
    generalize y.final.length = fy at *
    generalize eqMa x y = r at *
    generalize leastR m = n at *
    have HS : Hid (∀ W : World, Below wT.heap.size wT W → ((W.cell? ⟨B4, 0, none⟩ = some (.int .i64 qm) ∧ W.cell? ⟨B4, 1, none⟩ = some (.slice a1 lm c1) ∧ W.cell? ⟨B4, 2, none⟩ = some (.slice a2 fm c2)) ∧ (W.cell? ⟨B5, 0, none⟩ = some (.int .i64 qp) ∧ W.cell? ⟨B5, 1, none⟩ = some (.slice a3 lp c3) ∧ W.cell? ⟨B5, 2, none⟩ = some (.slice a4 fp c4)) ∧ (W.cell? ⟨B6, 0, none⟩ = some (.int .i64 qx) ∧ W.cell? ⟨B6, 1, none⟩ = some (.slice a5 lx c5) ∧ W.cell? ⟨B6, 2, none⟩ = some (.slice a6 fx c6)) ∧ (W.cell? ⟨B8, 0, none⟩ = some (.int .i64 qy) ∧ W.cell? ⟨B8, 1, none⟩ = some (.slice a7 ly c7) ∧ W.cell? ⟨B8, 2, none⟩ = some (.slice a8 fy c8)) ∧ (W.cell? ⟨B10, 0, none⟩ = some (.int .i64 qx) ∧ W.cell? ⟨B10, 1, none⟩ = some (.slice a9 lx c9) ∧ W.cell? ⟨B10, 2, none⟩ = some (.slice aa fx cc)) ∧ Below wT.heap.size wT W)) := fun W hW => by
      obtain ⟨⟨s0, s1, s2⟩, ⟨s3, s4, s5⟩, ⟨s6, s7, s8⟩, ⟨s9, s10, s11⟩, s12, s13, s14⟩ := HKEEP2.out W hW
      exact ⟨⟨s0, s1, s2⟩, ⟨s3, s4, s5⟩, ⟨s6, s7, s8⟩, ⟨s9, s10, s11⟩, ⟨s12, s13, s14⟩, hW⟩
    have HSD : Hid (((wT.drew.cell? ⟨B4, 0, none⟩ = some (.int .i64 qm) ∧ wT.drew.cell? ⟨B4, 1, none⟩ = some (.slice a1 lm c1) ∧ wT.drew.cell? ⟨B4, 2, none⟩ = some (.slice a2 fm c2)) ∧ (wT.drew.cell? ⟨B5, 0, none⟩ = some (.int .i64 qp) ∧ wT.drew.cell? ⟨B5, 1, none⟩ = some (.slice a3 lp c3) ∧ wT.drew.cell? ⟨B5, 2, none⟩ = some (.slice a4 fp c4)) ∧ (wT.drew.cell? ⟨B6, 0, none⟩ = some (.int .i64 qx) ∧ wT.drew.cell? ⟨B6, 1, none⟩ = some (.slice a5 lx c5) ∧ wT.drew.cell? ⟨B6, 2, none⟩ = some (.slice a6 fx c6)) ∧ (wT.drew.cell? ⟨B8, 0, none⟩ = some (.int .i64 qy) ∧ wT.drew.cell? ⟨B8, 1, none⟩ = some (.slice a7 ly c7) ∧ wT.drew.cell? ⟨B8, 2, none⟩ = some (.slice a8 fy c8)) ∧ (wT.drew.cell? ⟨B10, 0, none⟩ = some (.int .i64 qx) ∧ wT.drew.cell? ⟨B10, 1, none⟩ = some (.slice a9 lx c9) ∧ wT.drew.cell? ⟨B10, 2, none⟩ = some (.slice aa fx cc)) ∧ Below wT.heap.size wT wT.drew)) := HS.out _ HBR.out
    have HD1 : Hid (∀ W : World, ((W.cell? ⟨B4, 0, none⟩ = some (.int .i64 qm) ∧ W.cell? ⟨B4, 1, none⟩ = some (.slice a1 lm c1) ∧ W.cell? ⟨B4, 2, none⟩ = some (.slice a2 fm c2)) ∧ (W.cell? ⟨B5, 0, none⟩ = some (.int .i64 qp) ∧ W.cell? ⟨B5, 1, none⟩ = some (.slice a3 lp c3) ∧ W.cell? ⟨B5, 2, none⟩ = some (.slice a4 fp c4)) ∧ (W.cell? ⟨B6, 0, none⟩ = some (.int .i64 qx) ∧ W.cell? ⟨B6, 1, none⟩ = some (.slice a5 lx c5) ∧ W.cell? ⟨B6, 2, none⟩ = some (.slice a6 fx c6)) ∧ (W.cell? ⟨B8, 0, none⟩ = some (.int .i64 qy) ∧ W.cell? ⟨B8, 1, none⟩ = some (.slice a7 ly c7) ∧ W.cell? ⟨B8, 2, none⟩ = some (.slice a8 fy c8)) ∧ (W.cell? ⟨B10, 0, none⟩ = some (.int .i64 qx) ∧ W.cell? ⟨B10, 1, none⟩ = some (.slice a9 lx c9) ∧ W.cell? ⟨B10, 2, none⟩ = some (.slice aa fx cc)) ∧ Below wT.heap.size wT W) → Calls Tryd.prog 10 #[.agg #[.int .i64 qx, .slice a5 lx c5, .slice a6 fx c6], .agg #[.int .i64 qx, .slice a9 lx c9, .slice aa fx cc]] W fun e w' => e = .returned (.bool true) ∧ ((w'.cell? ⟨B4, 0, none⟩ = some (.int .i64 qm) ∧ w'.cell? ⟨B4, 1, none⟩ = some (.slice a1 lm c1) ∧ w'.cell? ⟨B4, 2, none⟩ = some (.slice a2 fm c2)) ∧ (w'.cell? ⟨B5, 0, none⟩ = some (.int .i64 qp) ∧ w'.cell? ⟨B5, 1, none⟩ = some (.slice a3 lp c3) ∧ w'.cell? ⟨B5, 2, none⟩ = some (.slice a4 fp c4)) ∧ (w'.cell? ⟨B6, 0, none⟩ = some (.int .i64 qx) ∧ w'.cell? ⟨B6, 1, none⟩ = some (.slice a5 lx c5) ∧ w'.cell? ⟨B6, 2, none⟩ = some (.slice a6 fx c6)) ∧ (w'.cell? ⟨B8, 0, none⟩ = some (.int .i64 qy) ∧ w'.cell? ⟨B8, 1, none⟩ = some (.slice a7 ly c7) ∧ w'.cell? ⟨B8, 2, none⟩ = some (.slice a8 fy c8)) ∧ (w'.cell? ⟨B10, 0, none⟩ = some (.int .i64 qx) ∧ w'.cell? ⟨B10, 1, none⟩ = some (.slice a9 lx c9) ∧ w'.cell? ⟨B10, 2, none⟩ = some (.slice aa fx cc)) ∧ Below wT.heap.size wT w')) := fun W hW => (HC1.out W hW.2.2.2.2.2).mono (fun e w' h => ⟨h.1, HS.out w' h.2⟩)
    have HD2 : Hid (∀ W : World, ((W.cell? ⟨B4, 0, none⟩ = some (.int .i64 qm) ∧ W.cell? ⟨B4, 1, none⟩ = some (.slice a1 lm c1) ∧ W.cell? ⟨B4, 2, none⟩ = some (.slice a2 fm c2)) ∧ (W.cell? ⟨B5, 0, none⟩ = some (.int .i64 qp) ∧ W.cell? ⟨B5, 1, none⟩ = some (.slice a3 lp c3) ∧ W.cell? ⟨B5, 2, none⟩ = some (.slice a4 fp c4)) ∧ (W.cell? ⟨B6, 0, none⟩ = some (.int .i64 qx) ∧ W.cell? ⟨B6, 1, none⟩ = some (.slice a5 lx c5) ∧ W.cell? ⟨B6, 2, none⟩ = some (.slice a6 fx c6)) ∧ (W.cell? ⟨B8, 0, none⟩ = some (.int .i64 qy) ∧ W.cell? ⟨B8, 1, none⟩ = some (.slice a7 ly c7) ∧ W.cell? ⟨B8, 2, none⟩ = some (.slice a8 fy c8)) ∧ (W.cell? ⟨B10, 0, none⟩ = some (.int .i64 qx) ∧ W.cell? ⟨B10, 1, none⟩ = some (.slice a9 lx c9) ∧ W.cell? ⟨B10, 2, none⟩ = some (.slice aa fx cc)) ∧ Below wT.heap.size wT W) → Calls Tryd.prog 11 #[.agg #[.int .i64 qm, .slice a1 lm c1, .slice a2 fm c2], .agg #[.int .i64 qx, .slice a5 lx c5, .slice a6 fx c6]] W fun e w' => e = .returned (.bool true) ∧ ((w'.cell? ⟨B4, 0, none⟩ = some (.int .i64 qm) ∧ w'.cell? ⟨B4, 1, none⟩ = some (.slice a1 lm c1) ∧ w'.cell? ⟨B4, 2, none⟩ = some (.slice a2 fm c2)) ∧ (w'.cell? ⟨B5, 0, none⟩ = some (.int .i64 qp) ∧ w'.cell? ⟨B5, 1, none⟩ = some (.slice a3 lp c3) ∧ w'.cell? ⟨B5, 2, none⟩ = some (.slice a4 fp c4)) ∧ (w'.cell? ⟨B6, 0, none⟩ = some (.int .i64 qx) ∧ w'.cell? ⟨B6, 1, none⟩ = some (.slice a5 lx c5) ∧ w'.cell? ⟨B6, 2, none⟩ = some (.slice a6 fx c6)) ∧ (w'.cell? ⟨B8, 0, none⟩ = some (.int .i64 qy) ∧ w'.cell? ⟨B8, 1, none⟩ = some (.slice a7 ly c7) ∧ w'.cell? ⟨B8, 2, none⟩ = some (.slice a8 fy c8)) ∧ (w'.cell? ⟨B10, 0, none⟩ = some (.int .i64 qx) ∧ w'.cell? ⟨B10, 1, none⟩ = some (.slice a9 lx c9) ∧ w'.cell? ⟨B10, 2, none⟩ = some (.slice aa fx cc)) ∧ Below wT.heap.size wT w')) := fun W hW => (HC2.out W hW.2.2.2.2.2).mono (fun e w' h => ⟨h.1, HS.out w' h.2⟩)
    have HD3 : Hid (∀ W : World, ((W.cell? ⟨B4, 0, none⟩ = some (.int .i64 qm) ∧ W.cell? ⟨B4, 1, none⟩ = some (.slice a1 lm c1) ∧ W.cell? ⟨B4, 2, none⟩ = some (.slice a2 fm c2)) ∧ (W.cell? ⟨B5, 0, none⟩ = some (.int .i64 qp) ∧ W.cell? ⟨B5, 1, none⟩ = some (.slice a3 lp c3) ∧ W.cell? ⟨B5, 2, none⟩ = some (.slice a4 fp c4)) ∧ (W.cell? ⟨B6, 0, none⟩ = some (.int .i64 qx) ∧ W.cell? ⟨B6, 1, none⟩ = some (.slice a5 lx c5) ∧ W.cell? ⟨B6, 2, none⟩ = some (.slice a6 fx c6)) ∧ (W.cell? ⟨B8, 0, none⟩ = some (.int .i64 qy) ∧ W.cell? ⟨B8, 1, none⟩ = some (.slice a7 ly c7) ∧ W.cell? ⟨B8, 2, none⟩ = some (.slice a8 fy c8)) ∧ (W.cell? ⟨B10, 0, none⟩ = some (.int .i64 qx) ∧ W.cell? ⟨B10, 1, none⟩ = some (.slice a9 lx c9) ∧ W.cell? ⟨B10, 2, none⟩ = some (.slice aa fx cc)) ∧ Below wT.heap.size wT W) → Calls Tryd.prog 11 #[.agg #[.int .i64 qm, .slice a1 lm c1, .slice a2 fm c2], .agg #[.int .i64 qp, .slice a3 lp c3, .slice a4 fp c4]] W fun e w' => e = .returned (.bool r) ∧ ((w'.cell? ⟨B4, 0, none⟩ = some (.int .i64 qm) ∧ w'.cell? ⟨B4, 1, none⟩ = some (.slice a1 lm c1) ∧ w'.cell? ⟨B4, 2, none⟩ = some (.slice a2 fm c2)) ∧ (w'.cell? ⟨B5, 0, none⟩ = some (.int .i64 qp) ∧ w'.cell? ⟨B5, 1, none⟩ = some (.slice a3 lp c3) ∧ w'.cell? ⟨B5, 2, none⟩ = some (.slice a4 fp c4)) ∧ (w'.cell? ⟨B6, 0, none⟩ = some (.int .i64 qx) ∧ w'.cell? ⟨B6, 1, none⟩ = some (.slice a5 lx c5) ∧ w'.cell? ⟨B6, 2, none⟩ = some (.slice a6 fx c6)) ∧ (w'.cell? ⟨B8, 0, none⟩ = some (.int .i64 qy) ∧ w'.cell? ⟨B8, 1, none⟩ = some (.slice a7 ly c7) ∧ w'.cell? ⟨B8, 2, none⟩ = some (.slice a8 fy c8)) ∧ (w'.cell? ⟨B10, 0, none⟩ = some (.int .i64 qx) ∧ w'.cell? ⟨B10, 1, none⟩ = some (.slice a9 lx c9) ∧ w'.cell? ⟨B10, 2, none⟩ = some (.slice aa fx cc)) ∧ Below wT.heap.size wT w')) := fun W hW => (HC3.out W hW.2.2.2.2.2).mono (fun e w' h => ⟨h.1, HS.out w' h.2⟩)
    have HD4 : Hid (∀ W : World, ((W.cell? ⟨B4, 0, none⟩ = some (.int .i64 qm) ∧ W.cell? ⟨B4, 1, none⟩ = some (.slice a1 lm c1) ∧ W.cell? ⟨B4, 2, none⟩ = some (.slice a2 fm c2)) ∧ (W.cell? ⟨B5, 0, none⟩ = some (.int .i64 qp) ∧ W.cell? ⟨B5, 1, none⟩ = some (.slice a3 lp c3) ∧ W.cell? ⟨B5, 2, none⟩ = some (.slice a4 fp c4)) ∧ (W.cell? ⟨B6, 0, none⟩ = some (.int .i64 qx) ∧ W.cell? ⟨B6, 1, none⟩ = some (.slice a5 lx c5) ∧ W.cell? ⟨B6, 2, none⟩ = some (.slice a6 fx c6)) ∧ (W.cell? ⟨B8, 0, none⟩ = some (.int .i64 qy) ∧ W.cell? ⟨B8, 1, none⟩ = some (.slice a7 ly c7) ∧ W.cell? ⟨B8, 2, none⟩ = some (.slice a8 fy c8)) ∧ (W.cell? ⟨B10, 0, none⟩ = some (.int .i64 qx) ∧ W.cell? ⟨B10, 1, none⟩ = some (.slice a9 lx c9) ∧ W.cell? ⟨B10, 2, none⟩ = some (.slice aa fx cc)) ∧ Below wT.heap.size wT W) → Calls Tryd.prog 10 #[.agg #[.int .i64 qx, .slice a5 lx c5, .slice a6 fx c6], .agg #[.int .i64 qy, .slice a7 ly c7, .slice a8 fy c8]] W fun e w' => e = .returned (.bool r) ∧ ((w'.cell? ⟨B4, 0, none⟩ = some (.int .i64 qm) ∧ w'.cell? ⟨B4, 1, none⟩ = some (.slice a1 lm c1) ∧ w'.cell? ⟨B4, 2, none⟩ = some (.slice a2 fm c2)) ∧ (w'.cell? ⟨B5, 0, none⟩ = some (.int .i64 qp) ∧ w'.cell? ⟨B5, 1, none⟩ = some (.slice a3 lp c3) ∧ w'.cell? ⟨B5, 2, none⟩ = some (.slice a4 fp c4)) ∧ (w'.cell? ⟨B6, 0, none⟩ = some (.int .i64 qx) ∧ w'.cell? ⟨B6, 1, none⟩ = some (.slice a5 lx c5) ∧ w'.cell? ⟨B6, 2, none⟩ = some (.slice a6 fx c6)) ∧ (w'.cell? ⟨B8, 0, none⟩ = some (.int .i64 qy) ∧ w'.cell? ⟨B8, 1, none⟩ = some (.slice a7 ly c7) ∧ w'.cell? ⟨B8, 2, none⟩ = some (.slice a8 fy c8)) ∧ (w'.cell? ⟨B10, 0, none⟩ = some (.int .i64 qx) ∧ w'.cell? ⟨B10, 1, none⟩ = some (.slice a9 lx c9) ∧ w'.cell? ⟨B10, 2, none⟩ = some (.slice aa fx cc)) ∧ Below wT.heap.size wT w')) := fun W hW => (HC4.out W hW.2.2.2.2.2).mono (fun e w' h => ⟨h.1, HS.out w' h.2⟩)
    clear HC1 HC2 HC3 HC4
    have hlt : ¬ ((fm : Int) < (fx : Int)) := by omega
    have hltb : decide ((fm : Int) < (fx : Int)) = false := decide_eq_false hlt
    have hltn : ¬ (fm < fx) := by omega
    have hltnb : decide (fm < fx) = false := decide_eq_false hltn
    go_cut [91] from 14 (fun c wx => c = .bool false ∧ ((wx.cell? ⟨B4, 0, none⟩ = some (.int .i64 qm) ∧ wx.cell? ⟨B4, 1, none⟩ = some (.slice a1 lm c1) ∧ wx.cell? ⟨B4, 2, none⟩ = some (.slice a2 fm c2)) ∧ (wx.cell? ⟨B5, 0, none⟩ = some (.int .i64 qp) ∧ wx.cell? ⟨B5, 1, none⟩ = some (.slice a3 lp c3) ∧ wx.cell? ⟨B5, 2, none⟩ = some (.slice a4 fp c4)) ∧ (wx.cell? ⟨B6, 0, none⟩ = some (.int .i64 qx) ∧ wx.cell? ⟨B6, 1, none⟩ = some (.slice a5 lx c5) ∧ wx.cell? ⟨B6, 2, none⟩ = some (.slice a6 fx c6)) ∧ (wx.cell? ⟨B8, 0, none⟩ = some (.int .i64 qy) ∧ wx.cell? ⟨B8, 1, none⟩ = some (.slice a7 ly c7) ∧ wx.cell? ⟨B8, 2, none⟩ = some (.slice a8 fy c8)) ∧ (wx.cell? ⟨B10, 0, none⟩ = some (.int .i64 qx) ∧ wx.cell? ⟨B10, 1, none⟩ = some (.slice a9 lx c9) ∧ wx.cell? ⟨B10, 2, none⟩ = some (.slice aa fx cc)) ∧ Below wT.heap.size wT wx))
    case first =>
      go_region_held3 (fun W => ((W.cell? ⟨B4, 0, none⟩ = some (.int .i64 qm) ∧ W.cell? ⟨B4, 1, none⟩ = some (.slice a1 lm c1) ∧ W.cell? ⟨B4, 2, none⟩ = some (.slice a2 fm c2)) ∧ (W.cell? ⟨B5, 0, none⟩ = some (.int .i64 qp) ∧ W.cell? ⟨B5, 1, none⟩ = some (.slice a3 lp c3) ∧ W.cell? ⟨B5, 2, none⟩ = some (.slice a4 fp c4)) ∧ (W.cell? ⟨B6, 0, none⟩ = some (.int .i64 qx) ∧ W.cell? ⟨B6, 1, none⟩ = some (.slice a5 lx c5) ∧ W.cell? ⟨B6, 2, none⟩ = some (.slice a6 fx c6)) ∧ (W.cell? ⟨B8, 0, none⟩ = some (.int .i64 qy) ∧ W.cell? ⟨B8, 1, none⟩ = some (.slice a7 ly c7) ∧ W.cell? ⟨B8, 2, none⟩ = some (.slice a8 fy c8)) ∧ (W.cell? ⟨B10, 0, none⟩ = some (.int .i64 qx) ∧ W.cell? ⟨B10, 1, none⟩ = some (.slice a9 lx c9) ∧ W.cell? ⟨B10, 2, none⟩ = some (.slice aa fx cc)) ∧ Below wT.heap.size wT W)) (first | assumption | exact HSD.out | exact ⟨⟨s0, s1, s2⟩, ⟨s3, s4, s5⟩, ⟨s6, s7, s8⟩, ⟨s9, s10, s11⟩, ⟨s12, s13, s14⟩, s15⟩) (first | (go_at_call 10; first | ((with_reducible refine (HD1.out _ ?_).mono ?_); (first | assumption | exact HSD.out | exact ⟨⟨s0, s1, s2⟩, ⟨s3, s4, s5⟩, ⟨s6, s7, s8⟩, ⟨s9, s10, s11⟩, ⟨s12, s13, s14⟩, s15⟩); rintro e w1 ⟨rfl, ⟨s0, s1, s2⟩, ⟨s3, s4, s5⟩, ⟨s6, s7, s8⟩, ⟨s9, s10, s11⟩, ⟨s12, s13, s14⟩, s15⟩) | ((with_reducible refine (HD4.out _ ?_).mono ?_); (first | assumption | exact HSD.out | exact ⟨⟨s0, s1, s2⟩, ⟨s3, s4, s5⟩, ⟨s6, s7, s8⟩, ⟨s9, s10, s11⟩, ⟨s12, s13, s14⟩, s15⟩); rintro e w1 ⟨rfl, ⟨s0, s1, s2⟩, ⟨s3, s4, s5⟩, ⟨s6, s7, s8⟩, ⟨s9, s10, s11⟩, ⟨s12, s13, s14⟩, s15⟩)) | (go_at_call 11; first | ((with_reducible refine (HD2.out _ ?_).mono ?_); (first | assumption | exact HSD.out | exact ⟨⟨s0, s1, s2⟩, ⟨s3, s4, s5⟩, ⟨s6, s7, s8⟩, ⟨s9, s10, s11⟩, ⟨s12, s13, s14⟩, s15⟩); rintro e w1 ⟨rfl, ⟨s0, s1, s2⟩, ⟨s3, s4, s5⟩, ⟨s6, s7, s8⟩, ⟨s9, s10, s11⟩, ⟨s12, s13, s14⟩, s15⟩) | ((with_reducible refine (HD3.out _ ?_).mono ?_); (first | assumption | exact HSD.out | exact ⟨⟨s0, s1, s2⟩, ⟨s3, s4, s5⟩, ⟨s6, s7, s8⟩, ⟨s9, s10, s11⟩, ⟨s12, s13, s14⟩, s15⟩); rintro e w1 ⟨rfl, ⟨s0, s1, s2⟩, ⟨s3, s4, s5⟩, ⟨s6, s7, s8⟩, ⟨s9, s10, s11⟩, ⟨s12, s13, s14⟩, s15⟩)))
      all_goals go_wp2_with fail
      all_goals go_meet
      all_goals exact ⟨rfl, ⟨s0, s1, s2⟩, ⟨s3, s4, s5⟩, ⟨s6, s7, s8⟩, ⟨s9, s10, s11⟩, ⟨s12, s13, s14⟩, s15⟩
    case rest =>
      obtain ⟨rfl, hPc⟩ := hcut
      have HBc := Lib.hid hPc.2.2.2.2.2
      clear hPc HSD HD1 HD2 HD3 HD4 hlt hltb hltn hltnb hxm HKEEP2
      go_wp2_with fail
      go_loopw [12] (fun lv wr => ∃ l : Nat, lv = .int .i64 l ∧ l ≤ 6 ∧ Below wT.heap.size wT wr) (fun lv _ => 6 - (intOf lv).toNat)
      case atStart => exact ⟨0, rfl, by omega, HBc.out⟩
      case round =>
        clear HBc
        obtain ⟨l, rfl, hl, hb⟩ := hrel
        have HB := Lib.hid hb
        clear hb
        by_cases hl6 : l < 6
        · obtain ⟨cn, pw, hc0, hcp, hcc⟩ := HCC.out l (by omega)
          have HE1 : Hid (∀ W : World, ((W.cell? ⟨B4, 0, none⟩ = some (.int .i64 qm) ∧ W.cell? ⟨B4, 1, none⟩ = some (.slice a1 lm c1) ∧ W.cell? ⟨B4, 2, none⟩ = some (.slice a2 fm c2)) ∧ (W.cell? ⟨B5, 0, none⟩ = some (.int .i64 qp) ∧ W.cell? ⟨B5, 1, none⟩ = some (.slice a3 lp c3) ∧ W.cell? ⟨B5, 2, none⟩ = some (.slice a4 fp c4)) ∧ (W.cell? ⟨B6, 0, none⟩ = some (.int .i64 qx) ∧ W.cell? ⟨B6, 1, none⟩ = some (.slice a5 lx c5) ∧ W.cell? ⟨B6, 2, none⟩ = some (.slice a6 fx c6)) ∧ (W.cell? ⟨B8, 0, none⟩ = some (.int .i64 qy) ∧ W.cell? ⟨B8, 1, none⟩ = some (.slice a7 ly c7) ∧ W.cell? ⟨B8, 2, none⟩ = some (.slice a8 fy c8)) ∧ (W.cell? ⟨B10, 0, none⟩ = some (.int .i64 qx) ∧ W.cell? ⟨B10, 1, none⟩ = some (.slice a9 lx c9) ∧ W.cell? ⟨B10, 2, none⟩ = some (.slice aa fx cc)) ∧ Below wT.heap.size wT W) → Calls Tryd.prog 12 #[.agg #[.int .i64 qm, .slice a1 lm c1, .slice a2 fm c2], .int .i64 l] W fun e w' => e = .returned (.int .i64 cn) ∧ ((w'.cell? ⟨B4, 0, none⟩ = some (.int .i64 qm) ∧ w'.cell? ⟨B4, 1, none⟩ = some (.slice a1 lm c1) ∧ w'.cell? ⟨B4, 2, none⟩ = some (.slice a2 fm c2)) ∧ (w'.cell? ⟨B5, 0, none⟩ = some (.int .i64 qp) ∧ w'.cell? ⟨B5, 1, none⟩ = some (.slice a3 lp c3) ∧ w'.cell? ⟨B5, 2, none⟩ = some (.slice a4 fp c4)) ∧ (w'.cell? ⟨B6, 0, none⟩ = some (.int .i64 qx) ∧ w'.cell? ⟨B6, 1, none⟩ = some (.slice a5 lx c5) ∧ w'.cell? ⟨B6, 2, none⟩ = some (.slice a6 fx c6)) ∧ (w'.cell? ⟨B8, 0, none⟩ = some (.int .i64 qy) ∧ w'.cell? ⟨B8, 1, none⟩ = some (.slice a7 ly c7) ∧ w'.cell? ⟨B8, 2, none⟩ = some (.slice a8 fy c8)) ∧ (w'.cell? ⟨B10, 0, none⟩ = some (.int .i64 qx) ∧ w'.cell? ⟨B10, 1, none⟩ = some (.slice a9 lx c9) ∧ w'.cell? ⟨B10, 2, none⟩ = some (.slice aa fx cc)) ∧ Below wT.heap.size wT w')) := fun W hW => ((hcc W hW.2.2.2.2.2).1).mono (fun e w' h => ⟨h.1, HS.out w' h.2⟩)
          have HE2 : Hid (∀ W : World, ((W.cell? ⟨B4, 0, none⟩ = some (.int .i64 qm) ∧ W.cell? ⟨B4, 1, none⟩ = some (.slice a1 lm c1) ∧ W.cell? ⟨B4, 2, none⟩ = some (.slice a2 fm c2)) ∧ (W.cell? ⟨B5, 0, none⟩ = some (.int .i64 qp) ∧ W.cell? ⟨B5, 1, none⟩ = some (.slice a3 lp c3) ∧ W.cell? ⟨B5, 2, none⟩ = some (.slice a4 fp c4)) ∧ (W.cell? ⟨B6, 0, none⟩ = some (.int .i64 qx) ∧ W.cell? ⟨B6, 1, none⟩ = some (.slice a5 lx c5) ∧ W.cell? ⟨B6, 2, none⟩ = some (.slice a6 fx c6)) ∧ (W.cell? ⟨B8, 0, none⟩ = some (.int .i64 qy) ∧ W.cell? ⟨B8, 1, none⟩ = some (.slice a7 ly c7) ∧ W.cell? ⟨B8, 2, none⟩ = some (.slice a8 fy c8)) ∧ (W.cell? ⟨B10, 0, none⟩ = some (.int .i64 qx) ∧ W.cell? ⟨B10, 1, none⟩ = some (.slice a9 lx c9) ∧ W.cell? ⟨B10, 2, none⟩ = some (.slice aa fx cc)) ∧ Below wT.heap.size wT W) → Calls Tryd.prog 12 #[.agg #[.int .i64 qx, .slice a5 lx c5, .slice a6 fx c6], .int .i64 l] W fun e w' => e = .returned (.int .i64 cn) ∧ ((w'.cell? ⟨B4, 0, none⟩ = some (.int .i64 qm) ∧ w'.cell? ⟨B4, 1, none⟩ = some (.slice a1 lm c1) ∧ w'.cell? ⟨B4, 2, none⟩ = some (.slice a2 fm c2)) ∧ (w'.cell? ⟨B5, 0, none⟩ = some (.int .i64 qp) ∧ w'.cell? ⟨B5, 1, none⟩ = some (.slice a3 lp c3) ∧ w'.cell? ⟨B5, 2, none⟩ = some (.slice a4 fp c4)) ∧ (w'.cell? ⟨B6, 0, none⟩ = some (.int .i64 qx) ∧ w'.cell? ⟨B6, 1, none⟩ = some (.slice a5 lx c5) ∧ w'.cell? ⟨B6, 2, none⟩ = some (.slice a6 fx c6)) ∧ (w'.cell? ⟨B8, 0, none⟩ = some (.int .i64 qy) ∧ w'.cell? ⟨B8, 1, none⟩ = some (.slice a7 ly c7) ∧ w'.cell? ⟨B8, 2, none⟩ = some (.slice a8 fy c8)) ∧ (w'.cell? ⟨B10, 0, none⟩ = some (.int .i64 qx) ∧ w'.cell? ⟨B10, 1, none⟩ = some (.slice a9 lx c9) ∧ w'.cell? ⟨B10, 2, none⟩ = some (.slice aa fx cc)) ∧ Below wT.heap.size wT w')) := fun W hW => ((hcc W hW.2.2.2.2.2).2.1).mono (fun e w' h => ⟨h.1, HS.out w' h.2⟩)
          have HE3 : Hid (∀ W : World, ((W.cell? ⟨B4, 0, none⟩ = some (.int .i64 qm) ∧ W.cell? ⟨B4, 1, none⟩ = some (.slice a1 lm c1) ∧ W.cell? ⟨B4, 2, none⟩ = some (.slice a2 fm c2)) ∧ (W.cell? ⟨B5, 0, none⟩ = some (.int .i64 qp) ∧ W.cell? ⟨B5, 1, none⟩ = some (.slice a3 lp c3) ∧ W.cell? ⟨B5, 2, none⟩ = some (.slice a4 fp c4)) ∧ (W.cell? ⟨B6, 0, none⟩ = some (.int .i64 qx) ∧ W.cell? ⟨B6, 1, none⟩ = some (.slice a5 lx c5) ∧ W.cell? ⟨B6, 2, none⟩ = some (.slice a6 fx c6)) ∧ (W.cell? ⟨B8, 0, none⟩ = some (.int .i64 qy) ∧ W.cell? ⟨B8, 1, none⟩ = some (.slice a7 ly c7) ∧ W.cell? ⟨B8, 2, none⟩ = some (.slice a8 fy c8)) ∧ (W.cell? ⟨B10, 0, none⟩ = some (.int .i64 qx) ∧ W.cell? ⟨B10, 1, none⟩ = some (.slice a9 lx c9) ∧ W.cell? ⟨B10, 2, none⟩ = some (.slice aa fx cc)) ∧ Below wT.heap.size wT W) → Calls Tryd.prog 13 #[.int .i64 (b : Int), .int .i64 l] W fun e w' => e = .returned (.int .i64 pw) ∧ ((w'.cell? ⟨B4, 0, none⟩ = some (.int .i64 qm) ∧ w'.cell? ⟨B4, 1, none⟩ = some (.slice a1 lm c1) ∧ w'.cell? ⟨B4, 2, none⟩ = some (.slice a2 fm c2)) ∧ (w'.cell? ⟨B5, 0, none⟩ = some (.int .i64 qp) ∧ w'.cell? ⟨B5, 1, none⟩ = some (.slice a3 lp c3) ∧ w'.cell? ⟨B5, 2, none⟩ = some (.slice a4 fp c4)) ∧ (w'.cell? ⟨B6, 0, none⟩ = some (.int .i64 qx) ∧ w'.cell? ⟨B6, 1, none⟩ = some (.slice a5 lx c5) ∧ w'.cell? ⟨B6, 2, none⟩ = some (.slice a6 fx c6)) ∧ (w'.cell? ⟨B8, 0, none⟩ = some (.int .i64 qy) ∧ w'.cell? ⟨B8, 1, none⟩ = some (.slice a7 ly c7) ∧ w'.cell? ⟨B8, 2, none⟩ = some (.slice a8 fy c8)) ∧ (w'.cell? ⟨B10, 0, none⟩ = some (.int .i64 qx) ∧ w'.cell? ⟨B10, 1, none⟩ = some (.slice a9 lx c9) ∧ w'.cell? ⟨B10, 2, none⟩ = some (.slice aa fx cc)) ∧ Below wT.heap.size wT w')) := fun W hW => ((hcc W hW.2.2.2.2.2).2.2).mono (fun e w' h => ⟨h.1, HS.out w' h.2⟩)
          have HSD : Hid (((wr.drew.cell? ⟨B4, 0, none⟩ = some (.int .i64 qm) ∧ wr.drew.cell? ⟨B4, 1, none⟩ = some (.slice a1 lm c1) ∧ wr.drew.cell? ⟨B4, 2, none⟩ = some (.slice a2 fm c2)) ∧ (wr.drew.cell? ⟨B5, 0, none⟩ = some (.int .i64 qp) ∧ wr.drew.cell? ⟨B5, 1, none⟩ = some (.slice a3 lp c3) ∧ wr.drew.cell? ⟨B5, 2, none⟩ = some (.slice a4 fp c4)) ∧ (wr.drew.cell? ⟨B6, 0, none⟩ = some (.int .i64 qx) ∧ wr.drew.cell? ⟨B6, 1, none⟩ = some (.slice a5 lx c5) ∧ wr.drew.cell? ⟨B6, 2, none⟩ = some (.slice a6 fx c6)) ∧ (wr.drew.cell? ⟨B8, 0, none⟩ = some (.int .i64 qy) ∧ wr.drew.cell? ⟨B8, 1, none⟩ = some (.slice a7 ly c7) ∧ wr.drew.cell? ⟨B8, 2, none⟩ = some (.slice a8 fy c8)) ∧ (wr.drew.cell? ⟨B10, 0, none⟩ = some (.int .i64 qx) ∧ wr.drew.cell? ⟨B10, 1, none⟩ = some (.slice a9 lx c9) ∧ wr.drew.cell? ⟨B10, 2, none⟩ = some (.slice aa fx cc)) ∧ Below wT.heap.size wT wr.drew)) := HS.out _ HB.out.drew
          clear hcc
          have hn1 : ¬ (cn < 0) := by omega
          have hn1b : decide (cn < 0) = false := decide_eq_false hn1
          have hn2 : ¬ (pw < cn) := by omega
          have hn2b : decide (pw < cn) = false := decide_eq_false hn2
          go_wp2_with fail
          go_region_held3 (fun W => ((W.cell? ⟨B4, 0, none⟩ = some (.int .i64 qm) ∧ W.cell? ⟨B4, 1, none⟩ = some (.slice a1 lm c1) ∧ W.cell? ⟨B4, 2, none⟩ = some (.slice a2 fm c2)) ∧ (W.cell? ⟨B5, 0, none⟩ = some (.int .i64 qp) ∧ W.cell? ⟨B5, 1, none⟩ = some (.slice a3 lp c3) ∧ W.cell? ⟨B5, 2, none⟩ = some (.slice a4 fp c4)) ∧ (W.cell? ⟨B6, 0, none⟩ = some (.int .i64 qx) ∧ W.cell? ⟨B6, 1, none⟩ = some (.slice a5 lx c5) ∧ W.cell? ⟨B6, 2, none⟩ = some (.slice a6 fx c6)) ∧ (W.cell? ⟨B8, 0, none⟩ = some (.int .i64 qy) ∧ W.cell? ⟨B8, 1, none⟩ = some (.slice a7 ly c7) ∧ W.cell? ⟨B8, 2, none⟩ = some (.slice a8 fy c8)) ∧ (W.cell? ⟨B10, 0, none⟩ = some (.int .i64 qx) ∧ W.cell? ⟨B10, 1, none⟩ = some (.slice a9 lx c9) ∧ W.cell? ⟨B10, 2, none⟩ = some (.slice aa fx cc)) ∧ Below wT.heap.size wT W)) (first | assumption | exact HSD.out | exact ⟨⟨s0, s1, s2⟩, ⟨s3, s4, s5⟩, ⟨s6, s7, s8⟩, ⟨s9, s10, s11⟩, ⟨s12, s13, s14⟩, s15⟩) (first | (go_at_call 12; first | ((with_reducible refine (HE1.out _ ?_).mono ?_); (first | assumption | exact HSD.out | exact ⟨⟨s0, s1, s2⟩, ⟨s3, s4, s5⟩, ⟨s6, s7, s8⟩, ⟨s9, s10, s11⟩, ⟨s12, s13, s14⟩, s15⟩); rintro e w1 ⟨rfl, ⟨s0, s1, s2⟩, ⟨s3, s4, s5⟩, ⟨s6, s7, s8⟩, ⟨s9, s10, s11⟩, ⟨s12, s13, s14⟩, s15⟩) | ((with_reducible refine (HE2.out _ ?_).mono ?_); (first | assumption | exact HSD.out | exact ⟨⟨s0, s1, s2⟩, ⟨s3, s4, s5⟩, ⟨s6, s7, s8⟩, ⟨s9, s10, s11⟩, ⟨s12, s13, s14⟩, s15⟩); rintro e w1 ⟨rfl, ⟨s0, s1, s2⟩, ⟨s3, s4, s5⟩, ⟨s6, s7, s8⟩, ⟨s9, s10, s11⟩, ⟨s12, s13, s14⟩, s15⟩)) | (go_at_call 13; ((with_reducible refine (HE3.out _ ?_).mono ?_); (first | assumption | exact HSD.out | exact ⟨⟨s0, s1, s2⟩, ⟨s3, s4, s5⟩, ⟨s6, s7, s8⟩, ⟨s9, s10, s11⟩, ⟨s12, s13, s14⟩, s15⟩); rintro e w1 ⟨rfl, ⟨s0, s1, s2⟩, ⟨s3, s4, s5⟩, ⟨s6, s7, s8⟩, ⟨s9, s10, s11⟩, ⟨s12, s13, s14⟩, s15⟩)))
          all_goals
            go_wp2_with fail
            go_roundw
            case rel => exact ⟨l + 1, by go_num, by omega, by assumption⟩
            case measure => simp [intOf]; omega
        · clear HCC
          obtain ⟨⟨s0, s1, s2⟩, ⟨s3, s4, s5⟩, ⟨s6, s7, s8⟩, ⟨s9, s10, s11⟩, ⟨s12, s13, s14⟩, s15⟩ := HS.out wr HB.out
          go_wp2_with fail
          refine (HL.out _ HB.out).1.mono ?_
          rintro e wl ⟨rfl, hbl⟩
          have HBL := Lib.hid hbl
          clear hbl s0 s1 s2 s3 s4 s5 s6 s7 s8 s9 s10 s11 s12 s13 s14 s15
          obtain ⟨⟨s0, s1, s2⟩, ⟨s3, s4, s5⟩, ⟨s6, s7, s8⟩, ⟨s9, s10, s11⟩, ⟨s12, s13, s14⟩, s15⟩ := HS.out wl HBL.out
          go_wp2_with fail
          refine (HL.out _ HBL.out).2.mono ?_
          rintro e wm ⟨rfl, hbm⟩
          have HBM := Lib.hid hbm
          clear hbm s0 s1 s2 s3 s4 s5 s6 s7 s8 s9 s10 s11 s12 s13 s14 s15
          obtain ⟨⟨s0, s1, s2⟩, ⟨s3, s4, s5⟩, ⟨s6, s7, s8⟩, ⟨s9, s10, s11⟩, ⟨s12, s13, s14⟩, s15⟩ := HS.out wm HBM.out
          by_cases hn : n < 0
          · have hnb : decide (n < 0) = true := decide_eq_true hn
            go_wp2_with fail
            go_ret
            exact ⟨rfl, HBT.out.trans (HBM.out.mono HBT.out.size)⟩
          · have hnb : decide (n < 0) = false := decide_eq_false hn
            go_wp2_with fail
            refine (HA.out (by omega) _ HBM.out).1.mono ?_
            rintro e wn ⟨rfl, hbn⟩
            have HBN := Lib.hid hbn
            clear hbn s0 s1 s2 s3 s4 s5 s6 s7 s8 s9 s10 s11 s12 s13 s14 s15
            obtain ⟨⟨s0, s1, s2⟩, ⟨s3, s4, s5⟩, ⟨s6, s7, s8⟩, ⟨s9, s10, s11⟩, ⟨s12, s13, s14⟩, s15⟩ := HS.out wn HBN.out
            go_wp2_with fail
            refine (HA.out (by omega) _ HBN.out).2.mono ?_
            rintro e wo ⟨rfl, hbo⟩
            have HBO := Lib.hid hbo
            clear hbo s0 s1 s2 s3 s4 s5 s6 s7 s8 s9 s10 s11 s12 s13 s14 s15
            go_wp2_with fail
            go_ret
            exact ⟨rfl, HBT.out.trans (HBO.out.mono HBT.out.size)⟩

end Go.Proofs.YtkapbhlnjmfaaaaDoor
