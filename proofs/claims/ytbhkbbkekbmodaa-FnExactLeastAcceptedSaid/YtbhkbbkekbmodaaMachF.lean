/- The law on RunMachine. Conditions: none. -/
import Derived.Test.YtbhkbbkekbmodaaMachE
namespace Go.Proofs.Ytbhkbbkekbmodaa
set_option linter.unusedVariables false
open Go.RowKit

theorem szR_neg {l1 l2 : Nat} (h : ¬ l1 + l2 ≤ 1048576) : szR l1 l2 = -1 := by simp only [szR]; rw [if_neg h]
theorem szR_pos {l1 l2 : Nat} (h : l1 + l2 ≤ 1048576) : 0 ≤ szR l1 l2 ∧ szR l1 l2 ≤ 1048576 := by simp only [szR]; rw [if_pos h]; omega
/-- the cells of a box of a machine, in whatever later world -/
theorem box_keep {t w0 : World} {q : Int} {a1 : Option Addr} {l1 c1 : Nat} {a2 : Option Addr} {l2 c2 : Nat} {N : Nat} (hN : N < w0.heap.size) (k : w0.cell? ⟨N, 0, none⟩ = some (.int .i64 q) ∧ w0.cell? ⟨N, 1, none⟩ = some (.slice a1 l1 c1) ∧ w0.cell? ⟨N, 2, none⟩ = some (.slice a2 l2 c2)) (hW : Below w0.heap.size w0 t) :
    t.cell? ⟨N, 0, none⟩ = some (.int .i64 q) ∧ t.cell? ⟨N, 1, none⟩ = some (.slice a1 l1 c1) ∧ t.cell? ⟨N, 2, none⟩ = some (.slice a2 l2 c2) :=
  ⟨(hW.cell (p := ⟨N, 0, none⟩) hN).trans k.1, (hW.cell (p := ⟨N, 1, none⟩) hN).trans k.2.1, (hW.cell (p := ⟨N, 2, none⟩) hN).trans k.2.2⟩
set_option maxHeartbeats 2000000 in
theorem law_FnExactRunMachine (a1 : Option Addr) (c1 : Nat) (a2 : Option Addr) (c2 : Nat) (m : Ma) (a : Option Addr) (len cap : Nat) (zs : List Int) (w : World) (hm : Mach w w.heap.size a1 c1 a2 c2 m) (hz : IsRow .i64 w a len cap zs) :
    Calls Try.prog 3 #[.agg #[.int .i64 m.base, .slice a1 m.next.length c1, .slice a2 m.final.length c2], .slice a len cap] w fun e w' => e = .returned (.bool true) ∧ Below w.heap.size w w' := by
  obtain ⟨ds, rfl, hx⟩ := hz.op
  have hl1 := hm.ints.len
  have hl2 := hm.bools.len
  have hl3 := hx.len
  obtain ⟨w0, e0, hb0, hs0, k0, k1, k2⟩ := boxL_new m.base a1 m.next.length c1 a2 m.final.length c2 w
  have HBW : Hid (∀ W : World, Below w0.heap.size w0 W → Below w.heap.size w W) := fun W hW => hb0.trans (hW.mono (by omega))
  have HK : Hid (∀ W : World, Below w0.heap.size w0 W → _) := fun W hW => box_keep (by omega) ⟨k0, k1, k2⟩ hW
  have HR0 : Hid (Below w0.heap.size w0 w0) := Below.refl _ _
  by_cases h1 : 1048576 < ds.length
  · clear hm hx hz k0 k1 k2 HK
    have HB0 := Lib.hid hb0; clear hb0
    go_enter Try.func3, Try.ntmps3
    go_wp2_with fail
    rw [← e0]
    go_ret
    exact ⟨rfl, HB0.out⟩
  have hlen : ds.length ≤ 1048576 := by omega
  clear h1 hz
  have HSZ : Hid (∀ W : World, Calls Try.prog 6 #[.agg #[.int .i64 m.base, .slice a1 m.next.length c1, .slice a2 m.final.length c2], .int .i64 1048576] W fun e w' => e = .returned (.int .i64 (szR m.next.length m.final.length)) ∧ Below W.heap.size W w') := fun W => szMachine_any m.base a1 _ c1 a2 _ c2 W hl1 hl2
  by_cases h2 : m.next.length + m.final.length ≤ 1048576
  · have HTM : Hid (∀ W : World, Below w0.heap.size w0 W → Calls Try.prog 8 #[.agg #[.int .i64 m.base, .slice a1 m.next.length c1, .slice a2 m.final.length c2]] W fun e w' => ∃ b1 d1 b2 d2, e = .returned (.agg #[.int .i64 m.base, .slice b1 m.next.length d1, .slice b2 m.final.length d2]) ∧ Mach w' w'.heap.size b1 d1 b2 d2 m ∧ Below W.heap.size W w') := fun W hW => toMachine_any a1 c1 a2 c2 m W (hm.later (HBW.out W hW)) (by omega) (by omega)
    have HTI : Hid (∀ W : World, Below w0.heap.size w0 W → Calls Try.prog 9 #[.slice a ds.length cap] W (RetI W ds)) := fun W hW => toIntS_any a cap ds W ((hx.below (HBW.out W hW)).mono (HBW.out W hW).size) hlen
    obtain ⟨hsz0, hsz1⟩ := szR_pos h2
    clear hm hx hb0 h2
    generalize szR m.next.length m.final.length = sz at *
    go_enter Try.func3, Try.ntmps3
    go_wp2_with fail
    rw [← e0]
    refine (HSZ.out _).mono ?_
    rintro e w1 ⟨rfl, hb1⟩
    obtain ⟨x0, x1, x2⟩ := HK.out w1 hb1
    have HB1 := Lib.hid hb1
    clear hb1 k0 k1 k2 e0
    go_wp2_with fail
    refine (HTM.out _ HB1.out).mono ?_
    rintro e w2 ⟨b1, d1, b2, d2, rfl, hm2, hb2⟩
    have HB2 := Lib.hid (HB1.out.trans (hb2.mono HB1.out.size))
    have HM2 := Lib.hid hm2
    clear hb2 hm2 x0 x1 x2
    go_wp2_with fail
    refine (HTI.out _ HB2.out).mono ?_
    rintro e w3 ⟨ai, ci, rfl, ho3, hb3⟩
    have HM3 := Lib.hid (HM2.out.later hb3)
    have HI3 := Lib.hid ho3.ints
    have HB3 := Lib.hid (HB2.out.trans (hb3.mono HB2.out.size))
    clear hb3 ho3
    go_wp2_with fail
    refine (sRunMachine_any b1 d1 b2 d2 m ai ci ds _ HM3.out HI3.out).mono ?_
    rintro e w4 ⟨rfl, hb4⟩
    have HB4 := Lib.hid (HB3.out.trans (hb4.mono HB3.out.size))
    obtain ⟨x0, x1, x2⟩ := HK.out w4 HB4.out
    clear hb4 HM2 HM3 HI3
    go_wp2_with fail
    refine (HTM.out _ HB4.out).mono ?_
    rintro e w5 ⟨g1, q1, g2, q2, rfl, hm5, hb5⟩
    have HB5 := Lib.hid (HB4.out.trans (hb5.mono HB4.out.size))
    obtain ⟨w6, e6, hb6, hs6, j0, j1, j2⟩ := box_new m.base g1 m.next.length q1 g2 m.final.length q2 w5
    have HM6 := Lib.hid (hm5.later hb6)
    have HB6 := Lib.hid (HB5.out.trans (hb6.mono HB5.out.size))
    have HJ : Hid (∀ W : World, Below w6.heap.size w6 W → _) := fun W hW => box_keep (by omega) ⟨j0, j1, j2⟩ hW
    clear hb5 hm5 hb6 x0 x1 x2 j0 j1 j2
    go_wp2_with fail
    simp only [← e6]
    clear e6
    refine (HTI.out _ HB6.out).mono ?_
    rintro e w7 ⟨ak, ck, rfl, ho7, hb7⟩
    obtain ⟨x0, x1, x2⟩ := HJ.out w7 hb7
    have HM7 := Lib.hid (HM6.out.later hb7)
    have HI7 := Lib.hid ho7.ints
    have HC7 := Lib.hid hb7
    have HB7 := Lib.hid (HB6.out.trans (hb7.mono HB6.out.size))
    clear hb7 ho7
    go_wp2_with fail
    refine (RunMachine_any g1 q1 g2 q2 m ak ck ds _ HM7.out HI7.out).mono ?_
    rintro e w8 ⟨rfl, hb8⟩
    have HM8 := Lib.hid (HM7.out.later hb8)
    have HI8 : Hid (Ints w8 w8.heap.size ak ck ds) := (HI7.out.below hb8).mono hb8.size
    have HC8 := Lib.hid (HC7.out.trans (hb8.mono HC7.out.size))
    have HB8 := Lib.hid (HB7.out.trans (hb8.mono HB7.out.size))
    clear x0 x1 x2 hb8
    obtain ⟨x0, x1, x2⟩ := HK.out w8 HB8.out
    obtain ⟨y0, y1, y2⟩ := HJ.out w8 HC8.out
    generalize runR m ds = rr at *
    go_wp2_with fail
    go_region_with (first | (go_at_call 8; refine (HTM.out _ ?_).mono ?_; (first | exact HB8.out.drew | exact HB8.out); rintro e w9 ⟨u1, t1, u2, t2, rfl, hm9, hb9⟩; have hb9' : Below w8.heap.size w8 w9 := (Below.refl w8.heap.size w8).drew.trans hb9; obtain ⟨v0, v1, v2⟩ := HJ.out w9 (HC8.out.trans (hb9'.mono HC8.out.size)); have HM9 := Lib.hid hm9; have HN9 := Lib.hid (HM8.out.later hb9'); have HB9 := Lib.hid hb9'; clear hb9 hb9' hm9) | (go_at_call 11; refine (eqMachine_same g1 q1 g2 q2 u1 t1 u2 t2 m _ HN9.out HM9.out).mono ?_; rintro e w10 ⟨rfl, hb10⟩; have HB10 := Lib.hid (HB9.out.trans (hb10.mono HB9.out.size)); clear hb10))
    all_goals
      have HD10 := Lib.hid (HB8.out.trans (HB10.out.mono HB8.out.size))
      have HI10 : Hid (Ints w10 w10.heap.size ak ck ds) := (HI8.out.below HB10.out).mono HB10.out.size
      clear HI8 HM8 HN9 HM9
    all_goals go_wp2_with fail
    all_goals
      refine (HTI.out _ HD10.out).mono ?_
      rintro e w11 ⟨al, cl, rfl, ho11, hb11⟩
      have HI11 := Lib.hid ho11.ints
      have HJ11 : Hid (Ints w11 w11.heap.size ak ck ds) := (HI10.out.below hb11).mono hb11.size
      have HB11 := Lib.hid (HD10.out.trans (hb11.mono HD10.out.size))
      clear ho11 hb11
    all_goals go_wp2_with fail
    all_goals
      refine (eqIntS_same ak al ck cl ds _ HJ11.out HI11.out).mono ?_
      rintro e w12 ⟨rfl, hb12⟩
      have HB12 := Lib.hid (HB11.out.trans (hb12.mono HB11.out.size))
      clear hb12
    all_goals go_wp2_with fail
    all_goals go_ret
    all_goals exact ⟨rfl, HBW.out _ HB12.out⟩
  · have HN := Lib.hid (szR_neg h2)
    have HB0 := Lib.hid hb0
    rw [HN.out] at HSZ
    clear hm hx hb0 h2
    go_enter Try.func3, Try.ntmps3
    go_wp2_with fail
    rw [← e0]
    refine (HSZ.out _).mono ?_
    rintro e w1 ⟨rfl, hb1⟩
    have HB1 := Lib.hid (HB0.out.trans (hb1.mono (by omega)))
    clear hb1 k0 k1 k2 e0
    go_wp2_with fail
    go_ret
    exact ⟨rfl, HB1.out⟩

end Go.Proofs.Ytbhkbbkekbmodaa
