/- The law on MachineLine. Conditions: the table of powers of ten stands. -/
import Derived.Test.YtkapbhlnjmfaaaaDoorLineM
import Derived.Test.YtkapbhlnjmfaaaaDoorMachF
namespace Go.Proofs.YtkapbhlnjmfaaaaDoor
set_option linter.unusedVariables false
open Go.RowKit

set_option maxHeartbeats 2000000 in
theorem law_FnExactMachineLine (a1 : Option Addr) (c1 : Nat) (a2 : Option Addr) (c2 : Nat) (m : Ma) (w : World) (hm : Mach w w.heap.size a1 c1 a2 c2 m) (ht : Tab w) :
    Calls Tryd.prog 5 #[.agg #[.int .i64 m.base, .slice a1 m.next.length c1, .slice a2 m.final.length c2]] w fun e w' => e = .returned (.bool true) ∧ Below w.heap.size w w' := by
  have HT := Lib.hid ht
  clear ht
  have hl1 := hm.ints.len
  have hl2 := hm.bools.len
  obtain ⟨w0, e0, hb0, hs0, k0, k1, k2⟩ := boxL_new m.base a1 m.next.length c1 a2 m.final.length c2 w
  have HBW : Hid (∀ W : World, Below w0.heap.size w0 W → Below w.heap.size w W) := fun W hW => hb0.trans (hW.mono (by omega))
  have HK : Hid (∀ W : World, Below w0.heap.size w0 W → _) := fun W hW => box_keep (by omega) ⟨k0, k1, k2⟩ hW
  have HSZ : Hid (∀ W : World, Calls Tryd.prog 22 #[.agg #[.int .i64 m.base, .slice a1 m.next.length c1, .slice a2 m.final.length c2], .int .i64 1048576] W fun e w' => e = .returned (.int .i64 (szR m.next.length m.final.length)) ∧ Below W.heap.size W w') := fun W => szMachine_any m.base a1 _ c1 a2 _ c2 W hl1 hl2
  by_cases h2 : m.next.length + m.final.length ≤ 1048576
  · have HTM : Hid (∀ W : World, Below w0.heap.size w0 W → Calls Tryd.prog 24 #[.agg #[.int .i64 m.base, .slice a1 m.next.length c1, .slice a2 m.final.length c2]] W fun e w' => ∃ b1 d1 b2 d2, e = .returned (.agg #[.int .i64 m.base, .slice b1 m.next.length d1, .slice b2 m.final.length d2]) ∧ Mach w' w'.heap.size b1 d1 b2 d2 m ∧ Below W.heap.size W w') := fun W hW => toMachine_any a1 c1 a2 c2 m W (hm.later (HBW.out W hW)) (by omega) (by omega)
    obtain ⟨hsz0, hsz1⟩ := szR_pos h2
    clear hm hb0 h2
    generalize szR m.next.length m.final.length = sz at *
    go_enter Tryd.func5, Tryd.ntmps5
    go_wp2_with fail
    rw [← e0]
    refine (HSZ.out _).mono ?_
    rintro e w1 ⟨rfl, hb1⟩
    obtain ⟨x0, x1, x2⟩ := HK.out w1 hb1
    have HB1 := Lib.hid hb1
    clear hb1 k0 k1 k2 e0
    go_wp2_with fail
    refine (HTM.out _ HB1.out).mono ?_
    rintro e w2 ⟨b1, d1, b2, d2, rfl, hm2, hb2⟩
    have HB2 := Lib.hid (HB1.out.trans (hb2.mono HB1.out.size))
    have HM2 := Lib.hid hm2
    clear hb2 hm2 x0 x1 x2
    go_wp2_with fail
    refine (sMachineLine_any b1 d1 b2 d2 m _ HM2.out).mono ?_
    rintro e w4 ⟨rfl, hb4⟩
    have HB4 := Lib.hid (HB2.out.trans (hb4.mono HB2.out.size))
    obtain ⟨x0, x1, x2⟩ := HK.out w4 HB4.out
    clear hb4 HM2
    go_wp2_with fail
    refine (HTM.out _ HB4.out).mono ?_
    rintro e w5 ⟨g1, q1, g2, q2, rfl, hm5, hb5⟩
    have HB5 := Lib.hid (HB4.out.trans (hb5.mono HB4.out.size))
    obtain ⟨w6, e6, hb6, hs6, j0, j1, j2⟩ := box_new m.base g1 m.next.length q1 g2 m.final.length q2 w5
    have HM6 := Lib.hid (hm5.later hb6)
    have HB6 := Lib.hid (HB5.out.trans (hb6.mono HB5.out.size))
    have HJ : Hid (∀ W : World, Below w6.heap.size w6 W → _) := fun W hW => box_keep (by omega) ⟨j0, j1, j2⟩ hW
    clear hb5 hm5 hb6 x0 x1 x2 j0 j1 j2
    go_wp2_with fail
    simp only [← e6]
    clear e6
    refine (MachineLine_any g1 q1 g2 q2 m _ HM6.out (HT.out.upd (HBW.out _ HB6.out))).mono ?_
    rintro e w8 ⟨rfl, hb8⟩
    have HM8 := Lib.hid (HM6.out.later hb8)
    have HC8 := Lib.hid hb8
    have HB8 := Lib.hid (HB6.out.trans (hb8.mono HB6.out.size))
    clear hb8
    obtain ⟨x0, x1, x2⟩ := HK.out w8 HB8.out
    obtain ⟨y0, y1, y2⟩ := HJ.out w8 HC8.out
    generalize lineR m = rr at *
    go_wp2_with fail
    go_region_with (first | (go_at_call 24; refine (HTM.out _ ?_).mono ?_; (first | exact HB8.out.drew | exact HB8.out); rintro e w9 ⟨u1, t1, u2, t2, rfl, hm9, hb9⟩; have hb9' : Below w8.heap.size w8 w9 := (Below.refl w8.heap.size w8).drew.trans hb9; obtain ⟨v0, v1, v2⟩ := HJ.out w9 (HC8.out.trans (hb9'.mono HC8.out.size)); have HM9 := Lib.hid hm9; have HN9 := Lib.hid (HM8.out.later hb9'); have HB9 := Lib.hid hb9'; clear hb9 hb9' hm9) | (go_at_call 26; refine (eqMachine_same g1 q1 g2 q2 u1 t1 u2 t2 m _ HN9.out HM9.out).mono ?_; rintro e w10 ⟨rfl, hb10⟩; have HB10 := Lib.hid (HB9.out.trans (hb10.mono HB9.out.size)); clear hb10))
    all_goals
      have HD10 := Lib.hid (HB8.out.trans (HB10.out.mono HB8.out.size))
      clear HM8 HN9 HM9
    all_goals go_wp2_with fail
    all_goals go_ret
    all_goals exact ⟨rfl, HBW.out _ HD10.out⟩
  · have HN := Lib.hid (szR_neg h2)
    have HB0 := Lib.hid hb0
    rw [HN.out] at HSZ
    clear hm hb0 h2
    go_enter Tryd.func5, Tryd.ntmps5
    go_wp2_with fail
    rw [← e0]
    refine (HSZ.out _).mono ?_
    rintro e w1 ⟨rfl, hb1⟩
    have HB1 := Lib.hid (HB0.out.trans (hb1.mono (by omega)))
    clear hb1 k0 k1 k2 e0
    go_wp2_with fail
    go_ret
    exact ⟨rfl, HB1.out⟩

end Go.Proofs.YtkapbhlnjmfaaaaDoor
