/- The law on ParseNumbers: the walk. Conditions: the table of powers of ten stands; the two variables of errors hold interface values. -/
import Derived.Test.YtdpddbajeldgiaaDoorParF
namespace Go.Proofs.YtdpddbajeldgiaaDoor
set_option linter.unusedVariables false
open Go.RowKit

set_option maxHeartbeats 1000000 in
theorem law_FnExactParseNumbers (s : ByteArray) (w : World) (hm : s.size ≤ maxLen) (ht : Tab w ∧ Errs w) :
    Calls Tryd.prog 9 #[.string s] w fun e w' => e = .returned (.bool true) ∧ Below w.heap.size w w' := by
  clear hm
  by_cases hlen : s.size ≤ 1048576
  rotate_left
  · go_enter Tryd.func9, Tryd.ntmps9
    go_wp2
    go_ret
    exact ⟨rfl, Below.refl _ _⟩
  obtain ⟨r, hr⟩ : ∃ r, r = pN s.data.toList := ⟨_, rfl⟩
  have HLEN : Hid ((r.getD []).length ≤ 60) := by
    show _ ≤ _
    cases hp : r with
    | none => simp
    | some xs => rw [Option.getD_some]; exact pN_len (by rw [← hr]; exact hp)
  have HT := Lib.hid ht.1
  have HE := Lib.hid ht.2
  have HSC : Hid (∀ W : World, Calls Tryd.prog 25 #[.string s] W (RetN W r)) := fun W => by rw [hr]; exact sParseNumbers_any s W hlen
  have HIC : Hid (∀ W : World, Below w.heap.size w W → Calls Tryd.prog 26 #[.string s] W (RetN W r)) := fun W hW => by rw [hr]; exact ParseNumbers_any s W hlen (HT.out.upd hW) (HE.out.upd hW)
  clear hr ht HT HE
  go_enter Tryd.func9, Tryd.ntmps9
  go_wp2_with fail
  refine (HSC.out _).mono ?_
  rintro e w1 ⟨a1, c1, rfl, ho1, hb1⟩
  have HO1 := Lib.hid ho1; have HB1 := Lib.hid hb1; clear ho1 hb1
  go_wp2_with fail
  refine (HIC.out _ HB1.out).mono ?_
  rintro e w2 ⟨a2, c2, rfl, ho2, hb2⟩
  have HO2 := Lib.hid ho2; have HB2 := Lib.hid hb2; clear ho2 hb2
  go_wp2_with fail
  refine (eqIntS_same _ _ _ _ (r.getD []) _ HO2.out.ints (((HO1.out.ints).below HB2.out).mono HB2.out.size)).mono ?_
  rintro e w3 ⟨rfl, hb3⟩
  have HB3 := Lib.hid hb3; clear hb3
  go_wp2_with fail
  refine (markIntS_any w1.heap.size _ _ (r.getD []) 1 _ (HO2.out.kept HB3.out) (by omega) (by have := HLEN.out; omega)).mono ?_
  rintro e w4 ⟨rfl, hi4, hb4⟩
  have HI4 := Lib.hid hi4; have HB4 := Lib.hid hb4; clear hi4 hb4
  have hl1 : (0 : Int) ≤ 1 + ((r.getD []).length : Int) := by omega
  have s1 := HB1.out.size
  have s2 := HB2.out.size
  have s3 := HB3.out.size
  have s4 := HB4.out.size
  have HBW4 : Hid (Below w.heap.size w w4) := ((HB1.out.trans (HB2.out.mono s1)).trans (HB3.out.mono (by omega))).trans (HB4.out.mono s1)
  go_wp2_with fail
  refine (heldIntS_any _ _ 1 (r.getD []).length _ HI4.out (by omega) (by have := HLEN.out; omega)).mono ?_
  rintro e w' ⟨rfl, rfl⟩
  go_wp2_with fail
  refine (HIC.out _ HBW4.out).mono ?_
  rintro e w5 ⟨a5, c5, rfl, ho5, hb5⟩
  have HO5 := Lib.hid ho5; have HB5 := Lib.hid hb5; clear ho5 hb5
  have HQ1 : Hid (Ints w5 w5.heap.size a1 c1 (r.getD [])) := (((((HO1.out.ints).below HB2.out).below (HB3.out.mono HB2.out.size)).below HB4.out).below (HB5.out.mono (Nat.le_trans HB2.out.size (Nat.le_trans HB3.out.size HB4.out.size)))).mono (Nat.le_trans HB2.out.size (Nat.le_trans HB3.out.size (Nat.le_trans HB4.out.size HB5.out.size)))
  go_wp2_with fail
  refine (eqIntS_same _ _ _ _ (r.getD []) _ HO5.out.ints HQ1.out).mono ?_
  rintro e w6 ⟨rfl, hb6⟩
  have HB6 := Lib.hid hb6; clear hb6
  go_wp2_with fail
  refine (heldIntS_any _ _ 1 (r.getD []).length _ (((HI4.out.below HB5.out).below (HB6.out.mono HB5.out.size)).mono (Nat.le_trans HB5.out.size HB6.out.size)) (by omega) (by have := HLEN.out; omega)).mono ?_
  rintro e w' ⟨rfl, rfl⟩
  go_wp2_with fail
  go_ret
  have s5 := HB5.out.size
  exact ⟨rfl, (HBW4.out.trans (HB5.out.mono (by omega))).trans (HB6.out.mono (by omega))⟩

end Go.Proofs.YtdpddbajeldgiaaDoor
