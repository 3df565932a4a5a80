/- ParseInt, program and reference. Conditions: the table of powers of ten stands; the two variables of errors hold interface values. -/
import Derived.Test.YtdpddbajeldgiaaDoorParP
import Derived.Deep.RegionHeld3
namespace Go.Proofs.YtdpddbajeldgiaaDoor
set_option linter.unusedVariables false
open Go.RowKit

/-- the two variables of errors hold something -/
def Errs (w : World) : Prop := (∃ ev, w.cell? ⟨3, 0, none⟩ = some ev ∧ (ev = .nilIface ∨ ∃ te pe, ev = .iface te pe)) ∧ (∃ ev, w.cell? ⟨4, 0, none⟩ = some ev ∧ (ev = .nilIface ∨ ∃ te pe, ev = .iface te pe))
theorem Errs.upd {w w' : World} (h : Errs w) (hb : Below w.heap.size w w') : Errs w' := by
  obtain ⟨⟨a, ha, ha2⟩, b, hb1, hb2⟩ := h
  exact ⟨⟨a, (hb.cell (p := ⟨3, 0, none⟩) (Lib.lt_of_cell ha)).trans ha, ha2⟩, b, (hb.cell (p := ⟨4, 0, none⟩) (Lib.lt_of_cell hb1)).trans hb1, hb2⟩
theorem str_ne {a b : ByteArray} (h : ¬ a = b) : (a.toList == b.toList) = false := by
  rw [ByteArray.toList_eq, ByteArray.toList_eq, beq_eq_false_iff_ne]
  intro e
  exact h (ByteArray.ext (Array.toList_inj.1 e))
theorem itB_eq {v : Int} {s : ByteArray} : itB v = s ↔ Lib.itoa v = s.data.toList := by
  constructor
  · rintro rfl; simp [itB]
  · intro h; unfold itB; rw [h]
theorem Atoi_bad (s : ByteArray) (hlim : s.size ≤ 281474976710656) (h1 : ∀ v, Lib.atoiAll s.data.toList ≠ .ok v) (h2 : Lib.atoiAll s.data.toList ≠ .range) (ev : Value) (w : World) (hv : w.cell? ⟨3, 0, none⟩ = some ev) (hev : ev = .nilIface ∨ ∃ te pe, ev = .iface te pe) :
    Calls Tryd.prog 102 #[.string s] w fun e w' => ∃ N, e = .returned (.tuple #[.int .i64 0, .iface 94 (.pointer (some ⟨N, 0, none⟩))]) ∧ Below w.heap.size w w' := by
  refine Calls.mono (Any.strconv_Atoi_syntax Tryd.laysC172 s hlim (by
    cases ha : Lib.atoiAll s.data.toList
    case ok u => exact absurd ha (h1 u)
    case range => exact absurd ha h2
    all_goals rfl) ev w hv hev) ?_
  rintro e w' ⟨N, rfl, -, -, h⟩
  exact ⟨N, rfl, h⟩
theorem ParseInt_any (s : ByteArray) (w : World) (hs : s.size ≤ 1048576) (ht : Tab w) (he : Errs w) :
    Calls Tryd.prog 62 #[.string s] w fun e w' => e = .returned (.tuple #[.int .i64 ((pI s.data.toList).getD 0), .bool (pI s.data.toList).isSome]) ∧ Below w.heap.size w w' := by
  obtain ⟨⟨ev, hv, hv2⟩, ew, hw, hw2⟩ := he
  have HV := Lib.hid hv
  have HV2 := Lib.hid hv2
  have HW := Lib.hid hw
  have HW2 := Lib.hid hw2
  have HT := Lib.hid ht
  clear hv hv2 hw hw2 ht
  rcases atoi_three s.data.toList with ⟨v, ha⟩ | ha | ⟨ha1, ha2⟩
  · clear HV HV2 HW HW2
    have HA := Lib.hid ha
    have HC : Hid (∀ W, W = w → Calls Tryd.prog 102 #[.string s] W fun e w' => e = .returned (.tuple #[.int .i64 v, .nilIface]) ∧ Below W.heap.size W w') := by
      rintro W rfl
      refine (Tryd.strconv_Atoi_ok s (by omega) v HA.out W).mono ?_
      rintro e w' ⟨rfl, rfl | ⟨t, rfl⟩⟩
      · exact ⟨rfl, Below.refl _ _⟩
      · exact ⟨rfl, Lib.bytesWorld_below _ _ _⟩
    have HB : Hid (i64B v) := Lib.atoiAll_bounds HA.out
    have HP : Hid (pI s.data.toList = if Lib.itoa v = s.data.toList then some v else none) := by show _ = _; rw [pI, HA.out]
    clear ha
    go_enter Tryd.func62, Tryd.ntmps62
    go_wp2_with fail
    refine (HC.out _ rfl).mono ?_
    rintro e w1 ⟨rfl, hb⟩
    have HT1 := Lib.hid (HT.out.upd hb)
    have HB1 := Lib.hid hb
    clear hb
    go_wp2_with fail
    refine (FormatInt_any v _ HB.out HT1.out).mono ?_
    rintro e w2 ⟨rfl, hb⟩
    have HB2 := Lib.hid (HB1.out.trans (hb.mono HB1.out.size))
    clear hb
    by_cases hi : itB v = s
    · have HI := Lib.hid hi
      go_wp2_with fail
      go_ret2
      exact ⟨by rw [HP.out, if_pos (itB_eq.1 HI.out)] <;> rfl, HB2.out⟩
    · have HI := Lib.hid hi
      have hib := str_ne hi
      go_wp2_with fail
      go_ret2
      exact ⟨by rw [HP.out, if_neg (fun h => HI.out (itB_eq.2 h))] <;> rfl, HB2.out⟩
  · have HA := Lib.hid ha
    have HC : Hid (∀ W, W = w → Calls Tryd.prog 102 #[.string s] W fun e w' => ∃ N, e = .returned (.tuple #[.int .i64 (Lib.atoiSat s.data.toList), .iface 94 (.pointer (some ⟨N, 0, none⟩))]) ∧ Below W.heap.size W w') := by
      rintro W rfl
      refine (Tryd.strconv_Atoi_range s (by omega) HA.out ew W HW.out HW2.out).mono ?_
      rintro e w' ⟨N, rfl, -, -, h⟩
      exact ⟨N, rfl, h⟩
    have HP : Hid (pI s.data.toList = none) := by show _ = _; rw [pI, HA.out]
    clear ha
    generalize Lib.atoiSat s.data.toList = sat at *
    go_enter Tryd.func62, Tryd.ntmps62
    go_wp2_with fail
    refine (HC.out _ rfl).mono ?_
    rintro e w1 ⟨N, rfl, hb⟩
    have HB1 := Lib.hid hb
    clear hb
    go_wp2_with fail
    go_ret2
    exact ⟨by rw [HP.out] <;> rfl, HB1.out⟩
  · have HC : Hid (∀ W, W = w → Calls Tryd.prog 102 #[.string s] W fun e w' => ∃ N, e = .returned (.tuple #[.int .i64 0, .iface 94 (.pointer (some ⟨N, 0, none⟩))]) ∧ Below W.heap.size W w') := by
      rintro W rfl
      exact Atoi_bad s (by omega) ha1 ha2 ev W HV.out HV2.out
    have HP : Hid (pI s.data.toList = none) := pI_bad ha1
    clear ha1 ha2 HV HV2 HW HW2
    go_enter Tryd.func62, Tryd.ntmps62
    go_wp2_with fail
    refine (HC.out _ rfl).mono ?_
    rintro e w1 ⟨N, rfl, hb⟩
    have HB1 := Lib.hid hb
    clear hb
    go_wp2_with fail
    go_ret2
    exact ⟨by rw [HP.out] <;> rfl, HB1.out⟩
theorem digL_at {s : ByteArray} : digL s.data.toList = true ↔ ∀ (k : Nat) (h : k < s.size), digC s[k] = true := by
  unfold digL
  rw [List.all_eq_true]
  constructor
  · intro h k hk
    exact h _ (List.getElem_mem (l := s.data.toList) (by simpa using hk))
  · intro h x hx
    obtain ⟨k, hk, rfl⟩ := List.mem_iff_getElem.1 hx
    exact h k (by simpa using hk)
theorem sIsDigits_any (s : ByteArray) (w : World) (hs : s.size ≤ 1048576) :
    Calls Tryd.prog 100 #[.string s] w fun e w' => e = .returned (.bool (digL s.data.toList && decide (0 < s.size))) ∧ w = w' := by
  go_enter Tryd.func100, Tryd.ntmps100
  go_wp2
  go_loop [3] (fun i => ∃ k : Nat, i = .int .i64 k ∧ k ≤ s.size ∧ Hid (∀ (j : Nat) (h : j < s.size), j < k → digC s[j] = true)) (fun i => s.size - (intOf i).toNat)
  case atStart => exact ⟨0, rfl, Nat.zero_le _, fun j h hj => by omega⟩
  case round =>
    obtain ⟨k, rfl, hk, hd⟩ := hrel
    by_cases hlt : k < s.size
    · by_cases h1 : 48 ≤ s[k].toNat
      · by_cases h2 : s[k].toNat ≤ 57
        · have HX : Hid (digC s[k] = true) := digC_t.2 ⟨h1, h2⟩
          go_wp2
          go_round
          case rel => exact ⟨k + 1, by go_num, by omega, fun j h hj => by
            rcases Nat.lt_or_ge j k with h3 | h3
            · exact hd.out j h h3
            · obtain rfl : j = k := by omega
              exact HX.out⟩
          case measure => simp [intOf]; omega
        · have HX : Hid (digL s.data.toList = false) := by
            show _ = _
            cases h : digL s.data.toList with
            | false => rfl
            | true => have := digC_t.1 (digL_at.1 h k hlt); omega
          go_wp2
          go_ret
          exact ⟨by rw [HX.out] <;> rfl, rfl⟩
      · have HX : Hid (digL s.data.toList = false) := by
          show _ = _
          cases h : digL s.data.toList with
          | false => rfl
          | true => have := digC_t.1 (digL_at.1 h k hlt); omega
        go_wp2
        go_ret
        exact ⟨by rw [HX.out] <;> rfl, rfl⟩
    · have HX : Hid (digL s.data.toList = true) := digL_at.2 (fun j h => hd.out j h (by omega))
      go_wp2
      all_goals
        go_ret
        exact ⟨by rw [HX.out]; simp <;> omega, rfl⟩

end Go.Proofs.YtdpddbajeldgiaaDoor
