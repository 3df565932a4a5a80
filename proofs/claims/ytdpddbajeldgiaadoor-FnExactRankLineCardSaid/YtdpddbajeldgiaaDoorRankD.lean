/- RankLine, program and reference, and its law. Conditions: those of each contract. -/
import Derived.Test.YtdpddbajeldgiaaDoorRankC
import Derived.Test.YtdpddbajeldgiaaDoorRepB
namespace Go.Proofs.YtdpddbajeldgiaaDoor
set_option linter.unusedVariables false
open Go.RowKit

theorem leh_at (xs : List Int) : ∀ k (hk : k < (leh xs).length), 0 ≤ (leh xs)[k] ∧ (leh xs)[k] ≤ k := by
  intro k hk
  have hk2 : k < xs.length := by rwa [leh_len] at hk
  have h := lc_bd xs (xs.length - 1 - k) (by omega)
  have e : (leh xs)[k] = (lc xs (xs.length - 1 - k) : Int) := by simp [leh]
  rw [e]
  omega
theorem leh_ok (xs : List Int) (h : xs.length ≤ 8) : okI (leh xs) := by
  intro x hx
  obtain ⟨k, hk, rfl⟩ := List.mem_iff_getElem.1 hx
  have h1 := leh_at xs k hk
  rw [leh_len] at hk
  exact ⟨by omega, by omega⟩
def rankN (xs : List Int) : Int := facS (leh xs) xs.length
def rankLn (xs : List Int) : ByteArray := if permB xs then itB (rankN xs) ++ ⟨#[32, 108, 101, 104, 109, 101, 114, 32]⟩ ++ fmtN (leh xs) else ⟨#[110, 111, 110, 101]⟩
theorem rankN_ok (xs : List Int) (h : xs.length ≤ 8) : i64B (rankN xs) := by
  have := facS_bd (leh xs) (by rw [leh_len]; exact h) (leh_at xs) xs.length (by rw [leh_len]; exact Nat.le_refl _)
  unfold rankN
  exact ⟨by omega, by omega⟩
theorem sLehmerOf_ok (a : Option Addr) (cap : Nat) (xs : List Int) (w : World) (hx : Ints w w.heap.size a cap xs) (hp : permB xs = true) :
    Calls Tryd.prog 53 #[.slice a xs.length cap] w (RetI w (leh xs)) := by
  have HPO : Hid (Calls Tryd.prog 51 #[.slice a xs.length cap] w fun e w' => e = .returned (.bool true) ∧ Below w.heap.size w w') := by rw [← hp]; exact sPermutationOk_any a cap xs w hx
  have HX := Lib.hid hx
  have HP := Lib.hid hp
  clear hx hp
  go_enter Tryd.func53, Tryd.ntmps53
  go_wp2_with fail
  refine HPO.out.mono ?_
  rintro e w1 ⟨rfl, hb1⟩
  have HX1 := Lib.hid ((HX.out.below hb1).mono hb1.size)
  have HB1 := Lib.hid hb1
  clear hb1
  go_wp2_with fail
  refine (l08Lehmer_ok a cap xs _ HX1.out HP.out).mono ?_
  rintro e w2 ⟨a2, c2, rfl, hown, hb2⟩
  have HB2 := Lib.hid (HB1.out.trans (hb2.mono HB1.out.size))
  have hsz := HB1.out.size
  have HO := Lib.hid hown
  clear hb2 hown
  go_wp2_with fail
  go_ret
  refine ⟨a2, c2, rfl, ?_, HB2.out⟩
  have h := HO.out
  rcases h.2 with ⟨hv, hn⟩ | ⟨g, cap', cur, hv, hg, r⟩
  · exact ⟨h.1, Or.inl ⟨hv, hn⟩⟩
  · exact ⟨h.1, Or.inr ⟨g, cap', cur, hv, by omega, r⟩⟩
theorem RankOf_ok (a : Option Addr) (cap : Nat) (xs : List Int) (w : World) (hx : Ints w w.heap.size a cap xs) (hp : permB xs = true) :
    Calls Tryd.prog 55 #[.slice a xs.length cap] w fun e w' => e = .returned (.int .i64 (rankN xs)) ∧ Below w.heap.size w w' := by
  obtain ⟨hl1, hl8⟩ := permB_t hp
  have HLE : Hid (Calls Tryd.prog 56 #[.slice a xs.length cap] w (RetI w (leh xs))) := LehmerOf_ok a cap xs w hx hp
  have HLL : Hid ((leh xs).length = xs.length) := leh_len xs
  have HR : Hid (rankN xs = facS (leh xs) (leh xs).length) := by show _ = _; rw [leh_len]; rfl
  have HAT := Lib.hid (leh_at xs)
  clear hx hp
  generalize leh xs = L at *
  go_enter Tryd.func55, Tryd.ntmps55
  go_wp2_with fail
  refine HLE.out.mono ?_
  rintro e w1 ⟨a1, c1, rfl, hown, hb1⟩
  have HO := Lib.hid hown.ints
  have HB1 := Lib.hid hb1
  clear hown hb1
  go_wp2_with fail
  refine (FactorialValue_ok a1 c1 L _ HO.out (by have := HLL.out; omega) (by have := HLL.out; omega) HAT.out).mono ?_
  rintro e w' ⟨rfl, rfl⟩
  go_wp2_with fail
  go_ret
  exact ⟨by rw [HR.out] <;> rfl, HB1.out⟩
theorem sRankOf_ok (a : Option Addr) (cap : Nat) (xs : List Int) (w : World) (hx : Ints w w.heap.size a cap xs) (hp : permB xs = true) :
    Calls Tryd.prog 52 #[.slice a xs.length cap] w fun e w' => e = .returned (.int .i64 (rankN xs)) ∧ Below w.heap.size w w' := by
  obtain ⟨hl1, hl8⟩ := permB_t hp
  have HPO : Hid (Calls Tryd.prog 51 #[.slice a xs.length cap] w fun e w' => e = .returned (.bool true) ∧ Below w.heap.size w w') := by rw [← hp]; exact sPermutationOk_any a cap xs w hx
  have HLE : Hid (∀ W : World, Ints W W.heap.size a cap xs → Calls Tryd.prog 91 #[.slice a xs.length cap] W (RetI W (leh xs))) := fun W h => l08Lehmer_ok a cap xs W h hp
  have HLL : Hid ((leh xs).length = xs.length) := leh_len xs
  have HR : Hid (rankN xs = facS (leh xs) (leh xs).length) := by show _ = _; rw [leh_len]; rfl
  have HAT := Lib.hid (leh_at xs)
  have HX := Lib.hid hx
  clear hx hp
  generalize leh xs = L at *
  go_enter Tryd.func52, Tryd.ntmps52
  go_wp2_with fail
  refine HPO.out.mono ?_
  rintro e w0 ⟨rfl, hb0⟩
  have HX0 := Lib.hid ((HX.out.below hb0).mono hb0.size)
  have HB0 := Lib.hid hb0
  clear hb0
  go_wp2_with fail
  refine (HLE.out _ HX0.out).mono ?_
  rintro e w1 ⟨a1, c1, rfl, hown, hb1⟩
  have HO := Lib.hid hown.ints
  have HB1 := Lib.hid (HB0.out.trans (hb1.mono HB0.out.size))
  clear hown hb1
  go_wp2_with fail
  refine (sFactorialValue_ok a1 c1 L _ HO.out (by have := HLL.out; omega) (by have := HLL.out; omega) HAT.out).mono ?_
  rintro e w' ⟨rfl, rfl⟩
  go_wp2_with fail
  go_ret
  exact ⟨by rw [HR.out] <;> rfl, HB1.out⟩
set_option maxHeartbeats 400000 in
theorem RankLine_any (a : Option Addr) (cap : Nat) (xs : List Int) (w : World) (hx : Ints w w.heap.size a cap xs) (ht : Tab w) :
    Calls Tryd.prog 22 #[.slice a xs.length cap] w fun e w' => e = .returned (.string (rankLn xs)) ∧ Below w.heap.size w w' := by
  have HX := Lib.hid hx
  have HT := Lib.hid ht
  clear hx ht
  have HPO : Hid (Calls Tryd.prog 54 #[.slice a xs.length cap] w fun e w' => e = .returned (.bool (permB xs)) ∧ w = w') := PermutationOk_any a cap xs w HX.out
  cases hp : permB xs
  · have HF : Hid (rankLn xs = ⟨#[110, 111, 110, 101]⟩) := by show _ = _; simp [rankLn, hp]
    rw [hp] at HPO
    clear hp
    go_enter Tryd.func22, Tryd.ntmps22
    go_wp2_with fail
    refine HPO.out.mono ?_
    rintro e w' ⟨rfl, rfl⟩
    go_wp2_with fail
    go_ret
    exact ⟨by rw [HF.out] <;> rfl, Below.refl _ _⟩
  obtain ⟨hl1, hl8⟩ := permB_t hp
  have HF : Hid (rankLn xs = itB (rankN xs) ++ ⟨#[32, 108, 101, 104, 109, 101, 114, 32]⟩ ++ fmtN (leh xs)) := by show _ = _; simp [rankLn, hp]
  have HRK : Hid (∀ W : World, Ints W W.heap.size a cap xs → Calls Tryd.prog 55 #[.slice a xs.length cap] W fun e w' => e = .returned (.int .i64 (rankN xs)) ∧ Below W.heap.size W w') := fun W h => RankOf_ok a cap xs W h hp
  have HLE : Hid (∀ W : World, Ints W W.heap.size a cap xs → Calls Tryd.prog 56 #[.slice a xs.length cap] W (RetI W (leh xs))) := fun W h => LehmerOf_ok a cap xs W h hp
  have HO1 := Lib.hid (rankN_ok xs hl8)
  have HO2 := Lib.hid (leh_ok xs hl8)
  have hll : (leh xs).length ≤ 8 := by rw [leh_len]; exact hl8
  have hs1 := itB_len _ HO1.out
  have hs1' : (itB (rankN xs)).size ≤ 21 := hs1
  have hs2 := fmtN_size _ HO2.out
  rw [hp] at HPO
  clear hp hs1
  generalize rankN xs = rk at *
  generalize leh xs = L at *
  go_enter Tryd.func22, Tryd.ntmps22
  go_wp2_with fail
  refine HPO.out.mono ?_
  rintro e w' ⟨rfl, rfl⟩
  go_wp2_with fail
  refine (HRK.out _ HX.out).mono ?_
  rintro e w1 ⟨rfl, hb1⟩
  have HX1 := Lib.hid ((HX.out.below hb1).mono hb1.size)
  have HB1 := Lib.hid hb1
  clear hb1
  go_wp2_with fail
  refine (FormatInt_any rk _ HO1.out (HT.out.upd HB1.out)).mono ?_
  rintro e w2 ⟨rfl, hb⟩
  have HX2 := Lib.hid ((HX1.out.below hb).mono hb.size)
  have HB2 := Lib.hid (HB1.out.trans (hb.mono HB1.out.size))
  clear hb
  go_wp2_with fail
  refine (HLE.out _ HX2.out).mono ?_
  rintro e w3 ⟨a3, c3, rfl, hown, hb⟩
  have HO := Lib.hid hown.ints
  have HB3 := Lib.hid (HB2.out.trans (hb.mono HB2.out.size))
  clear hb hown
  go_wp2_with fail
  refine (FormatNumbers_any a3 c3 L _ HO.out (by omega) HO2.out (HT.out.upd HB3.out)).mono ?_
  rintro e w4 ⟨rfl, hb⟩
  have HB4 := Lib.hid (HB3.out.trans (hb.mono HB3.out.size))
  clear hb
  go_wp2_with fail
  go_ret
  exact ⟨by rw [HF.out] <;> rfl, HB4.out⟩
set_option maxHeartbeats 400000 in
theorem sRankLine_any (a : Option Addr) (cap : Nat) (xs : List Int) (w : World) (hx : Ints w w.heap.size a cap xs) :
    Calls Tryd.prog 21 #[.slice a xs.length cap] w fun e w' => e = .returned (.string (rankLn xs)) ∧ Below w.heap.size w w' := by
  have HX := Lib.hid hx
  clear hx
  have HPO : Hid (Calls Tryd.prog 51 #[.slice a xs.length cap] w fun e w' => e = .returned (.bool (permB xs)) ∧ Below w.heap.size w w') := sPermutationOk_any a cap xs w HX.out
  cases hp : permB xs
  · have HF : Hid (rankLn xs = ⟨#[110, 111, 110, 101]⟩) := by show _ = _; simp [rankLn, hp]
    rw [hp] at HPO
    clear hp
    go_enter Tryd.func21, Tryd.ntmps21
    go_wp2_with fail
    refine HPO.out.mono ?_
    rintro e w0 ⟨rfl, hb⟩
    go_wp2_with fail
    go_ret
    exact ⟨by rw [HF.out] <;> rfl, hb⟩
  obtain ⟨hl1, hl8⟩ := permB_t hp
  have HF : Hid (rankLn xs = itB (rankN xs) ++ ⟨#[32, 108, 101, 104, 109, 101, 114, 32]⟩ ++ fmtN (leh xs)) := by show _ = _; simp [rankLn, hp]
  have HRK : Hid (∀ W : World, Ints W W.heap.size a cap xs → Calls Tryd.prog 52 #[.slice a xs.length cap] W fun e w' => e = .returned (.int .i64 (rankN xs)) ∧ Below W.heap.size W w') := fun W h => sRankOf_ok a cap xs W h hp
  have HLE : Hid (∀ W : World, Ints W W.heap.size a cap xs → Calls Tryd.prog 53 #[.slice a xs.length cap] W (RetI W (leh xs))) := fun W h => sLehmerOf_ok a cap xs W h hp
  have HO1 := Lib.hid (rankN_ok xs hl8)
  have HO2 := Lib.hid (leh_ok xs hl8)
  have hll : (leh xs).length ≤ 8 := by rw [leh_len]; exact hl8
  have hs1 := itB_len _ HO1.out
  have hs1' : (itB (rankN xs)).size ≤ 21 := hs1
  have hs2 := fmtN_size _ HO2.out
  rw [hp] at HPO
  clear hp hs1
  generalize rankN xs = rk at *
  generalize leh xs = L at *
  go_enter Tryd.func21, Tryd.ntmps21
  go_wp2_with fail
  refine HPO.out.mono ?_
  rintro e w0 ⟨rfl, hb0⟩
  have HX0 := Lib.hid ((HX.out.below hb0).mono hb0.size)
  have HB0 := Lib.hid hb0
  clear hb0
  go_wp2_with fail
  refine (HRK.out _ HX0.out).mono ?_
  rintro e w1 ⟨rfl, hb1⟩
  have HX1 := Lib.hid ((HX0.out.below hb1).mono hb1.size)
  have HB1 := Lib.hid (HB0.out.trans (hb1.mono HB0.out.size))
  clear hb1
  go_wp2_with fail
  refine (sFormatInt_any rk _ HO1.out).mono ?_
  rintro e w2 ⟨rfl, hb⟩
  have HX2 := Lib.hid ((HX1.out.below hb).mono hb.size)
  have HB2 := Lib.hid (HB1.out.trans (hb.mono HB1.out.size))
  clear hb
  go_wp2_with fail
  refine (HLE.out _ HX2.out).mono ?_
  rintro e w3 ⟨a3, c3, rfl, hown, hb⟩
  have HO := Lib.hid hown.ints
  have HB3 := Lib.hid (HB2.out.trans (hb.mono HB2.out.size))
  clear hb hown
  go_wp2_with fail
  refine (sFormatNumbers_any a3 c3 L _ HO.out (by omega) HO2.out).mono ?_
  rintro e w4 ⟨rfl, hb⟩
  have HB4 := Lib.hid (HB3.out.trans (hb.mono HB3.out.size))
  clear hb
  go_wp2_with fail
  go_ret
  exact ⟨by rw [HF.out] <;> rfl, HB4.out⟩
set_option maxHeartbeats 2000000 in
theorem law_FnExactRankLine (alist : Option Addr) (llist clist : Nat) (zlist : List Int) (w : World) (flist : IsRow .i64 w alist llist clist zlist) (ht : Tab w) :
    Calls Tryd.prog 7 #[.slice alist llist clist] w fun e w' => e = .returned (.bool true) ∧ Below w.heap.size w w' := by
  obtain ⟨list, rfl, hxlist, hoklist⟩ := flist.opW
  have HOKlist := Lib.hid hoklist; clear hoklist
  have HXlist := Lib.hid hxlist; clear hxlist flist
  by_cases hbiglist : 1048576 < list.length
  · go_enter Tryd.func7, Tryd.ntmps7
    go_wp2_with fail
    go_ret
    exact ⟨rfl, Below.refl _ _⟩
  have hslist : list.length ≤ 1048576 := by omega
  clear hbiglist
  have HB0 : Hid (Below w.heap.size w w) := Below.refl _ _
  have HT := Lib.hid ht; clear ht
  go_enter Tryd.func7, Tryd.ntmps7
  go_wp2_with fail
  refine (toIntS_any _ _ list _ ((HXlist.out.below HB0.out).mono (by omega)) (by omega)).mono ?_
  rintro e w1 ⟨atlist, ctlist, rfl, ho, hb⟩
  have hu := Below.upd hb
  have HNtlist : Hid (OwnR w1 w.heap.size w1.heap.size atlist ctlist (list)) := OwnI.ownR ho
  clear ho hb
  have hs1 := hu.size
  have HB1 : Hid (Below w.heap.size w w1) := HB0.out.trans (hu.below (by omega) (by omega))
  clear hu
  have HOtlist1 := HNtlist; clear HNtlist
  go_wp2_with fail
  refine (sRankLine_any _ _ list _ (HOtlist1.out.ints)).mono ?_
  rintro e w2 ⟨rfl, hb⟩
  have hu := Below.upd hb; clear hb
  have hs2 := hu.size
  have HB2 : Hid (Below w.heap.size w w2) := HB1.out.trans (hu.below (by omega) (by omega))
  have HOtlist2 : Hid (OwnR w2 w.heap.size w1.heap.size atlist ctlist (list)) := HOtlist1.out.upd hu (by omega); clear HOtlist1
  clear hu
  go_wp2_with fail
  refine (toIntS_any _ _ list _ ((HXlist.out.below HB2.out).mono (by omega)) (by omega)).mono ?_
  rintro e w3 ⟨axlist, cxlist, rfl, ho, hb⟩
  have hu := Below.upd hb
  have HNxlist : Hid (OwnR w3 w2.heap.size w3.heap.size axlist cxlist (list)) := OwnI.ownR ho
  clear ho hb
  have hs3 := hu.size
  have HB3 : Hid (Below w.heap.size w w3) := HB2.out.trans (hu.below (by omega) (by omega))
  clear hu
  have HOxlist3 := HNxlist; clear HNxlist
  go_wp2_with fail
  refine (RankLine_any _ _ list _ (HOxlist3.out.ints) (HT.out.upd HB3.out)).mono ?_
  rintro e w4 ⟨rfl, hb⟩
  have hu := Below.upd hb; clear hb
  have hs4 := hu.size
  have HB4 : Hid (Below w.heap.size w w4) := HB3.out.trans (hu.below (by omega) (by omega))
  have HOxlist4 : Hid (OwnR w4 w2.heap.size w3.heap.size axlist cxlist (list)) := HOxlist3.out.upd hu (by omega); clear HOxlist3
  clear hu
  go_wp2_with fail
  refine (toIntS_any _ _ list _ ((HXlist.out.below HB4.out).mono (by omega)) (by omega)).mono ?_
  rintro e w5 ⟨aylist, cylist, rfl, ho, hb⟩
  have hu := Below.upd hb
  have HNylist : Hid (OwnR w5 w4.heap.size w5.heap.size aylist cylist (list)) := OwnI.ownR ho
  clear ho hb
  have hs5 := hu.size
  have HB5 : Hid (Below w.heap.size w w5) := HB4.out.trans (hu.below (by omega) (by omega))
  have HOxlist5 : Hid (OwnR w5 w2.heap.size w3.heap.size axlist cxlist (list)) := HOxlist4.out.upd hu (by omega); clear HOxlist4
  clear hu
  have HOylist5 := HNylist; clear HNylist
  go_wp2_with fail
  refine (eqIntS_same _ _ _ _ (list) _ (HOxlist5.out.ints) (HOylist5.out.ints)).mono ?_
  rintro e w6 ⟨rfl, hb⟩
  have hu := Below.upd hb; clear hb
  have hs6 := hu.size
  have HB6 : Hid (Below w.heap.size w w6) := HB5.out.trans (hu.below (by omega) (by omega))
  have HOxlist6 : Hid (OwnR w6 w2.heap.size w3.heap.size axlist cxlist (list)) := HOxlist5.out.upd hu (by omega); clear HOxlist5
  have HOylist6 : Hid (OwnR w6 w4.heap.size w5.heap.size aylist cylist (list)) := HOylist5.out.upd hu (by omega); clear HOylist5
  clear hu
  go_wp2_with fail
  go_ret
  exact ⟨rfl, HB6.out⟩

end Go.Proofs.YtdpddbajeldgiaaDoor
