/- FormatNumbers, program and reference, and its law. Conditions: those of each contract. -/
import Derived.Test.YtdpddbajeldgiaaDoorRepA
namespace Go.Proofs.YtdpddbajeldgiaaDoor
set_option linter.unusedVariables false
open Go.RowKit

def okI (xs : List Int) : Prop := ∀ x ∈ xs, i64B x
def fnL (xs : List Int) : List ByteArray := xs.map itB
def fmtN (xs : List Int) : ByteArray := if xs = [] then ⟨#[45]⟩ else joinB (fnL xs) ⟨#[44]⟩
theorem fnL_len (xs : List Int) : (fnL xs).length = xs.length := by simp [fnL]
theorem fnL_mem (xs : List Int) (h : okI xs) : ∀ x ∈ fnL xs, x.data.toList.length ≤ 21 := by
  intro x hx
  obtain ⟨n, hn, rfl⟩ := List.mem_map.1 hx
  exact itB_len n (h n hn)
theorem fnL_mem' (xs : List Int) (h : okI xs) : ∀ x ∈ fnL xs, x.data.toList.length ≤ 30000 := fun x hx => Nat.le_trans (fnL_mem xs h x hx) (by decide)
theorem fnL_next (xs : List Int) (k : Nat) (h : k < xs.length) : fnL (xs.take (k + 1)) = fnL (xs.take k) ++ [itB xs[k]] := by
  unfold fnL; rw [take_next xs k h, List.map_append]; rfl
theorem fmtN_size (xs : List Int) (h : okI xs) : (fmtN xs).size ≤ 22 * xs.length + 1 := by
  unfold fmtN
  split
  · show 1 ≤ _; omega
  · have := joinB_le (fnL xs) ⟨#[44]⟩ (by decide) 21 (fnL_mem xs h)
    rw [fnL_len] at this
    omega
theorem IsRow.opW {w : World} {a : Option Addr} {len cap : Nat} {zs : List Int} (h : IsRow .i64 w a len cap zs) : ∃ xs : List Int, xs.length = len ∧ Ints w w.heap.size a cap xs ∧ okI xs := by
  obtain ⟨xs, hx, hi⟩ := h.op
  refine ⟨xs, hx, hi, ?_⟩
  rcases h with ⟨rfl, rfl, rfl, rfl⟩ | ⟨x, rfl, hl, hc, hz, hcell, hwf⟩
  · intro y hy
    rw [List.eq_nil_of_length_eq_zero hx] at hy; simp at hy
  · intro y hy
    obtain ⟨i, hi1, rfl⟩ := List.mem_iff_getElem.1 hy
    obtain ⟨-, -, b, off, hab, hcb⟩ := hi
    have h1 := hcb i hi1
    obtain ⟨e, -⟩ := hab (by omega)
    have h2 := hcell i (by omega)
    rw [Option.some.inj e] at h2
    rw [show (⟨b, off, none⟩ : Addr).add i = ⟨b, off + i, none⟩ from by simp [Addr.add]] at h2
    rw [h1] at h2
    simp only [Option.some.injEq, Value.int.injEq, true_and] at h2
    have h3 : zs.getD i 0 ∈ zs := by
      have hi2 : i < zs.length := by omega
      simp [List.getD, hi2]
    have h4 := hwf _ h3
    rw [← h2] at h4
    simpa [Lit.wf, IntKind.min, IntKind.max, IntKind.signed, IntKind.bits, i64B] using h4
theorem OwnS.shape {w : World} {base : Nat} {v : Value} {xs : List ByteArray} (h : OwnS w base v xs) : ∃ a cap, v = .slice a xs.length cap := by
  rcases h.2 with ⟨h1, h2⟩ | ⟨g, cap', cur, hv, r⟩
  · exact ⟨none, 0, by rw [h1, h2]⟩
  · exact ⟨_, _, hv⟩
set_option maxHeartbeats 400000 in
theorem FormatNumbers_any (a : Option Addr) (cap : Nat) (xs : List Int) (w : World) (hx : Ints w w.heap.size a cap xs) (hlen : xs.length ≤ 100000000) (hok : okI xs) (ht : Tab w) :
    Calls Tryd.prog 13 #[.slice a xs.length cap] w fun e w' => e = .returned (.string (fmtN xs)) ∧ Below w.heap.size w w' := by
  have hl := hx.len
  obtain ⟨-, -, b, off, ha, hc⟩ := hx
  by_cases h0 : xs = []
  · have HF : Hid (fmtN xs = ⟨#[45]⟩) := by show _ = _; simp [fmtN, h0]
    have hz : xs.length = 0 := by rw [h0]; rfl
    clear h0 hok ht ha hc
    generalize xs.length = n at *
    subst hz
    go_enter Tryd.func13, Tryd.ntmps13
    go_wp2
    go_ret
    exact ⟨by rw [HF.out] <;> rfl, Below.refl _ _⟩
  have hne : xs.length ≠ 0 := fun h => h0 (List.eq_nil_of_length_eq_zero h)
  have hne2 : ((xs.length : Int) == 0) = false := by rw [beq_eq_false_iff_ne]; omega
  have HF : Hid (fmtN xs = joinB (fnL xs) ⟨#[44]⟩) := by show _ = _; simp [fmtN, h0]
  have HM : Hid (∀ x ∈ fnL xs, x.data.toList.length ≤ 30000) := fnL_mem' xs hok
  have HOK : Hid (∀ k (h : k < xs.length), i64B xs[k]) := fun k h => hok _ (List.getElem_mem h)
  have HT := Lib.hid ht
  have Ha := Lib.hid ha
  have Hc := Lib.hid hc
  clear h0 hok ht ha hc
  go_enter Tryd.func13, Tryd.ntmps13
  go_wp2
  go_loopw [3, 11] (fun v i wr => ∃ k : Nat, k ≤ xs.length ∧ i = .int .i64 k ∧ OwnS wr w.heap.size v (fnL (xs.take k)) ∧ Below w.heap.size w wr) (fun _ i _ => xs.length - (intOf i).toNat)
  case atStart => exact ⟨0, Nat.zero_le _, rfl, OwnS.nil _ _, Below.refl _ _⟩
  case round =>
    obtain ⟨k, hk, rfl, hown, hb⟩ := hrel
    have hsz := hb.size
    have hfl : (fnL (xs.take k)).length = k := by rw [fnL_len, List.length_take]; omega
    by_cases hlt : k < xs.length
    · obtain ⟨rfl, hbb⟩ := Ha.out (by omega)
      have hcx := (hb.cell (p := ⟨b, off + k, none⟩) hbb).trans (Hc.out k hlt)
      have HN := Lib.hid (fnL_next xs k hlt)
      have HX := Lib.hid (HOK.out k hlt)
      have HTk := Lib.hid (HT.out.upd hb)
      have HB := Lib.hid hb
      clear hb
      generalize xs[k] = x at *
      generalize fnL (xs.take k) = ws at *
      go_wp2_with fail
      refine (FormatInt_any x _ HX.out HTk.out).mono ?_
      rintro e w2 ⟨rfl, hb2⟩
      have hs2 := hb2.size
      have hown2 := hown.kept hb2
      have HB2 := Lib.hid (HB.out.trans (hb2.mono (by omega)))
      clear hb2 hown
      go_wp2_with (at_builtin; refine wpList_append_str rfl _ _ rfl w.heap.size _ _ rfl hown2 (itB x) rfl (by omega) (by omega) ?_; intro v' w3 hown3 hbl3)
      have HB3 := Lib.hid (HB2.out.trans hbl3)
      clear hbl3
      go_roundw
      case rel => exact ⟨k + 1, by omega, by go_num, by rw [HN.out]; exact hown3, HB3.out⟩
      case measure => simp [intOf]; omega
    · obtain rfl : k = xs.length := by omega
      rw [List.take_length] at hown hfl
      have HB := Lib.hid hb
      clear hb
      go_wp2_with fail
      refine (Join_any w.heap.size _ _ _ _ hown (by decide) (by omega) HM.out).mono ?_
      rintro e w3 ⟨rfl, hb3⟩
      have HB3 := Lib.hid (HB.out.trans (hb3.mono (by omega))); clear hb3
      go_wp2_with fail
      go_ret
      exact ⟨by rw [HF.out] <;> rfl, HB3.out⟩
set_option maxHeartbeats 400000 in
theorem sFormatNumbers_any (a : Option Addr) (cap : Nat) (xs : List Int) (w : World) (hx : Ints w w.heap.size a cap xs) (hlen : xs.length ≤ 100000000) (hok : okI xs) :
    Calls Tryd.prog 11 #[.slice a xs.length cap] w fun e w' => e = .returned (.string (fmtN xs)) ∧ Below w.heap.size w w' := by
  have hl := hx.len
  obtain ⟨-, -, b, off, ha, hc⟩ := hx
  have HM : Hid (∀ x ∈ fnL xs, x.data.toList.length ≤ 30000) := fnL_mem' xs hok
  have HOK : Hid (∀ k (h : k < xs.length), i64B xs[k]) := fun k h => hok _ (List.getElem_mem h)
  have Ha := Lib.hid ha
  have Hc := Lib.hid hc
  clear hok ha hc
  go_enter Tryd.func11, Tryd.ntmps11
  go_wp2
  go_loopw [3, 9] (fun v i wr => ∃ k : Nat, k ≤ xs.length ∧ i = .int .i64 k ∧ OwnS wr w.heap.size v (fnL (xs.take k)) ∧ Below w.heap.size w wr) (fun _ i _ => xs.length - (intOf i).toNat)
  case atStart => exact ⟨0, Nat.zero_le _, rfl, OwnS.lit0 _ _ (Nat.le_refl _), (Below.refl _ _).alloc (Nat.le_refl _) _⟩
  case round =>
    obtain ⟨k, hk, rfl, hown, hb⟩ := hrel
    have hsz := hb.size
    have hfl : (fnL (xs.take k)).length = k := by rw [fnL_len, List.length_take]; omega
    by_cases hlt : k < xs.length
    · obtain ⟨rfl, hbb⟩ := Ha.out (by omega)
      have hcx := (hb.cell (p := ⟨b, off + k, none⟩) hbb).trans (Hc.out k hlt)
      have HN := Lib.hid (fnL_next xs k hlt)
      have HX := Lib.hid (HOK.out k hlt)
      have HB := Lib.hid hb
      clear hb
      generalize xs[k] = x at *
      generalize fnL (xs.take k) = ws at *
      go_wp2_with fail
      refine (sFormatInt_any x _ HX.out).mono ?_
      rintro e w2 ⟨rfl, hb2⟩
      have hs2 := hb2.size
      have hown2 := hown.kept hb2
      have HB2 := Lib.hid (HB.out.trans (hb2.mono (by omega)))
      clear hb2 hown
      go_wp2_with (at_builtin; refine wpList_append_str rfl _ _ rfl w.heap.size _ _ rfl hown2 (itB x) rfl (by omega) (by omega) ?_; intro v' w3 hown3 hbl3)
      have HB3 := Lib.hid (HB2.out.trans hbl3)
      clear hbl3
      go_roundw
      case rel => exact ⟨k + 1, by omega, by go_num, by rw [HN.out]; exact hown3, HB3.out⟩
      case measure => simp [intOf]; omega
    · obtain rfl : k = xs.length := by omega
      rw [List.take_length] at hown hfl
      have HB := Lib.hid hb
      clear hb
      obtain ⟨av, cv, rfl⟩ := hown.shape
      by_cases h0 : xs = []
      · have HF : Hid (fmtN xs = ⟨#[45]⟩) := by show _ = _; simp [fmtN, h0]
        have hz : (fnL xs).length = 0 := by rw [h0]; rfl
        rw [hz]
        clear h0
        go_wp2
        go_ret
        exact ⟨by rw [HF.out] <;> rfl, HB.out⟩
      have hne : xs.length ≠ 0 := fun h => h0 (List.eq_nil_of_length_eq_zero h)
      have HF : Hid (fmtN xs = joinB (fnL xs) ⟨#[44]⟩) := by show _ = _; simp [fmtN, h0]
      have hne2 : (fnL xs).length ≠ 0 := by omega
      have hfl2 : (fnL xs).length ≤ 100000000 := by omega
      clear h0 hfl
      generalize fnL xs = ws at *
      go_wp2_with fail
      refine (sJoin_any w.heap.size _ _ _ _ hown hfl2 HM.out).mono ?_
      rintro e w3 ⟨rfl, rfl⟩
      go_wp2_with fail
      go_ret
      exact ⟨by rw [HF.out] <;> rfl, HB.out⟩
set_option maxHeartbeats 2000000 in
theorem law_FnExactFormatNumbers (alist : Option Addr) (llist clist : Nat) (zlist : List Int) (w : World) (flist : IsRow .i64 w alist llist clist zlist) (ht : Tab w) :
    Calls Tryd.prog 3 #[.slice alist llist clist] w fun e w' => e = .returned (.bool true) ∧ Below w.heap.size w w' := by
  obtain ⟨list, rfl, hxlist, hoklist⟩ := flist.opW
  have HOKlist := Lib.hid hoklist; clear hoklist
  have HXlist := Lib.hid hxlist; clear hxlist flist
  by_cases hbiglist : 1048576 < list.length
  · go_enter Tryd.func3, Tryd.ntmps3
    go_wp2_with fail
    go_ret
    exact ⟨rfl, Below.refl _ _⟩
  have hslist : list.length ≤ 1048576 := by omega
  clear hbiglist
  have HB0 : Hid (Below w.heap.size w w) := Below.refl _ _
  have HT := Lib.hid ht; clear ht
  go_enter Tryd.func3, Tryd.ntmps3
  go_wp2_with fail
  refine (toIntS_any _ _ list _ ((HXlist.out.below HB0.out).mono (by omega)) (by omega)).mono ?_
  rintro e w1 ⟨atlist, ctlist, rfl, ho, hb⟩
  have hu := Below.upd hb
  have HNtlist : Hid (OwnR w1 w.heap.size w1.heap.size atlist ctlist (list)) := OwnI.ownR ho
  clear ho hb
  have hs1 := hu.size
  have HB1 : Hid (Below w.heap.size w w1) := HB0.out.trans (hu.below (by omega) (by omega))
  clear hu
  have HOtlist1 := HNtlist; clear HNtlist
  go_wp2_with fail
  refine (sFormatNumbers_any _ _ list _ (HOtlist1.out.ints) (by omega) HOKlist.out).mono ?_
  rintro e w2 ⟨rfl, hb⟩
  have hu := Below.upd hb; clear hb
  have hs2 := hu.size
  have HB2 : Hid (Below w.heap.size w w2) := HB1.out.trans (hu.below (by omega) (by omega))
  have HOtlist2 : Hid (OwnR w2 w.heap.size w1.heap.size atlist ctlist (list)) := HOtlist1.out.upd hu (by omega); clear HOtlist1
  clear hu
  go_wp2_with fail
  refine (toIntS_any _ _ list _ ((HXlist.out.below HB2.out).mono (by omega)) (by omega)).mono ?_
  rintro e w3 ⟨axlist, cxlist, rfl, ho, hb⟩
  have hu := Below.upd hb
  have HNxlist : Hid (OwnR w3 w2.heap.size w3.heap.size axlist cxlist (list)) := OwnI.ownR ho
  clear ho hb
  have hs3 := hu.size
  have HB3 : Hid (Below w.heap.size w w3) := HB2.out.trans (hu.below (by omega) (by omega))
  clear hu
  have HOxlist3 := HNxlist; clear HNxlist
  go_wp2_with fail
  refine (FormatNumbers_any _ _ list _ (HOxlist3.out.ints) (by omega) HOKlist.out (HT.out.upd HB3.out)).mono ?_
  rintro e w4 ⟨rfl, hb⟩
  have hu := Below.upd hb; clear hb
  have hs4 := hu.size
  have HB4 : Hid (Below w.heap.size w w4) := HB3.out.trans (hu.below (by omega) (by omega))
  have HOxlist4 : Hid (OwnR w4 w2.heap.size w3.heap.size axlist cxlist (list)) := HOxlist3.out.upd hu (by omega); clear HOxlist3
  clear hu
  go_wp2_with fail
  refine (toIntS_any _ _ list _ ((HXlist.out.below HB4.out).mono (by omega)) (by omega)).mono ?_
  rintro e w5 ⟨aylist, cylist, rfl, ho, hb⟩
  have hu := Below.upd hb
  have HNylist : Hid (OwnR w5 w4.heap.size w5.heap.size aylist cylist (list)) := OwnI.ownR ho
  clear ho hb
  have hs5 := hu.size
  have HB5 : Hid (Below w.heap.size w w5) := HB4.out.trans (hu.below (by omega) (by omega))
  have HOxlist5 : Hid (OwnR w5 w2.heap.size w3.heap.size axlist cxlist (list)) := HOxlist4.out.upd hu (by omega); clear HOxlist4
  clear hu
  have HOylist5 := HNylist; clear HNylist
  go_wp2_with fail
  refine (eqIntS_same _ _ _ _ (list) _ (HOxlist5.out.ints) (HOylist5.out.ints)).mono ?_
  rintro e w6 ⟨rfl, hb⟩
  have hu := Below.upd hb; clear hb
  have hs6 := hu.size
  have HB6 : Hid (Below w.heap.size w w6) := HB5.out.trans (hu.below (by omega) (by omega))
  have HOxlist6 : Hid (OwnR w6 w2.heap.size w3.heap.size axlist cxlist (list)) := HOxlist5.out.upd hu (by omega); clear HOxlist5
  have HOylist6 : Hid (OwnR w6 w4.heap.size w5.heap.size aylist cylist (list)) := HOylist5.out.upd hu (by omega); clear HOylist5
  clear hu
  go_wp2_with fail
  go_ret
  exact ⟨rfl, HB6.out⟩

end Go.Proofs.YtdpddbajeldgiaaDoor
