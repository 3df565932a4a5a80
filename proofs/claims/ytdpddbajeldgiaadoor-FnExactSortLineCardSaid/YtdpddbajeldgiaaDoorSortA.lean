/- Sorting the digits of a number: slices.Sort at the dump, sortStep, l22Sort. Conditions: those of each contract. -/
import Derived.Test.YtdpddbajeldgiaaDoorSortP
import Derived.Test.YtdpddbajeldgiaaDoorPlaces
import Derived.Test.YtdpddbajeldgiaaDoorRev
import Derived.Test.YtdpddbajeldgiaaDoorDigs
import Derived.Test.YtdpddbajeldgiaaDoorCycD
import Derived.Test.YtdpddbajeldgiaaDoorShelfS
import Derived.Sort.OwnSortedInts
namespace Go.Proofs.YtdpddbajeldgiaaDoor
set_option linter.unusedVariables false
open Go.RowKit Go.Sort

theorem Sort_any (base : Nat) (a : Option Addr) (cap : Nat) (xs : List Int) (w : World) (hx : OwnI w base a cap xs) (h0 : 0 < xs.length) (h1 : xs.length ≤ 1000000) :
    Calls Tryd.prog 131 #[.slice a xs.length cap] w fun e w' => e = .returned (.tuple #[]) ∧ OwnI w' base a cap (srt xs) ∧ Below base w w' := by
  rcases hx.2 with ⟨hv, hn⟩ | ⟨g, cap', cur, hv, hg, hh, hnc, hcm, hcs, ht⟩
  · omega
  · simp only [Value.slice.injEq, true_and] at hv
    obtain ⟨rfl, rfl⟩ := hv
    have hlen := hx.len
    rw [Nat.mul_one] at ht
    have hgs : g < w.heap.size := lt_of_block hh
    refine (Tryd.slices_Sort_int g 0 cap xs w (holds_of_blockI hh ht) hgs (by omega)).mono ?_
    rintro e w' ⟨rfl, n, os, rfl⟩
    refine ⟨rfl, ?_, ?_⟩
    · have := ownsRow_sortedI (n := n) (os := os) (srt_len xs) hg hh hnc hcm hcs
      unfold OwnI
      rw [srt_len]
      exact this
    · exact (Below.refl _ _).grown (grownBy_sortedI _) (by omega) (fun k hk => by cases hk; exact hg)
theorem sortStep_any (x b : Int) (k : Nat) (w : World) (hx0 : 0 ≤ x) (hx1 : x ≤ 1000000000000) (hb1 : 2 ≤ b) (hb2 : b ≤ 16) (hk1 : 2 ≤ k) (hk2 : k ≤ 5) :
    Calls Tryd.prog 106 #[.int .i64 x, .int .i64 b, .int .i64 k] w fun e w' => e = .returned (.int .i64 (sst b k x)) ∧ Below w.heap.size w w' := by
  have HP := Lib.hid (placed_any x b k w hx0 (by omega) hb1 hb2 (by omega))
  obtain ⟨p1, p2⟩ := pow_k5' b k hb1 hb2 hk2
  have hm : ∀ d ∈ srt (plcd x b k), 0 ≤ d ∧ d < b := fun d hd => plcd_mem b hb1 k x d (srt_mem.1 hd)
  have hl : (plcd x b k).length = k := plcd_length b k x
  have hl2 : (srt (plcd x b k)).length = k := by rw [srt_len, hl]
  have hv1 := valL_bd b hb1 _ hm
  have hv2 := valL_bd b hb1 (srt (plcd x b k)).reverse (fun d hd => hm d (List.mem_reverse.1 hd))
  rw [List.length_reverse, hl2] at hv2
  rw [hl2] at hv1
  have HST : Hid (sst b k x = valL b (srt (plcd x b k)) - valL b (srt (plcd x b k)).reverse) := rfl
  have HSO : Hid (∀ (a : Option Addr) (c : Nat) (W : World), OwnI W w.heap.size a c (plcd x b k) → Calls Tryd.prog 131 #[.slice a (plcd x b k).length c] W fun e w' => e = .returned (.tuple #[]) ∧ OwnI w' w.heap.size a c (srt (plcd x b k)) ∧ Below w.heap.size W w') := fun a c W h => Sort_any _ a c _ W h (by omega) (by omega)
  have HV1 : Hid (∀ (a : Option Addr) (c : Nat) (W : World), OwnI W w.heap.size a c (srt (plcd x b k)) → Calls Tryd.prog 132 #[.slice a (plcd x b k).length c, .int .i64 b] W fun e w' => e = .returned (.int .i64 (valL b (srt (plcd x b k)))) ∧ W = w') := fun a c W h => by
    rw [← srt_len (plcd x b k)]
    exact valueOf_any a c _ b W h.ints hm hb1 (by rw [hl2]; omega)
  have HRE : Hid (∀ (a : Option Addr) (c : Nat) (W : World), OwnI W w.heap.size a c (srt (plcd x b k)) → Calls Tryd.prog 133 #[.slice a (plcd x b k).length c] W (Turned w.heap.size a c (srt (plcd x b k)) W)) := fun a c W h => by
    rw [← srt_len (plcd x b k)]
    exact Reverse_any w.heap.size a c _ W h
  have HV2 : Hid (∀ (a : Option Addr) (c : Nat) (W : World), OwnI W w.heap.size a c (srt (plcd x b k)).reverse → Calls Tryd.prog 132 #[.slice a (plcd x b k).length c, .int .i64 b] W fun e w' => e = .returned (.int .i64 (valL b (srt (plcd x b k)).reverse)) ∧ W = w') := fun a c W h => by
    rw [← srt_len (plcd x b k), ← List.length_reverse]
    exact valueOf_any a c _ b W h.ints (fun d hd => hm d (List.mem_reverse.1 hd)) hb1 (by rw [List.length_reverse, hl2]; omega)
  clear hm hl hl2
  generalize valL b (srt (plcd x b k)) = v1 at *
  generalize valL b (srt (plcd x b k)).reverse = v2 at *
  generalize srt (plcd x b k) = S at *
  generalize plcd x b k = P at *
  go_enter Tryd.func106, Tryd.ntmps106
  go_wp2_with fail
  refine HP.out.mono ?_
  rintro e w1 ⟨a1, c1, rfl, ho1, hb1'⟩
  have HB1 := Lib.hid hb1'
  have HO1 := Lib.hid ho1
  clear hb1' ho1
  go_wp2_with fail
  refine (HSO.out a1 c1 _ HO1.out).mono ?_
  rintro e w2 ⟨rfl, ho2, hb2'⟩
  have HB2 := Lib.hid (HB1.out.trans hb2')
  have HO2 := Lib.hid ho2
  clear hb2' ho2
  go_wp2_with fail
  refine (HV1.out a1 c1 _ HO2.out).mono ?_
  rintro e w' ⟨rfl, rfl⟩
  go_wp2_with fail
  refine (HRE.out a1 c1 _ HO2.out).mono ?_
  rintro e w3 ⟨rfl, ho3, hb3'⟩
  have HB3 := Lib.hid (HB2.out.trans hb3')
  have HO3 := Lib.hid ho3
  clear hb3' ho3
  go_wp2_with fail
  refine (HV2.out a1 c1 _ HO3.out).mono ?_
  rintro e w' ⟨rfl, rfl⟩
  go_wp2_with fail
  go_ret
  exact ⟨by rw [HST.out] <;> rfl, HB3.out⟩
theorem l02Turn_any (a : Option Addr) (cap : Nat) (xs : List Int) (w : World) (hx : Ints w w.heap.size a cap xs) (hlen : xs.length ≤ 1000000) :
    Calls Tryd.prog 160 #[.slice a xs.length cap] w (RetI w xs.reverse) := by
  obtain ⟨-, -, bk, off, ha, hc⟩ := hx
  have Ha := Lib.hid ha; clear ha
  have Hc := Lib.hid hc; clear hc
  have hrow : Hid (OwnV (w.alloc (.cells #[] 3)) w.heap.size (.slice (some ⟨w.heap.size, 0, none⟩) 0 0) []) := OwnV.lit0 _ _ (Nat.le_refl _)
  have HDL : Hid (∀ i : Nat, (xs.drop i).reverse.length ≤ 1000000) := fun i => by rw [List.length_reverse, List.length_drop]; omega
  have HDN : Hid (∀ i (h : i < xs.length), (xs.drop i).reverse = (xs.drop (i + 1)).reverse ++ [xs[i]]) := fun i h => by rw [List.drop_eq_getElem_cons h, List.reverse_cons]
  go_enter Tryd.func160, Tryd.ntmps160
  go_wp2
  go_loopw [3, 4] (fun v k wr => ∃ i : Int, k = .int .i64 i ∧ -1 ≤ i ∧ i < xs.length ∧ OwnV wr w.heap.size v (xs.drop (i + 1).toNat).reverse ∧ Below w.heap.size w wr) (fun _ k _ => (intOf k + 1).toNat)
  case atStart => exact ⟨_, rfl, by omega, by omega, by rw [show ((xs.length : Int) - 1 + 1).toNat = xs.length from by omega, List.drop_length]; exact hrow.out, (Below.refl _ _).alloc (Nat.le_refl _) _⟩
  case round =>
    obtain ⟨i, rfl, hi0, hi1, hown, hb⟩ := hrel
    have HB := Lib.hid hb; clear hb
    by_cases hi : 0 ≤ i
    · obtain ⟨i, rfl⟩ := Int.eq_ofNat_of_zero_le hi
      have hlt : i < xs.length := by omega
      rw [show ((i : Int) + 1).toNat = i + 1 from by omega] at hown
      have hdl := HDL.out (i + 1)
      have HE := Lib.hid (HDN.out i hlt)
      have HE2 : Hid (((i : Int) - 1 + 1).toNat = i) := by show _ = _; omega
      obtain ⟨rfl, hbk⟩ := Ha.out (by omega)
      have hcx := (HB.out.cell (p := ⟨bk, off + i, none⟩) hbk).trans (Hc.out i hlt)
      have hsz := HB.out.size
      go_wp2_with (at_builtin; refine wpList_append_int rfl _ _ rfl w.heap.size _ _ rfl hown xs[i] rfl (by omega) (by omega) ?_; intro v' w2 hown2 hbl2)
      have HB2 := Lib.hid (HB.out.trans hbl2)
      clear hbl2
      go_roundw
      case rel => exact ⟨(i : Int) - 1, rfl, by omega, by omega, by rw [HE2.out, HE.out]; exact hown2, HB2.out⟩
      case measure => simp [intOf] <;> omega
    · have HE : Hid ((i + 1).toNat = 0) := by show _ = _; omega
      rw [HE.out, List.drop_zero] at hown
      have HO := Lib.hid hown
      clear hown
      go_wp2
      go_ret
      exact HO.out.ret HB.out
set_option maxRecDepth 8000 in
set_option maxHeartbeats 1000000 in
theorem l22Sort_any (x : Int) (b k : Nat) (w : World) (hx0 : 0 ≤ x) (hx1 : x < (b : Int) ^ k) (hb1 : 2 ≤ b) (hb2 : b ≤ 16) (hk1 : 2 ≤ k) (hk2 : k ≤ 5) :
    Calls Tryd.prog 140 #[.int .i64 x, .int .i64 b, .int .i64 k] w fun e w' => e = .returned (.int .i64 (sst b k x)) ∧ Below w.heap.size w w' := by
  have hb1' : (2 : Int) ≤ (b : Int) := by omega
  obtain ⟨p1, p2⟩ := pow_k5' b k hb1' (by omega) hk2
  have hdl := (digs_len_le b hb1' k x hx0 (by omega)).2 hx1
  have HPD := Lib.hid (plcd_digs b hb1' k x hx0 (by omega) hx1)
  have HD : Hid (Calls Tryd.prog 129 #[.int .i64 x, .int .i64 b] w (RetI w (digs x b))) := l02Digits_any x b w (by omega) hb1' (by omega)
  have hmp : ∀ d ∈ plcd x b k, 0 ≤ d ∧ d < (b : Int) := plcd_mem b hb1' k x
  have hl : (plcd x b k).length = k := plcd_length b k x
  have HCS : Hid (csL (plcd x b k) b = srt (plcd x b k)) := csL_srt _ b hmp
  have HCL : Hid (∀ m, (csL (plcd x b k) m).length ≤ k) := fun m => by
    rw [(csL_perm _ (fun y hy => (hmp y hy).1) m).length_eq]
    exact Nat.le_trans (List.length_filter_le _ _) (by omega)
  have HCN : Hid (∀ m : Nat, csL (plcd x b k) (m + 1) = csL (plcd x b k) m ++ ((plcd x b k).take k).filter (fun y => y == (m : Int))) := fun m => by
    rw [List.take_of_length_le (by omega)]; rfl
  have HFL : Hid (∀ m i : Nat, ((plcd x b k).take i |>.filter (fun y => y == (m : Int))).length ≤ k) := fun m i =>
    Nat.le_trans (List.length_filter_le _ _) (by rw [List.length_take]; omega)
  have HFN : Hid (∀ (m i : Nat) (h : i < (plcd x b k).length), ((plcd x b k).take (i + 1)).filter (fun y => y == (m : Int)) = ((plcd x b k).take i).filter (fun y => y == (m : Int)) ++ (if ((plcd x b k)[i] == (m : Int)) = true then [(plcd x b k)[i]] else [])) := fun m i h => by
    rw [take_next _ i h, List.filter_append]
    congr 1
    simp only [List.filter_cons, List.filter_nil]
  have hm : ∀ d ∈ srt (plcd x b k), 0 ≤ d ∧ d < (b : Int) := fun d hd => hmp d (srt_mem.1 hd)
  have hl2 : (srt (plcd x b k)).length = k := by rw [srt_len, hl]
  have hv1 := valL_bd b hb1' _ hm
  have hv2 := valL_bd b hb1' (srt (plcd x b k)).reverse (fun d hd => hm d (List.mem_reverse.1 hd))
  rw [List.length_reverse, hl2] at hv2
  rw [hl2] at hv1
  have HST : Hid (sst b k x = valL b (srt (plcd x b k)) - valL b (srt (plcd x b k)).reverse) := rfl
  have HV1 : Hid (∀ (a : Option Addr) (c : Nat) (W : World), Ints W W.heap.size a c (srt (plcd x b k)) → Calls Tryd.prog 159 #[.slice a (srt (plcd x b k)).length c, .int .i64 b] W fun e w' => e = .returned (.int .i64 (valL b (srt (plcd x b k)))) ∧ W = w') := fun a c W h => l18Value_any a c _ b W h hm hb1' (by rw [hl2]; omega)
  have HTU : Hid (∀ (a : Option Addr) (c : Nat) (W : World), Ints W W.heap.size a c (srt (plcd x b k)) → Calls Tryd.prog 160 #[.slice a (srt (plcd x b k)).length c] W (RetI W (srt (plcd x b k)).reverse)) := fun a c W h => l02Turn_any a c _ W h (by omega)
  have HV2 : Hid (∀ (a : Option Addr) (c : Nat) (W : World), Ints W W.heap.size a c (srt (plcd x b k)).reverse → Calls Tryd.prog 159 #[.slice a (srt (plcd x b k)).reverse.length c, .int .i64 b] W fun e w' => e = .returned (.int .i64 (valL b (srt (plcd x b k)).reverse)) ∧ W = w') := fun a c W h => l18Value_any a c _ b W h (fun d hd => hm d (List.mem_reverse.1 hd)) hb1' (by rw [List.length_reverse, hl2]; omega)
  have HL2 := Lib.hid hl2
  clear hm hl2 hmp hx1
  generalize valL (b : Int) (srt (plcd x b k)) = v1 at *
  generalize valL (b : Int) (srt (plcd x b k)).reverse = v2 at *
  generalize (srt (plcd x b k)).reverse = R at *
  generalize srt (plcd x b k) = S at *
  generalize plcd x b k = P at *
  generalize digs x b = D at *
  go_enter Tryd.func140, Tryd.ntmps140
  go_wp2_with fail
  refine HD.out.mono ?_
  rintro e w1 ⟨a1, c1, rfl, ho1, hbw1⟩
  have HB1 := Lib.hid hbw1
  have HO1 := Lib.hid ho1.ownV
  clear hbw1 ho1
  go_wp2_with fail
  go_loopw [7] (fun dv wr => ∃ m : Nat, D.length + m ≤ k ∧ OwnV wr w.heap.size dv (D ++ List.replicate m 0) ∧ Below w.heap.size w wr) (fun dv _ => k - sliceLen dv)
  case atStart => exact ⟨0, by omega, by rw [List.replicate_zero, List.append_nil]; exact HO1.out, HB1.out⟩
  case round =>
    obtain ⟨m, hm, hown, hb⟩ := hrel
    have HB := Lib.hid hb
    have hsz := HB.out.size
    obtain ⟨ad, cd, rfl, hoi⟩ := hown.own
    have hlm : (D ++ List.replicate m (0 : Int)).length = D.length + m := by simp
    have HLM := Lib.hid hlm
    have HOI := Lib.hid hoi
    clear hb hown hoi
    by_cases hlt : D.length + m < k
    · have hov := HOI.out.ownV
      rw [hlm] at hov
      rw [hlm]
      have HRN : Hid (D ++ List.replicate m (0 : Int) ++ [0] = D ++ List.replicate (m + 1) 0) := by show _ = _; rw [List.replicate_succ', List.append_assoc]
      go_wp2_with (at_builtin; refine wpList_append_int rfl _ _ rfl w.heap.size _ _ rfl hov 0 rfl (by omega) (by omega) ?_; intro v' w2 hown2 hbl2)
      rw [HRN.out] at hown2
      have HB2 := Lib.hid (HB.out.trans hbl2)
      obtain ⟨a3, c3, rfl, ho3⟩ := hown2.own
      have HO3 := Lib.hid ho3.ownV
      have hl3 : (D ++ List.replicate (m + 1) (0 : Int)).length = D.length + (m + 1) := by simp
      rw [hl3] at HO3
      rw [hl3]
      clear hbl2 hown2 ho3 hov
      go_roundw
      case rel => exact ⟨m + 1, by omega, HO3.out, HB2.out⟩
      case measure => simp [sliceLen]; omega
    · have hDP : D ++ List.replicate m (0 : Int) = P := by rw [HPD.out]; congr 2; omega
      have HXI : Hid (Ints wr wr.heap.size ad cd P) := by rw [← hDP]; exact HOI.out.ints
      have hPl : P.length = k := hl
      rw [hlm]
      have hDk : D.length + m = k := by omega
      rw [hDk]
      have HX2 := Lib.hid HXI.out.2.2
      have hrow : Hid (OwnV (wr.alloc (.cells #[] 3)) wr.heap.size (.slice (some ⟨wr.heap.size, 0, none⟩) 0 0) []) := OwnV.lit0 _ _ (Nat.le_refl _)
      have HPL := Lib.hid hPl
      have hBs := HB.out.size
      have HB0 := Lib.hid ((Below.refl wr.heap.size wr).alloc (Nat.le_refl _) (.cells #[] 3))
      clear hDP HOI hDk hPl hl
      obtain ⟨B2, hB2⟩ : ∃ B2, wr.heap.size = B2 := ⟨_, rfl⟩
      obtain ⟨w0, hw0⟩ : ∃ w0, wr = w0 := ⟨_, rfl⟩
      have hrow2 : Hid (OwnV (wr.alloc (.cells #[] 3)) B2 (.slice (some ⟨wr.heap.size, 0, none⟩) 0 0) []) := by show OwnV _ _ _ _; rw [← hB2]; exact hrow.out
      have HB02 : Hid (Below B2 w0 (wr.alloc (.cells #[] 3))) := by show Below _ _ _; rw [← hB2, ← hw0]; exact HB0.out
      have HX3 : Hid (∃ b off, (0 < P.length → ad = some ⟨b, off, none⟩ ∧ b < B2) ∧ ∀ i (h : i < P.length), w0.cell? ⟨b, off + i, none⟩ = some (.int .i64 P[i])) := by show Exists _; rw [← hB2, ← hw0]; exact HX2.out
      have HBB : Hid (∀ W : World, Below B2 w0 W → Below w.heap.size w W) := fun W h => by rw [← hw0] at h; exact HB.out.trans (h.mono (by omega))
      have HBS : Hid (∀ W : World, Below B2 w0 W → B2 ≤ W.heap.size) := fun W h => by rw [← hw0] at h; rw [← hB2]; exact h.size
      clear hrow HB0 HX2 hB2 hBs hw0
      go_wp2_with fail
      go_loopw [8, 9] (fun sv xv wx => ∃ m2 : Nat, m2 ≤ b ∧ xv = .int .i64 m2 ∧ OwnV wx B2 sv (csL P m2) ∧ Below B2 w0 wx) (fun _ xv _ => b - (intOf xv).toNat)
      case atStart => exact ⟨0, Nat.zero_le _, rfl, hrow2.out, HB02.out⟩
      case round =>
        obtain ⟨m2, hm2, rfl, hown, hbx⟩ := hrel
        have HBX := Lib.hid hbx
        have HO := Lib.hid hown
        clear hbx hown
        by_cases hltb : m2 < b
        · go_wp2_with fail
          go_loopw [8, 30] (fun sv iv wy => ∃ i : Nat, i ≤ k ∧ iv = .int .i64 i ∧ OwnV wy B2 sv (csL P m2 ++ (P.take i).filter (fun y => y == (m2 : Int))) ∧ Below B2 w0 wy) (fun _ iv _ => k - (intOf iv).toNat)
          case atStart => exact ⟨0, Nat.zero_le _, rfl, by rw [List.take_zero, List.filter_nil, List.append_nil]; exact HO.out, HBX.out⟩
          case round =>
            obtain ⟨i, hi, rfl, hown, hby⟩ := hrel
            have HBY := Lib.hid hby
            clear hby
            by_cases hlti : i < k
            · have hiP : i < P.length := by rw [HPL.out]; exact hlti
              obtain ⟨bk, off, hA, hC⟩ := HX3.out
              obtain ⟨rfl, hbk⟩ := hA (by omega)
              have hcx := (HBY.out.cell (p := ⟨bk, off + i, none⟩) hbk).trans (hC i hiP)
              have hfn := HFN.out m2 i hiP
              have hsy := HBS.out _ HBY.out
              have hL1 := HCL.out m2
              have hL2 := HFL.out m2 i
              clear hA hC
              cases hq : (P[i] == (m2 : Int))
              · rw [hq, if_neg (by decide), List.append_nil] at hfn
                have HFE := Lib.hid hfn
                have HOW := Lib.hid hown
                clear hfn hown
                go_wp2_with fail
                go_roundw
                case rel => exact ⟨i + 1, by omega, by go_num, by rw [HFE.out]; exact HOW.out, HBY.out⟩
                case measure => simp [intOf]; omega
              · rw [hq, if_pos rfl] at hfn
                have hPi : P[i] = (m2 : Int) := by simpa using hq
                rw [hPi] at hfn
                have HFE : Hid (csL P m2 ++ (P.take i).filter (fun y => y == (m2 : Int)) ++ [(m2 : Int)] = csL P m2 ++ (P.take (i + 1)).filter (fun y => y == (m2 : Int))) := by show _ = _; rw [hfn, List.append_assoc]
                have hll : (csL P m2 ++ (P.take i).filter (fun y => y == (m2 : Int))).length ≤ 10 := by rw [List.length_append]; omega
                clear hfn hPi hL1 hL2
                generalize csL P m2 ++ (P.take i).filter (fun y => y == (m2 : Int)) = Z at *
                go_wp2_with (at_builtin; refine wpList_append_int rfl _ _ rfl B2 _ _ rfl hown (m2 : Int) rfl (by omega) (by omega) ?_; intro v' w5 hown5 hbl5)
                rw [HFE.out] at hown5
                have HB5 := Lib.hid (HBY.out.trans hbl5)
                have HO5 := Lib.hid hown5
                clear hbl5 hown5
                go_roundw
                case rel => exact ⟨i + 1, by omega, by go_num, HO5.out, HB5.out⟩
                case measure => simp [intOf]; omega
            · obtain rfl : i = k := by omega
              have HOW := Lib.hid hown
              clear hown
              go_wp2_with fail
              go_roundw
              case rel => exact ⟨m2 + 1, by omega, by go_num, by rw [HCN.out]; exact HOW.out, HBY.out⟩
              case measure => simp [intOf]; omega
        · obtain rfl : m2 = b := by omega
          have ho := HO.out
          rw [HCS.out] at ho
          obtain ⟨a4, c4, rfl, ho4⟩ := ho.own
          have HI4 := Lib.hid ho4.ints
          clear ho ho4 HO
          go_wp2_with fail
          refine (HV1.out a4 c4 _ HI4.out).mono ?_
          rintro e w' ⟨rfl, rfl⟩
          go_wp2_with fail
          refine (HTU.out a4 c4 _ HI4.out).mono ?_
          rintro e w6 ⟨a6, c6, rfl, ho6, hb6⟩
          have HI6 := Lib.hid ho6.ints
          have HB6 := Lib.hid (HBB.out _ (HBX.out.trans (hb6.mono (HBS.out _ HBX.out))))
          clear ho6 hb6
          go_wp2_with fail
          refine (HV2.out a6 c6 _ HI6.out).mono ?_
          rintro e w' ⟨rfl, rfl⟩
          go_wp2_with fail
          go_ret
          exact ⟨by rw [HST.out] <;> rfl, HB6.out⟩

end Go.Proofs.YtdpddbajeldgiaaDoor
