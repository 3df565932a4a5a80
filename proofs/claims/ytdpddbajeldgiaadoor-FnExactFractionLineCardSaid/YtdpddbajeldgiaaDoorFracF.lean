/- FractionLine, program and reference, and its law. Conditions: those of each contract. -/
import Derived.Test.YtdpddbajeldgiaaDoorFracE
namespace Go.Proofs.YtdpddbajeldgiaaDoor
set_option linter.unusedVariables false
open Go.RowKit

set_option maxRecDepth 8000 in
theorem l14List_any (b1 o1 c1 b2 o2 c2 : Nat) (xs ys : List Int) (b : Int) (w : World) (hx : IntsP w w.heap.size b1 o1 c1 xs) (hy : IntsP w w.heap.size b2 o2 c2 ys) (hb : inB b 2 16 = true) (hxd : ∀ x ∈ xs, 0 ≤ x ∧ x < b) (hyd : ∀ x ∈ ys, 0 ≤ x ∧ x < b) (hl : xs.length ≤ 5000) (hl2 : ys.length ≤ 5000) :
    Calls Tryd.prog 72 #[.slice (some ⟨b1, o1, none⟩) xs.length c1, .slice (some ⟨b2, o2, none⟩) ys.length c2, .int .i64 b] w fun e w' => e = .returned (.bool (decide (xs.length + ys.length ≤ 9))) ∧ Below w.heap.size w w' := by
  obtain ⟨hb1, hb2⟩ := inB_t.1 hb
  by_cases h9 : xs.length + ys.length ≤ 9
  · have h9' : (xs.length : Int) + (ys.length : Int) ≤ 9 := by omega
    rw [decide_eq_true h9]
    have hb0 : Below w.heap.size w (w.alloc (.cells #[] 3)) := (Below.refl _ _).alloc (Nat.le_refl _) _
    have hx0 := hx.below hb0
    have hy0 := hy.below hb0
    have HM : Hid (∀ k (h : k < (xs ++ ys).length), 0 ≤ (xs ++ ys)[k] ∧ (xs ++ ys)[k] < b) := by
      intro k hk
      have := List.getElem_mem hk
      rcases List.mem_append.1 this with h | h
      · exact hxd _ h
      · exact hyd _ h
    have hll : (xs ++ ys).length = xs.length + ys.length := List.length_append ..
    have HLL := Lib.hid hll
    have hll9 : (xs ++ ys).length ≤ 9 := by omega
    have HC1 := Lib.hid hx0.2.2.2
    have HY0 := Lib.hid hy0
    have HB0 := Lib.hid hb0
    clear hx hy hxd hyd hx0 hy0 hb0 hll
    go_enter Tryd.func72, Tryd.ntmps72
    go_wp2_with (first | (go_at_call 83; refine (sBaseOk_any _ _).mono ?_; rintro e w' ⟨rfl, rfl⟩) | (at_builtin; refine wpList_append_ints rfl _ _ rfl w.heap.size _ [] rfl (OwnV.lit0 _ _ (Nat.le_refl _)) b1 o1 c1 _ xs rfl rfl HC1.out (by simp; omega) (by simp) ?_; intro v1 w1 hown1 hbl1; refine Hid.out ?_))
    refine Lib.hid ?_
    have hs1 : w.heap.size ≤ w1.heap.size := by have := hbl1.size; simp at this; omega
    have hB1 : Below w.heap.size w w1 := HB0.out.trans hbl1
    have HY1 := Lib.hid (HY0.out.below hbl1).2.2.2
    have HBL1 := Lib.hid hB1
    clear hbl1 hB1 HC1 HY0 HB0
    rw [List.nil_append] at hown1
    go_wp2_with (at_builtin; refine wpList_append_ints rfl _ _ rfl w.heap.size _ xs rfl hown1 b2 o2 c2 _ ys rfl rfl HY1.out (by omega) hs1 ?_; intro v2 w2 hown2 hbl2; refine Hid.out ?_)
    refine Lib.hid ?_
    have HBL2 := Lib.hid (HBL1.out.trans hbl2)
    clear hbl2 HBL1 HY1 hown1
    obtain ⟨a2, c2', rfl, hoi⟩ := hown2.own
    obtain ⟨-, -, b', o', ha, hc⟩ := hoi.ints
    have HA := Lib.hid ha
    have HC := Lib.hid hc
    clear hown2 hoi ha hc
    generalize xs ++ ys = zs at *
    go_wp2
    go_loop [26] (fun i => ∃ k : Nat, k ≤ zs.length ∧ i = .int .i64 k) (fun i => zs.length - (intOf i).toNat)
    case atStart => exact ⟨0, Nat.zero_le _, rfl⟩
    case round =>
      obtain ⟨k, hk, rfl⟩ := hrel
      by_cases hlt : k < zs.length
      · obtain ⟨rfl, -⟩ := HA.out (by omega)
        have hcx := HC.out k hlt
        obtain ⟨d0, d1⟩ := HM.out k hlt
        have hin : inB zs[k] 0 (b - 1) = true := inB_t.2 ⟨d0, by omega⟩
        generalize zs[k] = d at *
        go_wp2_with (go_at_call 84; refine (l01In_any _ _ _ _).mono ?_; rintro e w' ⟨rfl, rfl⟩)
        go_round
        case rel => exact ⟨k + 1, by omega, by go_num⟩
        case measure => simp [intOf]; omega
      · go_wp2_with fail
        go_ret
        exact ⟨rfl, HBL2.out⟩
  · have h9' : 9 < (xs.length : Int) + (ys.length : Int) := by omega
    rw [decide_eq_false h9]
    clear hx hy hxd hyd
    go_enter Tryd.func72, Tryd.ntmps72
    go_wp2_with (go_at_call 83; refine (sBaseOk_any _ _).mono ?_; rintro e w' ⟨rfl, rfl⟩)
    go_ret
    exact ⟨rfl, Below.refl _ _⟩
theorem ba_mark (s : List UInt8) (xs : List Int) (k : Nat) (h : k < xs.length) : (⟨(s ++ marksT (xs.take k)).toArray⟩ : ByteArray) ++ ⟨[mk xs[k]].toArray⟩ = ⟨(s ++ marksT (xs.take (k + 1))).toArray⟩ := by
  rw [ba_app, marksT_next xs k h, List.append_assoc]
theorem mk_size (s : List UInt8) (xs : List Int) (k m : Nat) (hs : s.length ≤ m) (hk : k ≤ 9) : (⟨(s ++ marksT (xs.take k)).toArray⟩ : ByteArray).size ≤ m + 9 := by
  show (s ++ marksT (xs.take k)).toArray.size ≤ m + 9
  rw [List.size_toArray, List.length_append, marksT_len, List.length_take]
  omega
set_option maxRecDepth 8000 in
set_option maxHeartbeats 1000000 in
theorem sFormatExpansion_any (b1 o1 c1 b2 o2 c2 : Nat) (xs ys : List Int) (b : Int) (w : World) (hx : IntsP w w.heap.size b1 o1 c1 xs) (hy : IntsP w w.heap.size b2 o2 c2 ys) (hb : inB b 2 16 = true) (hxd : ∀ x ∈ xs, 0 ≤ x ∧ x < b) (hyd : ∀ x ∈ ys, 0 ≤ x ∧ x < b) (hl : xs.length ≤ 5000) (hl2 : ys.length ≤ 5000) :
    Calls Tryd.prog 36 #[.slice (some ⟨b1, o1, none⟩) xs.length c1, .slice (some ⟨b2, o2, none⟩) ys.length c2, .int .i64 b] w fun e w' => e = .returned (.string ⟨(fxL xs ys).toArray⟩) ∧ Below w.heap.size w w' := by
  obtain ⟨hb1, hb2⟩ := inB_t.1 hb
  have HLI : Hid (Calls Tryd.prog 72 #[.slice (some ⟨b1, o1, none⟩) xs.length c1, .slice (some ⟨b2, o2, none⟩) ys.length c2, .int .i64 b] w fun e w' => e = .returned (.bool (decide (xs.length + ys.length ≤ 9))) ∧ Below w.heap.size w w') := l14List_any b1 o1 c1 b2 o2 c2 xs ys b w hx hy hb hxd hyd hl hl2
  by_cases h9 : xs.length + ys.length ≤ 9
  rotate_left
  · rw [decide_eq_false h9] at HLI
    have HV : Hid (fxL xs ys = []) := by show _ = _; rw [fxL, if_neg h9]
    clear hx hy hxd hyd
    go_enter Tryd.func36, Tryd.ntmps36
    go_wp2_with fail
    refine HLI.out.mono ?_
    rintro e w1 ⟨rfl, hb1⟩
    have HB1 := Lib.hid hb1
    clear hb1
    go_wp2_with fail
    go_ret
    exact ⟨by rw [HV.out] <;> rfl, HB1.out⟩
  rw [decide_eq_true h9] at HLI
  have HX := Lib.hid hx
  have HY := Lib.hid hy
  have HXD : Hid (∀ k (h : k < xs.length), 0 ≤ xs[k] ∧ xs[k] < b) := fun k h => hxd _ (List.getElem_mem h)
  have HYD : Hid (∀ k (h : k < ys.length), 0 ≤ ys[k] ∧ ys[k] < b) := fun k h => hyd _ (List.getElem_mem h)
  have HF : Hid (fxL xs ys = [48, 46] ++ marksT xs ++ (if ys.length = 0 then [] else [40] ++ marksT ys ++ [41])) := by show _ = _; rw [fxL, if_pos h9]
  have hz0 : (⟨#[48, 46]⟩ : ByteArray) = ⟨([48, 46] ++ marksT (xs.take 0)).toArray⟩ := rfl
  clear hx hy hxd hyd
  go_enter Tryd.func36, Tryd.ntmps36
  go_wp2_with fail
  refine HLI.out.mono ?_
  rintro e w1 ⟨rfl, hb1⟩
  have HB1 := Lib.hid hb1
  clear hb1 HLI
  go_wp2_with fail
  go_loopw [7, 19] (fun s i wr => ∃ k : Nat, k ≤ xs.length ∧ i = .int .i64 k ∧ s = .string ⟨([48, 46] ++ marksT (xs.take k)).toArray⟩ ∧ Below w.heap.size w wr) (fun _ i _ => xs.length - (intOf i).toNat)
  case atStart => exact ⟨0, Nat.zero_le _, rfl, rfl, HB1.out⟩
  case round =>
  obtain ⟨k, hk, rfl, rfl, hb⟩ := hrel
  have HB := Lib.hid hb
  have hsz := mk_size [48, 46] xs k 2 (by decide) (by omega)
  by_cases hlt : k < xs.length
  · have hcx := (HX.out.below hb).2.2.2 k hlt
    obtain ⟨d0, d1⟩ := HXD.out k hlt
    have HM := Lib.hid (ba_mark [48, 46] xs k hlt)
    have HSG : Hid (∀ W : World, Calls Tryd.prog 73 #[.int .i64 xs[k]] W fun e w' => e = .returned (.string ⟨[mk xs[k]].toArray⟩) ∧ Below W.heap.size W w') := fun W => l02Sign_any _ W d0 (by omega)
    have hms : (⟨[mk xs[k]].toArray⟩ : ByteArray).size = 1 := rfl
    clear hb
    generalize (⟨([48, 46] ++ marksT (xs.take k)).toArray⟩ : ByteArray) = s0 at *
    generalize (⟨[mk xs[k]].toArray⟩ : ByteArray) = s1 at *
    generalize xs[k] = d at *
    go_wp2_with fail
    refine (HSG.out _).mono ?_
    rintro e w2 ⟨rfl, hb2⟩
    have HB2 := Lib.hid (HB.out.trans (hb2.mono HB.out.size))
    clear hb2
    go_wp2_with fail
    go_roundw
    case rel => exact ⟨k + 1, by omega, by go_num, by rw [HM.out], HB2.out⟩
    case measure => simp [intOf]; omega
  obtain rfl : k = xs.length := by omega
  rw [List.take_length] at hsz
  rw [List.take_length]
  clear hb
  by_cases hz : ys.length = 0
  · obtain rfl : ys = [] := List.eq_nil_of_length_eq_zero hz
    have HV : Hid ((⟨([48, 46] ++ marksT xs).toArray⟩ : ByteArray) = ⟨(fxL xs []).toArray⟩) := by show _ = _; rw [HF.out, if_pos hz, List.append_nil]
    clear hz0
    generalize (⟨([48, 46] ++ marksT xs).toArray⟩ : ByteArray) = s0 at *
    go_wp2_with fail
    go_ret
    exact ⟨by rw [← HV.out] <;> rfl, HB.out⟩
  have hzn : ((ys.length : Int) == 0) = false := by rw [beq_eq_false_iff_ne]; omega
  have HS1 : Hid ((⟨([48, 46] ++ marksT xs).toArray⟩ : ByteArray) ++ ⟨#[40]⟩ = ⟨([48, 46] ++ marksT xs ++ [40] ++ marksT (ys.take 0)).toArray⟩) := by
    show _ = _
    rw [List.take_zero, show marksT [] = [] from rfl, List.append_nil]
    exact ba_app _ [40]
  have hpl : ([48, 46] ++ marksT xs ++ [40] : List UInt8).length ≤ 12 := by simp [marksT_len]; omega
  have HE : Hid ((⟨([48, 46] ++ marksT xs ++ [40] ++ marksT (ys.take ys.length)).toArray⟩ : ByteArray) ++ ⟨#[41]⟩ = ⟨(fxL xs ys).toArray⟩) := by
    show _ = _
    rw [HF.out, if_neg hz, List.take_length]
    refine (ba_app _ [41]).trans ?_
    congr 2
    simp
  clear hz hz0
  generalize (⟨([48, 46] ++ marksT xs).toArray⟩ : ByteArray) = s0 at *
  generalize ([48, 46] ++ marksT xs ++ [40] : List UInt8) = P at *
  go_wp2_with fail
  go_loopw [7, 36] (fun s i wr => ∃ k : Nat, k ≤ ys.length ∧ i = .int .i64 k ∧ s = .string ⟨(P ++ marksT (ys.take k)).toArray⟩ ∧ Below w.heap.size w wr) (fun _ i _ => ys.length - (intOf i).toNat)
  case atStart => exact ⟨0, Nat.zero_le _, rfl, by rw [HS1.out], HB.out⟩
  case round =>
  obtain ⟨k, hk, rfl, rfl, hb⟩ := hrel
  have HB3 := Lib.hid hb
  have hsz2 := mk_size P ys k 12 hpl (by omega)
  by_cases hlt : k < ys.length
  · have hcx := (HY.out.below hb).2.2.2 k hlt
    obtain ⟨d0, d1⟩ := HYD.out k hlt
    have HM := Lib.hid (ba_mark P ys k hlt)
    have HSG : Hid (∀ W : World, Calls Tryd.prog 73 #[.int .i64 ys[k]] W fun e w' => e = .returned (.string ⟨[mk ys[k]].toArray⟩) ∧ Below W.heap.size W w') := fun W => l02Sign_any _ W d0 (by omega)
    have hms : (⟨[mk ys[k]].toArray⟩ : ByteArray).size = 1 := rfl
    clear hb
    generalize (⟨(P ++ marksT (ys.take k)).toArray⟩ : ByteArray) = s2 at *
    generalize (⟨[mk ys[k]].toArray⟩ : ByteArray) = s1 at *
    generalize ys[k] = d at *
    go_wp2_with fail
    refine (HSG.out _).mono ?_
    rintro e w2 ⟨rfl, hb2⟩
    have HB2 := Lib.hid (HB3.out.trans (hb2.mono HB3.out.size))
    clear hb2
    go_wp2_with fail
    go_roundw
    case rel => exact ⟨k + 1, by omega, by go_num, by rw [HM.out], HB2.out⟩
    case measure => simp [intOf]; omega
  obtain rfl : k = ys.length := by omega
  clear hb
  generalize (⟨(P ++ marksT (ys.take ys.length)).toArray⟩ : ByteArray) = s2 at *
  go_wp2_with fail
  go_ret
  exact ⟨by rw [← HE.out] <;> rfl, HB3.out⟩
def prePer (m n : Nat) : ByteArray := ⟨#[112, 114, 101, 32]⟩ ++ itB m ++ ⟨#[32, 112, 101, 114, 105, 111, 100, 32]⟩ ++ itB n
def fracLn (p q b : Int) : ByteArray := if fracOk p q b then (if (preR p q b).length + (perR p q b).length ≤ 9 then ⟨(fxL (preR p q b) (perR p q b)).toArray⟩ else prePer (preR p q b).length (perR p q b).length) else ⟨#[110, 111, 110, 101]⟩
set_option maxRecDepth 8000 in
set_option maxHeartbeats 1000000 in
theorem FractionLine_any (p q b : Int) (w : World) (ht : Tab w) :
    Calls Tryd.prog 16 #[.int .i64 p, .int .i64 q, .int .i64 b] w fun e w' => e = .returned (.string (fracLn p q b)) ∧ Below w.heap.size w w' := by
  have HT := Lib.hid ht; clear ht
  have HE : Hid (Calls Tryd.prog 37 #[.int .i64 p, .int .i64 q, .int .i64 b] w (RetTwo w (preR p q b) (perR p q b) (fracOk p q b))) := ExpansionOf_any p q b w
  cases h : fracOk p q b
  · have HF : Hid (fracLn p q b = ⟨#[110, 111, 110, 101]⟩) := by show _ = _; simp [fracLn, h]
    rw [h] at HE
    clear h
    go_enter Tryd.func16, Tryd.ntmps16
    go_wp2_with fail
    refine HE.out.mono ?_
    rintro e w1 ⟨a1, c1, a2, c2, rfl, -, -, hb⟩
    go_wp2_with fail
    go_ret
    exact ⟨by rw [HF.out] <;> rfl, hb⟩
  obtain ⟨g1, g2, g3, g4, g5, g6⟩ := fracOk_t h
  have hb16 : inB b 2 16 = true := inB_t.2 ⟨g5, g6⟩
  have l1 := preR_len h
  have l2 := perR_len h
  obtain ⟨f1, f2⟩ := frR_bd h
  have hl1 : (preR p q b).length ≤ 1001 := by omega
  have hl2 : (perR p q b).length ≤ 1001 := by omega
  have HM1 := Lib.hid (preR_mem h)
  have HM2 := Lib.hid (perR_mem h)
  have HF : Hid (fracLn p q b = (if (preR p q b).length + (perR p q b).length ≤ 9 then ⟨(fxL (preR p q b) (perR p q b)).toArray⟩ else prePer (preR p q b).length (perR p q b).length)) := by show _ = _; simp [fracLn, h]
  have HPP : Hid (∀ m n : Nat, prePer m n = ⟨#[112, 114, 101, 32]⟩ ++ itB m ++ ⟨#[32, 112, 101, 114, 105, 111, 100, 32]⟩ ++ itB n) := fun _ _ => rfl
  rw [h] at HE
  clear h l1 l2 f1 f2
  generalize preR p q b = X at *
  generalize perR p q b = Y at *
  go_enter Tryd.func16, Tryd.ntmps16
  go_wp2_with fail
  refine HE.out.mono ?_
  rintro e w1 ⟨a1, c1, a2, c2, rfl, hx, hy, hb⟩
  have HX := Lib.hid hx
  have HY := Lib.hid hy
  have HB1 := Lib.hid hb
  clear hx hy hb HE
  go_wp2_with fail
  refine (FormatExpansion_any a1 a2 c1 c2 X Y b _ HX.out HY.out hb16 HM1.out HM2.out (by omega) (by omega)).mono ?_
  rintro e w2 ⟨rfl, hb⟩
  have HB2 := Lib.hid (HB1.out.trans (hb.mono HB1.out.size))
  clear hb
  by_cases h9 : X.length + Y.length ≤ 9
  · have HV : Hid (fracLn p q b = ⟨(fxL X Y).toArray⟩) := by show _ = _; rw [HF.out, if_pos h9]
    have hne : ¬ (⟨(fxL X Y).toArray⟩ : ByteArray) = ByteArray.empty := by
      intro e
      have e2 : (fxL X Y).length = 0 := by
        have := congrArg ByteArray.size e
        simpa [ByteArray.size] using this
      rw [fxL, if_pos h9] at e2
      simp at e2
    have hne2 : ¬ (⟨(fxL X Y).toArray⟩ : ByteArray).toList = [] := by
      intro e
      rw [ByteArray.toList_eq] at e
      rw [fxL, if_pos h9] at e
      simp at e
    have hne3 : (⟨(fxL X Y).toArray⟩ : ByteArray).toList.isEmpty = false := by
      cases hh : (⟨(fxL X Y).toArray⟩ : ByteArray).toList with
      | nil => exact absurd hh hne2
      | cons _ _ => rfl
    clear HF HM1 HM2
    generalize (⟨(fxL X Y).toArray⟩ : ByteArray) = s at *
    go_wp2_with fail
    go_ret
    exact ⟨by rw [HV.out] <;> rfl, HB2.out⟩
  · have HV : Hid (fracLn p q b = ⟨#[112, 114, 101, 32]⟩ ++ itB X.length ++ ⟨#[32, 112, 101, 114, 105, 111, 100, 32]⟩ ++ itB Y.length) := by show _ = _; rw [HF.out, if_neg h9]; rfl
    have hfx : fxL X Y = [] := by rw [fxL, if_neg h9]
    rw [hfx]
    have HO1 : Hid (i64B (X.length : Int)) := ⟨by omega, by omega⟩
    have HO2 : Hid (i64B (Y.length : Int)) := ⟨by omega, by omega⟩
    have s1 : (itB (X.length : Int)).size ≤ 21 := itB_len _ HO1.out
    have s2 : (itB (Y.length : Int)).size ≤ 21 := itB_len _ HO2.out
    clear hfx HF HM1 HM2
    go_wp2_with fail
    refine (FormatInt_any _ _ HO1.out (HT.out.upd HB2.out)).mono ?_
    rintro e w3 ⟨rfl, hb⟩
    have HB3 := Lib.hid (HB2.out.trans (hb.mono HB2.out.size))
    clear hb
    go_wp2_with fail
    refine (FormatInt_any _ _ HO2.out (HT.out.upd HB3.out)).mono ?_
    rintro e w4 ⟨rfl, hb⟩
    have HB4 := Lib.hid (HB3.out.trans (hb.mono HB3.out.size))
    clear hb
    go_wp2_with fail
    go_ret
    exact ⟨by rw [HV.out] <;> rfl, HB4.out⟩
theorem sExpansionOf_no (p q b : Int) (w : World) (h : fracOk p q b = false) :
    Calls Tryd.prog 35 #[.int .i64 p, .int .i64 q, .int .i64 b] w fun e w' => e = .returned (.tuple #[.slice none 0 0, .slice none 0 0, .bool false]) ∧ Below w.heap.size w w' := by
  go_enter Tryd.func35, Tryd.ntmps35
  go_wp2_with (go_at_call 69; refine (l14Ok_any _ _ _ _).mono ?_; rintro e w' ⟨rfl, rfl⟩)
  go_ret3
  exact ⟨rfl, Below.refl _ _⟩
set_option maxRecDepth 8000 in
set_option maxHeartbeats 1000000 in
theorem sFractionLine_any (p q b : Int) (w : World) :
    Calls Tryd.prog 15 #[.int .i64 p, .int .i64 q, .int .i64 b] w fun e w' => e = .returned (.string (fracLn p q b)) ∧ Below w.heap.size w w' := by
  cases h : fracOk p q b
  · have HF : Hid (fracLn p q b = ⟨#[110, 111, 110, 101]⟩) := by show _ = _; simp [fracLn, h]
    have HE := Lib.hid (sExpansionOf_no p q b w h)
    clear h
    go_enter Tryd.func15, Tryd.ntmps15
    go_wp2_with fail
    refine HE.out.mono ?_
    rintro e w1 ⟨rfl, hb⟩
    go_wp2_with fail
    go_ret
    exact ⟨by rw [HF.out] <;> rfl, hb⟩
  obtain ⟨g1, g2, g3, g4, g5, g6⟩ := fracOk_t h
  have hb16 : inB b 2 16 = true := inB_t.2 ⟨g5, g6⟩
  have l1 := preR_len h
  have l2 := perR_len h
  obtain ⟨f1, f2⟩ := frR_bd h
  have hl1 : (preR p q b).length ≤ 1001 := by omega
  have hl2 : (perR p q b).length ≤ 1001 := by omega
  have HM1 := Lib.hid (preR_mem h)
  have HM2 := Lib.hid (perR_mem h)
  have HF : Hid (fracLn p q b = (if (preR p q b).length + (perR p q b).length ≤ 9 then ⟨(fxL (preR p q b) (perR p q b)).toArray⟩ else prePer (preR p q b).length (perR p q b).length)) := by show _ = _; simp [fracLn, h]
  have HPP : Hid (∀ m n : Nat, prePer m n = ⟨#[112, 114, 101, 32]⟩ ++ itB m ++ ⟨#[32, 112, 101, 114, 105, 111, 100, 32]⟩ ++ itB n) := fun _ _ => rfl
  have HE := Lib.hid (sExpansionOf_ok p q b w h)
  clear h l1 l2 f1 f2
  generalize preR p q b = X at *
  generalize perR p q b = Y at *
  go_enter Tryd.func15, Tryd.ntmps15
  go_wp2_with fail
  refine HE.out.mono ?_
  rintro e w1 ⟨⟨g, c1, o2, c2, rfl, hx, hy⟩, hb⟩
  have HX := Lib.hid hx
  have HY := Lib.hid hy
  have HB1 := Lib.hid hb
  clear hx hy hb HE
  go_wp2_with fail
  refine (sFormatExpansion_any g 0 c1 g o2 c2 X Y b _ HX.out HY.out hb16 HM1.out HM2.out (by omega) (by omega)).mono ?_
  rintro e w2 ⟨rfl, hb⟩
  have HB2 := Lib.hid (HB1.out.trans (hb.mono HB1.out.size))
  clear hb
  by_cases h9 : X.length + Y.length ≤ 9
  · have HV : Hid (fracLn p q b = ⟨(fxL X Y).toArray⟩) := by show _ = _; rw [HF.out, if_pos h9]
    have hne : ¬ (⟨(fxL X Y).toArray⟩ : ByteArray) = ByteArray.empty := by
      intro e
      have e2 : (fxL X Y).length = 0 := by
        have := congrArg ByteArray.size e
        simpa [ByteArray.size] using this
      rw [fxL, if_pos h9] at e2
      simp at e2
    have hne2 : ¬ (⟨(fxL X Y).toArray⟩ : ByteArray).toList = [] := by
      intro e
      rw [ByteArray.toList_eq] at e
      rw [fxL, if_pos h9] at e
      simp at e
    have hne3 : (⟨(fxL X Y).toArray⟩ : ByteArray).toList.isEmpty = false := by
      cases hh : (⟨(fxL X Y).toArray⟩ : ByteArray).toList with
      | nil => exact absurd hh hne2
      | cons _ _ => rfl
    clear HF HM1 HM2
    generalize (⟨(fxL X Y).toArray⟩ : ByteArray) = s at *
    go_wp2_with fail
    go_ret
    exact ⟨by rw [HV.out] <;> rfl, HB2.out⟩
  · have HV : Hid (fracLn p q b = ⟨#[112, 114, 101, 32]⟩ ++ itB X.length ++ ⟨#[32, 112, 101, 114, 105, 111, 100, 32]⟩ ++ itB Y.length) := by show _ = _; rw [HF.out, if_neg h9]; rfl
    have hfx : fxL X Y = [] := by rw [fxL, if_neg h9]
    rw [hfx]
    have HO1 : Hid (i64B (X.length : Int)) := ⟨by omega, by omega⟩
    have HO2 : Hid (i64B (Y.length : Int)) := ⟨by omega, by omega⟩
    have s1 : (itB (X.length : Int)).size ≤ 21 := itB_len _ HO1.out
    have s2 : (itB (Y.length : Int)).size ≤ 21 := itB_len _ HO2.out
    clear hfx HF HM1 HM2
    go_wp2_with fail
    refine (sFormatInt_any _ _ HO1.out).mono ?_
    rintro e w3 ⟨rfl, hb⟩
    have HB3 := Lib.hid (HB2.out.trans (hb.mono HB2.out.size))
    clear hb
    go_wp2_with fail
    refine (sFormatInt_any _ _ HO2.out).mono ?_
    rintro e w4 ⟨rfl, hb⟩
    have HB4 := Lib.hid (HB3.out.trans (hb.mono HB3.out.size))
    clear hb
    go_wp2_with fail
    go_ret
    exact ⟨by rw [HV.out] <;> rfl, HB4.out⟩
set_option maxHeartbeats 2000000 in
theorem law_FnExactFractionLine (p : Int) (q : Int) (b : Int) (w : World) (fp : (Lit.int .i64 p).wf = true) (fq : (Lit.int .i64 q).wf = true) (fb : (Lit.int .i64 b).wf = true) (ht : Tab w) :
    Calls Tryd.prog 4 #[.int .i64 p, .int .i64 q, .int .i64 b] w fun e w' => e = .returned (.bool true) ∧ Below w.heap.size w w' := by
  have HB0 : Hid (Below w.heap.size w w) := Below.refl _ _
  have HT := Lib.hid ht; clear ht
  go_enter Tryd.func4, Tryd.ntmps4
  go_wp2_with fail
  refine (sFractionLine_any p q b _).mono ?_
  rintro e w1 ⟨rfl, hb⟩
  have hu := Below.upd hb; clear hb
  have hs1 := hu.size
  have HB1 : Hid (Below w.heap.size w w1) := HB0.out.trans (hu.below (by omega) (by omega))
  clear hu
  go_wp2_with fail
  refine (FractionLine_any p q b _ (HT.out.upd HB1.out)).mono ?_
  rintro e w2 ⟨rfl, hb⟩
  have hu := Below.upd hb; clear hb
  have hs2 := hu.size
  have HB2 : Hid (Below w.heap.size w w2) := HB1.out.trans (hu.below (by omega) (by omega))
  clear hu
  go_wp2_with fail
  go_ret
  exact ⟨rfl, HB2.out⟩

end Go.Proofs.YtdpddbajeldgiaaDoor
