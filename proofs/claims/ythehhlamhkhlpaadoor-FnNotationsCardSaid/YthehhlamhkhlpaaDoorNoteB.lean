/- LooseValue and ParseRoman. Conditions: those of each contract. -/
import Derived.Test.YthehhlamhkhlpaaDoorNoteA
import Derived.Test.YthehhlamhkhlpaaDoorRomanB
namespace Go.Proofs.YthehhlamhkhlpaaDoor
set_option linter.unusedVariables false
open Go.RowKit

/-! the plain part -/
def looseV (l : List UInt8) (k : Nat) : Int := if (vals l).getD k 0 < (vals l).getD (k + 1) 0 then - (vals l).getD k 0 else (vals l).getD k 0
def looseS (l : List UInt8) : Nat → Int
  | 0 => 0
  | k + 1 => looseS l k + looseV l k
def looseR (l : List UInt8) : Int := if okL l then looseS l l.length else -1
theorem valsD (l : List UInt8) (k : Nat) (h : k < l.length) : (vals l).getD k 0 = lv l[k] := by
  have : k < (vals l).length := by rw [vals_len]; exact h
  simp [List.getD, vals, h]
theorem valsD_out (l : List UInt8) (k : Nat) (h : l.length ≤ k) : (vals l).getD k 0 = 0 := by simp [List.getD, vals, h]
theorem valsD_bd (l : List UInt8) (k : Nat) : 0 ≤ (vals l).getD k 0 ∧ (vals l).getD k 0 ≤ 1000 := by
  rcases Nat.lt_or_ge k l.length with h | h
  · rw [valsD l k h]; exact lv_bd _
  · rw [valsD_out l k h]; omega
theorem looseV_last (l : List UInt8) (k : Nat) (h : k < l.length) (h1 : l.length ≤ k + 1) : looseV l k = lv l[k] := by
  have := valsD_bd l k
  unfold looseV
  rw [valsD_out l (k + 1) h1, if_neg (by omega), valsD l k h]
theorem looseV_lt (l : List UInt8) (k : Nat) (h : k + 1 < l.length) (hc : lv l[k] < lv l[k + 1]) : looseV l k = - lv l[k] := by
  unfold looseV
  rw [valsD l k (by omega), valsD l (k + 1) h, if_pos hc]
theorem looseV_ge (l : List UInt8) (k : Nat) (h : k + 1 < l.length) (hc : ¬ lv l[k] < lv l[k + 1]) : looseV l k = lv l[k] := by
  unfold looseV
  rw [valsD l k (by omega), valsD l (k + 1) h, if_neg hc]
theorem looseV_bd (l : List UInt8) (k : Nat) : -1000 ≤ looseV l k ∧ looseV l k ≤ 1000 := by
  have h1 := valsD_bd l k
  unfold looseV
  split <;> omega
theorem looseS_bd (l : List UInt8) (k : Nat) : -(1000 * (k : Int)) ≤ looseS l k ∧ looseS l k ≤ 1000 * (k : Int) := by
  induction k with
  | zero => simp [looseS]
  | succ k ih =>
    have := looseV_bd l k
    simp only [looseS]
    omega
def parseR (l : List UInt8) : Int := if looseR l < 1 ∨ fmtR (looseR l) ≠ l then 0 else looseR l
theorem parseR_impl (l : List UInt8) : parseR l = if l = [] ∨ fmtR (looseR l) ≠ l then 0 else looseR l := by
  unfold parseR
  by_cases h0 : l = []
  · subst h0
    rw [if_pos (Or.inl rfl), if_pos (Or.inl (by decide))]
  by_cases h1 : looseR l < 1
  · have : fmtR (looseR l) = [] := by
      unfold fmtR
      rw [if_neg]
      intro h
      have := (inB_t.1 h).1
      omega
    rw [if_pos (Or.inl h1), if_pos (Or.inr (by rw [this]; exact fun h => h0 h.symm))]
  · by_cases h2 : fmtR (looseR l) = l
    · rw [if_neg (by simp [h1, h2]), if_neg (by simp [h0, h2])]
    · rw [if_pos (Or.inr h2), if_pos (Or.inr h2)]

set_option maxHeartbeats 1000000 in
theorem sLooseValue_any (s : ByteArray) (w : World) (hz : s.size ≤ 1048576) :
    Calls Tryd.prog 10 #[.string s] w fun e w' => e = .returned (.int .i64 (looseR s.data.toList)) ∧ w = w' := by
  have hlen : s.data.toList.length = s.size := by simp
  cases hok : okL s.data.toList
  · have HR : Hid (looseR s.data.toList = -1) := by show _ = _; simp [looseR, hok]
    go_enter Tryd.func10, Tryd.ntmps10
    go_wp2_with fail
    refine (l27Ok_any s _ hz).mono ?_
    rintro e w1 ⟨rfl, rfl⟩
    rw [hok]
    go_wp2_with fail
    go_ret
    exact ⟨by rw [HR.out] <;> rfl, rfl⟩
  · have HR : Hid (looseR s.data.toList = looseS s.data.toList s.size) := by show _ = _; simp [looseR, hok]
    have HT := Lib.hid (looseS_bd s.data.toList)
    go_enter Tryd.func10, Tryd.ntmps10
    go_wp2_with fail
    refine (l27Ok_any s _ hz).mono ?_
    rintro e w1 ⟨rfl, rfl⟩
    rw [hok]
    clear hok
    go_wp2_with fail
    go_loop [3, 4] (fun n i => ∃ k : Nat, k ≤ s.size ∧ i = .int .i64 k ∧ n = .int .i64 (looseS s.data.toList k)) (fun _ i => s.size - (intOf i).toNat)
    case atStart => exact ⟨0, Nat.zero_le _, rfl, rfl⟩
    case round =>
      obtain ⟨k, hk, rfl, rfl⟩ := hrel
      obtain ⟨t1, t2⟩ := HT.out k
      by_cases hlt : k < s.size
      · have hlt' : k < s.data.toList.length := by omega
        have hg : s.data.toList[k] = s[k] := by simp; rfl
        have HV : Hid (∀ (W : World) (x : Int), x = ((s[k]).toNat : Int) → Calls Tryd.prog 23 #[.int .i64 x] W fun e w' => e = .returned (.int .i64 (lv s[k])) ∧ W = w') := fun W x hx => by rw [hx]; exact l27V_any _ W
        have HS : Hid (looseS s.data.toList (k + 1) = looseS s.data.toList k + looseV s.data.toList k) := rfl
        obtain ⟨b1, b2⟩ := lv_bd s[k]
        by_cases hlt2 : k + 1 < s.size
        · have hlt2' : k + 1 < s.data.toList.length := by omega
          have hg2 : s.data.toList[k + 1] = s[k + 1] := by simp; rfl
          have HV2 : Hid (∀ (W : World) (x : Int), x = ((s[k + 1]).toNat : Int) → Calls Tryd.prog 23 #[.int .i64 x] W fun e w' => e = .returned (.int .i64 (lv s[k + 1])) ∧ W = w') := fun W x hx => by rw [hx]; exact l27V_any _ W
          obtain ⟨c1, c2⟩ := lv_bd s[k + 1]
          have hx1 : (k : Int) + 1 < (s.size : Int) := by omega
          have hx2 : ((k : Int) + 1).toNat = k + 1 := by omega
          by_cases hc : lv s[k] < lv s[k + 1]
          · have HL := Lib.hid (looseV_lt _ k hlt2' (by rw [hg, hg2]; exact hc))
            rw [hg] at HL
            clear hg hg2
            generalize lv s[k] = y at *
            generalize lv s[k + 1] = z at *
            go_wp2_with fail
            refine (HV.out _ _ (wrap64_byte _)).mono ?_
            rintro e w1 ⟨rfl, rfl⟩
            go_wp2_with fail
            refine (HV2.out _ _ (wrap64_byte _)).mono ?_
            rintro e w1 ⟨rfl, rfl⟩
            go_wp2_with fail
            go_round
            case rel => exact ⟨k + 1, by omega, by go_num, by rw [HS.out, HL.out]⟩
            case measure => simp [intOf]; omega
          · have HL := Lib.hid (looseV_ge _ k hlt2' (by rw [hg, hg2]; exact hc))
            rw [hg] at HL
            clear hg hg2
            generalize lv s[k] = y at *
            generalize lv s[k + 1] = z at *
            go_wp2_with fail
            refine (HV.out _ _ (wrap64_byte _)).mono ?_
            rintro e w1 ⟨rfl, rfl⟩
            go_wp2_with fail
            refine (HV2.out _ _ (wrap64_byte _)).mono ?_
            rintro e w1 ⟨rfl, rfl⟩
            go_wp2_with fail
            go_round
            case rel => exact ⟨k + 1, by omega, by go_num, by rw [HS.out, HL.out]⟩
            case measure => simp [intOf]; omega
        · have HL := Lib.hid (looseV_last _ k hlt' (by omega))
          rw [hg] at HL
          clear hg
          generalize lv s[k] = y at *
          go_wp2_with fail
          refine (HV.out _ _ (wrap64_byte _)).mono ?_
          rintro e w1 ⟨rfl, rfl⟩
          go_wp2_with fail
          go_round
          case rel => exact ⟨k + 1, by omega, by go_num, by rw [HS.out, HL.out]⟩
          case measure => simp [intOf]; omega
      · obtain rfl : k = s.size := by omega
        go_wp2
        go_ret
        exact ⟨by rw [HR.out] <;> rfl, rfl⟩
set_option maxHeartbeats 1000000 in
theorem LooseValue_any (s : ByteArray) (w : World) (hz : s.size ≤ 1048576) (ht : Tab w) :
    Calls Tryd.prog 11 #[.string s] w fun e w' => e = .returned (.int .i64 (looseR s.data.toList)) ∧ Below w.heap.size w w' := by
  have hlen : s.data.toList.length = s.size := by simp
  have hsn := slice_nil
  have hnn := nil_nil
  go_enter Tryd.func11, Tryd.ntmps11
  go_wp2_with fail
  refine (letterCounts_any s _ hz ht).mono ?_
  rintro e w1 ⟨hb, ⟨hok, rfl⟩ | ⟨hok, g, cap, rfl, hown⟩⟩
  · have HR : Hid (looseR s.data.toList = -1) := by show _ = _; simp [looseR, hok]
    clear hok
    go_wp2_with fail
    go_ret
    exact ⟨by rw [HR.out] <;> rfl, hb⟩
  · have HR : Hid (looseR s.data.toList = looseS s.data.toList s.size) := by show _ = _; simp [looseR, hok]
    clear hok
    have HT := Lib.hid (looseS_bd s.data.toList)
    obtain ⟨-, -, b, off, ha, hc⟩ := hown.ints
    have Hc : Hid (∀ i (h : i < s.data.toList.length), w1.cell? ⟨g, i, none⟩ = some (.int .i64 (lv s.data.toList[i]))) := fun i hi => by
      have h1 : i < (vals s.data.toList).length := by rw [vals_len]; exact hi
      have h2 := hc i h1
      obtain ⟨h3, -⟩ := ha (by omega)
      simp only [Option.some.injEq, Addr.mk.injEq, and_true] at h3
      obtain ⟨rfl, rfl⟩ := h3
      rw [Nat.zero_add, vals_get _ i h1] at h2
      exact h2
    clear hc ha hown
    go_wp2_with fail
    go_loop [4, 13] (fun n i => ∃ k : Nat, k ≤ s.size ∧ i = .int .i64 k ∧ n = .int .i64 (looseS s.data.toList k)) (fun _ i => s.size - (intOf i).toNat)
    case atStart => exact ⟨0, Nat.zero_le _, rfl, rfl⟩
    case round =>
      obtain ⟨k, hk, rfl, rfl⟩ := hrel
      obtain ⟨t1, t2⟩ := HT.out k
      by_cases hlt : k < s.size
      · have hlt' : k < s.data.toList.length := by omega
        have HS : Hid (looseS s.data.toList (k + 1) = looseS s.data.toList k + looseV s.data.toList k) := rfl
        have hc1 := Hc.out k hlt'
        obtain ⟨b1, b2⟩ := lv_bd s.data.toList[k]
        by_cases hlt2 : k + 1 < s.size
        · have hlt2' : k + 1 < s.data.toList.length := by omega
          have hc2 := Hc.out (k + 1) hlt2'
          obtain ⟨c1, c2⟩ := lv_bd s.data.toList[k + 1]
          by_cases hc : lv s.data.toList[k] < lv s.data.toList[k + 1]
          · have HL := Lib.hid (looseV_lt _ k hlt2' hc)
            generalize lv s.data.toList[k] = y at *
            generalize lv s.data.toList[k + 1] = z at *
            go_wp2_with fail
            go_round
            case rel => exact ⟨k + 1, by omega, by go_num, by rw [HS.out, HL.out]⟩
            case measure => simp [intOf]; omega
          · have HL := Lib.hid (looseV_ge _ k hlt2' hc)
            generalize lv s.data.toList[k] = y at *
            generalize lv s.data.toList[k + 1] = z at *
            go_wp2_with fail
            go_round
            case rel => exact ⟨k + 1, by omega, by go_num, by rw [HS.out, HL.out]⟩
            case measure => simp [intOf]; omega
        · have HL := Lib.hid (looseV_last _ k hlt' (by omega))
          generalize lv s.data.toList[k] = y at *
          go_wp2_with fail
          go_round
          case rel => exact ⟨k + 1, by omega, by go_num, by rw [HS.out, HL.out]⟩
          case measure => simp [intOf]; omega
      · obtain rfl : k = s.size := by omega
        go_wp2
        go_ret
        exact ⟨by rw [HR.out] <;> rfl, hb⟩
theorem law_FnExactLooseValue (s : ByteArray) (w : World) (fs : s.size ≤ maxLen) (ht : Tab w) :
    Calls Tryd.prog 4 #[.string s] w fun e w' => e = .returned (.bool true) ∧ Below w.heap.size w w' := by
  by_cases hz : s.size ≤ 1048576
  · go_enter Tryd.func4, Tryd.ntmps4
    go_wp2_with fail
    refine (sLooseValue_any s _ hz).mono ?_
    rintro e w1 ⟨rfl, rfl⟩
    go_wp2_with fail
    refine (LooseValue_any s _ hz ht).mono ?_
    rintro e w2 ⟨rfl, hb⟩
    go_wp2_with fail
    go_ret
    exact ⟨rfl, hb⟩
  · go_enter Tryd.func4, Tryd.ntmps4
    go_wp2
    go_ret
    exact ⟨rfl, Below.refl _ _⟩
theorem parse_h (l : List UInt8) (s : ByteArray) (hs : s.data.toList = l) : (⟨l.toArray⟩ : ByteArray) = s := by subst hs; rfl
theorem beq_ba (a b : List UInt8) (s : ByteArray) (hs : s.data.toList = b) (h : a ≠ b) : ((⟨a.toArray⟩ : ByteArray).toList == s.toList) = false := by
  rw [beq_eq_false_iff_ne]
  intro e
  simp only [ByteArray.toList_eq] at e
  exact h (e.trans hs)
theorem sParseRoman_any (s : ByteArray) (w : World) (hz : s.size ≤ 1048576) :
    Calls Tryd.prog 14 #[.string s] w fun e w' => e = .returned (.int .i64 (parseR s.data.toList)) ∧ w = w' := by
  have HP : Hid (parseR s.data.toList = if looseR s.data.toList < 1 ∨ fmtR (looseR s.data.toList) ≠ s.data.toList then 0 else looseR s.data.toList) := rfl
  have HB : Hid (-(1000 * (s.data.toList.length : Int)) - 1 ≤ looseR s.data.toList ∧ looseR s.data.toList ≤ 1000 * (s.data.toList.length : Int)) := by
    show _ ∧ _
    have := looseS_bd s.data.toList s.data.toList.length
    unfold looseR
    split <;> omega
  obtain ⟨hb1, hb2⟩ := HB.out
  have hlen : s.data.toList.length = s.size := by simp
  rw [hlen] at hb1 hb2
  have HL := Lib.hid (fun W => sLooseValue_any s W hz)
  have HF := Lib.hid (fun W => sFormatRoman_any (looseR s.data.toList) W)
  clear HB
  generalize looseR s.data.toList = n at *
  by_cases h1 : n < 1
  · have HR := Lib.hid (HP.out.trans (if_pos (Or.inl h1)))
    go_enter Tryd.func14, Tryd.ntmps14
    go_wp2_with fail
    refine (HL.out _).mono ?_
    rintro e w1 ⟨rfl, rfl⟩
    go_wp2_with fail
    go_ret
    exact ⟨by rw [HR.out] <;> rfl, rfl⟩
  by_cases h2 : fmtR n = s.data.toList
  · have HR := Lib.hid (HP.out.trans (if_neg (by simp [h1, h2])))
    rw [h2] at HF
    have he : (⟨s.data.toList.toArray⟩ : ByteArray) = s := rfl
    rw [he] at HF
    go_enter Tryd.func14, Tryd.ntmps14
    go_wp2_with fail
    refine (HL.out _).mono ?_
    rintro e w1 ⟨rfl, rfl⟩
    go_wp2_with fail
    refine (HF.out _).mono ?_
    rintro e w1 ⟨rfl, rfl⟩
    go_wp2_with fail
    go_ret
    exact ⟨by rw [HR.out] <;> rfl, rfl⟩
  · have HR := Lib.hid (HP.out.trans (if_pos (Or.inr h2)))
    have hne := beq_ba _ _ s rfl h2
    clear HP h2
    generalize (⟨(fmtR n).toArray⟩ : ByteArray) = t at *
    go_enter Tryd.func14, Tryd.ntmps14
    go_wp2_with fail
    refine (HL.out _).mono ?_
    rintro e w1 ⟨rfl, rfl⟩
    go_wp2_with fail
    refine (HF.out _).mono ?_
    rintro e w1 ⟨rfl, rfl⟩
    go_wp2_with fail
    go_ret
    exact ⟨by rw [HR.out] <;> rfl, rfl⟩
theorem ParseRoman_any (s : ByteArray) (w : World) (hz : s.size ≤ 1048576) (ht : Tab w) :
    Calls Tryd.prog 15 #[.string s] w fun e w' => e = .returned (.int .i64 (parseR s.data.toList)) ∧ Below w.heap.size w w' := by
  have HP := Lib.hid (parseR_impl s.data.toList)
  have HL := Lib.hid (fun W (hW : Tab W) => LooseValue_any s W hz hW)
  have HF := Lib.hid (fun W => FormatRoman_any (looseR s.data.toList) W)
  generalize looseR s.data.toList = n at *
  have HT := Lib.hid ht
  clear ht
  by_cases hs : s.data.toList = []
  · have HR := Lib.hid (HP.out.trans (if_pos (Or.inl hs)))
    have e0 : s = ⟨#[]⟩ := ByteArray.ext (Array.toList_inj.1 hs)
    subst e0
    go_enter Tryd.func15, Tryd.ntmps15
    go_wp2_with fail
    refine (HL.out _ HT.out).mono ?_
    rintro e w1 ⟨rfl, hb⟩
    go_wp2_with fail
    go_ret
    exact ⟨by rw [HR.out] <;> rfl, hb⟩
  have hie : s.toList.isEmpty = false := by rw [ByteArray.toList_eq]; simpa using hs
  by_cases h2 : fmtR n = s.data.toList
  · have HR := Lib.hid (HP.out.trans (if_neg (by simp [hs, h2])))
    rw [h2] at HF
    have he : (⟨s.data.toList.toArray⟩ : ByteArray) = s := rfl
    rw [he] at HF
    clear HP h2 hs
    go_enter Tryd.func15, Tryd.ntmps15
    go_wp2_with fail
    refine (HL.out _ HT.out).mono ?_
    rintro e w1 ⟨rfl, hb1⟩
    have hs1 := hb1.size
    go_wp2_with fail
    refine (HF.out _).mono ?_
    rintro e w2 ⟨rfl, hb⟩
    go_wp2_with fail
    go_ret
    exact ⟨by rw [HR.out] <;> rfl, hb1.trans (hb.mono hs1)⟩
  · have HR := Lib.hid (HP.out.trans (if_pos (Or.inr h2)))
    have hne := beq_ba _ _ s rfl h2
    clear HP h2 hs
    generalize (⟨(fmtR n).toArray⟩ : ByteArray) = t at *
    go_enter Tryd.func15, Tryd.ntmps15
    go_wp2_with fail
    refine (HL.out _ HT.out).mono ?_
    rintro e w1 ⟨rfl, hb1⟩
    have hs1 := hb1.size
    go_wp2_with fail
    refine (HF.out _).mono ?_
    rintro e w2 ⟨rfl, hb⟩
    go_wp2_with fail
    go_ret
    exact ⟨by rw [HR.out] <;> rfl, hb1.trans (hb.mono hs1)⟩
theorem law_FnExactParseRoman (s : ByteArray) (w : World) (fs : s.size ≤ maxLen) (ht : Tab w) :
    Calls Tryd.prog 6 #[.string s] w fun e w' => e = .returned (.bool true) ∧ Below w.heap.size w w' := by
  by_cases hz : s.size ≤ 1048576
  · go_enter Tryd.func6, Tryd.ntmps6
    go_wp2_with fail
    refine (sParseRoman_any s _ hz).mono ?_
    rintro e w1 ⟨rfl, rfl⟩
    go_wp2_with fail
    refine (ParseRoman_any s _ hz ht).mono ?_
    rintro e w2 ⟨rfl, hb⟩
    go_wp2_with fail
    go_ret
    exact ⟨rfl, hb⟩
  · go_enter Tryd.func6, Tryd.ntmps6
    go_wp2
    go_ret
    exact ⟨rfl, Below.refl _ _⟩

end Go.Proofs.YthehhlamhkhlpaaDoor
