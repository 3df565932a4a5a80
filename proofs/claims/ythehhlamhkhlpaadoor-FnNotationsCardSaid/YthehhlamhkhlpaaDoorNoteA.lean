/- Letters of the notations: their values, the sums; LetterSum. Conditions: those of each contract. -/
import Derived.Test.YthehhlamhkhlpaaDoorMem
import Derived.Test.YthehhlamhkhlpaaDoorShelf
import Derived.Lib.BufferMore
namespace Go.Proofs.YthehhlamhkhlpaaDoor
set_option linter.unusedVariables false
open Go.RowKit

/-! the plain part -/
def lvI (c : Int) : Int := if c = 73 then 1 else if c = 86 then 5 else if c = 88 then 10 else if c = 76 then 50 else if c = 67 then 100 else if c = 68 then 500 else if c = 77 then 1000 else 0
def lv (u : UInt8) : Int := lvI (u.toNat : Int)
def vals (l : List UInt8) : List Int := l.map lv
def allL (l : List UInt8) : Bool := l.all (fun c => decide (lv c ≠ 0))
def okL (l : List UInt8) : Bool := decide (l.length ≤ 40) && allL l
def letterSumR (l : List UInt8) : Int := if okL l then sumL (vals l) else -1
theorem lv_bd (u : UInt8) : 0 ≤ lv u ∧ lv u ≤ 1000 := by
  unfold lv lvI
  repeat' split
  all_goals omega
theorem vals_len (l : List UInt8) : (vals l).length = l.length := by simp [vals]
theorem vals_get (l : List UInt8) (k : Nat) (h : k < (vals l).length) : (vals l)[k] = lv (l[k]'(by rw [vals_len] at h; exact h)) := by simp [vals]
theorem vals_bd (l : List UInt8) : ∀ x ∈ vals l, 0 ≤ x ∧ x ≤ 1000 := by
  intro x hx
  obtain ⟨c, -, rfl⟩ := List.mem_map.1 hx
  exact lv_bd c
theorem vals_sum (l : List UInt8) (h : l.length ≤ 1048576) : 0 ≤ sumL (vals l) ∧ sumL (vals l) ≤ 1048576000 := by
  refine ⟨sumL_nonneg _ (fun x hx => (vals_bd l x hx).1), ?_⟩
  have := sumL_le (vals l) 1000 (fun x hx => (vals_bd l x hx).2)
  rw [vals_len] at this
  omega
theorem vals_take_snoc (l : List UInt8) (k : Nat) (h : k < l.length) : vals (l.take (k + 1)) = vals (l.take k) ++ [lv l[k]] := by
  unfold vals
  rw [take_next l k h, List.map_append]
  rfl
theorem allL_take_snoc (l : List UInt8) (k : Nat) (h : k < l.length) : allL (l.take (k + 1)) = (allL (l.take k) && decide (lv l[k] ≠ 0)) := by
  unfold allL
  rw [take_next l k h, List.all_append]
  simp
theorem allL_bad (l : List UInt8) (k : Nat) (h : k < l.length) (hc : lv l[k] = 0) : allL l = false := by
  unfold allL
  rw [List.all_eq_false]
  exact ⟨l[k], List.getElem_mem h, by simp [hc]⟩
/-- the letters' table -/
def vtab : List Int := [1, 5, 10, 50, 100, 500, 1000]
def letters : List UInt8 := [73, 86, 88, 76, 67, 68, 77]
theorem at_all : ∀ n : Fin 256, (Lib.indexByte letters n.val.toUInt8 = -1 ∧ lv n.val.toUInt8 = 0) ∨ (0 ≤ Lib.indexByte letters n.val.toUInt8 ∧ Lib.indexByte letters n.val.toUInt8 ≤ 6 ∧ lv n.val.toUInt8 ≠ 0 ∧ vtab[(Lib.indexByte letters n.val.toUInt8).toNat]? = some (lv n.val.toUInt8)) := by decide +kernel
theorem at_of (u : UInt8) : (Lib.indexByte letters u = -1 ∧ lv u = 0) ∨ ∃ j : Nat, j < 7 ∧ Lib.indexByte letters u = (j : Int) ∧ lv u ≠ 0 ∧ vtab[j]? = some (lv u) := by
  have h := at_all ⟨u.toNat, u.toNat_lt⟩
  have e : (⟨u.toNat, u.toNat_lt⟩ : Fin 256).val.toUInt8 = u := by simp
  rw [e] at h
  rcases h with h | ⟨h1, h2, h3, h4⟩
  · exact Or.inl h
  · exact Or.inr ⟨(Lib.indexByte letters u).toNat, by omega, by omega, h3, h4⟩

theorem wrap64_byte (u : UInt8) : wrap64 (u.toNat : Int) = (u.toNat : Int) := by
  have := u.toNat_lt
  simp only [wrap64]
  omega

/-! the table in memory -/
def Tab (w : World) : Prop := ∀ k x, vtab[k]? = some x → w.cell? ⟨0, k, none⟩ = some (.int .i64 x)
theorem Tab.pos {w : World} (h : Tab w) : 0 < w.heap.size := World.block_lt_of_cell? w (⟨0, 0, none⟩ : Addr) (h 0 1 rfl)
theorem Tab.below {w w' : World} {B : Nat} (h : Tab w) (hb : Below B w w') (hB : 0 < B) : Tab w' := by
  intro k x hx
  rw [hb.cell (p := ⟨0, k, none⟩) hB]
  exact h k x hx
theorem Tab.upd {w w' : World} (h : Tab w) (hb : Below w.heap.size w w') : Tab w' := h.below hb h.pos

theorem l27Value_any (c : Int) (w : World) :
    Calls Tryd.prog 23 #[.int .i64 c] w fun e w' => e = .returned (.int .i64 (lvI c)) ∧ w = w' := by
  by_cases h1 : c = 73
  · subst h1; go_enter Tryd.func23, Tryd.ntmps23; go_wp2; go_ret; exact ⟨rfl, rfl⟩
  by_cases h2 : c = 86
  · subst h2; go_enter Tryd.func23, Tryd.ntmps23; go_wp2; go_ret; exact ⟨rfl, rfl⟩
  by_cases h3 : c = 88
  · subst h3; go_enter Tryd.func23, Tryd.ntmps23; go_wp2; go_ret; exact ⟨rfl, rfl⟩
  by_cases h4 : c = 76
  · subst h4; go_enter Tryd.func23, Tryd.ntmps23; go_wp2; go_ret; exact ⟨rfl, rfl⟩
  by_cases h5 : c = 67
  · subst h5; go_enter Tryd.func23, Tryd.ntmps23; go_wp2; go_ret; exact ⟨rfl, rfl⟩
  by_cases h6 : c = 68
  · subst h6; go_enter Tryd.func23, Tryd.ntmps23; go_wp2; go_ret; exact ⟨rfl, rfl⟩
  by_cases h7 : c = 77
  · subst h7; go_enter Tryd.func23, Tryd.ntmps23; go_wp2; go_ret; exact ⟨rfl, rfl⟩
  have HV : Hid (lvI c = 0) := by show _ = _; simp only [lvI, if_neg h1, if_neg h2, if_neg h3, if_neg h4, if_neg h5, if_neg h6, if_neg h7]
  go_enter Tryd.func23, Tryd.ntmps23
  go_wp2
  go_ret
  exact ⟨by rw [HV.out] <;> rfl, rfl⟩
theorem l27V_any (u : UInt8) (w : World) :
    Calls Tryd.prog 23 #[.int .i64 (u.toNat : Int)] w fun e w' => e = .returned (.int .i64 (lv u)) ∧ w = w' := l27Value_any _ w
theorem l27Ok_any (s : ByteArray) (w : World) (hz : s.size ≤ 1048576) :
    Calls Tryd.prog 22 #[.string s] w fun e w' => e = .returned (.bool (okL s.data.toList)) ∧ w = w' := by
  have hlen : s.data.toList.length = s.size := by simp
  by_cases h40 : s.size ≤ 40
  · have HO : Hid (okL s.data.toList = allL s.data.toList) := by show _ = _; unfold okL; rw [hlen, decide_eq_true h40]; rfl
    go_enter Tryd.func22, Tryd.ntmps22
    go_wp2
    go_loop [3] (fun i => ∃ k : Nat, k ≤ s.size ∧ i = .int .i64 k ∧ allL (s.data.toList.take k) = true) (fun i => s.size - (intOf i).toNat)
    case atStart => exact ⟨0, Nat.zero_le _, rfl, rfl⟩
    case round =>
      obtain ⟨k, hk, rfl, ha⟩ := hrel
      by_cases hlt : k < s.size
      · have hlt' : k < s.data.toList.length := by omega
        have hg : s.data.toList[k] = s[k] := by simp; rfl
        have HS := Lib.hid (allL_take_snoc _ k hlt')
        have HB := Lib.hid (allL_bad _ k hlt')
        rw [hg] at HS HB
        have HA := Lib.hid ha; clear ha
        have HV : Hid (∀ (W : World) (x : Int), x = ((s[k]).toNat : Int) → Calls Tryd.prog 23 #[.int .i64 x] W fun e w' => e = .returned (.int .i64 (lv s[k])) ∧ W = w') := fun W x hx => by rw [hx]; exact l27V_any _ W
        clear hg
        generalize lv s[k] = y at *
        by_cases h0 : y = 0
        · have HB2 := Lib.hid (HB.out h0)
          subst h0
          clear HS HB
          go_wp2_with fail
          refine (HV.out _ _ (wrap64_byte _)).mono ?_
          rintro e w1 ⟨rfl, rfl⟩
          go_wp2_with fail
          go_ret
          exact ⟨by rw [HO.out, HB2.out] <;> rfl, rfl⟩
        · have HB2 : Hid (allL (s.data.toList.take (k + 1)) = true) := by
            show _ = _
            rw [HS.out, HA.out, decide_eq_true h0]; rfl
          clear HS HB
          go_wp2_with fail
          refine (HV.out _ _ (wrap64_byte _)).mono ?_
          rintro e w1 ⟨rfl, rfl⟩
          go_wp2_with fail
          go_round
          case rel => exact ⟨k + 1, by omega, by go_num, HB2.out⟩
          case measure => simp [intOf]; omega
      · obtain rfl : k = s.size := by omega
        have HB2 : Hid (allL s.data.toList = true) := by
          show _ = _
          rw [← ha, List.take_of_length_le (by omega)]
        clear ha
        go_wp2
        go_ret
        exact ⟨by rw [HO.out, HB2.out] <;> rfl, rfl⟩
  · have HO : Hid (okL s.data.toList = false) := by show _ = _; unfold okL; rw [hlen, decide_eq_false h40]; rfl
    go_enter Tryd.func22, Tryd.ntmps22
    go_wp2
    go_ret
    exact ⟨by rw [HO.out] <;> rfl, rfl⟩
theorem sLetterSum_any (s : ByteArray) (w : World) (hz : s.size ≤ 1048576) :
    Calls Tryd.prog 8 #[.string s] w fun e w' => e = .returned (.int .i64 (letterSumR s.data.toList)) ∧ w = w' := by
  have hlen : s.data.toList.length = s.size := by simp
  cases hok : okL s.data.toList
  · have HR : Hid (letterSumR s.data.toList = -1) := by show _ = _; simp [letterSumR, hok]
    go_enter Tryd.func8, Tryd.ntmps8
    go_wp2_with fail
    refine (l27Ok_any s _ hz).mono ?_
    rintro e w1 ⟨rfl, rfl⟩
    rw [hok]
    go_wp2_with fail
    go_ret
    exact ⟨by rw [HR.out] <;> rfl, rfl⟩
  · have HR : Hid (letterSumR s.data.toList = sumL (vals s.data.toList)) := by show _ = _; simp [letterSumR, hok]
    have HT : Hid (∀ k, 0 ≤ sumL (vals (s.data.toList.take k)) ∧ sumL (vals (s.data.toList.take k)) ≤ 1048576000) := fun k => vals_sum _ (by simp; omega)
    go_enter Tryd.func8, Tryd.ntmps8
    go_wp2_with fail
    refine (l27Ok_any s _ hz).mono ?_
    rintro e w1 ⟨rfl, rfl⟩
    rw [hok]
    clear hok
    go_wp2_with fail
    go_loop [3, 4] (fun n i => ∃ k : Nat, k ≤ s.size ∧ i = .int .i64 k ∧ n = .int .i64 (sumL (vals (s.data.toList.take k)))) (fun _ i => s.size - (intOf i).toNat)
    case atStart => exact ⟨0, Nat.zero_le _, rfl, rfl⟩
    case round =>
      obtain ⟨k, hk, rfl, rfl⟩ := hrel
      obtain ⟨t1, t2⟩ := HT.out k
      by_cases hlt : k < s.size
      · have hlt' : k < s.data.toList.length := by omega
        have hg : s.data.toList[k] = s[k] := by simp; rfl
        have HV : Hid (∀ (W : World) (x : Int), x = ((s[k]).toNat : Int) → Calls Tryd.prog 23 #[.int .i64 x] W fun e w' => e = .returned (.int .i64 (lv s[k])) ∧ W = w') := fun W x hx => by rw [hx]; exact l27V_any _ W
        have HS : Hid (sumL (vals (s.data.toList.take (k + 1))) = sumL (vals (s.data.toList.take k)) + lv s[k]) := by
          show _ = _
          rw [vals_take_snoc _ k hlt', sumL_snoc, hg]
        clear hg
        obtain ⟨b1, b2⟩ := lv_bd s[k]
        generalize lv s[k] = y at *
        go_wp2_with fail
        refine (HV.out _ _ (wrap64_byte _)).mono ?_
        rintro e w1 ⟨rfl, rfl⟩
        go_wp2_with fail
        go_round
        case rel => exact ⟨k + 1, by omega, by go_num, by rw [HS.out]⟩
        case measure => simp [intOf]; omega
      · obtain rfl : k = s.size := by omega
        go_wp2
        go_ret
        exact ⟨by rw [HR.out, List.take_of_length_le (by omega)] <;> rfl, rfl⟩
theorem ownV_some {w : World} {base : Nat} {v : Value} {xs : List Int} (h : OwnV w base v xs) (h0 : xs ≠ []) : ∃ g cap, v = .slice (some ⟨g, 0, none⟩) xs.length cap := by
  rcases h.2 with ⟨h1, h2⟩ | ⟨g, cap', cur, hv, hg, hh, hnc, hcm, hcs, ht⟩
  · exact absurd (List.eq_nil_of_length_eq_zero h2) h0
  · exact ⟨g, cap', hv⟩
/-- the letters' values: a slice that is not nil; nil where the text is no row of at most 40 letters -/
theorem letterCounts_any (s : ByteArray) (w : World) (hz : s.size ≤ 1048576) (ht : Tab w) :
    Calls Tryd.prog 24 #[.string s] w fun e w' => Below w.heap.size w w' ∧ ((okL s.data.toList = false ∧ e = .returned (.slice none 0 0)) ∨
      (okL s.data.toList = true ∧ ∃ g cap, e = .returned (.slice (some ⟨g, 0, none⟩) s.size cap) ∧ OwnI w' w.heap.size (some ⟨g, 0, none⟩) cap (vals s.data.toList))) := by
  have hlen : s.data.toList.length = s.size := by simp
  have HT := Lib.hid ht
  have hpos := ht.pos
  clear ht
  go_enter Tryd.func24, Tryd.ntmps24
  go_wp2_with fail
  go_loopw [3, 9] (fun v i wr => ∃ k : Nat, k ≤ s.size ∧ k ≤ 40 ∧ i = .int .i64 k ∧ allL (s.data.toList.take k) = true ∧ OwnV wr w.heap.size v (vals (s.data.toList.take k)) ∧ (∃ g cap, v = .slice (some ⟨g, 0, none⟩) k cap) ∧ Below w.heap.size w wr) (fun _ i _ => s.size - (intOf i).toNat)
  case atStart => exact ⟨0, Nat.zero_le _, by omega, rfl, rfl, OwnV.lit0 _ _ (Nat.le_refl _), ⟨_, _, rfl⟩, (Below.refl _ _).alloc (Nat.le_refl _) _⟩
  case round =>
    obtain ⟨k, hk, hk40, rfl, ha, hown, ⟨g, cap, rfl⟩, hb⟩ := hrel
    have hsz := hb.size
    by_cases hlt : k < s.size
    · have hlt' : k < s.data.toList.length := by omega
      have hg : s.data.toList[k] = s[k] := by simp; rfl
      have HI : Hid (∀ W : World, Calls Tryd.prog 37 #[.string ⟨#[73, 86, 88, 76, 67, 68, 77]⟩, .int .u8 ((s[k]).toNat : Int)] W fun e w' => e = .returned (.int .i64 (Lib.indexByte letters s[k])) ∧ w' = W) := fun W => by
        have := Tryd.strings_IndexByte ⟨#[73, 86, 88, 76, 67, 68, 77]⟩ ((s[k]).toNat : Int) W
        simpa [letters] using this
      have HB := Lib.hid hb; clear hb
      have HA := Lib.hid ha; clear ha
      rcases at_of s[k] with ⟨h1, h2⟩ | ⟨j, hj, h1, h2, h3⟩
      · have HN : Hid (okL s.data.toList = false) := by
          show _ = _
          unfold okL
          rw [allL_bad _ k hlt' (by rw [hg]; exact h2), Bool.and_false]
        rw [h1] at HI
        clear hg h2
        go_wp2_with fail
        refine (HI.out _).mono ?_
        rintro e w1 ⟨rfl, rfl⟩
        go_wp2_with fail
        go_ret
        exact ⟨HB.out, Or.inl ⟨HN.out, rfl⟩⟩
      · rw [h1] at HI
        have HS1 : Hid (allL (s.data.toList.take (k + 1)) = true) := by
          show _ = _
          rw [allL_take_snoc _ k hlt', HA.out, hg, decide_eq_true h2]; rfl
        have HS2 : Hid (vals (s.data.toList.take (k + 1)) = vals (s.data.toList.take k) ++ [lv s[k]]) := by
          show _ = _
          rw [vals_take_snoc _ k hlt', hg]
        have HL : (vals (s.data.toList.take k)).length = k := by rw [vals_len]; simp; omega
        clear hg h2
        by_cases h40 : k < 40
        · have hcell := (HT.out.below HB.out hpos) j _ h3
          generalize lv s[k] = y at *
          generalize hvs : vals (s.data.toList.take k) = vs at *
          have HVS := Lib.hid hvs; clear hvs
          clear h3
          go_wp2_with fail
          refine (HI.out _).mono ?_
          rintro e w1 ⟨rfl, rfl⟩
          go_wp2_with (at_builtin; refine wpList_append_int rfl _ _ rfl w.heap.size _ vs rfl hown y rfl (by omega) (by omega) ?_; intro v' w2 hown2 hbl2)
          have HB2 := Lib.hid hbl2; clear hbl2
          go_roundw
          case rel =>
            refine ⟨k + 1, by omega, by omega, by go_num, HS1.out, by rw [HS2.out]; exact hown2, ?_, HB.out.trans HB2.out⟩
            obtain ⟨g', cap', hv⟩ := ownV_some hown2 (by simp)
            refine ⟨g', cap', ?_⟩
            rw [hv, List.length_append, HL]; rfl
          case measure => simp [intOf]; omega
        · have HN : Hid (okL s.data.toList = false) := by
            show _ = _
            unfold okL
            rw [decide_eq_false (by omega)]; rfl
          go_wp2_with fail
          refine (HI.out _).mono ?_
          rintro e w1 ⟨rfl, rfl⟩
          go_wp2_with fail
          go_ret
          exact ⟨HB.out, Or.inl ⟨HN.out, rfl⟩⟩
    · obtain rfl : k = s.size := by omega
      have et : s.data.toList.take s.size = s.data.toList := by rw [List.take_of_length_le (by omega)]
      rw [et] at ha hown
      have HN : Hid (okL s.data.toList = true) := by
        show _ = _
        unfold okL
        rw [decide_eq_true (by omega), ha]; rfl
      have HO := Lib.hid hown
      have HB := Lib.hid hb
      clear ha hown hb et
      go_wp2_with fail
      go_ret
      refine ⟨HB.out, Or.inr ⟨HN.out, g, cap, rfl, ?_⟩⟩
      have := HO.out
      unfold OwnV at this
      unfold OwnI
      rw [vals_len, hlen] at this ⊢
      exact this
theorem slice_nil (W : World) (a : Addr) (n c : Nat) : (binOp .eql 30 (.slice (some a) n c) (.slice none 0 0)).run Tryd.prog W = .ok (.bool false) W := Lib.run_eql_slice_some_nil W a n c Tryd.underlying30
theorem nil_nil (W : World) (n c : Nat) : (binOp .eql 30 (.slice none n c) (.slice none 0 0)).run Tryd.prog W = .ok (.bool true) W := Lib.run_eql_slice_nil_nil W n c Tryd.underlying30
theorem LetterSum_any (s : ByteArray) (w : World) (hz : s.size ≤ 1048576) (ht : Tab w) :
    Calls Tryd.prog 9 #[.string s] w fun e w' => e = .returned (.int .i64 (letterSumR s.data.toList)) ∧ Below w.heap.size w w' := by
  have hlen : s.data.toList.length = s.size := by simp
  have hsn := slice_nil
  have hnn := nil_nil
  go_enter Tryd.func9, Tryd.ntmps9
  go_wp2_with fail
  refine (letterCounts_any s _ hz ht).mono ?_
  rintro e w1 ⟨hb, ⟨hok, rfl⟩ | ⟨hok, g, cap, rfl, hown⟩⟩
  · have HR : Hid (letterSumR s.data.toList = -1) := by show _ = _; simp [letterSumR, hok]
    clear hok
    go_wp2_with fail
    go_ret
    exact ⟨by rw [HR.out] <;> rfl, hb⟩
  · have HR : Hid (letterSumR s.data.toList = sumL (vals s.data.toList)) := by show _ = _; simp [letterSumR, hok]
    clear hok
    have HS : Hid (∀ W : World, Ints W W.heap.size (some ⟨g, 0, none⟩) cap (vals s.data.toList) → Calls Tryd.prog 25 #[.slice (some ⟨g, 0, none⟩) s.size cap] W fun e w' => e = .returned (.int .i64 (sumL (vals s.data.toList))) ∧ W = w') := fun W hW => by
      have := sumOf_any (some ⟨g, 0, none⟩) cap (vals s.data.toList) W hW (fun x hx => (vals_bd _ x hx).1) (by have := (vals_sum s.data.toList (by omega)).2; omega)
      rw [vals_len, hlen] at this
      exact this
    have HI := Lib.hid hown.ints
    clear hown
    go_wp2_with fail
    refine (HS.out _ HI.out).mono ?_
    rintro e w2 ⟨rfl, rfl⟩
    go_wp2_with fail
    go_ret
    exact ⟨by rw [HR.out] <;> rfl, hb⟩
theorem law_FnExactLetterSum (s : ByteArray) (w : World) (fs : s.size ≤ maxLen) (ht : Tab w) :
    Calls Tryd.prog 3 #[.string s] w fun e w' => e = .returned (.bool true) ∧ Below w.heap.size w w' := by
  by_cases hz : s.size ≤ 1048576
  · go_enter Tryd.func3, Tryd.ntmps3
    go_wp2_with fail
    refine (sLetterSum_any s _ hz).mono ?_
    rintro e w1 ⟨rfl, rfl⟩
    go_wp2_with fail
    refine (LetterSum_any s _ hz ht).mono ?_
    rintro e w2 ⟨rfl, hb⟩
    go_wp2_with fail
    go_ret
    exact ⟨rfl, hb⟩
  · go_enter Tryd.func3, Tryd.ntmps3
    go_wp2
    go_ret
    exact ⟨rfl, Below.refl _ _⟩

end Go.Proofs.YthehhlamhkhlpaaDoor
