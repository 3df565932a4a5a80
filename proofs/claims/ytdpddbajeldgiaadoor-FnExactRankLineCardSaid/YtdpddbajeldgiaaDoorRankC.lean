/- Permutations: the reference's PermutationOk, LehmerOf of both. Conditions: those of each contract. -/
import Derived.Test.YtdpddbajeldgiaaDoorRankB
import Derived.Test.YtdpddbajeldgiaaDoorLawKit
namespace Go.Proofs.YtdpddbajeldgiaaDoor
set_option linter.unusedVariables false
open Go.RowKit

theorem map_const_range {α : Type} (n : Nat) (c : α) : (List.range n).map (fun _ => c) = List.replicate n c := by
  rw [List.eq_replicate_iff]
  refine ⟨by simp, fun b hb => ?_⟩
  obtain ⟨_, _, h⟩ := List.mem_map.1 hb
  exact h.symm
/-! the reference's marks -/
def seenL (n : Nat) (ys : List Int) : List Bool := (List.range n).map (fun (v : Nat) => hasB ys (v : Int))
theorem seenL_len (n : Nat) (ys : List Int) : (seenL n ys).length = n := by simp [seenL]
theorem seenL_nil (n : Nat) : seenL n [] = List.replicate n false := by
  unfold seenL
  rw [show (fun (v : Nat) => hasB [] (v : Int)) = (fun _ => false) from rfl]
  exact map_const_range n false
theorem seenL_get (n : Nat) (ys : List Int) (v : Nat) (h : v < n) : (seenL n ys)[v]? = some (hasB ys (v : Int)) := by
  unfold seenL
  rw [List.getElem?_map, List.getElem?_range h]; rfl
theorem seenL_set (n : Nat) (ys : List Int) (v : Nat) (h : v < n) : (seenL n ys).set v true = seenL n (ys ++ [(v : Int)]) := by
  apply List.ext_getElem?
  intro u
  by_cases hu : u < n
  · rw [seenL_get n _ u hu]
    by_cases e : u = v
    · subst e
      rw [List.getElem?_set_self (by rw [seenL_len]; exact hu)]
      simp [hasB]
    · rw [List.getElem?_set_ne (fun h => e h.symm), seenL_get n ys u hu]
      congr 1
      simp only [hasB, List.any_append, List.any_cons, List.any_nil, Bool.or_false]
      have e2 : ((u : Int) == (v : Int)) = false := by rw [beq_eq_false_iff_ne]; omega
      rw [e2, Bool.or_false]
  · rw [List.getElem?_eq_none (by rw [List.length_set, seenL_len]; omega), List.getElem?_eq_none (by rw [seenL_len]; omega)]
theorem info_bool : (Tryd.prog.info? 4).map (fun i => (i.zero, i.size, i.bytes)) = some (some (.bool false), 1, 1) := by kernel_rfl
def OwnBo (w : World) (base g n : Nat) (bs : List Bool) : Prop := w.ownsRow base 4 1 (.slice (some ⟨g, 0, none⟩) n n) n (bs.map Value.bool)
theorem sPermutationOk_any (a : Option Addr) (cap : Nat) (xs : List Int) (w : World) (hx : Ints w w.heap.size a cap xs) :
    Calls Tryd.prog 51 #[.slice a xs.length cap] w fun e w' => e = .returned (.bool (permB xs)) ∧ Below w.heap.size w w' := by
  have hl := hx.len
  obtain ⟨hlc, -, b, off, ha, hc⟩ := hx
  have Ha := Lib.hid ha
  have Hc := Lib.hid hc
  clear ha hc
  cases hq : inB (xs.length : Int) 1 8
  · have HV : Hid (permB xs = false) := by show _ = _; rw [permB, hq, Bool.false_and]
    go_enter Tryd.func51, Tryd.ntmps51
    go_wp2_with (go_at_call 84; refine (l01In_any _ _ _ _).mono ?_; rintro e w' ⟨rfl, rfl⟩)
    go_ret
    exact ⟨by rw [HV.out] <;> rfl, Below.refl _ _⟩
  obtain ⟨hl1, hl8⟩ := inB_t.1 hq
  have HQ := Lib.hid hq
  obtain ⟨i0, hi, hz0, hz1, hz2⟩ := info_parts info_bool
  go_enter Tryd.func51, Tryd.ntmps51
  go_wp2_with (first | (go_at_call 84; refine (l01In_any _ _ _ _).mono ?_; rintro e w' ⟨rfl, rfl⟩) | (at_make; refine wpList_make_full _ rfl _ _ 60 rfl w.heap.size 4 i0 (.bool false) 1 Tryd.underlying60 hi hz0 hz1 .i64 .i64 _ _ xs.length rfl rfl rfl rfl ?_ ?_ (Nat.le_refl _) ?_))
  · rw [hz2]; omega
  · unfold maxLen; omega
  clear hq
  intro w1 hown hgrow
  have hown0 : OwnBo w1 w.heap.size w.heap.size xs.length (seenL xs.length (xs.take 0)) := by
    rw [List.take_zero, seenL_nil]
    unfold OwnBo
    rw [List.map_replicate, ← toList_madeCells_one]
    exact hown
  have hb0 : Below w.heap.size w w1 := (Below.refl _ _).grown hgrow (Nat.le_refl _) (fun k hk => by cases hk)
  have HO0 := Lib.hid hown0
  have HB0 := Lib.hid hb0
  clear hown hown0 hgrow hb0
  go_wp2
  go_loopw [15] (fun i wr => ∃ k : Nat, k ≤ xs.length ∧ i = .int .i64 k ∧ OwnBo wr w.heap.size w.heap.size xs.length (seenL xs.length (xs.take k)) ∧ Below w.heap.size w wr ∧ ∀ j (hj : j < xs.length), j < k → inB xs[j] 0 ((xs.length : Int) - 1) = true ∧ hasB (xs.take j) xs[j] = false) (fun i _ => xs.length - (intOf i).toNat)
  case atStart => exact ⟨0, Nat.zero_le _, rfl, HO0.out, HB0.out, fun j _ h => by omega⟩
  case round =>
    obtain ⟨k, hk, rfl, ho, hb, hall⟩ := hrel
    have HA := Lib.hid hall
    have HB := Lib.hid hb
    clear hall
    by_cases hlt : k < xs.length
    · obtain ⟨rfl, hbb⟩ := Ha.out (by omega)
      have hcx := (hb.cell (p := ⟨b, off + k, none⟩) hbb).trans (Hc.out k hlt)
      have HG : Hid (∀ j (hj : j < xs.length), j = k → (inB xs[j] 0 ((xs.length : Int) - 1) = true ∧ hasB (xs.take j) xs[j] = false) = (inB xs[k] 0 ((xs.length : Int) - 1) = true ∧ hasB (xs.take k) xs[k] = false)) := fun j hj e => by subst e; rfl
      have HTN : Hid (xs.take (k + 1) = xs.take k ++ [xs[k]]) := take_next xs k hlt
      cases hin : inB xs[k] 0 ((xs.length : Int) - 1)
      · have HV := Lib.hid (permAt_no1 hlt hin)
        clear hb ho
        generalize xs[k] = x at *
        go_wp2_with (go_at_call 84; refine (l01In_any _ _ _ _).mono ?_; rintro e w' ⟨rfl, rfl⟩)
        go_ret
        exact ⟨by rw [HV.out] <;> rfl, HB.out⟩
      obtain ⟨x0, x1⟩ := inB_t.1 hin
      obtain ⟨v, hv⟩ : ∃ v : Nat, xs[k] = (v : Int) := ⟨xs[k].toNat, by omega⟩
      have hvn : v < xs.length := by omega
      have hcs : wr.cell? ⟨w.heap.size, v, none⟩ = some (.bool (hasB (xs.take k) xs[k])) := by
        have h1 := World.ownsRow.cellAt ho v (by omega)
        rw [List.getElem?_map, seenL_get _ _ v hvn, ← hv] at h1
        exact h1
      have hfx := World.ownsRow.frozenAt ho v
      have hst := (World.ownsRow.stored ho v (.bool true)).1
      rw [show Value.bool true = Value.bool (true : Bool) from rfl, ← List.map_set, seenL_set _ _ v hvn, ← hv, ← HTN.out] at hst
      have HST := Lib.hid hst
      clear hst hb ho
      cases hco : hasB (xs.take k) xs[k]
      · have HI := Lib.hid hin
        have HO := Lib.hid hco
        rw [hco] at hcs
        clear hco
        generalize xs[k] = x at *
        subst hv
        go_wp2_with (go_at_call 84; refine (l01In_any _ _ _ _).mono ?_; rintro e w' ⟨rfl, rfl⟩)
        go_roundw
        case rel =>
          refine ⟨k + 1, by omega, by go_num, HST.out, HB.out.setCell (Nat.le_refl _) _, fun j hj h => ?_⟩
          rcases Nat.lt_or_ge j k with h' | h'
          · exact HA.out j hj h'
          · rw [HG.out j hj (by omega)]; exact ⟨HI.out, HO.out⟩
        case measure => simp [intOf]; omega
      · have HV := Lib.hid (permAt_no2 hlt hco)
        rw [hco] at hcs
        clear hco
        generalize xs[k] = x at *
        subst hv
        go_wp2_with (go_at_call 84; refine (l01In_any _ _ _ _).mono ?_; rintro e w' ⟨rfl, rfl⟩)
        go_ret
        exact ⟨by rw [HV.out] <;> rfl, HB.out⟩
    · have HV : Hid (permB xs = true) := by
        show _ = _
        rw [permB_all (fun j hj => HA.out j hj (by omega))]
        exact HQ.out
      clear hb ho
      go_wp2
      go_ret
      exact ⟨by rw [HV.out] <;> rfl, HB.out⟩
/-! Lehmer's digits -/
def lehO (xs : List Int) (i : Nat) : List Int := (List.range xs.length).map (fun p => if xs.length - 1 - p < i then (lc xs (xs.length - 1 - p) : Int) else 0)
theorem lehO_len (xs : List Int) (i : Nat) : (lehO xs i).length = xs.length := by simp [lehO]
theorem lehO_get (xs : List Int) (i p : Nat) (h : p < xs.length) : (lehO xs i)[p]? = some (if xs.length - 1 - p < i then (lc xs (xs.length - 1 - p) : Int) else 0) := by
  unfold lehO
  rw [List.getElem?_map, List.getElem?_range h]; rfl
theorem lehO_zero (xs : List Int) : lehO xs 0 = List.replicate xs.length 0 := by
  unfold lehO
  rw [show (fun (p : Nat) => if xs.length - 1 - p < 0 then (lc xs (xs.length - 1 - p) : Int) else 0) = (fun _ => 0) from by funext p; rw [if_neg (by omega)]]
  exact map_const_range _ _
theorem lehO_all (xs : List Int) : lehO xs xs.length = leh xs := by
  unfold lehO leh
  apply List.map_congr_left
  intro p hp
  rw [if_pos (by have := List.mem_range.1 hp; omega)]
def lehI (xs : List Int) (i : Nat) (c : Int) : List Int := (lehO xs i).set (xs.length - 1 - i) c
theorem lehI_len (xs : List Int) (i : Nat) (c : Int) : (lehI xs i c).length = xs.length := by simp [lehI, lehO_len]
theorem lehI_get (xs : List Int) (i : Nat) (c : Int) (h : i < xs.length) : (lehI xs i c)[xs.length - 1 - i]? = some c := by
  unfold lehI
  rw [List.getElem?_set_self (by rw [lehO_len]; omega)]
theorem lehI_set (xs : List Int) (i : Nat) (c d : Int) : (lehI xs i c).set (xs.length - 1 - i) d = lehI xs i d := by simp [lehI, List.set_set]
theorem lehI_zero (xs : List Int) (i : Nat) (h : i < xs.length) : lehI xs i 0 = lehO xs i := by
  unfold lehI
  apply List.ext_getElem?
  intro p
  by_cases e : p = xs.length - 1 - i
  · subst e
    rw [List.getElem?_set_self (by rw [lehO_len]; omega), lehO_get _ _ _ (by omega), if_neg (by omega)]
  · rw [List.getElem?_set_ne (fun h => e h.symm)]
theorem lehI_full (xs : List Int) (i : Nat) (h : i < xs.length) : lehI xs i (lc xs i) = lehO xs (i + 1) := by
  unfold lehI
  apply List.ext_getElem?
  intro p
  by_cases hp : p < xs.length
  · rw [lehO_get _ _ _ hp]
    by_cases e : p = xs.length - 1 - i
    · subst e
      rw [List.getElem?_set_self (by rw [lehO_len]; omega), if_pos (by omega), show xs.length - 1 - (xs.length - 1 - i) = i by omega]
    · rw [List.getElem?_set_ne (fun h => e h.symm), lehO_get _ _ _ hp]
      by_cases h2 : xs.length - 1 - p < i
      · rw [if_pos h2, if_pos (by omega)]
      · rw [if_neg h2, if_neg (by omega)]
  · rw [List.getElem?_eq_none (by rw [List.length_set, lehO_len]; omega), List.getElem?_eq_none (by rw [lehO_len]; omega)]
def OwnN (w : World) (base g n : Nat) (ys : List Int) : Prop := w.ownsRow base 3 1 (.slice (some ⟨g, 0, none⟩) n n) n (ys.map (Value.int .i64))
set_option maxRecDepth 8000 in
set_option maxHeartbeats 1000000 in
theorem LehmerOf_ok (a : Option Addr) (cap : Nat) (xs : List Int) (w : World) (hx : Ints w w.heap.size a cap xs) (hp : permB xs = true) :
    Calls Tryd.prog 56 #[.slice a xs.length cap] w (RetI w (leh xs)) := by
  obtain ⟨hl1, hl8⟩ := permB_t hp
  have HPO : Hid (Calls Tryd.prog 54 #[.slice a xs.length cap] w fun e w' => e = .returned (.bool true) ∧ w = w') := by rw [← hp]; exact PermutationOk_any a cap xs w hx
  obtain ⟨hlc, -, b, off, ha, hc⟩ := hx
  obtain ⟨rfl, hbb⟩ := ha (by omega)
  have Hc := Lib.hid hc
  clear hc ha hp
  obtain ⟨i0, hi, hz0, hz1, hz2⟩ := info_parts info_int
  go_enter Tryd.func56, Tryd.ntmps56
  go_wp2_with fail
  refine HPO.out.mono ?_
  rintro e w' ⟨rfl, rfl⟩
  go_wp2_with (at_make; refine wpList_make_full _ rfl _ _ 22 rfl w.heap.size 3 i0 (.int .i64 0) 1 Tryd.underlying22 hi hz0 hz1 .i64 .i64 _ _ xs.length rfl rfl rfl rfl ?_ ?_ (Nat.le_refl _) ?_)
  · rw [hz2]; omega
  · unfold maxLen; omega
  intro w1 hown hgrow
  have hown0 : OwnN w1 w.heap.size w.heap.size xs.length (lehO xs 0) := by
    rw [lehO_zero]
    unfold OwnN
    rw [List.map_replicate, ← toList_madeCells_one]
    exact hown
  have hb0 : Below w.heap.size w w1 := (Below.refl _ _).grown hgrow (Nat.le_refl _) (fun k hk => by cases hk)
  have HO0 := Lib.hid hown0
  have HB0 := Lib.hid hb0
  clear hown hown0 hgrow hb0
  go_wp2
  go_loopw [16] (fun i wr => ∃ k : Nat, k ≤ xs.length ∧ i = .int .i64 k ∧ OwnN wr w.heap.size w.heap.size xs.length (lehO xs k) ∧ Below w.heap.size w wr) (fun i _ => xs.length - (intOf i).toNat)
  case atStart => exact ⟨0, Nat.zero_le _, rfl, HO0.out, HB0.out⟩
  case round =>
    obtain ⟨k, hk, rfl, ho, hb⟩ := hrel
    have HB := Lib.hid hb
    by_cases hlt : k < xs.length
    · have hcx := (hb.cell (p := ⟨b, off + k, none⟩) hbb).trans (Hc.out k hlt)
      have HOK : Hid (OwnN wr w.heap.size w.heap.size xs.length (lehI xs k (ltC (xs.getD k 0) ((xs.drop (k + 1)).take 0)))) := by
        rw [show (ltC (xs.getD k 0) ((xs.drop (k + 1)).take 0) : Int) = 0 by simp [ltC], lehI_zero xs k hlt]
        exact ho
      have hkc : k + 1 ≤ cap := by omega
      have HN : Hid (lehI xs k (lc xs k) = lehO xs (k + 1)) := lehI_full xs k hlt
      have HLC : Hid (lc xs k = ltC (xs.getD k 0) (xs.drop (k + 1))) := rfl
      have HGX : Hid (xs.getD k 0 = xs[k]) := getD_at xs k hlt
      have hdl : (xs.drop (k + 1)).length = xs.length - (k + 1) := List.length_drop ..
      have HDL := Lib.hid hdl
      clear hb ho hdl
      rcases Nat.eq_or_lt_of_le hkc with hcap | hcap
      · have hn0 : xs.length - (k + 1) = 0 := by omega
        have HZ : Hid ((ltC (xs.getD k 0) ((xs.drop (k + 1)).take 0) : Int) = lc xs k) := by
          show _ = _
          rw [HLC.out, List.take_zero, List.eq_nil_of_length_eq_zero (HDL.out.trans hn0)]
        have HOZ : Hid (OwnN wr w.heap.size w.heap.size xs.length (lehO xs (k + 1))) := by
          rw [← HN.out, ← HZ.out]
          exact HOK.out
        generalize xs[k] = x at *
        subst hcap
        go_wp2
        go_loopw [26] (fun j wz => j = .int .i64 0 ∧ wz = wr) (fun _ _ => 0)
        case atStart => exact ⟨rfl, rfl⟩
        case round =>
          obtain ⟨rfl, rfl⟩ := hrel
          go_wp2
          go_roundw
          case rel => exact ⟨k + 1, by omega, by go_num, HOZ.out, HB.out⟩
          case measure => simp [intOf]; omega
      · have hcne : ¬ cap = k + 1 := by omega
        obtain ⟨q, hq⟩ : ∃ q : Nat, (xs.length : Int) - 1 - (k : Int) = (q : Int) := ⟨xs.length - 1 - k, by omega⟩
        have hqn : q = xs.length - 1 - k := by omega
        have HQ := Lib.hid hqn
        have hql : q < xs.length := by omega
        clear hqn
        go_wp2
        go_loopw [26] (fun j wz => ∃ m : Nat, m ≤ xs.length - (k + 1) ∧ j = .int .i64 m ∧ OwnN wz w.heap.size w.heap.size xs.length (lehI xs k (ltC (xs.getD k 0) ((xs.drop (k + 1)).take m))) ∧ Below w.heap.size w wz) (fun j _ => xs.length - (intOf j).toNat)
        case atStart => exact ⟨0, Nat.zero_le _, rfl, HOK.out, HB.out⟩
        case round =>
          obtain ⟨m, hm, rfl, ho2, hb2⟩ := hrel
          by_cases hlm : m < xs.length - (k + 1)
          · have hcy : wr.cell? ⟨b, off + (k + 1) + m, none⟩ = some (.int .i64 xs[k + 1 + m]) := by
              rw [Nat.add_assoc off]
              exact (hb2.cell (p := ⟨b, off + (k + 1 + m), none⟩) hbb).trans (Hc.out (k + 1 + m) (by omega))
            have hly : m < (xs.drop (k + 1)).length := by rw [HDL.out]; exact hlm
            have HNX : Hid (ltC (xs.getD k 0) ((xs.drop (k + 1)).take (m + 1)) = ltC (xs.getD k 0) ((xs.drop (k + 1)).take m) + (if xs[k + 1 + m] < xs[k] then 1 else 0)) := by
              show _ = _
              rw [ltC_next _ _ m hly, List.getElem_drop, HGX.out]
            have hcb := ltC_bd (xs.getD k 0) ((xs.drop (k + 1)).take m)
            rw [List.length_take, HDL.out] at hcb
            have hqc : wr.cell? ⟨w.heap.size, q, none⟩ = some (.int .i64 (ltC (xs.getD k 0) ((xs.drop (k + 1)).take m))) := by
              have h1 := World.ownsRow.cellAt ho2 q (by omega)
              rw [List.getElem?_map, HQ.out, lehI_get xs k _ hlt] at h1
              rw [HQ.out]; exact h1
            have hqf := World.ownsRow.frozenAt ho2 q
            have hst := (World.ownsRow.stored ho2 q (.int .i64 ((ltC (xs.getD k 0) ((xs.drop (k + 1)).take m) : Int) + 1))).1
            rw [← List.map_set, HQ.out, lehI_set, ← HQ.out] at hst
            have HST := Lib.hid hst
            have HO2 := Lib.hid ho2
            have HB2 := Lib.hid hb2
            clear hst ho2 hb2 hly
            generalize ltC (xs.getD k 0) ((xs.drop (k + 1)).take m) = c at *
            generalize xs[k + 1 + m] = y at *
            generalize xs[k] = x at *
            have hmm : (m : Int) < ((xs.length - (k + 1) : Nat) : Int) := by omega
            by_cases hyx : y < x
            · have HC2 : Hid (ltC (xs.getD k 0) ((xs.drop (k + 1)).take (m + 1)) = c + 1) := by show _ = _; rw [HNX.out, if_pos hyx]
              go_wp2
              go_roundw
              case rel => exact ⟨m + 1, by omega, by go_num, by rw [HC2.out]; exact HST.out, HB2.out.setCell (Nat.le_refl _) _⟩
              case measure => simp [intOf]; omega
            · have HC2 : Hid (ltC (xs.getD k 0) ((xs.drop (k + 1)).take (m + 1)) = c) := by show _ = _; rw [HNX.out, if_neg hyx]; rfl
              go_wp2
              go_roundw
              case rel => exact ⟨m + 1, by omega, by go_num, by rw [HC2.out]; exact HO2.out, HB2.out⟩
              case measure => simp [intOf]; omega
          · have HFN : Hid (OwnN wr w.heap.size w.heap.size xs.length (lehO xs (k + 1))) := by
              show OwnN _ _ _ _ _
              rw [← HN.out, HLC.out]
              rw [List.take_of_length_le (by rw [HDL.out]; omega)] at ho2
              exact ho2
            have HB2 := Lib.hid hb2
            have hmm : ((xs.length - (k + 1) : Nat) : Int) ≤ (m : Int) := by omega
            clear ho2 hb2
            generalize xs[k] = x at *
            go_wp2
            go_roundw
            case rel => exact ⟨k + 1, by omega, by go_num, HFN.out, HB2.out⟩
            case measure => simp [intOf]; omega
    · have HO := Lib.hid ho
      clear ho hb
      go_wp2
      go_ret
      obtain rfl : k = xs.length := by omega
      have h := HO.out
      rw [lehO_all] at h
      refine ⟨some ⟨w.heap.size, 0, none⟩, xs.length, by rw [leh_len] <;> rfl, ?_, HB.out⟩
      unfold OwnI
      rw [leh_len]
      exact h
set_option maxRecDepth 8000 in
set_option maxHeartbeats 1000000 in
theorem l08Lehmer_ok (a : Option Addr) (cap : Nat) (xs : List Int) (w : World) (hx : Ints w w.heap.size a cap xs) (hp : permB xs = true) :
    Calls Tryd.prog 91 #[.slice a xs.length cap] w (RetI w (leh xs)) := by
  obtain ⟨hl1, hl8⟩ := permB_t hp
  obtain ⟨hlc, -, b, off, ha, hc⟩ := hx
  obtain ⟨rfl, hbb⟩ := ha (by omega)
  have Hc := Lib.hid hc
  clear hc ha hp
  have HLN : Hid (∀ r, r < xs.length → leh xs = leh xs) := fun _ _ => rfl
  go_enter Tryd.func91, Tryd.ntmps91
  go_wp2
  go_loopw [3, 4] (fun v i wr => ∃ r : Nat, r ≤ xs.length ∧ i = .int .i64 ((xs.length : Int) - 1 - r) ∧ OwnV wr w.heap.size v ((leh xs).take r) ∧ Below w.heap.size w wr) (fun _ i _ => (intOf i + 1).toNat)
  case atStart => exact ⟨0, Nat.zero_le _, by simp, OwnV.lit0 _ _ (Nat.le_refl _), (Below.refl _ _).alloc (Nat.le_refl _) _⟩
  case round =>
    obtain ⟨r, hr, rfl, hown, hb⟩ := hrel
    by_cases hlt : r < xs.length
    · obtain ⟨k, hk⟩ : ∃ k : Nat, (xs.length : Int) - 1 - (r : Int) = (k : Int) := ⟨xs.length - 1 - r, by omega⟩
      rw [hk]
      have hkl : k < xs.length := by omega
      have hcx := (hb.cell (p := ⟨b, off + k, none⟩) hbb).trans (Hc.out k hkl)
      have HLE : Hid ((leh xs).take (r + 1) = (leh xs).take r ++ [(lc xs k : Int)]) := by
        show _ = _
        rw [take_next (leh xs) r (by rw [leh_len]; exact hlt)]
        congr 2
        unfold leh
        rw [List.getElem_map, List.getElem_range, show xs.length - 1 - r = k by omega]
      have HLC : Hid (lc xs k = ltC (xs.getD k 0) (xs.drop (k + 1))) := rfl
      have HGX : Hid (xs.getD k 0 = xs[k]) := getD_at xs k hkl
      have hdl : (xs.drop (k + 1)).length = xs.length - (k + 1) := List.length_drop ..
      have HDL := Lib.hid hdl
      have hkc : k + 1 ≤ cap := by omega
      have hlb := lc_bd xs k hkl
      have hll : ((leh xs).take r).length ≤ 8 := by rw [List.length_take, leh_len]; omega
      have HK := Lib.hid hk
      have hsz := hb.size
      have hkr : k + 1 + r = xs.length := by omega
      have HKR := Lib.hid hkr
      have HB := Lib.hid hb
      have HO := Lib.hid hown
      have hk0 : (0 : Int) ≤ (k : Int) := by omega
      clear hk hdl hb hown hkr
      rcases Nat.eq_or_lt_of_le hkc with hcap | hcap
      · have hn0 : xs.length - (k + 1) = 0 := by omega
        have HZ : Hid (lc xs k = 0) := by
          show _ = _
          rw [HLC.out, List.eq_nil_of_length_eq_zero (HDL.out.trans hn0)]
          rfl
        generalize xs[k] = x at *
        subst hcap
        go_wp2
        go_loop [5, 21] (fun c j => c = .int .i64 0 ∧ j = .int .i64 0) (fun _ _ => 0)
        case atStart => exact ⟨rfl, rfl⟩
        case round =>
          obtain ⟨rfl, rfl⟩ := hrel
          rw [HZ.out] at HLE
          go_wp2_with (at_builtin; refine wpList_append_int rfl _ _ rfl w.heap.size _ _ rfl HO.out 0 rfl (by omega) (by omega) ?_; intro v' w2 hown2 hbl2)
          have HB2 := Lib.hid hbl2
          clear hbl2
          go_roundw
          case rel => exact ⟨r + 1, by omega, by have := HKR.out; go_num, by rw [HLE.out]; exact hown2, HB.out.trans HB2.out⟩
          case measure => simp [intOf]
      · have hcne : ¬ cap = k + 1 := by omega
        go_wp2
        go_loop [5, 21] (fun c j => ∃ m : Nat, m ≤ xs.length - (k + 1) ∧ j = .int .i64 m ∧ c = .int .i64 (ltC (xs.getD k 0) ((xs.drop (k + 1)).take m))) (fun _ j => xs.length - (intOf j).toNat)
        case atStart => exact ⟨0, Nat.zero_le _, rfl, by simp [ltC]⟩
        case round =>
          obtain ⟨m, hm, rfl, rfl⟩ := hrel
          by_cases hlm : m < xs.length - (k + 1)
          · have hcy : wr.cell? ⟨b, off + (k + 1) + m, none⟩ = some (.int .i64 xs[k + 1 + m]) := by
              rw [Nat.add_assoc off]
              exact (HB.out.cell (p := ⟨b, off + (k + 1 + m), none⟩) hbb).trans (Hc.out (k + 1 + m) (by omega))
            have hly : m < (xs.drop (k + 1)).length := by rw [HDL.out]; exact hlm
            have HNX : Hid (ltC (xs.getD k 0) ((xs.drop (k + 1)).take (m + 1)) = ltC (xs.getD k 0) ((xs.drop (k + 1)).take m) + (if xs[k + 1 + m] < xs[k] then 1 else 0)) := by
              show _ = _
              rw [ltC_next _ _ m hly, List.getElem_drop, HGX.out]
            have hcb := ltC_bd (xs.getD k 0) ((xs.drop (k + 1)).take m)
            rw [List.length_take, HDL.out] at hcb
            clear hly
            generalize ltC (xs.getD k 0) ((xs.drop (k + 1)).take m) = c at *
            generalize xs[k + 1 + m] = y at *
            generalize xs[k] = x at *
            have hmm : (m : Int) < ((xs.length - (k + 1) : Nat) : Int) := by omega
            by_cases hyx : y < x
            · have HC2 : Hid (ltC (xs.getD k 0) ((xs.drop (k + 1)).take (m + 1)) = c + 1) := by show _ = _; rw [HNX.out, if_pos hyx]
              go_wp2
              go_round
              case rel => exact ⟨m + 1, by omega, by go_num, by rw [HC2.out] <;> first | rfl | go_num⟩
              case measure => simp [intOf]; omega
            · have HC2 : Hid (ltC (xs.getD k 0) ((xs.drop (k + 1)).take (m + 1)) = c) := by show _ = _; rw [HNX.out, if_neg hyx]; rfl
              go_wp2
              go_round
              case rel => exact ⟨m + 1, by omega, by go_num, by rw [HC2.out]⟩
              case measure => simp [intOf]; omega
          · have HFN : Hid (ltC (xs.getD k 0) ((xs.drop (k + 1)).take m) = lc xs k) := by
              show _ = _
              rw [HLC.out, List.take_of_length_le (by rw [HDL.out]; omega)]
            have hmm : ((xs.length - (k + 1) : Nat) : Int) ≤ (m : Int) := by omega
            rw [HFN.out]
            generalize xs[k] = x at *
            generalize lc xs k = c at *
            go_wp2_with (at_builtin; refine wpList_append_int rfl _ _ rfl w.heap.size _ _ rfl HO.out (c : Int) rfl (by omega) (by omega) ?_; intro v' w2 hown2 hbl2)
            have HB2 := Lib.hid hbl2
            clear hbl2
            go_roundw
            case rel => exact ⟨r + 1, by omega, by have := HKR.out; go_num, by rw [HLE.out]; exact hown2, HB.out.trans HB2.out⟩
            case measure => simp [intOf]
    · have HB := Lib.hid hb
      rw [List.take_of_length_le (by rw [leh_len]; omega)] at hown
      have HO := Lib.hid hown
      have hneg : (xs.length : Int) - 1 - (r : Int) < 0 := by omega
      clear hb hown
      go_wp2
      go_ret
      exact HO.out.ret HB.out

end Go.Proofs.YtdpddbajeldgiaaDoor
