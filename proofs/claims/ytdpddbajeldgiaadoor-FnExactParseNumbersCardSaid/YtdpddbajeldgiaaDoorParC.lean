/- SplitAny at one comma, and ParseNumbers of the reference. Conditions: a text of at most a million bytes. -/
import Derived.Test.YtdpddbajeldgiaaDoorParB
namespace Go.Proofs.YtdpddbajeldgiaaDoor
set_option linter.unusedVariables false
open Go.RowKit

theorem ext_list (s : ByteArray) (f k : Nat) : (s.extract f k).data.toList = (s.data.toList.drop f).take (k - f) := by
  rw [ByteArray.data_extract, Array.toList_extract, List.extract_eq_take_drop]
def noC (s : ByteArray) (f k : Nat) : Prop := ∀ (j : Nat) (h : j < s.size), f ≤ j → j < k → s[j].toNat ≠ 44
theorem noC_mem {s : ByteArray} {f k : Nat} (hk : k ≤ s.size) (h : noC s f k) : ∀ c ∈ (s.data.toList.drop f).take (k - f), c ≠ 44 := by
  intro c hc
  obtain ⟨j, hj, rfl⟩ := List.mem_iff_getElem.1 hc
  rw [List.length_take, List.length_drop] at hj
  have hl : s.data.toList.length = s.size := by simp
  have h1 := h (f + j) (by omega) (by omega) (by omega)
  intro e
  apply h1
  have e2 : ((s.data.toList.drop f).take (k - f))[j]'(by rw [List.length_take, List.length_drop]; omega) = s[f + j]'(by omega) := by
    rw [List.getElem_take, List.getElem_drop]; rfl
  rw [← e2, e]; rfl
theorem split_at {s : ByteArray} {f k : Nat} (hfk : f ≤ k) (hk : k < s.size) (h : noC s f k) (h44 : s[k].toNat = 44) :
    splitL (s.data.toList.drop f) = (s.extract f k).data.toList :: splitL (s.data.toList.drop (k + 1)) := by
  have hl : s.data.toList.length = s.size := by simp
  have e0 : s.data.toList.drop f = (s.data.toList.drop f).take (k - f) ++ (s.data.toList.drop f).drop (k - f) := (List.take_append_drop _ _).symm
  have e1 : (s.data.toList.drop f).drop (k - f) = 44 :: s.data.toList.drop (k + 1) := by
    rw [List.drop_drop, show f + (k - f) = k by omega, List.drop_eq_getElem_cons (by omega)]
    congr 1
    apply UInt8.toNat_inj.1
    exact h44
  rw [e1] at e0
  rw [e0, splitL_at _ _ (noC_mem (by omega) h), ext_list]
theorem split_end {s : ByteArray} {f : Nat} (hf : f ≤ s.size) (h : noC s f s.size) : splitL (s.data.toList.drop f) = [(s.extract f s.size).data.toList] := by
  have hl : s.data.toList.length = s.size := by simp
  have e : (s.data.toList.drop f).take (s.size - f) = s.data.toList.drop f := List.take_of_length_le (by rw [List.length_drop]; omega)
  have h1 := noC_mem (Nat.le_refl _) h
  rw [e] at h1
  rw [splitL_none _ h1, ext_list, e]
def lst (P : List ByteArray) : List (List UInt8) := P.map (·.data.toList)
theorem lst_app (P : List ByteArray) (x : ByteArray) : lst (P ++ [x]) = lst P ++ [x.data.toList] := by simp [lst]
set_option maxRecDepth 8000 in
set_option maxHeartbeats 1000000 in
theorem sSplitAny_any (s : ByteArray) (w : World) (hs : s.size ≤ 1048576) :
    Calls Tryd.prog 59 #[.string s, .string ⟨#[44]⟩] w fun e w' => ∃ v L, e = .returned v ∧ lst L = splitL s.data.toList ∧ OwnS w' w.heap.size v L ∧ Below w.heap.size w w' := by
  go_enter Tryd.func59, Tryd.ntmps59
  go_wp2_with fail
  go_loopw [5, 6, 7] (fun v fv i wr => ∃ (k f : Nat) (P : List ByteArray), i = .int .i64 k ∧ fv = .int .i64 f ∧ f ≤ k ∧ k ≤ s.size ∧ P.length ≤ k ∧ OwnS wr w.heap.size v P ∧ Below w.heap.size w wr ∧ Hid (noC s f k) ∧ Hid (lst P ++ splitL (s.data.toList.drop f) = splitL s.data.toList)) (fun _ _ i _ => s.size - (intOf i).toNat)
  case atStart => exact ⟨0, 0, [], rfl, rfl, Nat.le_refl _, Nat.zero_le _, Nat.le_refl _, OwnS.lit0 _ _ (Nat.le_refl _), (Below.refl _ _).alloc (Nat.le_refl _) _, fun j h h1 h2 => by omega, rfl⟩
  case round =>
    obtain ⟨k, f, P, rfl, rfl, hfk, hk, hP, hown, hb, hno, hsp⟩ := hrel
    have HO := Lib.hid hown
    have HB := Lib.hid hb
    have hsz := hb.size
    clear hown hb
    by_cases hlt : k < s.size
    · obtain ⟨W0, rfl⟩ : ∃ W0, W0 = wr := ⟨_, rfl⟩
      obtain ⟨v0, rfl⟩ : ∃ v0, v0 = u5 := ⟨_, rfl⟩
      go_wp2_with fail
      go_loopw [5, 6, 8] (fun ov fv kk wx => ov = v0 ∧ fv = .int .i64 f ∧ (kk = .int .i64 0 ∨ (kk = .int .i64 1 ∧ s[k].toNat ≠ 44)) ∧ Hid (OwnS wx w.heap.size v0 P) ∧ Hid (Below w.heap.size w wx)) (fun _ _ kk _ => 1 - (intOf kk).toNat)
      case atStart => exact ⟨rfl, rfl, .inl rfl, HO, HB⟩
      case round =>
        obtain ⟨rfl, rfl, hkk, HOi, HBi⟩ := hrel
        have HOd : Hid (OwnS wr.drew w.heap.size u5 P) := HOi.out.kept (Below.refl _ _).drew
        have HBd : Hid (Below w.heap.size w wr.drew) := HBi.out.drew
        rcases hkk with rfl | ⟨rfl, h44⟩
        · by_cases h44 : s[k].toNat = 44
          · have HS := Lib.hid (split_at hfk hlt hno.out h44)
            go_wp2_with fail
            go_region
            all_goals
              generalize World.drew wr = W1 at *
              have hown2 := HOd.out
              have hsz1 := HBd.out.size
              go_wp2_with (at_builtin; refine wpList_append_str rfl _ _ rfl w.heap.size _ _ rfl hown2 (s.extract f k) rfl (by omega) (by omega) ?_; intro v' w3 hown3 hbl3)
              have HO3 := Lib.hid hown3
              have HB3 := Lib.hid (HBd.out.trans hbl3)
              clear hown2 hown3 hbl3
              go_roundw
              case rel => exact ⟨k + 1, k + 1, P ++ [s.extract f k], by go_num, by go_num, Nat.le_refl _, by omega, by simp; omega, HO3.out, HB3.out, fun j h h1 h2 => by omega, by show _ = _; rw [lst_app, List.append_assoc, ← hsp.out, HS.out]; rfl⟩
              case measure => simp [intOf]; omega
          · have hc44 : ((⟨#[44]⟩ : ByteArray)[0]'(by decide)).toNat = 44 := rfl
            go_wp2_with fail
            go_region
            all_goals
              generalize World.drew wr = W1 at *
              go_wp2_with fail
              go_roundw
              case rel => exact ⟨rfl, rfl, .inr ⟨by go_num, h44⟩, HOd, HBd⟩
              case measure => simp [intOf]
        · go_wp2_with fail
          go_roundw
          case rel => exact ⟨k + 1, f, P, by go_num, rfl, by omega, by omega, by omega, HOi.out, HBi.out, fun j h h1 h2 => by
            rcases Nat.lt_or_ge j k with h3 | h3
            · exact hno.out j h h1 h3
            · obtain rfl : j = k := by omega
              exact h44, hsp⟩
          case measure => simp [intOf]; omega
    · obtain rfl : k = s.size := by omega
      have HE := Lib.hid (split_end hfk hno.out)
      have hown := HO.out
      go_wp2_with (at_builtin; refine wpList_append_str rfl _ _ rfl w.heap.size _ _ rfl hown (s.extract f s.size) rfl (by omega) (by omega) ?_; intro v' w3 hown3 hbl3)
      go_ret
      exact ⟨_, _, rfl, by rw [lst_app, ← hsp.out, HE.out], hown3, HB.out.trans hbl3⟩

end Go.Proofs.YtdpddbajeldgiaaDoor
