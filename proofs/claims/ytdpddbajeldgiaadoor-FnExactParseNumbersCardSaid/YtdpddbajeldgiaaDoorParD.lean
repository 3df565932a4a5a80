/- ParseNumbers of the reference. Conditions: a text of at most a million bytes. -/
import Derived.Test.YtdpddbajeldgiaaDoorParC
namespace Go.Proofs.YtdpddbajeldgiaaDoor
set_option linter.unusedVariables false
open Go.RowKit

def RetN (w : World) (r : Option (List Int)) (e : Ending) (w' : World) : Prop :=
  ∃ a cap, e = .returned (.tuple #[.slice a (r.getD []).length cap, .bool r.isSome]) ∧ OwnI w' w.heap.size a cap (r.getD []) ∧ Below w.heap.size w w'
theorem OwnI.nil (w : World) (base : Nat) : OwnI w base none 0 [] := World.ownsRow_nil _ _ _ _
theorem OwnS.low {w : World} {base base' : Nat} {v : Value} {xs : List ByteArray} (h : OwnS w base v xs) (hb : base' ≤ base) : OwnS w base' v xs :=
  ⟨h.1, h.2.imp id (fun ⟨g, cap, cur, hv, hg, r⟩ => ⟨g, cap, cur, hv, Nat.le_trans hb hg, r⟩)⟩
/-- numbers and texts lie in different blocks -/
theorem own_types {w : World} {b1 b2 : Nat} {v vs : Value} {xs : List Int} {ys : List ByteArray} (h1 : OwnV w b1 v xs) (h2 : OwnS w b2 vs ys) : vs.ownBlock = none ∨ vs.ownBlock ≠ v.ownBlock := by
  rcases h2.2 with ⟨e, -⟩ | ⟨g, cap, cur, e, hb, hh, -⟩
  · exact .inl (by rw [e]; rfl)
  · right
    rcases h1.2 with ⟨e1, -⟩ | ⟨g1, cap1, cur1, e1, hb1, hh1, -⟩
    · rw [e, e1]; simp [Value.ownBlock]
    · rw [e, e1]
      intro he
      simp only [Value.ownBlock, Option.some.injEq] at he
      rw [he] at hh
      rw [hh] at hh1
      simp only [Option.some.injEq, Obj.cells.injEq] at hh1
      exact absurd hh1.2.1 (by decide)
/-- 'append(out, y)': but for the row's own block and new ones nothing turns -/
theorem wpList_append_intG {ops : Array Oper} {rest : List Oper} {o : Oper} {a : Act} {Q : Exit → Act → World → Prop} {wr : World} (hgd : o.guard = none) (s x : Operand)
    (ho : o.op = .call { callee := .builtin .append, args := #[s, x], argTypes := #[22, 22] }) (base : Nat) (v : Value) (xs : List Int) (hs : a.eval s = v) (hown : OwnV wr base v xs)
    (y : Int) (hx : a.eval x = .slice (some ⟨wr.heap.size, 0, none⟩) 1 1) (hl : xs.length ≤ 4398046511104) (hb : base ≤ wr.heap.size)
    (h : ∀ v' w', OwnV w' base v' (xs ++ [y]) → Below base wr w' → (∀ k, k < wr.heap.size → v.ownBlock ≠ some k → w'.heap[k]? = wr.heap[k]?) → wpList Tryd.prog ops Q rest (a.put o.dst v') w') :
    wpList Tryd.prog ops Q (o :: rest) a (wr.alloc (.cells #[.int .i64 y] 3)) := by
  obtain ⟨i0, hi, hz0, hz1, hz2⟩ := info_parts info_int
  refine wpList_append_own _ hgd s x 22 ho base 3 i0 (.int .i64 0) 1 8 Tryd.underlying22 hi hz0 hz1 hz2 rfl (by decide) v xs.length _ hs (World.ownsRow.alloc hown _) ⟨wr.heap.size, 0, none⟩ 1 1 [.int .i64 y] hx rfl (cell_one_new _ _ _) ?c2 ?c3 ?c4 ?c5 ?_
  case c2 => intro u hu; simp at hu; subst hu; rfl
  case c3 => unfold maxLen; omega
  case c4 => omega
  case c5 => simp; omega
  intro v' w1 hown' hgrow _
  refine h v' w1 (by unfold OwnV; simpa using hown') ?_ ?_
  · exact ((Below.refl _ _).alloc hb _).grown hgrow (by simp; omega) (fun k hk => (World.ownsRow.lt hown k hk).1)
  · intro k hk hne
    rw [hgrow.block k (by simp; omega) (fun e => hne e.symm)]
    exact Below.heap_alloc wr _ k hk
theorem splitL_ne : ∀ s : List UInt8, splitL s ≠ []
  | [] => by simp [splitL]
  | c :: r => by
    rw [splitL]
    split
    · simp
    · split <;> simp
theorem colN_cons {L : List ByteArray} {k : Nat} (hk : k < L.length) (acc : List Int) : colN (lst (L.drop k)) acc = match pI L[k].data.toList with
    | none => none
    | some n => if acc.length = 60 then none else colN (lst (L.drop (k + 1))) (acc ++ [n]) := by
  rw [List.drop_eq_getElem_cons hk]
  rfl
set_option maxRecDepth 8000 in
set_option maxHeartbeats 1000000 in
theorem sParseNumbers_any (s : ByteArray) (w : World) (hs : s.size ≤ 1048576) :
    Calls Tryd.prog 25 #[.string s] w (RetN w (pN s.data.toList)) := by
  by_cases h1 : s = ⟨#[45]⟩
  · have HP : Hid (pN s.data.toList = some []) := by show _ = _; rw [h1]; rfl
    have HO : Hid (OwnV (w.alloc (.cells #[] 3)) w.heap.size (.slice (some ⟨w.heap.size, 0, none⟩) 0 0) []) := OwnV.lit0 _ _ (Nat.le_refl _)
    have HB : Hid (Below w.heap.size w (w.alloc (.cells #[] 3))) := (Below.refl _ _).alloc (Nat.le_refl _) _
    go_enter Tryd.func25, Tryd.ntmps25
    go_wp2_with fail
    go_ret2
    exact ⟨_, _, by rw [HP.out] <;> rfl, by rw [HP.out]; exact HO.out, HB.out⟩
  · have hne1 := str_ne h1
    have hne2 : (s.toList == [45]) = false := by
      have : (⟨#[45]⟩ : ByteArray).toList = [45] := by rw [ByteArray.toList_eq]
      rw [← this]; exact hne1
    have HP : Hid (pN s.data.toList = colN (splitL s.data.toList) []) := by
      show _ = _
      unfold pN
      rw [if_neg (fun e => h1 (by
        have : s.data = #[45] := by rw [← Array.toArray_toList (xs := s.data), e]
        exact ByteArray.ext this))]
    go_enter Tryd.func25, Tryd.ntmps25
    go_wp2_with fail
    obtain ⟨W0, hW0⟩ : ∃ W0, W0 = w.alloc (.cells #[] 3) := ⟨_, rfl⟩
    have HOV : Hid (OwnV W0 w.heap.size (.slice (some ⟨w.heap.size, 0, none⟩) 0 0) []) := by rw [hW0]; exact OwnV.lit0 _ _ (Nat.le_refl _)
    have HB0 : Hid (Below w.heap.size w W0) := by rw [hW0]; exact (Below.refl _ _).alloc (Nat.le_refl _) _
    rw [← hW0]
    clear hW0
    refine (sSplitAny_any s _ hs).mono ?_
    rintro e w1 ⟨v, L, rfl, hL, hown, hb⟩
    have hw0 := HB0.out.size
    have HL := Lib.hid hL
    have hLl : L.length ≤ 1048577 := by
      have h2 := splitL_len s.data.toList
      have h3 : (lst L).length = L.length := by simp [lst]
      have h4 : s.data.toList.length = s.size := by simp
      rw [← hL, h3] at h2
      omega
    have hL0 : 0 < L.length := by
      rcases Nat.eq_zero_or_pos L.length with h2 | h2
      · exfalso
        apply splitL_ne s.data.toList
        rw [← hL, List.eq_nil_of_length_eq_zero h2]; rfl
      · exact h2
    have HX : Hid (∀ (k : Nat) (h : k < L.length), L[k].size ≤ 1048576) := fun k h => by
      have h2 : L[k].data.toList ∈ splitL s.data.toList := by rw [← HL.out]; exact List.mem_map.2 ⟨L[k], List.getElem_mem h, rfl⟩
      have h3 := splitL_mem _ _ h2
      have h4 : s.data.toList.length = s.size := by simp
      have h5 : L[k].data.toList.length = L[k].size := by simp
      omega
    have HS1 := Lib.hid (hown.low (base' := w.heap.size) hw0)
    have HV1 := Lib.hid (HOV.out.kept hb)
    have HB1 := Lib.hid (HB0.out.trans (hb.mono hw0))
    obtain ⟨b, cap, rfl⟩ : ∃ b cap, v = .slice (some ⟨b, 0, none⟩) L.length cap := by
      rcases hown.open' with ⟨h2, -⟩ | ⟨b, cap, h2, -⟩
      · rw [h2] at hL0; simp at hL0
      · exact ⟨b, cap, h2⟩
    have HP2 : Hid (pN s.data.toList = colN (lst (L.drop 0)) []) := by show _ = _; rw [HP.out, ← HL.out]; rfl
    clear hL hown hb HOV HB0 HL HP hne1 hne2 h1
    go_wp2_with fail
    go_loopw [4, 16] (fun v i wr => ∃ (k : Nat) (acc : List Int), i = .int .i64 k ∧ k ≤ L.length ∧ acc.length ≤ 60 ∧ OwnV wr w.heap.size v acc ∧ OwnS wr w.heap.size (.slice (some ⟨b, 0, none⟩) L.length cap) L ∧ Below w.heap.size w wr ∧ Hid (pN s.data.toList = colN (lst (L.drop k)) acc)) (fun _ i _ => L.length - (intOf i).toNat)
    case atStart => exact ⟨0, [], rfl, Nat.zero_le _, Nat.zero_le _, HV1.out, HS1.out, HB1.out, HP2⟩
    case round =>
      obtain ⟨k, acc, rfl, hk, ha, hov, hos, hb, hpn⟩ := hrel
      clear HP2 HV1 HS1 HB1
      have HO := Lib.hid hov
      have HS := Lib.hid hos
      have HB := Lib.hid hb
      obtain ⟨aa, ac, rfl, -⟩ := hov.own
      by_cases hlt : k < L.length
      · have hcx : wr.cell? ⟨b, k, none⟩ = some (.string L[k]) := by
          have h2 := World.ownsRow.cellAt hos k (by omega)
          rw [h2, List.getElem?_map, List.getElem?_eq_getElem hlt]; rfl
        have HC := Lib.hid (colN_cons hlt acc)
        have hxs := HX.out k hlt
        clear hov hos hb
        generalize L[k] = x at *
        go_wp2_with fail
        refine (sParseInt_any x _ hxs).mono ?_
        rintro e w2 ⟨rfl, hb2⟩
        have HB2 := Lib.hid (HB.out.trans (hb2.mono HB.out.size))
        have HO2 := Lib.hid (HO.out.kept hb2)
        have HS2 := Lib.hid (HS.out.kept hb2)
        clear hb2 hcx
        cases hp : pI x.data.toList with
        | none =>
          have HN : Hid (pN s.data.toList = none) := by show _ = _; rw [hpn.out, HC.out, hp]
          rw [Option.getD_none, Option.isSome_none]
          clear hp
          go_wp2_with fail
          go_ret2
          exact ⟨none, 0, by rw [HN.out] <;> rfl, by rw [HN.out]; exact OwnI.nil _ _, HB2.out⟩
        | some n =>
          rw [Option.getD_some, Option.isSome_some]
          have HC2 : Hid (pN s.data.toList = if acc.length = 60 then none else colN (lst (L.drop (k + 1))) (acc ++ [n])) := by show _ = _; rw [hpn.out, HC.out, hp]
          clear hp HC
          by_cases h60 : acc.length = 60
          · have HN : Hid (pN s.data.toList = none) := by show _ = _; rw [HC2.out, if_pos h60]
            have h60b : ((acc.length : Int) == 60) = true := by simp [h60]
            have H60 := Lib.hid h60
            clear h60
            go_wp2_with fail
            go_ret2
            exact ⟨none, 0, by rw [HN.out] <;> rfl, by rw [HN.out]; exact OwnI.nil _ _, HB2.out⟩
          · have HN : Hid (pN s.data.toList = colN (lst (L.drop (k + 1))) (acc ++ [n])) := by show _ = _; rw [HC2.out, if_neg h60]
            have h60b : ((acc.length : Int) == 60) = false := by rw [beq_eq_false_iff_ne]; omega
            have hown2 := HO2.out
            have hw2 := HB2.out.size
            go_wp2_with (at_builtin; refine wpList_append_intG rfl _ _ rfl w.heap.size _ _ rfl hown2 n rfl (by omega) (by omega) ?_; intro v' w3 hown3 hbl3 hk3)
            have HO3 := Lib.hid hown3
            have HB3 := Lib.hid (HB2.out.trans hbl3)
            have HS3 : Hid (OwnS w3 w.heap.size (.slice (some ⟨b, 0, none⟩) L.length cap) L) := World.ownsRow.kept HS2.out ⟨hbl3.os, hbl3.tape, hbl3.output, hbl3.size, fun j hj hne => hk3 j hj hne.symm⟩ (own_types HO2.out HS2.out)
            clear hown2 hown3 hbl3 hk3
            go_roundw
            case rel => exact ⟨k + 1, acc ++ [n], by go_num, by omega, by simp; omega, HO3.out, HS3.out, HB3.out, HN⟩
            case measure => simp [intOf]; omega
      · have HN : Hid (pN s.data.toList = some acc) := by
          show _ = _
          rw [hpn.out, List.drop_eq_nil_of_le (by omega)]; rfl
        clear hov hos hb
        go_wp2_with fail
        go_ret2
        exact ⟨_, _, by rw [HN.out] <;> rfl, by rw [HN.out]; exact HO.out, HB.out⟩

end Go.Proofs.YtdpddbajeldgiaaDoor
