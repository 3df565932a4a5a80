/- The least pandigital number: program and reference. Conditions: those of each contract. -/
import Derived.Test.YtkcjjhdmklhepaaSelvesF
import Derived.Test.YtkcjjhdmklhepaaRev
import Derived.WalkSmall
namespace Go.Proofs.Ytkcjjhdmklhepaa
set_option linter.unusedVariables false
open Go.RowKit

/-- 'append(out, y, z)' onto a slice of the call's own -/
theorem wpList_append_int2 {ops : Array Oper} {rest : List Oper} {o : Oper} {a : Act} {Q : Exit → Act → World → Prop} {wr : World} (hgd : o.guard = none) (s x : Operand)
    (ho : o.op = .call { callee := .builtin .append, args := #[s, x], argTypes := #[24, 24] }) (base : Nat) (v : Value) (xs : List Int) (hs : a.eval s = v) (hown : OwnV wr base v xs)
    (y z : Int) (hx : a.eval x = .slice (some ⟨wr.heap.size, 0, none⟩) 2 2) (hl : xs.length ≤ 4398046511104) (hb : base ≤ wr.heap.size)
    (h : ∀ v' w', OwnV w' base v' (xs ++ [y, z]) → Below base wr w' → wpList Try.prog ops Q rest (a.put o.dst v') w') :
    wpList Try.prog ops Q (o :: rest) a (wr.alloc (.cells #[.int .i64 y, .int .i64 z] 3)) := by
  obtain ⟨i0, hi, hz0, hz1, hz2⟩ := info_parts info_int
  refine wpList_append_own _ hgd s x 24 ho base 3 i0 (.int .i64 0) 1 8 Try.underlying24 hi hz0 hz1 hz2 rfl (by decide) v xs.length _ hs (World.ownsRow.alloc hown _) ⟨wr.heap.size, 0, none⟩ 2 2 [.int .i64 y, .int .i64 z] hx rfl (cell_two_new _ _ _ _) ?c2 ?c3 ?c4 ?c5 ?_
  case c2 => intro u hu; simp at hu; rcases hu with rfl | rfl <;> rfl
  case c3 => unfold maxLen; omega
  case c4 => omega
  case c5 => simp; omega
  intro v' w1 hown' hgrow _
  refine h v' w1 (by unfold OwnV; simpa using hown') ?_
  exact ((Below.refl _ _).alloc hb _).grown hgrow (by simp; omega) (fun k hk => (World.ownsRow.lt hown k hk).1)

def lpL (b : Nat) : List Int := [1, 0] ++ marks 2 (b - 2)
theorem lpL_mem (b : Nat) (h : 2 ≤ b) : ∀ d ∈ lpL b, 0 ≤ d ∧ d < b := by
  intro d hd
  simp only [lpL, marks, List.mem_append, List.mem_cons, List.not_mem_nil, or_false, List.mem_map, List.mem_range] at hd
  rcases hd with (rfl | rfl) | ⟨i, hi, rfl⟩ <;> omega
theorem lpL_len (b : Nat) (h : 2 ≤ b) : (lpL b).length = b := by simp [lpL, marks_length]; omega
def lpR (b : Int) : Int := if inB b 2 16 then valM b (lpL b.toNat).reverse else -1
theorem lp_digOk (b : Nat) (h : inB (b : Int) 2 16 = true) : digOk (lpL b).reverse b = true := by
  obtain ⟨h1, h2⟩ := inB_t.1 h
  have hl := lpL_len b (by omega)
  have e1 : ends (lpL b).reverse = true := by
    unfold ends
    rw [List.getLast?_reverse]
    simp only [lpL, List.cons_append, List.head?_cons, List.length_reverse]
    have : (1 :: 0 :: ([] ++ marks 2 (b - 2))).length ≤ 60 := by simp [marks_length]; omega
    simp only [this, decide_true]
    rfl
  have e2 : allIn (lpL b).reverse 0 ((b : Int) - 1) = true := by
    rw [allIn_t]
    intro x hx
    have := lpL_mem b (by omega) x (List.mem_reverse.1 hx)
    omega
  unfold digOk
  rw [h, e1, e2]
  rfl

theorem ValueOf_len (a : Option Addr) (n cap : Nat) (xs : List Int) (b : Int) (w : World) (hx : Ints w w.heap.size a cap xs) (hn : n = xs.length) :
    Calls Try.prog 50 #[.slice a n cap, .int .i64 b] w (ValR w xs b) := by subst hn; exact ValueOf_any a cap xs b w hx
set_option maxHeartbeats 400000 in
theorem LeastPandigital_any (b : Int) (w : World) :
    Calls Try.prog 17 #[.int .i64 b] w fun e w' => e = .returned (.int .i64 (lpR b)) ∧ Below w.heap.size w w' := by
  cases hb : inB b 2 16
  · go_enter Try.func17, Try.ntmps17
    go_wp2_with (first | (go_at_call 46; refine (BaseOk_any _ _).mono ?_; rintro e w' ⟨rfl, rfl⟩))
    go_ret
    exact ⟨by simp [lpR, hb], Below.refl _ _⟩
  obtain ⟨hb1, hb2⟩ := inB_t.1 hb
  obtain ⟨b, rfl⟩ := Int.eq_ofNat_of_zero_le (show 0 ≤ b by omega)
  have HF : Hid (lpR b = valM b (lpL b).reverse) := by show _ = _; simp [lpR, hb]
  have HD := Lib.hid (lp_digOk b hb)
  go_enter Try.func17, Try.ntmps17
  go_wp2_with (first | (go_at_call 46; refine (BaseOk_any _ _).mono ?_; rintro e w' ⟨rfl, rfl⟩))
  clear hb
  go_loopw [3, 4] (fun v d wr => ∃ j : Nat, d = .int .i64 (2 + j) ∧ (j : Int) + 2 ≤ b ∧ OwnV wr w.heap.size v ([1, 0] ++ marks 2 j) ∧ Below w.heap.size w wr) (fun _ d _ => (b - intOf d).toNat)
  case atStart => exact ⟨0, rfl, by omega, World.ownsRow_lit w #[.int .i64 1, .int .i64 0] 2 (Nat.le_refl _) (by simp [maxLen]) rfl, (Below.refl _ _).alloc (Nat.le_refl _) _⟩
  case round =>
    obtain ⟨j, rfl, hj, hown, hbl⟩ := hrel
    have hsz := hbl.size
    have HBL := Lib.hid hbl; clear hbl
    by_cases hlt : (2 : Int) + j < b
    · have hml : (([1, 0] : List Int) ++ marks 2 j).length ≤ 100 := by simp [marks_length]; omega
      have HM := Lib.hid (marks_snoc 2 j)
      go_wp2_with (at_builtin; refine wpList_append_int rfl _ _ rfl w.heap.size _ _ rfl hown _ rfl (by omega) (by omega) ?_; intro v' w2 hown2 hbl2)
      have HB2 := Lib.hid hbl2; clear hbl2
      go_roundw
      case rel => exact ⟨j + 1, by go_num, by omega, by rw [HM.out, ← List.append_assoc]; exact hown2, HBL.out.trans HB2.out⟩
      case measure => simp [intOf] <;> omega
    · have hjb : j = b - 2 := by omega
      subst hjb
      obtain ⟨a, cap, rfl, ho⟩ := hown.own
      clear hown
      have HO : Hid (OwnI wr w.heap.size a cap (lpL b)) := ho
      clear ho
      have HL : Hid ((([1, 0] : List Int) ++ marks 2 (b - 2)).length = (lpL b).length) := rfl
      rw [HL.out]
      go_wp2_with fail
      refine (Reverse_any _ _ _ _ _ HO.out).mono ?_
      rintro e w2 ⟨rfl, ho2, hb2⟩
      have hsz2 := hb2.size
      have HO2 := Lib.hid ho2; have HB2 := Lib.hid hb2; clear ho2 hb2
      go_wp2_with fail
      refine (ValueOf_len _ _ _ (lpL b).reverse _ _ HO2.out.ints (by simp)).mono ?_
      rintro e w3 ⟨rfl, hb3⟩
      have HB3 := Lib.hid hb3; clear hb3
      cases hv : valOk (lpL b).reverse b
      · have HV : Hid (valM b (lpL b).reverse = -1) := by
          show _ = _
          have h := hv
          simp only [valOk, HD.out, Bool.true_and, Bool.not_eq_false', beq_iff_eq] at h
          exact h
        go_wp2_with fail
        go_ret
        exact ⟨by rw [HF.out, HV.out] <;> rfl, (HBL.out.trans HB2.out).trans (HB3.out.mono (by omega))⟩
      · have HV : Hid (valV (lpL b).reverse b = valM b (lpL b).reverse) := by show _ = _; simp [valV, hv]
        go_wp2_with fail
        go_ret
        exact ⟨by rw [HF.out, ← HV.out] <;> rfl, (HBL.out.trans HB2.out).trans (HB3.out.mono (by omega))⟩

end Go.Proofs.Ytkcjjhdmklhepaa
