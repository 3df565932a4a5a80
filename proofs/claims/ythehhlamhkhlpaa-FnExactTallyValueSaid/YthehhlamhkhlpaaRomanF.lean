/- The model's Join and TallyOf; the law on TallyOf. Conditions: none. -/
import Derived.Test.YthehhlamhkhlpaaRomanE
namespace Go.Proofs.Ythehhlamhkhlpaa
set_option linter.unusedVariables false
open Go.RowKit

theorem ba_app2 (a : List UInt8) (b : ByteArray) : (⟨a.toArray⟩ : ByteArray) ++ b = ⟨(a ++ b.data.toList).toArray⟩ := by
  have := ba_app a b.data.toList
  rw [show (⟨b.data.toList.toArray⟩ : ByteArray) = b from rfl] at this
  exact this
/-- the first k texts joined by a blank -/
def jp (xs : List ByteArray) : Nat → List UInt8
  | 0 => []
  | k + 1 => (if k = 0 then jp xs k else jp xs k ++ [32]) ++ (xs.getD k ⟨#[]⟩).data.toList
theorem jp_cons (x : ByteArray) (r : List ByteArray) (k : Nat) (hk : k ≤ r.length) : jp (x :: r) (k + 1) = x.data.toList ++ Lib.joinTail [32] ((r.take k).map (·.data.toList)) := by
  induction k with
  | zero => simp [jp, Lib.joinTail]
  | succ k ih =>
    have h1 := ih (by omega)
    have hlt : k < r.length := by omega
    have e : r.take (k + 1) = r.take k ++ [r[k]] := by rw [List.take_add_one, List.getElem?_eq_getElem hlt]; rfl
    have e2 : (x :: r).getD (k + 1) ⟨#[]⟩ = r[k] := by simp [List.getD, hlt]
    rw [jp, if_neg (by omega), h1, e, e2]
    generalize r.take k = rk
    simp [Lib.joinTail]
theorem jp_all (xs : List ByteArray) : (⟨(jp xs xs.length).toArray⟩ : ByteArray) = joinB xs ⟨#[32]⟩ := by
  cases xs with
  | nil => rfl
  | cons x r =>
    unfold joinB
    rw [List.map_cons, Lib.join_cons, List.length_cons, jp_cons x r r.length (Nat.le_refl _), List.take_length]
theorem jp_len (xs : List ByteArray) (h : ∀ x ∈ xs, x.data.toList.length ≤ 10) (k : Nat) : (jp xs k).length ≤ 11 * k := by
  induction k with
  | zero => simp [jp]
  | succ k ih =>
    have h2 : (xs.getD k ⟨#[]⟩).data.toList.length ≤ 10 := by
      rcases Nat.lt_or_ge k xs.length with hlt | hge
      · have e : xs.getD k ⟨#[]⟩ = xs[k] := by simp [List.getD, hlt]
        rw [e]; exact h _ (List.getElem_mem hlt)
      · have e : xs.getD k ⟨#[]⟩ = ⟨#[]⟩ := by simp [List.getD, hge]
        rw [e]; simp
    rw [jp]
    split
    · simp at h2 ⊢; omega
    · simp at h2 ⊢; omega
theorem sJoin_any (base : Nat) (v : Value) (xs : List ByteArray) (w : World) (hx : OwnS w base v xs) (hl : xs.length ≤ 100) (h : ∀ x ∈ xs, x.data.toList.length ≤ 10) :
    Calls Try.prog 24 #[v, .string ⟨#[32]⟩] w fun e w' => e = .returned (.string (joinB xs ⟨#[32]⟩)) ∧ w = w' := by
  rw [← jp_all]
  have HJ : Hid (∀ k, (jp xs k).length ≤ 11 * k) := jp_len xs h
  have HX : Hid (∀ k (hk : k < xs.length), xs[k].size ≤ 10) := fun k hk => h _ (List.getElem_mem hk)
  rcases hx.open' with ⟨rfl, rfl⟩ | ⟨b, cap, rfl, h1, h2, h3⟩
  · go_enter Try.func24, Try.ntmps24
    go_wp2
    go_loop [5, 10] (fun s i => i = .int .i64 0 ∧ s = .string ⟨#[]⟩) (fun _ _ => 0)
    case atStart => exact ⟨rfl, rfl⟩
    case round =>
      obtain ⟨rfl, rfl⟩ := hrel
      go_wp2
      go_ret
      exact ⟨rfl, rfl⟩
  have H3 := Lib.hid h3; clear h3 hx h
  go_enter Try.func24, Try.ntmps24
  go_wp2
  go_loop [5, 10] (fun s i => ∃ k : Nat, k ≤ xs.length ∧ i = .int .i64 k ∧ s = .string ⟨(jp xs k).toArray⟩) (fun _ i => xs.length - (intOf i).toNat)
  case atStart => exact ⟨0, Nat.zero_le _, rfl, rfl⟩
  case round =>
    obtain ⟨k, hk, rfl, rfl⟩ := hrel
    by_cases hlt : k < xs.length
    · have hcx := H3.out k xs[k] (List.getElem?_eq_getElem hlt)
      rw [Nat.zero_add] at hcx
      have hsz := HX.out k hlt
      have hjl := HJ.out k
      have HG : Hid (xs.getD k ⟨#[]⟩ = xs[k]) := by show _ = _; simp [List.getD, hlt]
      by_cases hk0 : k = 0
      · subst hk0
        have HS : Hid ((⟨(jp xs 0).toArray⟩ : ByteArray) ++ xs[0] = ⟨(jp xs 1).toArray⟩) := by show _ = _; rw [ba_app2, ← HG.out]; rfl
        generalize jp xs 0 = j0 at *
        go_wp2
        go_round
        case rel => exact ⟨1, by omega, by go_num, by rw [← HS.out]⟩
        case measure => simp [intOf]; omega
      · have HS : Hid ((⟨(jp xs k ++ [32]).toArray⟩ : ByteArray) ++ xs[k] = ⟨(jp xs (k + 1)).toArray⟩) := by show _ = _; rw [ba_app2, jp, if_neg hk0, HG.out]
        have HS2 : Hid ((⟨(jp xs k).toArray⟩ : ByteArray) ++ ⟨#[32]⟩ = ⟨(jp xs k ++ [32]).toArray⟩) := ba_app (jp xs k) [32]
        go_wp2
        go_round
        case rel => exact ⟨k + 1, by omega, by go_num, by rw [← HS.out, ← HS2.out]⟩
        case measure => simp [intOf]; omega
    · go_wp2
      go_ret
      obtain rfl : k = xs.length := by omega
      exact ⟨rfl, rfl⟩
theorem sTallyOf_any (n : Int) (w : World) :
    Calls Try.prog 12 #[.int .i64 n] w fun e w' => e = .returned (.string (tallyR n)) ∧ Below w.heap.size w w' := by
  cases hq : inB n 1 200
  · have HF : Hid (tallyR n = ⟨#[]⟩) := by show _ = _; simp [tallyR, hq]
    go_enter Try.func12, Try.ntmps12
    go_wp2_with (go_at_call 18; refine (l01In_any _ _ _ _).mono ?_; rintro e w' ⟨rfl, rfl⟩)
    go_ret
    exact ⟨by rw [HF.out] <;> rfl, Below.refl _ _⟩
  obtain ⟨hq1, hq2⟩ := inB_t.1 hq
  have HF : Hid (tallyR n = joinB (tallyL n) ⟨#[32]⟩) := by show _ = _; simp [tallyR, hq]
  go_enter Try.func12, Try.ntmps12
  go_wp2_with (go_at_call 18; refine (l01In_any _ _ _ _).mono ?_; rintro e w' ⟨rfl, rfl⟩)
  clear hq
  go_loopw [3, 4] (fun v i wr => ∃ k : Nat, (k : Int) ≤ n / 5 ∧ i = .int .i64 k ∧ OwnS wr w.heap.size v (List.replicate k five) ∧ Below w.heap.size w wr) (fun _ i _ => (n / 5 - intOf i).toNat)
  case atStart => exact ⟨0, by omega, rfl, OwnS.lit0 _ _ (Nat.le_refl _), (Below.refl _ _).alloc (Nat.le_refl _) _⟩
  case round =>
    obtain ⟨k, hk, rfl, hown, hb⟩ := hrel
    have hsz := hb.size
    have HB := Lib.hid hb; clear hb
    have hrl : (List.replicate k five).length = k := by simp
    by_cases hlt : (k : Int) < n / 5
    · have HRS : Hid (List.replicate k five ++ [five] = List.replicate (k + 1) five) := by show _ = _; rw [List.replicate_succ']
      go_wp2_with (at_builtin; refine wpList_append_str rfl _ _ rfl w.heap.size _ _ rfl hown five rfl (by omega) (by omega) ?_; intro v' w2 hown2 hbl2)
      have HB2 := Lib.hid hbl2; clear hbl2
      go_roundw
      case rel => exact ⟨k + 1, by omega, by go_num, by rw [← HRS.out]; exact hown2, HB.out.trans HB2.out⟩
      case measure => simp [intOf] <;> omega
    · have HK : Hid ((n / 5).toNat = k) := by show _ = _; omega
      have hall : ∀ m, ∀ x ∈ List.replicate m five, x.data.toList.length ≤ 10 := by
        intro m x hx
        rw [List.eq_of_mem_replicate hx]
        decide
      by_cases h5 : 0 < n % 5
      · have HT : Hid (tallyL n = List.replicate k five ++ [rest5 n]) := by show _ = _; rw [tallyL, if_pos h5, HK.out]
        have HRP : Hid (∀ W : World, Calls Try.prog 23 #[.string ⟨#[124]⟩, .int .i64 (n % 5)] W fun e w' => e = .returned (.string (rest5 n)) ∧ W = w') := fun W => by
          have := l27Times_any [124] (n % 5).toNat W (by omega) (by simp)
          rw [show (((n % 5).toNat : Nat) : Int) = n % 5 by omega] at this
          exact this
        have hal : ∀ x ∈ List.replicate k five ++ [rest5 n], x.data.toList.length ≤ 10 := by
          intro x hx
          rcases List.mem_append.1 hx with h | h
          · exact hall k x h
          · simp at h
            subst h
            have := repeatL_len [124] (n % 5).toNat
            simp [rest5, this]
            omega
        have HAL := Lib.hid hal
        clear hall hal
        go_wp2_with fail
        refine (HRP.out _).mono ?_
        rintro e w1 ⟨rfl, rfl⟩
        go_wp2_with (at_builtin; refine wpList_append_str rfl _ _ rfl w.heap.size _ _ rfl hown (rest5 n) rfl (by omega) (by omega) ?_; intro v' w2 hown2 hbl2)
        have hs2 := hbl2.size
        have HB2 := Lib.hid (HB.out.trans hbl2); clear hbl2
        go_wp2_with fail
        refine (sJoin_any w.heap.size _ _ _ hown2 (by simp; omega) HAL.out).mono ?_
        rintro e w3 ⟨rfl, rfl⟩
        go_wp2_with fail
        go_ret
        exact ⟨by rw [HF.out, HT.out] <;> rfl, HB2.out⟩
      · have HT : Hid (tallyL n = List.replicate k five) := by show _ = _; rw [tallyL, if_neg h5, HK.out, List.append_nil]
        have HAL := Lib.hid (hall k)
        clear hall
        go_wp2_with fail
        refine (sJoin_any w.heap.size _ _ _ hown (by omega) HAL.out).mono ?_
        rintro e w3 ⟨rfl, rfl⟩
        go_wp2_with fail
        go_ret
        exact ⟨by rw [HF.out, HT.out] <;> rfl, HB.out⟩
theorem law_FnExactTallyOf (n : Int) (w : World) (fn : (Lit.int .i64 n).wf = true) :
    Calls Try.prog 5 #[.int .i64 n] w fun e w' => e = .returned (.bool true) ∧ Below w.heap.size w w' := by
  go_enter Try.func5, Try.ntmps5
  go_wp2_with fail
  refine (sTallyOf_any n _).mono ?_
  rintro e w1 ⟨rfl, hb1⟩
  have hs1 := hb1.size
  go_wp2_with fail
  refine (TallyOf_any n _).mono ?_
  rintro e w2 ⟨rfl, hb⟩
  go_wp2_with fail
  go_ret
  exact ⟨rfl, hb1.trans (hb.mono hs1)⟩

end Go.Proofs.Ythehhlamhkhlpaa
