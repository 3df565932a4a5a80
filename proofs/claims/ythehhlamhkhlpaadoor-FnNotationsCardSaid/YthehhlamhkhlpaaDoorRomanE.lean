/- Join and TallyOf. Conditions: none. -/
import Derived.Test.YthehhlamhkhlpaaDoorRomanS
import Derived.Lib.Join
namespace Go.Proofs.YthehhlamhkhlpaaDoor
set_option linter.unusedVariables false
open Go.RowKit

def joinB (xs : List ByteArray) (sep : ByteArray) : ByteArray := ⟨(Lib.join (xs.map (·.data.toList)) sep.data.toList).toArray⟩
theorem OwnS.open' {w : World} {base : Nat} {v : Value} {xs : List ByteArray} (h : OwnS w base v xs) :
    (xs = [] ∧ v = .slice none 0 0) ∨ ∃ b cap, v = .slice (some ⟨b, 0, none⟩) xs.length cap ∧ xs.length ≤ cap ∧ b < w.heap.size ∧ ∀ (j : Nat) x, xs[j]? = some x → w.cell? ⟨b, 0 + j, none⟩ = some (.string x) := by
  have h0 := h
  rcases h.2 with ⟨h1, h2⟩ | ⟨g, cap', cur, hv, hg, hh, hnc, hcm, hcs, ht⟩
  · exact Or.inl ⟨List.eq_nil_of_length_eq_zero h2, by rw [h1]⟩
  · refine Or.inr ⟨g, cap', hv, hnc, lt_of_block hh, fun j x hx => ?_⟩
    have hj : j < xs.length := by
      rcases Nat.lt_or_ge j xs.length with h | h
      · exact h
      · rw [List.getElem?_eq_none h] at hx; cases hx
    subst hv
    rw [Nat.zero_add, World.ownsRow.cellAt h0 j (by omega), List.getElem?_map, hx]
    rfl
theorem joinTail_le (sep : List UInt8) (hs : sep.length ≤ 1) (r : List (List UInt8)) (h : ∀ x ∈ r, x.length ≤ 10) : (Lib.joinTail sep r).length ≤ 11 * r.length := by
  induction r with
  | nil => simp [Lib.joinTail]
  | cons x r ih =>
    have h1 := ih (fun y hy => h y (List.mem_cons_of_mem _ hy))
    have h2 := h x List.mem_cons_self
    simp [Lib.joinTail] at h1 ⊢
    omega
theorem join_le (xs : List (List UInt8)) (sep : List UInt8) (hs : sep.length ≤ 1) (h : ∀ x ∈ xs, x.length ≤ 10) : (Lib.join xs sep).length ≤ 11 * xs.length := by
  cases xs with
  | nil => simp [Lib.join_nil]
  | cons x r =>
    rw [Lib.join_cons]
    have h1 := joinTail_le sep hs r (fun y hy => h y (List.mem_cons_of_mem _ hy))
    have h2 := h x List.mem_cons_self
    simp
    omega
theorem Join_any (base : Nat) (v : Value) (xs : List ByteArray) (sep : ByteArray) (w : World) (hx : OwnS w base v xs) (hs : sep.data.toList.length ≤ 1) (hl : xs.length ≤ 100) (h : ∀ x ∈ xs, x.data.toList.length ≤ 10) :
    Calls Tryd.prog 35 #[v, .string sep] w fun e w' => e = .returned (.string (joinB xs sep)) ∧ Below w.heap.size w w' := by
  have hj := join_le (xs.map (·.data.toList)) sep.data.toList hs (by intro y hy; obtain ⟨x, hx, rfl⟩ := List.mem_map.1 hy; exact h x hx)
  rw [List.length_map] at hj
  have HC : Hid (∀ W, W = w → Calls Tryd.prog 46 #[v, .string sep] W fun e w' => e = .returned (.string (joinB xs sep)) ∧ Below W.heap.size W w') := by
    rintro W rfl
    rcases hx.open' with ⟨rfl, rfl⟩ | ⟨b, cap, rfl, h1, h2, h3⟩
    · exact (Tryd.strings_Join_none none 0 sep W).mono fun e w' ⟨h1, h2⟩ => ⟨h1, by rw [h2]; exact Below.refl _ _⟩
    · exact Tryd.strings_Join b 0 cap xs sep W h3 h2 (by omega) h1 (by omega)
  clear hj hx
  go_enter Tryd.func35, Tryd.ntmps35
  go_wp2_with fail
  refine (HC.out _ rfl).mono ?_
  rintro e w1 ⟨rfl, hb⟩
  go_wp2_with fail
  go_ret
  exact ⟨rfl, hb⟩
def five : ByteArray := ⟨#[124, 124, 124, 124, 47]⟩
def rest5 (n : Int) : ByteArray := ⟨(Lib.repeatL [124] (n % 5).toNat).toArray⟩
def tallyL (n : Int) : List ByteArray := List.replicate (n / 5).toNat five ++ (if 0 < n % 5 then [rest5 n] else [])
def tallyR (n : Int) : ByteArray := if inB n 1 200 then joinB (tallyL n) ⟨#[32]⟩ else ⟨#[]⟩
theorem TallyOf_any (n : Int) (w : World) :
    Calls Tryd.prog 20 #[.int .i64 n] w fun e w' => e = .returned (.string (tallyR n)) ∧ Below w.heap.size w w' := by
  cases hq : inB n 1 200
  · have HF : Hid (tallyR n = ⟨#[]⟩) := by show _ = _; simp [tallyR, hq]
    go_enter Tryd.func20, Tryd.ntmps20
    go_wp2_with (go_at_call 28; refine (within_any _ _ _ _).mono ?_; rintro e w' ⟨rfl, rfl⟩)
    go_ret
    exact ⟨by rw [HF.out] <;> rfl, Below.refl _ _⟩
  obtain ⟨hq1, hq2⟩ := inB_t.1 hq
  have HF : Hid (tallyR n = joinB (tallyL n) ⟨#[32]⟩) := by show _ = _; simp [tallyR, hq]
  go_enter Tryd.func20, Tryd.ntmps20
  go_wp2_with (go_at_call 28; refine (within_any _ _ _ _).mono ?_; rintro e w' ⟨rfl, rfl⟩)
  clear hq
  go_loopw [3, 9] (fun v i wr => ∃ k : Nat, (k : Int) ≤ n / 5 ∧ i = .int .i64 k ∧ OwnS wr w.heap.size v (List.replicate k five) ∧ Below w.heap.size w wr) (fun _ i _ => (n / 5 - intOf i).toNat)
  case atStart => exact ⟨0, by omega, rfl, OwnS.nil _ _, Below.refl _ _⟩
  case round =>
    obtain ⟨k, hk, rfl, hown, hb⟩ := hrel
    have hsz := hb.size
    have HB := Lib.hid hb; clear hb
    have hrl : (List.replicate k five).length = k := by simp
    by_cases hlt : (k : Int) < n / 5
    · have HRS : Hid (List.replicate k five ++ [five] = List.replicate (k + 1) five) := by show _ = _; rw [List.replicate_succ']
      go_wp2_with (at_builtin; refine wpList_append_str rfl _ _ rfl w.heap.size _ _ rfl hown five rfl (by omega) (by omega) ?_; intro v' w2 hown2 hbl2)
      have HB2 := Lib.hid hbl2; clear hbl2
      go_roundw
      case rel => exact ⟨k + 1, by omega, by go_num, by rw [← HRS.out]; exact hown2, HB.out.trans HB2.out⟩
      case measure => simp [intOf] <;> omega
    · have HK : Hid ((n / 5).toNat = k) := by show _ = _; omega
      have hall : ∀ m, ∀ x ∈ List.replicate m five, x.data.toList.length ≤ 10 := by
        intro m x hx
        rw [List.eq_of_mem_replicate hx]
        decide
      by_cases h5 : 0 < n % 5
      · have HT : Hid (tallyL n = List.replicate k five ++ [rest5 n]) := by show _ = _; rw [tallyL, if_pos h5, HK.out]
        have HRP : Hid (∀ W : World, Calls Tryd.prog 29 #[.string ⟨#[124]⟩, .int .i64 (n % 5)] W fun e w' => e = .returned (.string (rest5 n)) ∧ Below W.heap.size W w') := fun W => by
          have := rep_any [124] (n % 5).toNat W (by simp) (by omega)
          rw [show (((n % 5).toNat : Nat) : Int) = n % 5 by omega] at this
          exact this
        have hal : ∀ x ∈ List.replicate k five ++ [rest5 n], x.data.toList.length ≤ 10 := by
          intro x hx
          rcases List.mem_append.1 hx with h | h
          · exact hall k x h
          · simp at h
            subst h
            have := repeatL_len [124] (n % 5).toNat
            simp [rest5, this]
            omega
        have HAL := Lib.hid hal
        clear hall hal
        go_wp2_with fail
        refine (HRP.out _).mono ?_
        rintro e w1 ⟨rfl, hb1⟩
        have hs1 := hb1.size
        have hown1 := hown.kept hb1
        have HB1 := Lib.hid (HB.out.trans (hb1.mono hsz)); clear hb1 hown
        go_wp2_with (at_builtin; refine wpList_append_str rfl _ _ rfl w.heap.size _ _ rfl hown1 (rest5 n) rfl (by omega) (by omega) ?_; intro v' w2 hown2 hbl2)
        have hs2 := hbl2.size
        have HB2 := Lib.hid (HB1.out.trans hbl2); clear hbl2 hown1
        go_wp2_with fail
        refine (Join_any w.heap.size _ _ _ _ hown2 (by decide) (by simp; omega) HAL.out).mono ?_
        rintro e w3 ⟨rfl, hb3⟩
        have HB3 := Lib.hid (HB2.out.trans (hb3.mono (by omega))); clear hb3 hown2
        go_wp2_with fail
        go_ret
        exact ⟨by rw [HF.out, HT.out] <;> rfl, HB3.out⟩
      · have HT : Hid (tallyL n = List.replicate k five) := by show _ = _; rw [tallyL, if_neg h5, HK.out, List.append_nil]
        have HAL := Lib.hid (hall k)
        clear hall
        go_wp2_with fail
        refine (Join_any w.heap.size _ _ _ _ hown (by decide) (by omega) HAL.out).mono ?_
        rintro e w3 ⟨rfl, hb3⟩
        have HB3 := Lib.hid (HB.out.trans (hb3.mono (by omega))); clear hb3 hown
        go_wp2_with fail
        go_ret
        exact ⟨by rw [HF.out, HT.out] <;> rfl, HB3.out⟩

end Go.Proofs.YthehhlamhkhlpaaDoor
