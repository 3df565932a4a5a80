/- Bead moves and the subtraction by nines: program and reference. Conditions: those of each contract. -/
import Derived.Test.YthppnjalfppmhaaAbacusC
namespace Go.Proofs.Ythppnjalfppmhaa
set_option linter.unusedVariables false
open Go.RowKit

theorem OwnI.base {w : World} {B B' : Nat} {a : Option Addr} {cap : Nat} {xs : List Int} (h : OwnI w B a cap xs) (hB : B' ≤ B) : OwnI w B' a cap xs := by
  rcases h.2 with ⟨hv, hn⟩ | ⟨g, cap', cur, hv, hg, r⟩
  · exact ⟨h.1, Or.inl ⟨hv, hn⟩⟩
  · exact ⟨h.1, Or.inr ⟨g, cap', cur, hv, by omega, r⟩⟩

/-! bead moves -/
def bead (x y : Int) : Int := max (x / 5 - y / 5) (-(x / 5 - y / 5)) + max (x % 5 - y % 5) (-(x % 5 - y % 5))
def beadS : List Int → List Int → Int
  | x :: xs, y :: ys => bead x y + beadS xs ys
  | _, _ => 0
theorem bead_bd (x y : Int) (h1 : 0 ≤ x ∧ x < 10) (h2 : 0 ≤ y ∧ y < 10) : 0 ≤ bead x y ∧ bead x y ≤ 5 := by unfold bead; omega
theorem beadS_next : ∀ (xs ys : List Int) (k : Nat) (h1 : k < xs.length) (h2 : k < ys.length), beadS (xs.take (k + 1)) (ys.take (k + 1)) = beadS (xs.take k) (ys.take k) + bead xs[k] ys[k] := by
  intro xs
  induction xs with
  | nil => intro ys k h1; simp at h1
  | cons x xs ih =>
    intro ys k h1 h2
    cases ys with
    | nil => simp at h2
    | cons y ys =>
      cases k with
      | zero => simp [beadS]
      | succ k =>
        have := ih ys k (by simpa using h1) (by simpa using h2)
        simp only [List.take_succ_cons, beadS, List.getElem_cons_succ]
        omega
theorem beadS_take_bd (xs ys : List Int) (h1 : ∀ d ∈ xs, 0 ≤ d ∧ d < 10) (h2 : ∀ d ∈ ys, 0 ≤ d ∧ d < 10) (he : xs.length = ys.length) (k : Nat) (hk : k ≤ xs.length) :
    0 ≤ beadS (xs.take k) (ys.take k) ∧ beadS (xs.take k) (ys.take k) ≤ 5 * k := by
  induction k with
  | zero => simp [beadS]
  | succ k ih =>
    rw [beadS_next xs ys k (by omega) (by omega)]
    have := bead_bd xs[k] ys[k] (h1 _ (List.getElem_mem _)) (h2 _ (List.getElem_mem _))
    have := ih (by omega)
    omega
def twoOk (xs ys : List Int) : Bool := abOk xs && (abOk ys && (xs.length == ys.length))
theorem twoOk_t {xs ys : List Int} (h : twoOk xs ys = true) : abOk xs = true ∧ abOk ys = true ∧ xs.length = ys.length := by
  simp only [twoOk, Bool.and_eq_true, beq_iff_eq] at h
  exact h
def beadR (xs ys : List Int) : Int := if twoOk xs ys then beadS xs ys else -1
theorem len_ne {m n : Nat} (h : (m == n) = false) : ((m : Int) != (n : Int)) = true := by
  rw [bne_iff_ne]; rw [beq_eq_false_iff_ne] at h; omega
theorem len_eq {m n : Nat} (h : m = n) : ((m : Int) != (n : Int)) = false := by subst h; simp
set_option maxHeartbeats 1000000 in
theorem BeadMoves_any (a a' : Option Addr) (cap cap' : Nat) (xs ys : List Int) (w : World) (hx : Ints w w.heap.size a cap xs) (hy : Ints w w.heap.size a' cap' ys) :
    Calls Try.prog 22 #[.slice a xs.length cap, .slice a' ys.length cap'] w fun e w' => e = .returned (.int .i64 (beadR xs ys)) ∧ Below w.heap.size w w' := by
  have HX := Lib.hid hx
  have HY := Lib.hid hy
  cases hc1 : abOk xs
  · have HF : Hid (beadR xs ys = -1) := by show _ = _; simp [beadR, twoOk, hc1]
    clear hx hy
    go_enter Try.func22, Try.ntmps22
    go_wp2_with fail
    refine (AbacusOk_any _ _ _ _ HX.out).mono ?_
    rintro e w1 ⟨rfl, hb⟩
    have HB := Lib.hid hb; clear hb
    go_wp2_with fail
    go_ret
    exact ⟨by rw [HF.out] <;> rfl, HB.out⟩
  cases hc2 : abOk ys
  · have HF : Hid (beadR xs ys = -1) := by show _ = _; simp [beadR, twoOk, hc1, hc2]
    clear hx hy
    go_enter Try.func22, Try.ntmps22
    go_wp2_with fail
    refine (AbacusOk_any _ _ _ _ HX.out).mono ?_
    rintro e w1 ⟨rfl, hb⟩
    have hs := hb.size
    have HB := Lib.hid hb; clear hb
    go_wp2_with fail
    refine (AbacusOk_any _ _ _ _ ((HY.out.below HB.out).mono hs)).mono ?_
    rintro e w2 ⟨rfl, hb⟩
    have HB2 := Lib.hid hb; clear hb
    go_wp2_with fail
    go_ret
    exact ⟨by rw [HF.out] <;> rfl, HB.out.trans (HB2.out.mono hs)⟩
  cases hc3 : (xs.length == ys.length)
  · have HF : Hid (beadR xs ys = -1) := by show _ = _; simp only [beadR, twoOk, hc1, hc2, hc3]; rfl
    have hne := len_ne hc3
    have hl1 := hx.len; have hl2 := hy.len
    clear hx hy hc3
    go_enter Try.func22, Try.ntmps22
    go_wp2_with fail
    refine (AbacusOk_any _ _ _ _ HX.out).mono ?_
    rintro e w1 ⟨rfl, hb⟩
    have hs := hb.size
    have HB := Lib.hid hb; clear hb
    go_wp2_with fail
    refine (AbacusOk_any _ _ _ _ ((HY.out.below HB.out).mono hs)).mono ?_
    rintro e w2 ⟨rfl, hb⟩
    have HB2 := Lib.hid hb; clear hb
    go_wp2_with fail
    go_ret
    exact ⟨by rw [HF.out] <;> rfl, HB.out.trans (HB2.out.mono hs)⟩
  have heq : xs.length = ys.length := by simpa using hc3
  have HF : Hid (beadR xs ys = beadS xs ys) := by show _ = _; simp only [beadR, twoOk, hc1, hc2, hc3]; rfl
  have hne := len_eq heq
  obtain ⟨t1, t2, t3⟩ := abOk_t hc1
  obtain ⟨-, -, t6⟩ := abOk_t hc2
  have HBD := Lib.hid (beadS_take_bd xs ys t3 t6 heq)
  have T3 := Lib.hid t3; have T6 := Lib.hid t6
  obtain ⟨-, -, b, off, ha, hc⟩ := hx
  obtain ⟨-, -, b', off', ha', hc'⟩ := hy
  have Ha := Lib.hid ha; have Hc := Lib.hid hc; have Ha' := Lib.hid ha'; have Hc' := Lib.hid hc'
  have HEQ := Lib.hid heq
  clear ha hc ha' hc' t3 t6 hc3 heq
  go_enter Try.func22, Try.ntmps22
  go_wp2_with fail
  refine (AbacusOk_any _ _ _ _ HX.out).mono ?_
  rintro e w1 ⟨rfl, hb⟩
  have hs := hb.size
  have HB := Lib.hid hb; clear hb
  go_wp2_with fail
  refine (AbacusOk_any _ _ _ _ ((HY.out.below HB.out).mono hs)).mono ?_
  rintro e w2 ⟨rfl, hb⟩
  have hs2 := hb.size
  have HB2 : Hid (Below w.heap.size w w2) := HB.out.trans (hb.mono hs)
  clear hb HB
  go_wp2_with fail
  clear hc1 hc2 hne
  go_loopw [5, 27] (fun m i wr => ∃ k : Nat, k ≤ xs.length ∧ i = .int .i64 k ∧ m = .int .i64 (beadS (xs.take k) (ys.take k)) ∧ Below w.heap.size w wr) (fun _ i _ => xs.length - (intOf i).toNat)
  case atStart => exact ⟨0, Nat.zero_le _, rfl, rfl, HB2.out⟩
  case round =>
    obtain ⟨k, hk, rfl, rfl, hbl⟩ := hrel
    obtain ⟨hm1, hm2⟩ := HBD.out k hk
    by_cases hlt : k < xs.length
    · obtain ⟨rfl, hb1⟩ := Ha.out (by omega)
      have hlt' : k < ys.length := by have := HEQ.out; omega
      obtain ⟨rfl, hb2⟩ := Ha'.out (by omega)
      have hcx := (hbl.cell (p := ⟨b, off + k, none⟩) hb1).trans (Hc.out k hlt)
      have hcy := (hbl.cell (p := ⟨b', off' + k, none⟩) hb2).trans (Hc'.out k hlt')
      obtain ⟨hx0, hx1⟩ := T3.out xs[k] (List.getElem_mem hlt)
      obtain ⟨hy0, hy1⟩ := T6.out ys[k] (List.getElem_mem hlt')
      have HN := Lib.hid (beadS_next xs ys k hlt hlt')
      have g1 : (0 : Int) ≤ (k : Int) := by omega
      have g2 : (k : Int) < (xs.length : Int) := by omega
      have g3 : (k : Int) < (ys.length : Int) := by omega
      have HBL := Lib.hid hbl; clear hbl
      generalize xs[k] = p at *
      generalize ys[k] = q at *
      generalize beadS (xs.take k) (ys.take k) = m at *
      go_wp2
      go_quiet (fail)
      go_wp2
      all_goals
        go_roundw
        case rel => exact ⟨k + 1, by omega, by go_num, by rw [HN.out]; unfold bead; go_num, below_drewN HBL.out _⟩
        case measure => simp [intOf] <;> omega
    · have HBL := Lib.hid hbl; clear hbl
      go_wp2
      go_ret
      obtain rfl : k = xs.length := by omega
      have h1 : ys.take xs.length = ys := by rw [HEQ.out, List.take_length]
      exact ⟨by rw [HF.out, List.take_length, h1] <;> rfl, HBL.out⟩
set_option maxHeartbeats 1000000 in
theorem l28Moves_any (a a' : Option Addr) (cap cap' : Nat) (xs ys : List Int) (w : World) (hx : Ints w w.heap.size a cap xs) (hy : Ints w w.heap.size a' cap' ys)
    (t3 : ∀ d ∈ xs, 0 ≤ d ∧ d < 10) (t6 : ∀ d ∈ ys, 0 ≤ d ∧ d < 10) (heq : xs.length = ys.length) (hl : xs.length ≤ 10) :
    Calls Try.prog 49 #[.slice a xs.length cap, .slice a' ys.length cap'] w fun e w' => e = .returned (.int .i64 (beadS xs ys)) ∧ Below w.heap.size w w' := by
  have HBD := Lib.hid (beadS_take_bd xs ys t3 t6 heq)
  have T3 := Lib.hid t3; have T6 := Lib.hid t6
  obtain ⟨-, -, b, off, ha, hc⟩ := hx
  obtain ⟨-, -, b', off', ha', hc'⟩ := hy
  have Ha := Lib.hid ha; have Hc := Lib.hid hc; have Ha' := Lib.hid ha'; have Hc' := Lib.hid hc'
  have HEQ := Lib.hid heq
  clear ha hc ha' hc' t3 t6 heq
  go_enter Try.func49, Try.ntmps49
  go_wp2_with fail
  go_loopw [5, 11] (fun m i wr => ∃ k : Nat, k ≤ xs.length ∧ i = .int .i64 k ∧ m = .int .i64 (beadS (xs.take k) (ys.take k)) ∧ Below w.heap.size w wr) (fun _ i _ => xs.length - (intOf i).toNat)
  case atStart => exact ⟨0, Nat.zero_le _, rfl, rfl, Below.refl _ _⟩
  case round =>
    obtain ⟨k, hk, rfl, rfl, hbl⟩ := hrel
    obtain ⟨hm1, hm2⟩ := HBD.out k hk
    by_cases hlt : k < xs.length
    · obtain ⟨rfl, hb1⟩ := Ha.out (by omega)
      have hlt' : k < ys.length := by have := HEQ.out; omega
      obtain ⟨rfl, hb2⟩ := Ha'.out (by omega)
      have hcx := (hbl.cell (p := ⟨b, off + k, none⟩) hb1).trans (Hc.out k hlt)
      have hcy := (hbl.cell (p := ⟨b', off' + k, none⟩) hb2).trans (Hc'.out k hlt')
      obtain ⟨hx0, hx1⟩ := T3.out xs[k] (List.getElem_mem hlt)
      obtain ⟨hy0, hy1⟩ := T6.out ys[k] (List.getElem_mem hlt')
      have HN := Lib.hid (beadS_next xs ys k hlt hlt')
      have g1 : (0 : Int) ≤ (k : Int) := by omega
      have g2 : (k : Int) < (xs.length : Int) := by omega
      have g3 : (k : Int) < (ys.length : Int) := by omega
      have HBL := Lib.hid hbl; clear hbl
      generalize xs[k] = p at *
      generalize ys[k] = q at *
      generalize beadS (xs.take k) (ys.take k) = m at *
      go_wp2
      all_goals
        try go_quiet (fail)
        try go_wp2
      all_goals
        go_roundw
        case rel => exact ⟨k + 1, by omega, by go_num, by rw [HN.out]; unfold bead; go_num, by first | exact HBL.out | exact below_drewN HBL.out _⟩
        case measure => simp [intOf] <;> omega
    · have HBL := Lib.hid hbl; clear hbl
      go_wp2
      go_ret
      obtain rfl : k = xs.length := by omega
      have h1 : ys.take xs.length = ys := by rw [HEQ.out, List.take_length]
      exact ⟨by rw [List.take_length, h1] <;> rfl, HBL.out⟩
theorem sBeadMoves_any (a a' : Option Addr) (cap cap' : Nat) (xs ys : List Int) (w : World) (hx : Ints w w.heap.size a cap xs) (hy : Ints w w.heap.size a' cap' ys) :
    Calls Try.prog 21 #[.slice a xs.length cap, .slice a' ys.length cap'] w fun e w' => e = .returned (.int .i64 (beadR xs ys)) ∧ Below w.heap.size w w' := by
  have hl1 := hx.len; have hl2 := hy.len
  have HX := Lib.hid hx
  have HY := Lib.hid hy
  clear hx hy
  cases hc1 : abOk xs
  · have HF : Hid (beadR xs ys = -1) := by show _ = _; simp [beadR, twoOk, hc1]
    go_enter Try.func21, Try.ntmps21
    go_wp2_with fail
    refine (sAbacusOk_any _ _ _ _ HX.out).mono ?_
    rintro e w' ⟨rfl, rfl⟩
    go_wp2_with fail
    go_ret
    exact ⟨by rw [HF.out] <;> rfl, Below.refl _ _⟩
  cases hc2 : abOk ys
  · have HF : Hid (beadR xs ys = -1) := by show _ = _; simp [beadR, twoOk, hc1, hc2]
    go_enter Try.func21, Try.ntmps21
    go_wp2_with fail
    refine (sAbacusOk_any _ _ _ _ HX.out).mono ?_
    rintro e w' ⟨rfl, rfl⟩
    go_wp2_with fail
    refine (sAbacusOk_any _ _ _ _ HY.out).mono ?_
    rintro e w' ⟨rfl, rfl⟩
    go_wp2_with fail
    go_ret
    exact ⟨by rw [HF.out] <;> rfl, Below.refl _ _⟩
  cases hc3 : (xs.length == ys.length)
  · have HF : Hid (beadR xs ys = -1) := by show _ = _; simp only [beadR, twoOk, hc1, hc2, hc3]; rfl
    have hne := len_ne hc3
    clear hc3
    go_enter Try.func21, Try.ntmps21
    go_wp2_with fail
    refine (sAbacusOk_any _ _ _ _ HX.out).mono ?_
    rintro e w' ⟨rfl, rfl⟩
    go_wp2_with fail
    refine (sAbacusOk_any _ _ _ _ HY.out).mono ?_
    rintro e w' ⟨rfl, rfl⟩
    go_wp2_with fail
    go_ret
    exact ⟨by rw [HF.out] <;> rfl, Below.refl _ _⟩
  have heq : xs.length = ys.length := by simpa using hc3
  have HF : Hid (beadR xs ys = beadS xs ys) := by show _ = _; simp only [beadR, twoOk, hc1, hc2, hc3]; rfl
  have hne := len_eq heq
  obtain ⟨t1, t2, t3⟩ := abOk_t hc1
  obtain ⟨-, -, t6⟩ := abOk_t hc2
  have T3 := Lib.hid t3; have T6 := Lib.hid t6; have HEQ := Lib.hid heq
  clear t3 t6 hc3 heq
  go_enter Try.func21, Try.ntmps21
  go_wp2_with fail
  refine (sAbacusOk_any _ _ _ _ HX.out).mono ?_
  rintro e w' ⟨rfl, rfl⟩
  go_wp2_with fail
  refine (sAbacusOk_any _ _ _ _ HY.out).mono ?_
  rintro e w' ⟨rfl, rfl⟩
  go_wp2_with fail
  refine (l28Moves_any _ _ _ _ xs ys _ HX.out HY.out T3.out T6.out HEQ.out t2).mono ?_
  rintro e w2 ⟨rfl, hb⟩
  have HB := Lib.hid hb; clear hb
  go_wp2_with fail
  go_ret
  exact ⟨by rw [HF.out] <;> rfl, HB.out⟩
set_option maxHeartbeats 2000000 in
theorem law_FnExactBeadMoves (arods : Option Addr) (lrods crods : Nat) (zrods : List Int) (aother : Option Addr) (lother cother : Nat) (zother : List Int) (w : World) (frods : IsRow .i64 w arods lrods crods zrods) (fother : IsRow .i64 w aother lother cother zother) :
    Calls Try.prog 6 #[.slice arods lrods crods, .slice aother lother cother] w fun e w' => e = .returned (.bool true) ∧ Below w.heap.size w w' := by
  obtain ⟨rods, rfl, hxrods⟩ := frods.op
  have HXrods := Lib.hid hxrods; clear hxrods frods
  obtain ⟨other, rfl, hxother⟩ := fother.op
  have HXother := Lib.hid hxother; clear hxother fother
  by_cases hbigrods : 1048576 < rods.length
  · go_enter Try.func6, Try.ntmps6
    go_wp2_with fail
    go_ret
    exact ⟨rfl, Below.refl _ _⟩
  by_cases hbigother : 1048576 < other.length
  · go_enter Try.func6, Try.ntmps6
    go_wp2_with fail
    go_ret
    exact ⟨rfl, Below.refl _ _⟩
  have hsrods : rods.length ≤ 1048576 := by omega
  have hsother : other.length ≤ 1048576 := by omega
  clear hbigrods
  clear hbigother
  have HB0 : Hid (Below w.heap.size w w) := Below.refl _ _
  go_enter Try.func6, Try.ntmps6
  go_wp2_with fail
  refine (toIntS_any _ _ rods _ ((HXrods.out.below HB0.out).mono (by omega)) (by omega)).mono ?_
  rintro e w1 ⟨atrods, ctrods, rfl, ho, hb⟩
  have hu := Below.upd hb
  have HNtrods : Hid (OwnR w1 w.heap.size w1.heap.size atrods ctrods (rods)) := OwnI.ownR ho
  clear ho hb
  have hs1 := hu.size
  have HB1 : Hid (Below w.heap.size w w1) := HB0.out.trans (hu.below (by omega) (by omega))
  clear hu
  have HOtrods1 := HNtrods; clear HNtrods
  go_wp2_with fail
  refine (toIntS_any _ _ other _ ((HXother.out.below HB1.out).mono (by omega)) (by omega)).mono ?_
  rintro e w2 ⟨atother, ctother, rfl, ho, hb⟩
  have hu := Below.upd hb
  have HNtother : Hid (OwnR w2 w1.heap.size w2.heap.size atother ctother (other)) := OwnI.ownR ho
  clear ho hb
  have hs2 := hu.size
  have HB2 : Hid (Below w.heap.size w w2) := HB1.out.trans (hu.below (by omega) (by omega))
  have HOtrods2 : Hid (OwnR w2 w.heap.size w1.heap.size atrods ctrods (rods)) := HOtrods1.out.upd hu (by omega); clear HOtrods1
  clear hu
  have HOtother2 := HNtother; clear HNtother
  go_wp2_with fail
  refine (sBeadMoves_any _ _ _ _ rods other _ (HOtrods2.out.ints) (HOtother2.out.ints)).mono ?_
  rintro e w3 ⟨rfl, hb⟩
  have hu := Below.upd hb; clear hb
  have hs3 := hu.size
  have HB3 : Hid (Below w.heap.size w w3) := HB2.out.trans (hu.below (by omega) (by omega))
  have HOtrods3 : Hid (OwnR w3 w.heap.size w1.heap.size atrods ctrods (rods)) := HOtrods2.out.upd hu (by omega); clear HOtrods2
  have HOtother3 : Hid (OwnR w3 w1.heap.size w2.heap.size atother ctother (other)) := HOtother2.out.upd hu (by omega); clear HOtother2
  clear hu
  go_wp2_with fail
  refine (toIntS_any _ _ rods _ ((HXrods.out.below HB3.out).mono (by omega)) (by omega)).mono ?_
  rintro e w4 ⟨axrods, cxrods, rfl, ho, hb⟩
  have hu := Below.upd hb
  have HNxrods : Hid (OwnR w4 w3.heap.size w4.heap.size axrods cxrods (rods)) := OwnI.ownR ho
  clear ho hb
  have hs4 := hu.size
  have HB4 : Hid (Below w.heap.size w w4) := HB3.out.trans (hu.below (by omega) (by omega))
  clear hu
  have HOxrods4 := HNxrods; clear HNxrods
  go_wp2_with fail
  refine (toIntS_any _ _ other _ ((HXother.out.below HB4.out).mono (by omega)) (by omega)).mono ?_
  rintro e w5 ⟨axother, cxother, rfl, ho, hb⟩
  have hu := Below.upd hb
  have HNxother : Hid (OwnR w5 w4.heap.size w5.heap.size axother cxother (other)) := OwnI.ownR ho
  clear ho hb
  have hs5 := hu.size
  have HB5 : Hid (Below w.heap.size w w5) := HB4.out.trans (hu.below (by omega) (by omega))
  have HOxrods5 : Hid (OwnR w5 w3.heap.size w4.heap.size axrods cxrods (rods)) := HOxrods4.out.upd hu (by omega); clear HOxrods4
  clear hu
  have HOxother5 := HNxother; clear HNxother
  go_wp2_with fail
  refine (BeadMoves_any _ _ _ _ rods other _ (HOxrods5.out.ints) (HOxother5.out.ints)).mono ?_
  rintro e w6 ⟨rfl, hb⟩
  have hu := Below.upd hb; clear hb
  have hs6 := hu.size
  have HB6 : Hid (Below w.heap.size w w6) := HB5.out.trans (hu.below (by omega) (by omega))
  have HOxrods6 : Hid (OwnR w6 w3.heap.size w4.heap.size axrods cxrods (rods)) := HOxrods5.out.upd hu (by omega); clear HOxrods5
  have HOxother6 : Hid (OwnR w6 w4.heap.size w5.heap.size axother cxother (other)) := HOxother5.out.upd hu (by omega); clear HOxother5
  clear hu
  go_wp2_with fail
  refine (toIntS_any _ _ rods _ ((HXrods.out.below HB6.out).mono (by omega)) (by omega)).mono ?_
  rintro e w7 ⟨ayrods, cyrods, rfl, ho, hb⟩
  have hu := Below.upd hb
  have HNyrods : Hid (OwnR w7 w6.heap.size w7.heap.size ayrods cyrods (rods)) := OwnI.ownR ho
  clear ho hb
  have hs7 := hu.size
  have HB7 : Hid (Below w.heap.size w w7) := HB6.out.trans (hu.below (by omega) (by omega))
  have HOxrods7 : Hid (OwnR w7 w3.heap.size w4.heap.size axrods cxrods (rods)) := HOxrods6.out.upd hu (by omega); clear HOxrods6
  have HOxother7 : Hid (OwnR w7 w4.heap.size w5.heap.size axother cxother (other)) := HOxother6.out.upd hu (by omega); clear HOxother6
  clear hu
  have HOyrods7 := HNyrods; clear HNyrods
  go_wp2_with fail
  refine (eqIntS_same _ _ _ _ (rods) _ (HOxrods7.out.ints) (HOyrods7.out.ints)).mono ?_
  rintro e w8 ⟨rfl, hb⟩
  have hu := Below.upd hb; clear hb
  have hs8 := hu.size
  have HB8 : Hid (Below w.heap.size w w8) := HB7.out.trans (hu.below (by omega) (by omega))
  have HOxrods8 : Hid (OwnR w8 w3.heap.size w4.heap.size axrods cxrods (rods)) := HOxrods7.out.upd hu (by omega); clear HOxrods7
  have HOxother8 : Hid (OwnR w8 w4.heap.size w5.heap.size axother cxother (other)) := HOxother7.out.upd hu (by omega); clear HOxother7
  have HOyrods8 : Hid (OwnR w8 w6.heap.size w7.heap.size ayrods cyrods (rods)) := HOyrods7.out.upd hu (by omega); clear HOyrods7
  clear hu
  go_wp2_with fail
  refine (toIntS_any _ _ other _ ((HXother.out.below HB8.out).mono (by omega)) (by omega)).mono ?_
  rintro e w9 ⟨ayother, cyother, rfl, ho, hb⟩
  have hu := Below.upd hb
  have HNyother : Hid (OwnR w9 w8.heap.size w9.heap.size ayother cyother (other)) := OwnI.ownR ho
  clear ho hb
  have hs9 := hu.size
  have HB9 : Hid (Below w.heap.size w w9) := HB8.out.trans (hu.below (by omega) (by omega))
  have HOxrods9 : Hid (OwnR w9 w3.heap.size w4.heap.size axrods cxrods (rods)) := HOxrods8.out.upd hu (by omega); clear HOxrods8
  have HOxother9 : Hid (OwnR w9 w4.heap.size w5.heap.size axother cxother (other)) := HOxother8.out.upd hu (by omega); clear HOxother8
  clear hu
  have HOyother9 := HNyother; clear HNyother
  go_wp2_with fail
  refine (eqIntS_same _ _ _ _ (other) _ (HOxother9.out.ints) (HOyother9.out.ints)).mono ?_
  rintro e w10 ⟨rfl, hb⟩
  have hu := Below.upd hb; clear hb
  have hs10 := hu.size
  have HB10 : Hid (Below w.heap.size w w10) := HB9.out.trans (hu.below (by omega) (by omega))
  have HOxrods10 : Hid (OwnR w10 w3.heap.size w4.heap.size axrods cxrods (rods)) := HOxrods9.out.upd hu (by omega); clear HOxrods9
  have HOxother10 : Hid (OwnR w10 w4.heap.size w5.heap.size axother cxother (other)) := HOxother9.out.upd hu (by omega); clear HOxother9
  have HOyother10 : Hid (OwnR w10 w8.heap.size w9.heap.size ayother cyother (other)) := HOyother9.out.upd hu (by omega); clear HOyother9
  clear hu
  go_wp2_with fail
  go_ret
  exact ⟨rfl, HB10.out⟩
/-! subtraction by nines -/
def subC : List Int → List Int → Int → List Int
  | x :: xs, y :: ys, c => ((x + 9 - y + c) % 10) :: subC xs ys ((x + 9 - y + c) / 10)
  | _, _, _ => []
theorem subC_plcd : ∀ (xs ys : List Int) (c : Int), xs.length = ys.length → subC xs ys c = plcd (valL 10 xs + valL 10 (nines ys) + c) 10 xs.length := by
  intro xs
  induction xs with
  | nil => intro ys c h; cases ys with
    | nil => rfl
    | cons y ys => simp at h
  | cons x xs ih =>
    intro ys c h
    cases ys with
    | nil => simp at h
    | cons y ys =>
      have e := ih ys ((x + 9 - y + c) / 10) (by simpa using h)
      simp only [subC, List.length_cons, plcd, nines, List.map_cons, valL] at e ⊢
      rw [e]
      congr 1
      · omega
      · congr 1
        omega
def subOk (xs ys : List Int) : Bool := twoOk xs ys && !(decide (valL 10 xs < valL 10 ys))
def subR (xs ys : List Int) : List Int := if subOk xs ys then plcd (valL 10 xs + valL 10 (nines ys) + 1) 10 xs.length else []
theorem subR_len (xs ys : List Int) : (subR xs ys).length ≤ xs.length := by unfold subR; split <;> simp [plcd_length]
theorem nines_mem {xs : List Int} (h : ∀ d ∈ xs, 0 ≤ d ∧ d < 10) : ∀ d ∈ nines xs, 0 ≤ d ∧ d < 10 := by
  intro d hd
  simp only [nines, List.mem_map] at hd
  obtain ⟨x, hx, rfl⟩ := hd
  have := h x hx
  omega
set_option maxHeartbeats 1000000 in
theorem SubtractByNines_any (a a' : Option Addr) (cap cap' : Nat) (xs ys : List Int) (w : World) (hx : Ints w w.heap.size a cap xs) (hy : Ints w w.heap.size a' cap' ys) :
    Calls Try.prog 32 #[.slice a xs.length cap, .slice a' ys.length cap'] w (RetIB w (subR xs ys) (subOk xs ys)) := by
  have hl1 := hx.len; have hl2 := hy.len
  have HX := Lib.hid hx
  have HY := Lib.hid hy
  clear hx hy
  cases hc1 : abOk xs
  · have hso : subOk xs ys = false := by simp [subOk, twoOk, hc1]
    have HF : Hid (subR xs ys = []) := by show _ = _; simp [subR, hso]
    rw [HF.out, hso]; clear hso
    go_enter Try.func32, Try.ntmps32
    go_wp2_with fail
    refine (AbacusOk_any _ _ _ _ HX.out).mono ?_
    rintro e w1 ⟨rfl, hb⟩
    have HB := Lib.hid hb; clear hb
    go_wp2_with fail
    go_ret2
    exact ⟨none, 0, rfl, OwnV.nil _ _, HB.out⟩
  cases hc2 : abOk ys
  · have hso : subOk xs ys = false := by simp [subOk, twoOk, hc1, hc2]
    have HF : Hid (subR xs ys = []) := by show _ = _; simp [subR, hso]
    rw [HF.out, hso]; clear hso
    go_enter Try.func32, Try.ntmps32
    go_wp2_with fail
    refine (AbacusOk_any _ _ _ _ HX.out).mono ?_
    rintro e w1 ⟨rfl, hb⟩
    have hs := hb.size
    have HB := Lib.hid hb; clear hb
    go_wp2_with fail
    refine (AbacusOk_any _ _ _ _ ((HY.out.below HB.out).mono hs)).mono ?_
    rintro e w2 ⟨rfl, hb⟩
    have HB2 := Lib.hid hb; clear hb
    go_wp2_with fail
    go_ret2
    exact ⟨none, 0, rfl, OwnV.nil _ _, HB.out.trans (HB2.out.mono hs)⟩
  cases hc3 : (xs.length == ys.length)
  · have hso : subOk xs ys = false := by simp only [subOk, twoOk, hc1, hc2, hc3]; rfl
    have HF : Hid (subR xs ys = []) := by show _ = _; simp [subR, hso]
    rw [HF.out, hso]; clear hso
    have hne := len_ne hc3
    clear hc3
    go_enter Try.func32, Try.ntmps32
    go_wp2_with fail
    refine (AbacusOk_any _ _ _ _ HX.out).mono ?_
    rintro e w1 ⟨rfl, hb⟩
    have hs := hb.size
    have HB := Lib.hid hb; clear hb
    go_wp2_with fail
    refine (AbacusOk_any _ _ _ _ ((HY.out.below HB.out).mono hs)).mono ?_
    rintro e w2 ⟨rfl, hb⟩
    have HB2 := Lib.hid hb; clear hb
    go_wp2_with fail
    go_ret2
    exact ⟨none, 0, rfl, OwnV.nil _ _, HB.out.trans (HB2.out.mono hs)⟩
  have heq : xs.length = ys.length := by simpa using hc3
  have hne := len_eq heq
  obtain ⟨t1, t2, t3⟩ := abOk_t hc1
  obtain ⟨-, -, t6⟩ := abOk_t hc2
  have T3 := Lib.hid t3; have T6 := Lib.hid t6; have HEQ := Lib.hid heq
  have HP1 := Lib.hid (abOk_pow hc1); have HP2 := Lib.hid (abOk_pow hc2)
  have hv1 := valL_bd 10 (by omega) xs t3
  have hv2 := valL_bd 10 (by omega) ys t6
  have hv3 := valL_bd 10 (by omega) (nines ys) (nines_mem t6)
  have hq1 := HP1.out; have hq2 := HP2.out
  rw [nines_len] at hv3
  obtain ⟨v1, v2⟩ := hv1
  obtain ⟨v3, v4⟩ := hv2
  obtain ⟨v5, v6⟩ := hv3
  have v2' : valL 10 xs < 10000000000 := by omega
  have v4' : valL 10 ys < 10000000000 := by omega
  have v6' : valL 10 (nines ys) < 10000000000 := by omega
  clear v2 v4 v6 hq1 hq2 t3 t6 heq
  by_cases hlt : valL 10 xs < valL 10 ys
  · have hso : subOk xs ys = false := by simp only [subOk, decide_eq_true hlt, Bool.not_true, Bool.and_false]
    have HF : Hid (subR xs ys = []) := by show _ = _; simp [subR, hso]
    rw [HF.out, hso]; clear hso hc3
    go_enter Try.func32, Try.ntmps32
    go_wp2_with fail
    refine (AbacusOk_any _ _ _ _ HX.out).mono ?_
    rintro e w1 ⟨rfl, hb⟩
    have hs := hb.size
    have HB := Lib.hid hb; clear hb
    go_wp2_with fail
    refine (AbacusOk_any _ _ _ _ ((HY.out.below HB.out).mono hs)).mono ?_
    rintro e w2 ⟨rfl, hb⟩
    have hs2 := hb.size
    have HB2 : Hid (Below w.heap.size w w2) := HB.out.trans (hb.mono hs)
    clear hb
    go_wp2_with fail
    refine (valueOf_any _ _ xs 10 _ ((HX.out.below HB2.out).mono (by omega)) T3.out (by omega) (Int.le_trans HP1.out (by omega))).mono ?_
    rintro e w' ⟨rfl, rfl⟩
    go_wp2_with fail
    refine (valueOf_any _ _ ys 10 _ ((HY.out.below HB2.out).mono (by omega)) T6.out (by omega) (Int.le_trans HP2.out (by omega))).mono ?_
    rintro e w' ⟨rfl, rfl⟩
    go_wp2_with fail
    go_ret2
    exact ⟨none, 0, rfl, OwnV.nil _ _, HB2.out⟩
  · have hso : subOk xs ys = true := by simp only [subOk, twoOk, hc1, hc2, hc3, decide_eq_false hlt]; rfl
    have HF : Hid (subR xs ys = plcd (valL 10 xs + valL 10 (nines ys) + 1) 10 xs.length) := by show _ = _; simp [subR, hso]
    have HNR : Hid (ninesR ys = nines ys) := by show _ = _; simp [ninesR, hc2]
    have HNL := Lib.hid (nines_len ys)
    rw [HF.out, hso]; clear hso hc3
    go_enter Try.func32, Try.ntmps32
    go_wp2_with fail
    refine (AbacusOk_any _ _ _ _ HX.out).mono ?_
    rintro e w1 ⟨rfl, hb⟩
    have hs := hb.size
    have HB := Lib.hid hb; clear hb
    go_wp2_with fail
    refine (AbacusOk_any _ _ _ _ ((HY.out.below HB.out).mono hs)).mono ?_
    rintro e w2 ⟨rfl, hb⟩
    have hs2 := hb.size
    have HB2 : Hid (Below w.heap.size w w2) := HB.out.trans (hb.mono hs)
    clear hb
    go_wp2_with fail
    refine (valueOf_any _ _ xs 10 _ ((HX.out.below HB2.out).mono (by omega)) T3.out (by omega) (Int.le_trans HP1.out (by omega))).mono ?_
    rintro e w' ⟨rfl, rfl⟩
    go_wp2_with fail
    refine (valueOf_any _ _ ys 10 _ ((HY.out.below HB2.out).mono (by omega)) T6.out (by omega) (Int.le_trans HP2.out (by omega))).mono ?_
    rintro e w' ⟨rfl, rfl⟩
    go_wp2_with fail
    refine (valueOf_any _ _ xs 10 _ ((HX.out.below HB2.out).mono (by omega)) T3.out (by omega) (Int.le_trans HP1.out (by omega))).mono ?_
    rintro e w' ⟨rfl, rfl⟩
    go_wp2_with fail
    refine (NinesOf_any _ _ ys _ ((HY.out.below HB2.out).mono (by omega))).mono ?_
    rw [HNR.out]
    rintro e w3 ⟨a3, c3, rfl, ho, hb⟩
    have hs3 := hb.size
    have HO3 := Lib.hid ho
    have HB3 : Hid (Below w.heap.size w w3) := HB2.out.trans (hb.mono (by omega))
    clear hb ho
    go_wp2_with fail
    refine (valueOf_any _ _ (nines ys) 10 _ HO3.out.ints (nines_mem T6.out) (by omega) (by rw [HNL.out]; exact Int.le_trans HP2.out (by omega))).mono ?_
    rintro e w' ⟨rfl, rfl⟩
    go_wp2_with fail
    refine (placed_any _ 10 xs.length _ (by omega) (by omega) (by omega) (by omega) (by omega)).mono ?_
    rintro e w4 ⟨a4, c4, rfl, ho, hb⟩
    have HO4 := Lib.hid ho; have HB4 := Lib.hid hb; clear ho hb
    go_wp2_with fail
    go_ret2
    refine ⟨a4, c4, rfl, ?_, HB3.out.trans (HB4.out.mono (by omega))⟩
    exact HO4.out.base (by omega)
set_option maxHeartbeats 1000000 in
theorem sSubtractByNines_any (a a' : Option Addr) (cap cap' : Nat) (xs ys : List Int) (w : World) (hx : Ints w w.heap.size a cap xs) (hy : Ints w w.heap.size a' cap' ys) :
    Calls Try.prog 31 #[.slice a xs.length cap, .slice a' ys.length cap'] w (RetIB w (subR xs ys) (subOk xs ys)) := by
  have hl1 := hx.len; have hl2 := hy.len
  have HX := Lib.hid hx
  have HY := Lib.hid hy
  clear hx hy
  cases hc1 : abOk xs
  · have hso : subOk xs ys = false := by simp [subOk, twoOk, hc1]
    have HF : Hid (subR xs ys = []) := by show _ = _; simp [subR, hso]
    rw [HF.out, hso]; clear hso
    go_enter Try.func31, Try.ntmps31
    go_wp2_with fail
    refine (sAbacusOk_any _ _ _ _ HX.out).mono ?_
    rintro e w' ⟨rfl, rfl⟩
    go_wp2_with fail
    go_ret2
    exact ⟨none, 0, rfl, OwnV.nil _ _, Below.refl _ _⟩
  cases hc2 : abOk ys
  · have hso : subOk xs ys = false := by simp [subOk, twoOk, hc1, hc2]
    have HF : Hid (subR xs ys = []) := by show _ = _; simp [subR, hso]
    rw [HF.out, hso]; clear hso
    go_enter Try.func31, Try.ntmps31
    go_wp2_with fail
    refine (sAbacusOk_any _ _ _ _ HX.out).mono ?_
    rintro e w' ⟨rfl, rfl⟩
    go_wp2_with fail
    refine (sAbacusOk_any _ _ _ _ HY.out).mono ?_
    rintro e w' ⟨rfl, rfl⟩
    go_wp2_with fail
    go_ret2
    exact ⟨none, 0, rfl, OwnV.nil _ _, Below.refl _ _⟩
  cases hc3 : (xs.length == ys.length)
  · have hso : subOk xs ys = false := by simp only [subOk, twoOk, hc1, hc2, hc3]; rfl
    have HF : Hid (subR xs ys = []) := by show _ = _; simp [subR, hso]
    rw [HF.out, hso]; clear hso
    have hne := len_ne hc3
    clear hc3
    go_enter Try.func31, Try.ntmps31
    go_wp2_with fail
    refine (sAbacusOk_any _ _ _ _ HX.out).mono ?_
    rintro e w' ⟨rfl, rfl⟩
    go_wp2_with fail
    refine (sAbacusOk_any _ _ _ _ HY.out).mono ?_
    rintro e w' ⟨rfl, rfl⟩
    go_wp2_with fail
    go_ret2
    exact ⟨none, 0, rfl, OwnV.nil _ _, Below.refl _ _⟩
  have heq : xs.length = ys.length := by simpa using hc3
  have hne := len_eq heq
  obtain ⟨t1, t2, t3⟩ := abOk_t hc1
  obtain ⟨-, -, t6⟩ := abOk_t hc2
  have T3 := Lib.hid t3; have T6 := Lib.hid t6; have HEQ := Lib.hid heq
  have HP1 := Lib.hid (abOk_pow hc1); have HP2 := Lib.hid (abOk_pow hc2)
  have hv1 := valL_bd 10 (by omega) xs t3
  have hv2 := valL_bd 10 (by omega) ys t6
  have hv3 := valL_bd 10 (by omega) (nines ys) (nines_mem t6)
  have hq1 := HP1.out; have hq2 := HP2.out
  rw [nines_len] at hv3
  obtain ⟨v1, v2⟩ := hv1
  obtain ⟨v3, v4⟩ := hv2
  obtain ⟨v5, v6⟩ := hv3
  have v2' : valL 10 xs < 10000000000 := by omega
  have v4' : valL 10 ys < 10000000000 := by omega
  have v6' : valL 10 (nines ys) < 10000000000 := by omega
  clear v2 v4 v6 hq1 hq2 t3 t6 heq
  by_cases hlt : valL 10 xs < valL 10 ys
  · have hso : subOk xs ys = false := by simp only [subOk, decide_eq_true hlt, Bool.not_true, Bool.and_false]
    have HF : Hid (subR xs ys = []) := by show _ = _; simp [subR, hso]
    rw [HF.out, hso]; clear hso hc3
    go_enter Try.func31, Try.ntmps31
    go_wp2_with fail
    refine (sAbacusOk_any _ _ _ _ HX.out).mono ?_
    rintro e w' ⟨rfl, rfl⟩
    go_wp2_with fail
    refine (sAbacusOk_any _ _ _ _ HY.out).mono ?_
    rintro e w' ⟨rfl, rfl⟩
    go_wp2_with fail
    refine (l18Value_any _ _ xs 10 _ HX.out T3.out (by omega) (Int.le_trans HP1.out (by omega))).mono ?_
    rintro e w' ⟨rfl, rfl⟩
    go_wp2_with fail
    refine (l18Value_any _ _ ys 10 _ HY.out T6.out (by omega) (Int.le_trans HP2.out (by omega))).mono ?_
    rintro e w' ⟨rfl, rfl⟩
    go_wp2_with fail
    go_ret2
    exact ⟨none, 0, rfl, OwnV.nil _ _, Below.refl _ _⟩
  · have hso : subOk xs ys = true := by simp only [subOk, twoOk, hc1, hc2, hc3, decide_eq_false hlt]; rfl
    have HF : Hid (subR xs ys = plcd (valL 10 xs + valL 10 (nines ys) + 1) 10 xs.length) := by show _ = _; simp [subR, hso]
    have HSC := Lib.hid (subC_plcd xs ys 1 HEQ.out)
    obtain ⟨-, -, b, off, ha, hc⟩ := HX.out
    obtain ⟨-, -, b', off', ha', hc'⟩ := HY.out
    have Ha := Lib.hid ha; have Hc := Lib.hid hc; have Ha' := Lib.hid ha'; have Hc' := Lib.hid hc'
    clear ha hc ha' hc'
    rw [HF.out, hso]; clear hso hc3
    go_enter Try.func31, Try.ntmps31
    go_wp2_with fail
    refine (sAbacusOk_any _ _ _ _ HX.out).mono ?_
    rintro e w' ⟨rfl, rfl⟩
    go_wp2_with fail
    refine (sAbacusOk_any _ _ _ _ HY.out).mono ?_
    rintro e w' ⟨rfl, rfl⟩
    go_wp2_with fail
    refine (l18Value_any _ _ xs 10 _ HX.out T3.out (by omega) (Int.le_trans HP1.out (by omega))).mono ?_
    rintro e w' ⟨rfl, rfl⟩
    go_wp2_with fail
    refine (l18Value_any _ _ ys 10 _ HY.out T6.out (by omega) (Int.le_trans HP2.out (by omega))).mono ?_
    rintro e w' ⟨rfl, rfl⟩
    go_wp2_with fail
    clear hc1 hc2 hne
    go_loopw [6, 7, 36] (fun v c i wr => ∃ (k : Nat) (x : Int) (out : List Int), k ≤ xs.length ∧ i = .int .i64 k ∧ c = .int .i64 x ∧ 0 ≤ x ∧ x ≤ 1 ∧ out.length = k ∧ out ++ subC (xs.drop k) (ys.drop k) x = subC xs ys 1 ∧ OwnV wr w.heap.size v out ∧ Below w.heap.size w wr) (fun _ _ i _ => xs.length - (intOf i).toNat)
    case atStart => exact ⟨0, 1, [], Nat.zero_le _, rfl, rfl, by omega, by omega, rfl, rfl, OwnV.lit0 _ _ (Nat.le_refl _), (Below.refl _ _).alloc (Nat.le_refl _) _⟩
    case round =>
      obtain ⟨k, x, out, hk, rfl, rfl, hx0, hx1, hol, hsub, hown, hbl⟩ := hrel
      have hsz := hbl.size
      have HSUB := Lib.hid hsub; clear hsub
      by_cases hkl : k < xs.length
      · obtain ⟨rfl, hb1⟩ := Ha.out (by omega)
        have hkl' : k < ys.length := by have := HEQ.out; omega
        obtain ⟨rfl, hb2⟩ := Ha'.out (by omega)
        have hcx := (hbl.cell (p := ⟨b, off + k, none⟩) hb1).trans (Hc.out k hkl)
        have hcy := (hbl.cell (p := ⟨b', off' + k, none⟩) hb2).trans (Hc'.out k hkl')
        obtain ⟨p0, p1⟩ := T3.out xs[k] (List.getElem_mem hkl)
        obtain ⟨q0, q1⟩ := T6.out ys[k] (List.getElem_mem hkl')
        have HST : Hid ((out ++ [(xs[k] + 9 - ys[k] + x) % 10]) ++ subC (xs.drop (k + 1)) (ys.drop (k + 1)) ((xs[k] + 9 - ys[k] + x) / 10) = subC xs ys 1) := by
          show _ = _
          rw [← HSUB.out, List.drop_eq_getElem_cons hkl, List.drop_eq_getElem_cons hkl']
          simp [subC]
        have HBL := Lib.hid hbl; clear hbl
        have hol2 : out.length ≤ 10 := by omega
        have HOL := Lib.hid hol; clear hol
        generalize xs[k] = p at *
        generalize ys[k] = q at *
        go_wp2_with (at_builtin; refine wpList_append_int rfl _ _ rfl w.heap.size _ _ rfl hown _ rfl (by omega) (by omega) ?_; intro v' w2 hown2 hbl2)
        have HB2 := Lib.hid hbl2; clear hbl2
        go_roundw
        case rel => exact ⟨k + 1, (p + 9 - q + x) / 10, out ++ [(p + 9 - q + x) % 10], by omega, by go_num, rfl, by omega, by omega, by rw [List.length_append, HOL.out]; rfl, HST.out, hown2, HBL.out.trans HB2.out⟩
        case measure => simp [intOf] <;> omega
      · have HBL := Lib.hid hbl; clear hbl
        go_wp2
        go_ret2
        obtain rfl : k = xs.length := by omega
        have h := HSUB.out
        rw [List.drop_length] at h
        have e : out = plcd (valL 10 xs + valL 10 (nines ys) + 1) 10 xs.length := by
          rw [← HSC.out, ← h]; simp [subC]
        rw [← e]
        obtain ⟨a9, c9, rfl, ho9⟩ := hown.own
        exact ⟨a9, c9, rfl, ho9, HBL.out⟩
set_option maxHeartbeats 2000000 in
theorem law_FnExactSubtractByNines (arods : Option Addr) (lrods crods : Nat) (zrods : List Int) (aother : Option Addr) (lother cother : Nat) (zother : List Int) (w : World) (frods : IsRow .i64 w arods lrods crods zrods) (fother : IsRow .i64 w aother lother cother zother) :
    Calls Try.prog 10 #[.slice arods lrods crods, .slice aother lother cother] w fun e w' => e = .returned (.bool true) ∧ Below w.heap.size w w' := by
  obtain ⟨rods, rfl, hxrods⟩ := frods.op
  have HXrods := Lib.hid hxrods; clear hxrods frods
  obtain ⟨other, rfl, hxother⟩ := fother.op
  have HXother := Lib.hid hxother; clear hxother fother
  by_cases hbigrods : 1048576 < rods.length
  · go_enter Try.func10, Try.ntmps10
    go_wp2_with fail
    go_ret
    exact ⟨rfl, Below.refl _ _⟩
  by_cases hbigother : 1048576 < other.length
  · go_enter Try.func10, Try.ntmps10
    go_wp2_with fail
    go_ret
    exact ⟨rfl, Below.refl _ _⟩
  have hlen : (subR rods other).length ≤ 1152921504606846976 := by have := subR_len rods other; omega
  have HLEN := Lib.hid hlen; clear hlen
  have hsrods : rods.length ≤ 1048576 := by omega
  have hsother : other.length ≤ 1048576 := by omega
  clear hbigrods
  clear hbigother
  have HB0 : Hid (Below w.heap.size w w) := Below.refl _ _
  go_enter Try.func10, Try.ntmps10
  go_wp2_with fail
  refine (toIntS_any _ _ rods _ ((HXrods.out.below HB0.out).mono (by omega)) (by omega)).mono ?_
  rintro e w1 ⟨atrods, ctrods, rfl, ho, hb⟩
  have hu := Below.upd hb
  have HNtrods : Hid (OwnR w1 w.heap.size w1.heap.size atrods ctrods (rods)) := OwnI.ownR ho
  clear ho hb
  have hs1 := hu.size
  have HB1 : Hid (Below w.heap.size w w1) := HB0.out.trans (hu.below (by omega) (by omega))
  clear hu
  have HOtrods1 := HNtrods; clear HNtrods
  go_wp2_with fail
  refine (toIntS_any _ _ other _ ((HXother.out.below HB1.out).mono (by omega)) (by omega)).mono ?_
  rintro e w2 ⟨atother, ctother, rfl, ho, hb⟩
  have hu := Below.upd hb
  have HNtother : Hid (OwnR w2 w1.heap.size w2.heap.size atother ctother (other)) := OwnI.ownR ho
  clear ho hb
  have hs2 := hu.size
  have HB2 : Hid (Below w.heap.size w w2) := HB1.out.trans (hu.below (by omega) (by omega))
  have HOtrods2 : Hid (OwnR w2 w.heap.size w1.heap.size atrods ctrods (rods)) := HOtrods1.out.upd hu (by omega); clear HOtrods1
  clear hu
  have HOtother2 := HNtother; clear HNtother
  go_wp2_with fail
  refine (sSubtractByNines_any _ _ _ _ rods other _ (HOtrods2.out.ints) (HOtother2.out.ints)).mono ?_
  rintro e w3 ⟨aW, cW, rfl, ho, hb⟩
  have hu := Below.upd hb
  have HNW : Hid (OwnR w3 w2.heap.size w3.heap.size aW cW (subR rods other)) := OwnI.ownR ho
  clear ho hb
  have hs3 := hu.size
  have HB3 : Hid (Below w.heap.size w w3) := HB2.out.trans (hu.below (by omega) (by omega))
  have HOtrods3 : Hid (OwnR w3 w.heap.size w1.heap.size atrods ctrods (rods)) := HOtrods2.out.upd hu (by omega); clear HOtrods2
  have HOtother3 : Hid (OwnR w3 w1.heap.size w2.heap.size atother ctother (other)) := HOtother2.out.upd hu (by omega); clear HOtother2
  clear hu
  have HOW3 := HNW; clear HNW
  go_wp2_with fail
  refine (toIntS_any _ _ rods _ ((HXrods.out.below HB3.out).mono (by omega)) (by omega)).mono ?_
  rintro e w4 ⟨axrods, cxrods, rfl, ho, hb⟩
  have hu := Below.upd hb
  have HNxrods : Hid (OwnR w4 w3.heap.size w4.heap.size axrods cxrods (rods)) := OwnI.ownR ho
  clear ho hb
  have hs4 := hu.size
  have HB4 : Hid (Below w.heap.size w w4) := HB3.out.trans (hu.below (by omega) (by omega))
  have HOW4 : Hid (OwnR w4 w2.heap.size w3.heap.size aW cW (subR rods other)) := HOW3.out.upd hu (by omega); clear HOW3
  clear hu
  have HOxrods4 := HNxrods; clear HNxrods
  go_wp2_with fail
  refine (toIntS_any _ _ other _ ((HXother.out.below HB4.out).mono (by omega)) (by omega)).mono ?_
  rintro e w5 ⟨axother, cxother, rfl, ho, hb⟩
  have hu := Below.upd hb
  have HNxother : Hid (OwnR w5 w4.heap.size w5.heap.size axother cxother (other)) := OwnI.ownR ho
  clear ho hb
  have hs5 := hu.size
  have HB5 : Hid (Below w.heap.size w w5) := HB4.out.trans (hu.below (by omega) (by omega))
  have HOW5 : Hid (OwnR w5 w2.heap.size w3.heap.size aW cW (subR rods other)) := HOW4.out.upd hu (by omega); clear HOW4
  have HOxrods5 : Hid (OwnR w5 w3.heap.size w4.heap.size axrods cxrods (rods)) := HOxrods4.out.upd hu (by omega); clear HOxrods4
  clear hu
  have HOxother5 := HNxother; clear HNxother
  go_wp2_with fail
  refine (SubtractByNines_any _ _ _ _ rods other _ (HOxrods5.out.ints) (HOxother5.out.ints)).mono ?_
  rintro e w6 ⟨aG, cG, rfl, ho, hb⟩
  have hu := Below.upd hb
  have HNG : Hid (OwnR w6 w5.heap.size w6.heap.size aG cG (subR rods other)) := OwnI.ownR ho
  clear ho hb
  have hs6 := hu.size
  have HB6 : Hid (Below w.heap.size w w6) := HB5.out.trans (hu.below (by omega) (by omega))
  have HOW6 : Hid (OwnR w6 w2.heap.size w3.heap.size aW cW (subR rods other)) := HOW5.out.upd hu (by omega); clear HOW5
  have HOxrods6 : Hid (OwnR w6 w3.heap.size w4.heap.size axrods cxrods (rods)) := HOxrods5.out.upd hu (by omega); clear HOxrods5
  have HOxother6 : Hid (OwnR w6 w4.heap.size w5.heap.size axother cxother (other)) := HOxother5.out.upd hu (by omega); clear HOxother5
  clear hu
  have HOG6 := HNG; clear HNG
  go_wp2_with fail
  refine (eqIntS_same _ _ _ _ (subR rods other) _ (HOG6.out.ints) (HOW6.out.ints)).mono ?_
  rintro e w7 ⟨rfl, hb⟩
  have hu := Below.upd hb; clear hb
  have hs7 := hu.size
  have HB7 : Hid (Below w.heap.size w w7) := HB6.out.trans (hu.below (by omega) (by omega))
  have HOW7 : Hid (OwnR w7 w2.heap.size w3.heap.size aW cW (subR rods other)) := HOW6.out.upd hu (by omega); clear HOW6
  have HOxrods7 : Hid (OwnR w7 w3.heap.size w4.heap.size axrods cxrods (rods)) := HOxrods6.out.upd hu (by omega); clear HOxrods6
  have HOxother7 : Hid (OwnR w7 w4.heap.size w5.heap.size axother cxother (other)) := HOxother6.out.upd hu (by omega); clear HOxother6
  have HOG7 : Hid (OwnR w7 w5.heap.size w6.heap.size aG cG (subR rods other)) := HOG6.out.upd hu (by omega); clear HOG6
  clear hu
  go_wp2_with fail
  refine (toIntS_any _ _ rods _ ((HXrods.out.below HB7.out).mono (by omega)) (by omega)).mono ?_
  rintro e w8 ⟨ayrods, cyrods, rfl, ho, hb⟩
  have hu := Below.upd hb
  have HNyrods : Hid (OwnR w8 w7.heap.size w8.heap.size ayrods cyrods (rods)) := OwnI.ownR ho
  clear ho hb
  have hs8 := hu.size
  have HB8 : Hid (Below w.heap.size w w8) := HB7.out.trans (hu.below (by omega) (by omega))
  have HOW8 : Hid (OwnR w8 w2.heap.size w3.heap.size aW cW (subR rods other)) := HOW7.out.upd hu (by omega); clear HOW7
  have HOxrods8 : Hid (OwnR w8 w3.heap.size w4.heap.size axrods cxrods (rods)) := HOxrods7.out.upd hu (by omega); clear HOxrods7
  have HOxother8 : Hid (OwnR w8 w4.heap.size w5.heap.size axother cxother (other)) := HOxother7.out.upd hu (by omega); clear HOxother7
  have HOG8 : Hid (OwnR w8 w5.heap.size w6.heap.size aG cG (subR rods other)) := HOG7.out.upd hu (by omega); clear HOG7
  clear hu
  have HOyrods8 := HNyrods; clear HNyrods
  go_wp2_with fail
  refine (eqIntS_same _ _ _ _ (rods) _ (HOxrods8.out.ints) (HOyrods8.out.ints)).mono ?_
  rintro e w9 ⟨rfl, hb⟩
  have hu := Below.upd hb; clear hb
  have hs9 := hu.size
  have HB9 : Hid (Below w.heap.size w w9) := HB8.out.trans (hu.below (by omega) (by omega))
  have HOW9 : Hid (OwnR w9 w2.heap.size w3.heap.size aW cW (subR rods other)) := HOW8.out.upd hu (by omega); clear HOW8
  have HOxrods9 : Hid (OwnR w9 w3.heap.size w4.heap.size axrods cxrods (rods)) := HOxrods8.out.upd hu (by omega); clear HOxrods8
  have HOxother9 : Hid (OwnR w9 w4.heap.size w5.heap.size axother cxother (other)) := HOxother8.out.upd hu (by omega); clear HOxother8
  have HOG9 : Hid (OwnR w9 w5.heap.size w6.heap.size aG cG (subR rods other)) := HOG8.out.upd hu (by omega); clear HOG8
  have HOyrods9 : Hid (OwnR w9 w7.heap.size w8.heap.size ayrods cyrods (rods)) := HOyrods8.out.upd hu (by omega); clear HOyrods8
  clear hu
  go_wp2_with fail
  refine (toIntS_any _ _ other _ ((HXother.out.below HB9.out).mono (by omega)) (by omega)).mono ?_
  rintro e w10 ⟨ayother, cyother, rfl, ho, hb⟩
  have hu := Below.upd hb
  have HNyother : Hid (OwnR w10 w9.heap.size w10.heap.size ayother cyother (other)) := OwnI.ownR ho
  clear ho hb
  have hs10 := hu.size
  have HB10 : Hid (Below w.heap.size w w10) := HB9.out.trans (hu.below (by omega) (by omega))
  have HOW10 : Hid (OwnR w10 w2.heap.size w3.heap.size aW cW (subR rods other)) := HOW9.out.upd hu (by omega); clear HOW9
  have HOxrods10 : Hid (OwnR w10 w3.heap.size w4.heap.size axrods cxrods (rods)) := HOxrods9.out.upd hu (by omega); clear HOxrods9
  have HOxother10 : Hid (OwnR w10 w4.heap.size w5.heap.size axother cxother (other)) := HOxother9.out.upd hu (by omega); clear HOxother9
  have HOG10 : Hid (OwnR w10 w5.heap.size w6.heap.size aG cG (subR rods other)) := HOG9.out.upd hu (by omega); clear HOG9
  clear hu
  have HOyother10 := HNyother; clear HNyother
  go_wp2_with fail
  refine (eqIntS_same _ _ _ _ (other) _ (HOxother10.out.ints) (HOyother10.out.ints)).mono ?_
  rintro e w11 ⟨rfl, hb⟩
  have hu := Below.upd hb; clear hb
  have hs11 := hu.size
  have HB11 : Hid (Below w.heap.size w w11) := HB10.out.trans (hu.below (by omega) (by omega))
  have HOW11 : Hid (OwnR w11 w2.heap.size w3.heap.size aW cW (subR rods other)) := HOW10.out.upd hu (by omega); clear HOW10
  have HOxrods11 : Hid (OwnR w11 w3.heap.size w4.heap.size axrods cxrods (rods)) := HOxrods10.out.upd hu (by omega); clear HOxrods10
  have HOxother11 : Hid (OwnR w11 w4.heap.size w5.heap.size axother cxother (other)) := HOxother10.out.upd hu (by omega); clear HOxother10
  have HOG11 : Hid (OwnR w11 w5.heap.size w6.heap.size aG cG (subR rods other)) := HOG10.out.upd hu (by omega); clear HOG10
  have HOyother11 : Hid (OwnR w11 w9.heap.size w10.heap.size ayother cyother (other)) := HOyother10.out.upd hu (by omega); clear HOyother10
  clear hu
  go_wp2_with fail
  refine (markR_any w3.heap.size w4.heap.size _ _ (rods) (1) _ HOxrods11.out (by omega) (by first | omega | (have := HLEN.out; omega))).mono ?_
  rintro e w12 ⟨rfl, ho, hu⟩
  have HNxrods : Hid (OwnR w12 w3.heap.size w4.heap.size axrods cxrods (marks (1) (rods).length)) := ho
  clear ho
  have hs12 := hu.size
  have HB12 : Hid (Below w.heap.size w w12) := HB11.out.trans (hu.below (by omega) (by omega))
  have HOW12 : Hid (OwnR w12 w2.heap.size w3.heap.size aW cW (subR rods other)) := HOW11.out.upd hu (by omega); clear HOW11
  have HOxother12 : Hid (OwnR w12 w4.heap.size w5.heap.size axother cxother (other)) := HOxother11.out.upd hu (by omega); clear HOxother11
  have HOG12 : Hid (OwnR w12 w5.heap.size w6.heap.size aG cG (subR rods other)) := HOG11.out.upd hu (by omega); clear HOG11
  clear hu
  have HOxrods12 := HNxrods; clear HNxrods
  have hprods : (0 : Int) ≤ 1 + (rods.length : Int) := by omega
  go_wp2_with fail
  refine (markR_any w4.heap.size w5.heap.size _ _ (other) (1 + (rods.length : Int)) _ HOxother12.out (by omega) (by first | omega | (have := HLEN.out; omega))).mono ?_
  rintro e w13 ⟨rfl, ho, hu⟩
  have HNxother : Hid (OwnR w13 w4.heap.size w5.heap.size axother cxother (marks (1 + (rods.length : Int)) (other).length)) := ho
  clear ho
  have hs13 := hu.size
  have HB13 : Hid (Below w.heap.size w w13) := HB12.out.trans (hu.below (by omega) (by omega))
  have HOW13 : Hid (OwnR w13 w2.heap.size w3.heap.size aW cW (subR rods other)) := HOW12.out.upd hu (by omega); clear HOW12
  have HOG13 : Hid (OwnR w13 w5.heap.size w6.heap.size aG cG (subR rods other)) := HOG12.out.upd hu (by omega); clear HOG12
  clear hu
  have HOxother13 := HNxother; clear HNxother
  have hpother : (0 : Int) ≤ 1 + (rods.length : Int) + (other.length : Int) := by omega
  go_wp2_with fail
  refine (eqIntS_same _ _ _ _ (subR rods other) _ (HOG13.out.ints) (HOW13.out.ints)).mono ?_
  rintro e w14 ⟨rfl, hb⟩
  have hu := Below.upd hb; clear hb
  have hs14 := hu.size
  have HB14 : Hid (Below w.heap.size w w14) := HB13.out.trans (hu.below (by omega) (by omega))
  have HOW14 : Hid (OwnR w14 w2.heap.size w3.heap.size aW cW (subR rods other)) := HOW13.out.upd hu (by omega); clear HOW13
  have HOG14 : Hid (OwnR w14 w5.heap.size w6.heap.size aG cG (subR rods other)) := HOG13.out.upd hu (by omega); clear HOG13
  clear hu
  go_wp2_with fail
  refine (markR_any w5.heap.size w6.heap.size _ _ (subR rods other) (1) _ HOG14.out (by omega) (by first | omega | (have := HLEN.out; omega))).mono ?_
  rintro e w15 ⟨rfl, ho, hu⟩
  have HNG : Hid (OwnR w15 w5.heap.size w6.heap.size aG cG (marks (1) (subR rods other).length)) := ho
  clear ho
  have hs15 := hu.size
  have HB15 : Hid (Below w.heap.size w w15) := HB14.out.trans (hu.below (by omega) (by omega))
  have HOW15 : Hid (OwnR w15 w2.heap.size w3.heap.size aW cW (subR rods other)) := HOW14.out.upd hu (by omega); clear HOW14
  clear hu
  have HOG15 := HNG; clear HNG
  have hp1 : (0 : Int) ≤ 1 + ((subR rods other).length : Int) := by omega
  go_wp2_with fail
  refine (heldIntS_any _ _ (1) (subR rods other).length _ (HOG15.out.ints) (by omega) (by first | omega | (have := HLEN.out; omega))).mono ?_
  rintro e w' ⟨rfl, rfl⟩
  go_wp2_with fail
  refine (toIntS_any _ _ rods _ ((HXrods.out.below HB15.out).mono (by omega)) (by omega)).mono ?_
  rintro e w16 ⟨azrods, czrods, rfl, ho, hb⟩
  have hu := Below.upd hb
  have HNzrods : Hid (OwnR w16 w15.heap.size w16.heap.size azrods czrods (rods)) := OwnI.ownR ho
  clear ho hb
  have hs16 := hu.size
  have HB16 : Hid (Below w.heap.size w w16) := HB15.out.trans (hu.below (by omega) (by omega))
  have HOW16 : Hid (OwnR w16 w2.heap.size w3.heap.size aW cW (subR rods other)) := HOW15.out.upd hu (by omega); clear HOW15
  have HOG16 : Hid (OwnR w16 w5.heap.size w6.heap.size aG cG (marks (1) (subR rods other).length)) := HOG15.out.upd hu (by omega); clear HOG15
  clear hu
  have HOzrods16 := HNzrods; clear HNzrods
  go_wp2_with fail
  refine (toIntS_any _ _ other _ ((HXother.out.below HB16.out).mono (by omega)) (by omega)).mono ?_
  rintro e w17 ⟨azother, czother, rfl, ho, hb⟩
  have hu := Below.upd hb
  have HNzother : Hid (OwnR w17 w16.heap.size w17.heap.size azother czother (other)) := OwnI.ownR ho
  clear ho hb
  have hs17 := hu.size
  have HB17 : Hid (Below w.heap.size w w17) := HB16.out.trans (hu.below (by omega) (by omega))
  have HOW17 : Hid (OwnR w17 w2.heap.size w3.heap.size aW cW (subR rods other)) := HOW16.out.upd hu (by omega); clear HOW16
  have HOG17 : Hid (OwnR w17 w5.heap.size w6.heap.size aG cG (marks (1) (subR rods other).length)) := HOG16.out.upd hu (by omega); clear HOG16
  have HOzrods17 : Hid (OwnR w17 w15.heap.size w16.heap.size azrods czrods (rods)) := HOzrods16.out.upd hu (by omega); clear HOzrods16
  clear hu
  have HOzother17 := HNzother; clear HNzother
  go_wp2_with fail
  refine (SubtractByNines_any _ _ _ _ rods other _ (HOzrods17.out.ints) (HOzother17.out.ints)).mono ?_
  rintro e w18 ⟨aH, cH, rfl, ho, hb⟩
  have hu := Below.upd hb
  have HNH : Hid (OwnR w18 w17.heap.size w18.heap.size aH cH (subR rods other)) := OwnI.ownR ho
  clear ho hb
  have hs18 := hu.size
  have HB18 : Hid (Below w.heap.size w w18) := HB17.out.trans (hu.below (by omega) (by omega))
  have HOW18 : Hid (OwnR w18 w2.heap.size w3.heap.size aW cW (subR rods other)) := HOW17.out.upd hu (by omega); clear HOW17
  have HOG18 : Hid (OwnR w18 w5.heap.size w6.heap.size aG cG (marks (1) (subR rods other).length)) := HOG17.out.upd hu (by omega); clear HOG17
  have HOzrods18 : Hid (OwnR w18 w15.heap.size w16.heap.size azrods czrods (rods)) := HOzrods17.out.upd hu (by omega); clear HOzrods17
  have HOzother18 : Hid (OwnR w18 w16.heap.size w17.heap.size azother czother (other)) := HOzother17.out.upd hu (by omega); clear HOzother17
  clear hu
  have HOH18 := HNH; clear HNH
  go_wp2_with fail
  refine (eqIntS_same _ _ _ _ (subR rods other) _ (HOH18.out.ints) (HOW18.out.ints)).mono ?_
  rintro e w19 ⟨rfl, hb⟩
  have hu := Below.upd hb; clear hb
  have hs19 := hu.size
  have HB19 : Hid (Below w.heap.size w w19) := HB18.out.trans (hu.below (by omega) (by omega))
  have HOW19 : Hid (OwnR w19 w2.heap.size w3.heap.size aW cW (subR rods other)) := HOW18.out.upd hu (by omega); clear HOW18
  have HOG19 : Hid (OwnR w19 w5.heap.size w6.heap.size aG cG (marks (1) (subR rods other).length)) := HOG18.out.upd hu (by omega); clear HOG18
  have HOH19 : Hid (OwnR w19 w17.heap.size w18.heap.size aH cH (subR rods other)) := HOH18.out.upd hu (by omega); clear HOH18
  clear hu
  go_wp2_with fail
  refine (heldIntS_any _ _ (1) (subR rods other).length _ (HOG19.out.ints) (by omega) (by first | omega | (have := HLEN.out; omega))).mono ?_
  rintro e w' ⟨rfl, rfl⟩
  go_wp2_with fail
  go_ret
  exact ⟨rfl, HB19.out⟩

end Go.Proofs.Ythppnjalfppmhaa
