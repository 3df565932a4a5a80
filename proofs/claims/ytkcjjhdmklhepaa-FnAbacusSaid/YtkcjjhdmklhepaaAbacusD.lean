/- Bead moves and the subtraction by nines: program and reference. Conditions: those of each contract. -/
import Derived.Test.YtkcjjhdmklhepaaAbacusC
namespace Go.Proofs.Ytkcjjhdmklhepaa
set_option linter.unusedVariables false
open Go.RowKit

theorem OwnI.base {w : World} {B B' : Nat} {a : Option Addr} {cap : Nat} {xs : List Int} (h : OwnI w B a cap xs) (hB : B' ≤ B) : OwnI w B' a cap xs := by
  rcases h.2 with ⟨hv, hn⟩ | ⟨g, cap', cur, hv, hg, r⟩
  · exact ⟨h.1, Or.inl ⟨hv, hn⟩⟩
  · exact ⟨h.1, Or.inr ⟨g, cap', cur, hv, by omega, r⟩⟩

/-! bead moves -/
def bead (x y : Int) : Int := max (x / 5 - y / 5) (-(x / 5 - y / 5)) + max (x % 5 - y % 5) (-(x % 5 - y % 5))
def beadS : List Int → List Int → Int
  | x :: xs, y :: ys => bead x y + beadS xs ys
  | _, _ => 0
theorem bead_bd (x y : Int) (h1 : 0 ≤ x ∧ x < 10) (h2 : 0 ≤ y ∧ y < 10) : 0 ≤ bead x y ∧ bead x y ≤ 5 := by unfold bead; omega
theorem beadS_next : ∀ (xs ys : List Int) (k : Nat) (h1 : k < xs.length) (h2 : k < ys.length), beadS (xs.take (k + 1)) (ys.take (k + 1)) = beadS (xs.take k) (ys.take k) + bead xs[k] ys[k] := by
  intro xs
  induction xs with
  | nil => intro ys k h1; simp at h1
  | cons x xs ih =>
    intro ys k h1 h2
    cases ys with
    | nil => simp at h2
    | cons y ys =>
      cases k with
      | zero => simp [beadS]
      | succ k =>
        have := ih ys k (by simpa using h1) (by simpa using h2)
        simp only [List.take_succ_cons, beadS, List.getElem_cons_succ]
        omega
theorem beadS_take_bd (xs ys : List Int) (h1 : ∀ d ∈ xs, 0 ≤ d ∧ d < 10) (h2 : ∀ d ∈ ys, 0 ≤ d ∧ d < 10) (he : xs.length = ys.length) (k : Nat) (hk : k ≤ xs.length) :
    0 ≤ beadS (xs.take k) (ys.take k) ∧ beadS (xs.take k) (ys.take k) ≤ 5 * k := by
  induction k with
  | zero => simp [beadS]
  | succ k ih =>
    rw [beadS_next xs ys k (by omega) (by omega)]
    have := bead_bd xs[k] ys[k] (h1 _ (List.getElem_mem _)) (h2 _ (List.getElem_mem _))
    have := ih (by omega)
    omega
def twoOk (xs ys : List Int) : Bool := abOk xs && (abOk ys && (xs.length == ys.length))
theorem twoOk_t {xs ys : List Int} (h : twoOk xs ys = true) : abOk xs = true ∧ abOk ys = true ∧ xs.length = ys.length := by
  simp only [twoOk, Bool.and_eq_true, beq_iff_eq] at h
  exact h
def beadR (xs ys : List Int) : Int := if twoOk xs ys then beadS xs ys else -1
theorem len_ne {m n : Nat} (h : (m == n) = false) : ((m : Int) != (n : Int)) = true := by
  rw [bne_iff_ne]; rw [beq_eq_false_iff_ne] at h; omega
theorem len_eq {m n : Nat} (h : m = n) : ((m : Int) != (n : Int)) = false := by subst h; simp
set_option maxHeartbeats 1000000 in
theorem BeadMoves_any (a a' : Option Addr) (cap cap' : Nat) (xs ys : List Int) (w : World) (hx : Ints w w.heap.size a cap xs) (hy : Ints w w.heap.size a' cap' ys) :
    Calls Try.prog 33 #[.slice a xs.length cap, .slice a' ys.length cap'] w fun e w' => e = .returned (.int .i64 (beadR xs ys)) ∧ Below w.heap.size w w' := by
  have HX := Lib.hid hx
  have HY := Lib.hid hy
  cases hc1 : abOk xs
  · have HF : Hid (beadR xs ys = -1) := by show _ = _; simp [beadR, twoOk, hc1]
    clear hx hy
    go_enter Try.func33, Try.ntmps33
    go_wp2_with fail
    refine (AbacusOk_any _ _ _ _ HX.out).mono ?_
    rintro e w1 ⟨rfl, hb⟩
    have HB := Lib.hid hb; clear hb
    go_wp2_with fail
    go_ret
    exact ⟨by rw [HF.out] <;> rfl, HB.out⟩
  cases hc2 : abOk ys
  · have HF : Hid (beadR xs ys = -1) := by show _ = _; simp [beadR, twoOk, hc1, hc2]
    clear hx hy
    go_enter Try.func33, Try.ntmps33
    go_wp2_with fail
    refine (AbacusOk_any _ _ _ _ HX.out).mono ?_
    rintro e w1 ⟨rfl, hb⟩
    have hs := hb.size
    have HB := Lib.hid hb; clear hb
    go_wp2_with fail
    refine (AbacusOk_any _ _ _ _ ((HY.out.below HB.out).mono hs)).mono ?_
    rintro e w2 ⟨rfl, hb⟩
    have HB2 := Lib.hid hb; clear hb
    go_wp2_with fail
    go_ret
    exact ⟨by rw [HF.out] <;> rfl, HB.out.trans (HB2.out.mono hs)⟩
  cases hc3 : (xs.length == ys.length)
  · have HF : Hid (beadR xs ys = -1) := by show _ = _; simp only [beadR, twoOk, hc1, hc2, hc3]; rfl
    have hne := len_ne hc3
    have hl1 := hx.len; have hl2 := hy.len
    clear hx hy hc3
    go_enter Try.func33, Try.ntmps33
    go_wp2_with fail
    refine (AbacusOk_any _ _ _ _ HX.out).mono ?_
    rintro e w1 ⟨rfl, hb⟩
    have hs := hb.size
    have HB := Lib.hid hb; clear hb
    go_wp2_with fail
    refine (AbacusOk_any _ _ _ _ ((HY.out.below HB.out).mono hs)).mono ?_
    rintro e w2 ⟨rfl, hb⟩
    have HB2 := Lib.hid hb; clear hb
    go_wp2_with fail
    go_ret
    exact ⟨by rw [HF.out] <;> rfl, HB.out.trans (HB2.out.mono hs)⟩
  have heq : xs.length = ys.length := by simpa using hc3
  have HF : Hid (beadR xs ys = beadS xs ys) := by show _ = _; simp only [beadR, twoOk, hc1, hc2, hc3]; rfl
  have hne := len_eq heq
  obtain ⟨t1, t2, t3⟩ := abOk_t hc1
  obtain ⟨-, -, t6⟩ := abOk_t hc2
  have HBD := Lib.hid (beadS_take_bd xs ys t3 t6 heq)
  have T3 := Lib.hid t3; have T6 := Lib.hid t6
  obtain ⟨-, -, b, off, ha, hc⟩ := hx
  obtain ⟨-, -, b', off', ha', hc'⟩ := hy
  have Ha := Lib.hid ha; have Hc := Lib.hid hc; have Ha' := Lib.hid ha'; have Hc' := Lib.hid hc'
  have HEQ := Lib.hid heq
  clear ha hc ha' hc' t3 t6 hc3 heq
  go_enter Try.func33, Try.ntmps33
  go_wp2_with fail
  refine (AbacusOk_any _ _ _ _ HX.out).mono ?_
  rintro e w1 ⟨rfl, hb⟩
  have hs := hb.size
  have HB := Lib.hid hb; clear hb
  go_wp2_with fail
  refine (AbacusOk_any _ _ _ _ ((HY.out.below HB.out).mono hs)).mono ?_
  rintro e w2 ⟨rfl, hb⟩
  have hs2 := hb.size
  have HB2 : Hid (Below w.heap.size w w2) := HB.out.trans (hb.mono hs)
  clear hb HB
  go_wp2_with fail
  clear hc1 hc2 hne
  go_loopw [5, 27] (fun m i wr => ∃ k : Nat, k ≤ xs.length ∧ i = .int .i64 k ∧ m = .int .i64 (beadS (xs.take k) (ys.take k)) ∧ Below w.heap.size w wr) (fun _ i _ => xs.length - (intOf i).toNat)
  case atStart => exact ⟨0, Nat.zero_le _, rfl, rfl, HB2.out⟩
  case round =>
    obtain ⟨k, hk, rfl, rfl, hbl⟩ := hrel
    obtain ⟨hm1, hm2⟩ := HBD.out k hk
    by_cases hlt : k < xs.length
    · obtain ⟨rfl, hb1⟩ := Ha.out (by omega)
      have hlt' : k < ys.length := by have := HEQ.out; omega
      obtain ⟨rfl, hb2⟩ := Ha'.out (by omega)
      have hcx := (hbl.cell (p := ⟨b, off + k, none⟩) hb1).trans (Hc.out k hlt)
      have hcy := (hbl.cell (p := ⟨b', off' + k, none⟩) hb2).trans (Hc'.out k hlt')
      obtain ⟨hx0, hx1⟩ := T3.out xs[k] (List.getElem_mem hlt)
      obtain ⟨hy0, hy1⟩ := T6.out ys[k] (List.getElem_mem hlt')
      have HN := Lib.hid (beadS_next xs ys k hlt hlt')
      have g1 : (0 : Int) ≤ (k : Int) := by omega
      have g2 : (k : Int) < (xs.length : Int) := by omega
      have g3 : (k : Int) < (ys.length : Int) := by omega
      have HBL := Lib.hid hbl; clear hbl
      generalize xs[k] = p at *
      generalize ys[k] = q at *
      generalize beadS (xs.take k) (ys.take k) = m at *
      go_wp2
      go_quiet (fail)
      go_wp2
      all_goals
        go_roundw
        case rel => exact ⟨k + 1, by omega, by go_num, by rw [HN.out]; unfold bead; go_num, below_drewN HBL.out _⟩
        case measure => simp [intOf] <;> omega
    · have HBL := Lib.hid hbl; clear hbl
      go_wp2
      go_ret
      obtain rfl : k = xs.length := by omega
      have h1 : ys.take xs.length = ys := by rw [HEQ.out, List.take_length]
      exact ⟨by rw [HF.out, List.take_length, h1] <;> rfl, HBL.out⟩
/-! subtraction by nines -/
def subC : List Int → List Int → Int → List Int
  | x :: xs, y :: ys, c => ((x + 9 - y + c) % 10) :: subC xs ys ((x + 9 - y + c) / 10)
  | _, _, _ => []
theorem subC_plcd : ∀ (xs ys : List Int) (c : Int), xs.length = ys.length → subC xs ys c = plcd (valL 10 xs + valL 10 (nines ys) + c) 10 xs.length := by
  intro xs
  induction xs with
  | nil => intro ys c h; cases ys with
    | nil => rfl
    | cons y ys => simp at h
  | cons x xs ih =>
    intro ys c h
    cases ys with
    | nil => simp at h
    | cons y ys =>
      have e := ih ys ((x + 9 - y + c) / 10) (by simpa using h)
      simp only [subC, List.length_cons, plcd, nines, List.map_cons, valL] at e ⊢
      rw [e]
      congr 1
      · omega
      · congr 1
        omega
def subOk (xs ys : List Int) : Bool := twoOk xs ys && !(decide (valL 10 xs < valL 10 ys))
def subR (xs ys : List Int) : List Int := if subOk xs ys then plcd (valL 10 xs + valL 10 (nines ys) + 1) 10 xs.length else []
theorem subR_len (xs ys : List Int) : (subR xs ys).length ≤ xs.length := by unfold subR; split <;> simp [plcd_length]
theorem nines_mem {xs : List Int} (h : ∀ d ∈ xs, 0 ≤ d ∧ d < 10) : ∀ d ∈ nines xs, 0 ≤ d ∧ d < 10 := by
  intro d hd
  simp only [nines, List.mem_map] at hd
  obtain ⟨x, hx, rfl⟩ := hd
  have := h x hx
  omega
set_option maxHeartbeats 1000000 in
theorem SubtractByNines_any (a a' : Option Addr) (cap cap' : Nat) (xs ys : List Int) (w : World) (hx : Ints w w.heap.size a cap xs) (hy : Ints w w.heap.size a' cap' ys) :
    Calls Try.prog 37 #[.slice a xs.length cap, .slice a' ys.length cap'] w (RetIB w (subR xs ys) (subOk xs ys)) := by
  have hl1 := hx.len; have hl2 := hy.len
  have HX := Lib.hid hx
  have HY := Lib.hid hy
  clear hx hy
  cases hc1 : abOk xs
  · have hso : subOk xs ys = false := by simp [subOk, twoOk, hc1]
    have HF : Hid (subR xs ys = []) := by show _ = _; simp [subR, hso]
    rw [HF.out, hso]; clear hso
    go_enter Try.func37, Try.ntmps37
    go_wp2_with fail
    refine (AbacusOk_any _ _ _ _ HX.out).mono ?_
    rintro e w1 ⟨rfl, hb⟩
    have HB := Lib.hid hb; clear hb
    go_wp2_with fail
    go_ret2
    exact ⟨none, 0, rfl, OwnV.nil _ _, HB.out⟩
  cases hc2 : abOk ys
  · have hso : subOk xs ys = false := by simp [subOk, twoOk, hc1, hc2]
    have HF : Hid (subR xs ys = []) := by show _ = _; simp [subR, hso]
    rw [HF.out, hso]; clear hso
    go_enter Try.func37, Try.ntmps37
    go_wp2_with fail
    refine (AbacusOk_any _ _ _ _ HX.out).mono ?_
    rintro e w1 ⟨rfl, hb⟩
    have hs := hb.size
    have HB := Lib.hid hb; clear hb
    go_wp2_with fail
    refine (AbacusOk_any _ _ _ _ ((HY.out.below HB.out).mono hs)).mono ?_
    rintro e w2 ⟨rfl, hb⟩
    have HB2 := Lib.hid hb; clear hb
    go_wp2_with fail
    go_ret2
    exact ⟨none, 0, rfl, OwnV.nil _ _, HB.out.trans (HB2.out.mono hs)⟩
  cases hc3 : (xs.length == ys.length)
  · have hso : subOk xs ys = false := by simp only [subOk, twoOk, hc1, hc2, hc3]; rfl
    have HF : Hid (subR xs ys = []) := by show _ = _; simp [subR, hso]
    rw [HF.out, hso]; clear hso
    have hne := len_ne hc3
    clear hc3
    go_enter Try.func37, Try.ntmps37
    go_wp2_with fail
    refine (AbacusOk_any _ _ _ _ HX.out).mono ?_
    rintro e w1 ⟨rfl, hb⟩
    have hs := hb.size
    have HB := Lib.hid hb; clear hb
    go_wp2_with fail
    refine (AbacusOk_any _ _ _ _ ((HY.out.below HB.out).mono hs)).mono ?_
    rintro e w2 ⟨rfl, hb⟩
    have HB2 := Lib.hid hb; clear hb
    go_wp2_with fail
    go_ret2
    exact ⟨none, 0, rfl, OwnV.nil _ _, HB.out.trans (HB2.out.mono hs)⟩
  have heq : xs.length = ys.length := by simpa using hc3
  have hne := len_eq heq
  obtain ⟨t1, t2, t3⟩ := abOk_t hc1
  obtain ⟨-, -, t6⟩ := abOk_t hc2
  have T3 := Lib.hid t3; have T6 := Lib.hid t6; have HEQ := Lib.hid heq
  have HP1 := Lib.hid (abOk_pow hc1); have HP2 := Lib.hid (abOk_pow hc2)
  have hv1 := valL_bd 10 (by omega) xs t3
  have hv2 := valL_bd 10 (by omega) ys t6
  have hv3 := valL_bd 10 (by omega) (nines ys) (nines_mem t6)
  have hq1 := HP1.out; have hq2 := HP2.out
  rw [nines_len] at hv3
  obtain ⟨v1, v2⟩ := hv1
  obtain ⟨v3, v4⟩ := hv2
  obtain ⟨v5, v6⟩ := hv3
  have v2' : valL 10 xs < 10000000000 := by omega
  have v4' : valL 10 ys < 10000000000 := by omega
  have v6' : valL 10 (nines ys) < 10000000000 := by omega
  clear v2 v4 v6 hq1 hq2 t3 t6 heq
  by_cases hlt : valL 10 xs < valL 10 ys
  · have hso : subOk xs ys = false := by simp only [subOk, decide_eq_true hlt, Bool.not_true, Bool.and_false]
    have HF : Hid (subR xs ys = []) := by show _ = _; simp [subR, hso]
    rw [HF.out, hso]; clear hso hc3
    go_enter Try.func37, Try.ntmps37
    go_wp2_with fail
    refine (AbacusOk_any _ _ _ _ HX.out).mono ?_
    rintro e w1 ⟨rfl, hb⟩
    have hs := hb.size
    have HB := Lib.hid hb; clear hb
    go_wp2_with fail
    refine (AbacusOk_any _ _ _ _ ((HY.out.below HB.out).mono hs)).mono ?_
    rintro e w2 ⟨rfl, hb⟩
    have hs2 := hb.size
    have HB2 : Hid (Below w.heap.size w w2) := HB.out.trans (hb.mono hs)
    clear hb
    go_wp2_with fail
    refine (valueOf_any _ _ xs 10 _ ((HX.out.below HB2.out).mono (by omega)) T3.out (by omega) (Int.le_trans HP1.out (by omega))).mono ?_
    rintro e w' ⟨rfl, rfl⟩
    go_wp2_with fail
    refine (valueOf_any _ _ ys 10 _ ((HY.out.below HB2.out).mono (by omega)) T6.out (by omega) (Int.le_trans HP2.out (by omega))).mono ?_
    rintro e w' ⟨rfl, rfl⟩
    go_wp2_with fail
    go_ret2
    exact ⟨none, 0, rfl, OwnV.nil _ _, HB2.out⟩
  · have hso : subOk xs ys = true := by simp only [subOk, twoOk, hc1, hc2, hc3, decide_eq_false hlt]; rfl
    have HF : Hid (subR xs ys = plcd (valL 10 xs + valL 10 (nines ys) + 1) 10 xs.length) := by show _ = _; simp [subR, hso]
    have HNR : Hid (ninesR ys = nines ys) := by show _ = _; simp [ninesR, hc2]
    have HNL := Lib.hid (nines_len ys)
    rw [HF.out, hso]; clear hso hc3
    go_enter Try.func37, Try.ntmps37
    go_wp2_with fail
    refine (AbacusOk_any _ _ _ _ HX.out).mono ?_
    rintro e w1 ⟨rfl, hb⟩
    have hs := hb.size
    have HB := Lib.hid hb; clear hb
    go_wp2_with fail
    refine (AbacusOk_any _ _ _ _ ((HY.out.below HB.out).mono hs)).mono ?_
    rintro e w2 ⟨rfl, hb⟩
    have hs2 := hb.size
    have HB2 : Hid (Below w.heap.size w w2) := HB.out.trans (hb.mono hs)
    clear hb
    go_wp2_with fail
    refine (valueOf_any _ _ xs 10 _ ((HX.out.below HB2.out).mono (by omega)) T3.out (by omega) (Int.le_trans HP1.out (by omega))).mono ?_
    rintro e w' ⟨rfl, rfl⟩
    go_wp2_with fail
    refine (valueOf_any _ _ ys 10 _ ((HY.out.below HB2.out).mono (by omega)) T6.out (by omega) (Int.le_trans HP2.out (by omega))).mono ?_
    rintro e w' ⟨rfl, rfl⟩
    go_wp2_with fail
    refine (valueOf_any _ _ xs 10 _ ((HX.out.below HB2.out).mono (by omega)) T3.out (by omega) (Int.le_trans HP1.out (by omega))).mono ?_
    rintro e w' ⟨rfl, rfl⟩
    go_wp2_with fail
    refine (NinesOf_any _ _ ys _ ((HY.out.below HB2.out).mono (by omega))).mono ?_
    rw [HNR.out]
    rintro e w3 ⟨a3, c3, rfl, ho, hb⟩
    have hs3 := hb.size
    have HO3 := Lib.hid ho
    have HB3 : Hid (Below w.heap.size w w3) := HB2.out.trans (hb.mono (by omega))
    clear hb ho
    go_wp2_with fail
    refine (valueOf_any _ _ (nines ys) 10 _ HO3.out.ints (nines_mem T6.out) (by omega) (by rw [HNL.out]; exact Int.le_trans HP2.out (by omega))).mono ?_
    rintro e w' ⟨rfl, rfl⟩
    go_wp2_with fail
    refine (placed_any _ 10 xs.length _ (by omega) (by omega) (by omega) (by omega) (by omega)).mono ?_
    rintro e w4 ⟨a4, c4, rfl, ho, hb⟩
    have HO4 := Lib.hid ho; have HB4 := Lib.hid hb; clear ho hb
    go_wp2_with fail
    go_ret2
    refine ⟨a4, c4, rfl, ?_, HB3.out.trans (HB4.out.mono (by omega))⟩
    exact HO4.out.base (by omega)

end Go.Proofs.Ytkcjjhdmklhepaa
