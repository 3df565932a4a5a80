/- What the machine of multiples, the machine without a digit and their joined machines answer: the plain law. Plain. Conditions: those of each lemma. -/
import Derived.Test.YtkapbhlnjmfaaaaDoorMulP
namespace Go.Proofs.YtkapbhlnjmfaaaaDoor
set_option linter.unusedVariables false
open Go.RowKit

theorem run_next {m : Ma} (hok : maOk m = true) (ds : List Int) (hd : ∀ d ∈ ds, 0 ≤ d ∧ d < m.base) :
    ∃ s : Nat, runM m ds = (s : Int) ∧ s < m.final.length := by
  obtain ⟨r1, r2⟩ := runM_bd hok ds hd
  exact ⟨(runM m ds).toNat, by omega, by omega⟩
theorem runM_cons (m : Ma) (d : Int) (ds : List Int) : runM m (d :: ds) = stepM m (runM m ds) d := rfl
/-- the run of a joined machine is the pair of the runs -/
theorem join_run {a c : Ma} (h : joinOk a c = true) (both : Bool) : ∀ ds : List Int, (∀ d ∈ ds, 0 ≤ d ∧ d < a.base) →
    ∃ s u : Nat, runM a ds = (s : Int) ∧ runM c ds = (u : Int) ∧ s < a.final.length ∧ u < c.final.length ∧ runM (joinM a c both) ds = ((s * c.final.length + u : Nat) : Int) := by
  obtain ⟨ha, hc, hb, hl⟩ := joinOk_p h
  obtain ⟨-, -, n1, -⟩ := maOk_t ha
  obtain ⟨-, -, n2, -⟩ := maOk_t hc
  have hj := joinM_ok h both
  intro ds
  induction ds with
  | nil => intro _; exact ⟨0, 0, rfl, rfl, by omega, by omega, by simp [runM]⟩
  | cons d ds ih =>
    intro hd
    obtain ⟨s, u, e1, e2, hs, hu, e3⟩ := ih (fun x hx => hd x (List.mem_cons_of_mem _ hx))
    obtain ⟨d0, d1⟩ := hd d (List.mem_cons_self ..)
    obtain ⟨y, rfl⟩ : ∃ y : Nat, d = (y : Int) := ⟨d.toNat, by omega⟩
    have hdn : y < a.base.toNat := by omega
    have f1 := nxM_eq ha s y hs hdn
    have f2 := nxM_eq hc u y hu (by rw [← hb]; exact hdn)
    have hl2 : (joinM a c both).final.length = a.final.length * c.final.length := fall_len a c both a.final.length
    have f3 := nxM_eq hj (s * c.final.length + u) y (by rw [hl2]; exact join_ix hs hu) hdn
    refine ⟨nxM a s y, nxM c u y, ?_, ?_, f1.2, f2.2, ?_⟩
    · rw [runM_cons, e1]; exact f1.1
    · rw [runM_cons, e2]; exact f2.1
    · rw [runM_cons, e3, ← join_nx h both s u y hs hu hdn]; exact f3.1
theorem join_finM {a c : Ma} (h : joinOk a c = true) (both : Bool) (n : Int) : finM (joinM a c both) n = jf both (finM a n) (finM c n) := by
  obtain ⟨ha, hc, hb, hl⟩ := joinOk_p h
  obtain ⟨q2, q10, -⟩ := maOk_t ha
  obtain ⟨s, u, e1, e2, hs, hu, e3⟩ := join_run h both (digs n a.base) (digs_mem n a.base q2)
  show finN (joinM a c both) (runM (joinM a c both) (digs n a.base)).toNat = jf both (finN a (runM a (digs n a.base)).toNat) (finN c (runM c (digs n c.base)).toNat)
  rw [← hb, e1, e2, e3, Int.toNat_natCast, Int.toNat_natCast, Int.toNat_natCast]
  exact join_fin both s u hs hu
theorem join_acc {a c : Ma} (h : joinOk a c = true) (both : Bool) (n : Int) : accR (joinM a c both) n = jf both (accR a n) (accR c n) := by
  obtain ⟨ha, hc, hb, hl⟩ := joinOk_p h
  unfold accR
  rw [ha, hc, joinM_ok h both, join_finM h both n]
  cases inB n 0 1000000000000 <;> cases finM a n <;> cases finM c n <;> cases both <;> rfl
theorem join_cntR {a c : Ma} (h : joinOk a c = true) (l : Int) (hl0 : 0 ≤ l) (hl9 : l ≤ 9) : cntR (joinM a c true) l + cntR (joinM a c false) l = cntR a l + cntR c l := by
  obtain ⟨ha, hc, hb, hl⟩ := joinOk_p h
  obtain ⟨-, -, n1, -⟩ := maOk_t ha
  obtain ⟨-, -, n2, -⟩ := maOk_t hc
  have hi : inB l 0 9 = true := inB_t.2 ⟨hl0, hl9⟩
  unfold cntR
  rw [ha, hc, joinM_ok h true, joinM_ok h false, hi]
  have := join_cnt h l.toNat 0 0 (by omega) (by omega)
  rw [Nat.zero_mul] at this
  rw [← hb]
  exact this
/-! the machine of multiples -/
theorem mul_run {b k : Nat} (hb2 : 2 ≤ b) (hb10 : b ≤ 10) (hk1 : 1 ≤ k) (hk12 : k ≤ 12) : ∀ (f n : Nat), n < f → n ≤ 9223372036854775807 → runM (mulM b k) (digs (n : Int) (b : Int)) = ((n % k : Nat) : Int) := by
  intro f
  induction f with
  | zero => intro n h; omega
  | succ f ih =>
    intro n h hn
    by_cases h0 : n = 0
    · subst h0
      rw [digs_zero _ _ (by omega), Nat.zero_mod]; rfl
    · have hq : n / b < n := Nat.div_lt_self (by omega) (by omega)
      have hr : n % b < b := Nat.mod_lt _ (by omega)
      have hs : (n / b) % k < k := Nat.mod_lt _ (by omega)
      have f1 := nxM_eq (mul_ok hb2 hb10 hk1 hk12) ((n / b) % k) (n % b) (by show _ < (muF k).length; rw [muF_len]; exact hs) (by show _ < ((b : Int)).toNat; rw [Int.toNat_natCast]; exact hr)
      rw [digs_pos _ _ (by omega) (by omega) (by omega), runM_cons, ← Int.natCast_ediv, ← Int.natCast_emod, ih (n / b) (by omega) (by omega), f1.1, mul_nx _ _ hs hr]
      congr 1
      have e := Nat.div_add_mod n b
      rw [Nat.mul_comm] at e
      rw [Nat.add_mod, Nat.mul_mod, Nat.mod_mod, ← Nat.mul_mod, ← Nat.add_mod, e]
theorem mul_runI {b k n : Int} (hb2 : 2 ≤ b) (hb10 : b ≤ 10) (hk1 : 1 ≤ k) (hk12 : k ≤ 12) (hn0 : 0 ≤ n) (hn : n ≤ 9223372036854775807) : runM (mulM b.toNat k.toNat) (digs n b) = n % k := by
  have := mul_run (b := b.toNat) (k := k.toNat) (by omega) (by omega) (by omega) (by omega) (n.toNat + 1) n.toNat (by omega) (by omega)
  rw [Int.natCast_emod, Int.toNat_of_nonneg hn0, Int.toNat_of_nonneg (by omega : 0 ≤ b), Int.toNat_of_nonneg (by omega : 0 ≤ k)] at this
  exact this
theorem mul_finM {b k n : Int} (hb2 : 2 ≤ b) (hb10 : b ≤ 10) (hk1 : 1 ≤ k) (hk12 : k ≤ 12) (hn0 : 0 ≤ n) (hn : n ≤ 9223372036854775807) : finM (mulM b.toNat k.toNat) n = decide (n % k = 0) := by
  have h1 := mul_runI hb2 hb10 hk1 hk12 hn0 hn
  have h2 : 0 ≤ n % k ∧ n % k < k := mod_bd n k hk1
  show finN (mulM b.toNat k.toNat) (runM (mulM b.toNat k.toNat) (digs n ((b.toNat : Nat) : Int))).toNat = _
  rw [Int.toNat_of_nonneg (by omega : 0 ≤ b), h1, mul_fin _ (by omega)]
  apply decide_eq_decide.2
  omega
theorem mul_acc {b k n : Int} (hb2 : 2 ≤ b) (hb10 : b ≤ 10) (hk1 : 1 ≤ k) (hk12 : k ≤ 12) (hn0 : 0 ≤ n) (hn : n ≤ 1000000000000) : accR (mulM b.toNat k.toNat) n = decide (n % k = 0) := by
  unfold accR
  rw [mul_ok (by omega) (by omega) (by omega) (by omega), inB_t.2 ⟨hn0, hn⟩, mul_finM hb2 hb10 hk1 hk12 hn0 (by omega)]
  simp
theorem mul_least {b k : Int} (hb2 : 2 ≤ b) (hb10 : b ≤ 10) (hk1 : 1 ≤ k) (hk12 : k ≤ 12) : leastR (mulM b.toNat k.toNat) = 0 := by
  have := leastR_found (mul_ok (b := b.toNat) (k := k.toNat) (by omega) (by omega) (by omega) (by omega)) 0 (by omega) (fun j hj => by omega) (by
    show finM _ ((0 : Nat) : Int) = true
    rw [show ((0 : Nat) : Int) = 0 from rfl, mul_finM hb2 hb10 hk1 hk12 (by omega) (by omega)]
    simp)
  exact this
/-- how many multiples of k lie below x -/
def mlt (k x : Nat) : Nat := (x + k - 1) / k
theorem mlt_add (k x y : Nat) (hk : 1 ≤ k) : mlt k (x + k * y) = mlt k x + y := by
  unfold mlt
  rw [show x + k * y + k - 1 = x + k - 1 + k * y by omega, Nat.add_mul_div_left _ _ (by omega)]
def mG (b k l s : Nat) : Int := (mlt k ((s + 1) * b ^ l) : Int) - (mlt k (s * b ^ l) : Int)
theorem mG_mod (b k l s : Nat) (hk : 1 ≤ k) : mG b k l (s % k) = mG b k l s := by
  have e := Nat.div_add_mod s k
  unfold mG
  have e1 : s * b ^ l = s % k * b ^ l + k * (s / k * b ^ l) := by
    conv => lhs; rw [← e]
    rw [Nat.add_mul, Nat.mul_assoc, Nat.add_comm]
  have e2 : (s + 1) * b ^ l = (s % k + 1) * b ^ l + k * (s / k * b ^ l) := by
    rw [Nat.add_mul, Nat.add_mul, e1]; omega
  rw [e1, e2, mlt_add _ _ _ hk, mlt_add _ _ _ hk]
  omega
theorem mG_sum (b k l s : Nat) : ∀ d, sumR d (fun x => mG b k l (s * b + x)) = (mlt k ((s * b + d) * b ^ l) : Int) - (mlt k (s * b * b ^ l) : Int) := by
  intro d
  induction d with
  | zero => simp [sumR]
  | succ d ih =>
    rw [sumR, ih]
    unfold mG
    rw [show s * b + d + 1 = s * b + (d + 1) from rfl]
    omega
theorem mul_accN {b k : Nat} (hb : 1 ≤ b) (hk1 : 1 ≤ k) : ∀ l s, s < k → accN b (nxM (mulM b k)) (finN (mulM b k)) l s = mG b k l s := by
  intro l
  induction l with
  | zero =>
    intro s hs
    show (if finN (mulM b k) s = true then (1 : Int) else 0) = _
    rw [mul_fin s hs]
    unfold mG mlt
    rw [Nat.pow_zero, Nat.mul_one, Nat.mul_one]
    by_cases h : s = 0
    · subst h
      rw [show 0 + 1 + k - 1 = k by omega, Nat.div_self (by omega), Nat.div_eq_of_lt (show 0 + k - 1 < k by omega)]
      simp
    · have e1 : (s + 1 + k - 1) / k = 1 := Nat.div_eq_of_lt_le (by omega) (by omega)
      have e2 : (s + k - 1) / k = 1 := Nat.div_eq_of_lt_le (by omega) (by omega)
      rw [e1, e2]
      simp [h]
  | succ l ih =>
    intro s hs
    show sumR b (fun d => accN b (nxM (mulM b k)) (finN (mulM b k)) l (nxM (mulM b k) s d)) = _
    rw [sumR_congr b (g := fun x => mG b k l (s * b + x)) (fun d hd => by
      rw [mul_nx s d hs hd, ih _ (Nat.mod_lt _ (by omega)), mG_mod _ _ _ _ hk1]), mG_sum]
    unfold mG
    rw [show s * b + b = (s + 1) * b by rw [Nat.add_mul]; omega, Nat.mul_assoc, Nat.mul_assoc, Nat.pow_succ, Nat.mul_comm b (b ^ l)]
theorem mul_cnt {b k l : Int} (hb2 : 2 ≤ b) (hb10 : b ≤ 10) (hk1 : 1 ≤ k) (hk12 : k ≤ 12) (hl0 : 0 ≤ l) (hl9 : l ≤ 9) : cntR (mulM b.toNat k.toNat) l = (b ^ l.toNat + k - 1) / k := by
  have hi : inB l 0 9 = true := inB_t.2 ⟨hl0, hl9⟩
  unfold cntR
  rw [mul_ok (by omega) (by omega) (by omega) (by omega), hi]
  show accN ((b.toNat : Nat) : Int).toNat (nxM (mulM b.toNat k.toNat)) (finN (mulM b.toNat k.toNat)) l.toNat 0 = _
  rw [Int.toNat_natCast, mul_accN (by omega) (by omega) _ _ (by omega)]
  unfold mG mlt
  have hp : 1 ≤ b.toNat ^ l.toNat := Nat.pow_pos (by omega)
  rw [Nat.zero_mul, Nat.zero_add, Nat.one_mul, Nat.div_eq_of_lt (show 0 + k.toNat - 1 < k.toNat by omega), Int.natCast_ediv, Int.natCast_sub (by omega), Int.natCast_add, Int.natCast_pow, Int.toNat_of_nonneg (by omega : 0 ≤ b), Int.toNat_of_nonneg (by omega : 0 ≤ k)]
  simp
/-! the machine of numbers without a digit -/
theorem wo_one {b g : Nat} : ∀ l, accN b (nxM (woM b g)) (finN (woM b g)) l 1 = 0 := by
  intro l
  induction l with
  | zero => rfl
  | succ l ih =>
    show sumR b (fun d => accN b (nxM (woM b g)) (finN (woM b g)) l (nxM (woM b g) 1 d)) = _
    rw [sumR_congr b (g := fun _ => 0) (fun d hd => by rw [wo_nx 1 d (by omega) hd]; simpa using ih), sumR_const]
    simp
theorem wo_zero {b g : Nat} (hg : g < b) : ∀ l, accN b (nxM (woM b g)) (finN (woM b g)) l 0 = ((b : Int) - 1) ^ l := by
  intro l
  induction l with
  | zero =>
    show (if finN (woM b g) 0 = true then (1 : Int) else 0) = _
    rw [wo_fin 0 (by omega)]
    simp
  | succ l ih =>
    show sumR b (fun d => accN b (nxM (woM b g)) (finN (woM b g)) l (nxM (woM b g) 0 d)) = _
    rw [sumR_congr b (g := fun d => if d = g then 0 else ((b : Int) - 1) ^ l) (fun d hd => by
      rw [wo_nx 0 d (by omega) hd]
      by_cases h : d = g
      · simpa [h] using wo_one l
      · simpa [h] using ih)]
    rw [sumR_upd (f := fun _ => ((b : Int) - 1) ^ l) (u := g) (fun x hx => by simp [hx]), sumR_const, if_pos hg, Int.pow_succ, Int.mul_sub, Int.mul_comm (b : Int)]
    simp
    omega
theorem wo_cnt {b g l : Int} (hb2 : 2 ≤ b) (hb10 : b ≤ 10) (hg0 : 0 ≤ g) (hg : g < b) (hl0 : 0 ≤ l) (hl9 : l ≤ 9) : cntR (woM b.toNat g.toNat) l = (b - 1) ^ l.toNat := by
  have hi : inB l 0 9 = true := inB_t.2 ⟨hl0, hl9⟩
  unfold cntR
  rw [wo_ok (by omega) (by omega), hi]
  show accN ((b.toNat : Nat) : Int).toNat (nxM (woM b.toNat g.toNat)) (finN (woM b.toNat g.toNat)) l.toNat 0 = _
  rw [Int.toNat_natCast, wo_zero (by omega), Int.toNat_of_nonneg (by omega : 0 ≤ b)]
/-! they are not the same machine -/
theorem wo_lead : ((List.range 11).all fun b => (List.range 13).all fun k => decide (b < 2) || decide (k < 2) || !finM (woM b 1) ((k * ((b ^ 4 + k - 1) / k) : Nat) : Int)) = true := by decide +kernel
theorem wo_oneD : ((List.range 11).all fun b => (List.range 11).all fun g => decide (b < 2) || decide (g = 1) || finM (woM b g) 1) = true := by decide +kernel
theorem not_same {b k g : Nat} (hb2 : 2 ≤ b) (hb10 : b ≤ 10) (hk2 : 2 ≤ k) (hk12 : k ≤ 12) (hg : g < b) : sameR (mulM b k) (woM b g) = false := by
  have h1 := mul_ok hb2 hb10 (show 1 ≤ k by omega) hk12
  have h2 := wo_ok (g := g) hb2 hb10
  cases hs : sameR (mulM b k) (woM b g) with
  | false => rfl
  | true =>
    exfalso
    unfold sameR eqMa at hs
    simp only [Bool.and_eq_true, decide_eq_true_eq] at hs
    have he : redM (mulM b k) = redM (woM b g) := by
      have q1 := hs.2.1.1; have q2 := hs.2.1.2; have q3 := hs.2.2
      cases h3 : redM (mulM b k) with
      | mk x1 x2 x3 =>
        cases h4 : redM (woM b g) with
        | mk y1 y2 y3 =>
          rw [h3, h4] at q1 q2 q3
          simp only at q1 q2 q3
          rw [q1, q2, q3]
    have hf : ∀ x, finM (mulM b k) x = finM (woM b g) x := fun x => by rw [← red_finM h1, ← red_finM h2, he]
    have hm : ∀ n : Int, 0 ≤ n → n ≤ 9223372036854775807 → finM (mulM b k) n = decide (n % (k : Int) = 0) := fun n a0 a1 => by
      have := mul_finM (b := (b : Int)) (k := (k : Int)) (n := n) (by omega) (by omega) (by omega) (by omega) a0 a1
      rw [Int.toNat_natCast, Int.toNat_natCast] at this
      exact this
    by_cases hg1 : g = 1
    · subst hg1
      have ha := wo_lead
      rw [List.all_eq_true] at ha
      have ha2 := ha b (List.mem_range.2 (by omega))
      rw [List.all_eq_true] at ha2
      have ha3 := ha2 k (List.mem_range.2 (by omega))
      simp only [show ¬ b < 2 by omega, show ¬ k < 2 by omega, decide_false, Bool.false_or, Bool.not_eq_true'] at ha3
      have hp : b ^ 4 ≤ 10 ^ 4 := Nat.pow_le_pow_left hb10 4
      have hq : k * ((b ^ 4 + k - 1) / k) ≤ b ^ 4 + k - 1 := Nat.mul_div_le _ _
      have := hm ((k * ((b ^ 4 + k - 1) / k) : Nat) : Int) (by omega) (by omega)
      rw [hf, ha3] at this
      rw [Int.natCast_mul, Int.mul_emod_right] at this
      simp at this
    · have ha := wo_oneD
      rw [List.all_eq_true] at ha
      have ha2 := ha b (List.mem_range.2 (by omega))
      rw [List.all_eq_true] at ha2
      have ha3 := ha2 g (List.mem_range.2 (by omega))
      simp only [show ¬ b < 2 by omega, hg1, decide_false, Bool.false_or] at ha3
      have := hm 1 (by omega) (by omega)
      rw [hf, ha3, Int.emod_eq_of_lt (by omega) (by omega)] at this
      simp at this
theorem self_same {m : Ma} (h : maOk m = true) : sameR m m = true := by
  unfold sameR
  rw [h, eqMa_self]
  rfl
/-! joined -/
theorem mw_join {b k g : Nat} (hb2 : 2 ≤ b) (hb10 : b ≤ 10) (hk1 : 1 ≤ k) (hk12 : k ≤ 12) : joinOk (mulM b k) (woM b g) = true := by
  have h : (mulM b k).final.length * (woM b g).final.length ≤ 144 := by
    show (muF k).length * 2 ≤ 144
    rw [muF_len]; omega
  simp only [joinOk, mul_ok hb2 hb10 hk1 hk12, wo_ok hb2 hb10, decide_eq_true h, Bool.true_and, Bool.and_true]
  exact decide_eq_true rfl
theorem digs_le60 (b : Int) (hb : 2 ≤ b) : ∀ (L : Nat) (n : Int), L ≤ 60 → n < 2 ^ L → (digs n b).length ≤ L := by
  intro L
  induction L with
  | zero =>
    intro n _ h
    rw [digs_zero n b (by simp at h; omega)]
    simp
  | succ L ih =>
    intro n hL h
    by_cases h0 : 0 < n
    · have h2 : (2 : Int) ^ (L + 1) ≤ 2 ^ 60 := by
        have : (2 : Nat) ^ (L + 1) ≤ 2 ^ 60 := Nat.pow_le_pow_right (by decide) hL
        have e : (((2 : Nat) ^ (L + 1) : Nat) : Int) = (2 : Int) ^ (L + 1) := Int.natCast_pow 2 (L + 1)
        have e2 : (((2 : Nat) ^ 60 : Nat) : Int) = (2 : Int) ^ 60 := Int.natCast_pow 2 60
        omega
      have e3 : (2 : Int) ^ 60 = 1152921504606846976 := by decide
      have hd := div_half n b (by omega) hb
      rw [digs_pos n b hb h0 (by omega), List.length_cons]
      have := ih (n / b) (by omega) (by rw [Int.pow_succ] at h; omega)
      omega
    · rw [digs_zero n b (by omega)]
      simp
theorem mul_runR {b k : Nat} {n : Int} (hb2 : 2 ≤ b) (hb10 : b ≤ 10) (hk1 : 1 ≤ k) (hk12 : k ≤ 12) (hn0 : 0 ≤ n) (hn : n ≤ 9999999999) : runR (mulM b k) (digs n (b : Int)) = n % (k : Int) := by
  have h1 := mul_ok hb2 hb10 hk1 hk12
  have h2 := digs_le60 (b : Int) (by omega) 34 n (by omega) (by omega)
  have h3 : allIn (digs n (b : Int)) 0 ((mulM b k).base - 1) = true := allIn_t.2 (fun x hx => by
    have := digs_mem n (b : Int) (by omega) x hx
    show 0 ≤ x ∧ x ≤ (b : Int) - 1
    omega)
  unfold runR
  rw [h1, h3, if_neg (by simp; omega)]
  have := mul_runI (b := (b : Int)) (k := (k : Int)) (n := n) (by omega) (by omega) (by omega) (by omega) hn0 (by omega)
  rw [Int.toNat_natCast, Int.toNat_natCast] at this
  exact this
theorem mul_accN' {b k : Nat} {n : Int} (hb2 : 2 ≤ b) (hb10 : b ≤ 10) (hk1 : 1 ≤ k) (hk12 : k ≤ 12) (hn0 : 0 ≤ n) (hn : n ≤ 9999999999) : accR (mulM b k) n = decide (n % (k : Int) = 0) := by
  have := mul_acc (b := (b : Int)) (k := (k : Int)) (n := n) (by omega) (by omega) (by omega) (by omega) hn0 (by omega)
  rw [Int.toNat_natCast, Int.toNat_natCast] at this
  exact this
theorem mul_cntN {b k l : Nat} (hb2 : 2 ≤ b) (hb10 : b ≤ 10) (hk1 : 1 ≤ k) (hk12 : k ≤ 12) (hl9 : l ≤ 9) : cntR (mulM b k) l = ((b : Int) ^ l + k - 1) / k := by
  have := mul_cnt (b := (b : Int)) (k := (k : Int)) (l := (l : Int)) (by omega) (by omega) (by omega) (by omega) (by omega) (by omega)
  rw [Int.toNat_natCast, Int.toNat_natCast, Int.toNat_natCast] at this
  exact this
theorem wo_cntN {b g l : Nat} (hb2 : 2 ≤ b) (hb10 : b ≤ 10) (hg : g < b) (hl9 : l ≤ 9) : cntR (woM b g) l = ((b : Int) - 1) ^ l := by
  have := wo_cnt (b := (b : Int)) (g := (g : Int)) (l := (l : Int)) (by omega) (by omega) (by omega) (by omega) (by omega) (by omega)
  rw [Int.toNat_natCast, Int.toNat_natCast, Int.toNat_natCast] at this
  exact this
theorem mul_leastN {b k : Nat} (hb2 : 2 ≤ b) (hb10 : b ≤ 10) (hk1 : 1 ≤ k) (hk12 : k ≤ 12) : leastR (mulM b k) = 0 := by
  have := mul_least (b := (b : Int)) (k := (k : Int)) (by omega) (by omega) (by omega) (by omega)
  rw [Int.toNat_natCast, Int.toNat_natCast] at this
  exact this

end Go.Proofs.YtkapbhlnjmfaaaaDoor
