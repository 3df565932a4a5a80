/- Addition on an abacus: program and reference. Conditions: those of each contract. -/
import Derived.Test.YtkcjjhdmklhepaaAbacusD
import Derived.StillTailTactics
namespace Go.Proofs.Ytkcjjhdmklhepaa
set_option linter.unusedVariables false
open Go.RowKit

theorem digs_le (n : Int) (h0 : 0 ≤ n) (L : Nat) (hL : L ≤ 15) (h : n < 10 ^ L) : (digs n 10).length ≤ L := by
  have key : ∀ (L : Nat) (n : Int), L ≤ 15 → 0 ≤ n → n < 10 ^ L → (digs n 10).length ≤ L := by
    intro L
    induction L with
    | zero => intro n _ h0 h; rw [digs_zero n 10 (by simp at h; omega)]; simp
    | succ L ih =>
      intro n hL h0 h
      by_cases hz : 0 < n
      · have hp : (10 : Int) ^ (L + 1) ≤ 10 ^ 15 := pow_monoU 10 (by omega) _ _ hL
        rw [digs_pos n 10 (by omega) hz (by omega)]
        have := ih (n / 10) (by omega) (by omega) (by rw [Int.pow_succ] at h; omega)
        simp only [List.length_cons]; omega
      · rw [digs_zero n 10 (by omega)]; simp
  exact key L n hL h0 h
/-- places are digits with zeros behind -/
theorem plcd_digs : ∀ (L : Nat) (n : Int), L ≤ 15 → 0 ≤ n → n < 10 ^ L → ∀ j, (plcd n 10 L).getD j 0 = (digs n 10).getD j 0 := by
  intro L
  induction L with
  | zero => intro n _ h0 h j; rw [digs_zero n 10 (by simp at h; omega)]; rfl
  | succ L ih =>
    intro n hL h0 h j
    have hp : (10 : Int) ^ (L + 1) ≤ 10 ^ 15 := pow_monoU 10 (by omega) _ _ hL
    have e := ih (n / 10) (by omega) (by omega) (by rw [Int.pow_succ] at h; omega)
    by_cases hz : 0 < n
    · rw [digs_pos n 10 (by omega) hz (by omega)]
      cases j with
      | zero => rfl
      | succ j => exact e j
    · have hn : n = 0 := by omega
      subst hn
      rw [digs_zero 0 10 (by omega)]
      cases j with
      | zero => rfl
      | succ j =>
        have := e j
        rw [show (0 : Int) / 10 = 0 from rfl, digs_zero 0 10 (by omega)] at this
        exact this
theorem valL_take_next (xs : List Int) (k : Nat) (h : k < xs.length) : valL 10 (xs.take (k + 1)) = valL 10 (xs.take k) + xs[k] * 10 ^ k := by
  induction xs generalizing k with
  | nil => simp at h
  | cons x xs ih =>
    cases k with
    | zero => simp [valL]
    | succ k =>
      have hk : k < xs.length := by simpa using h
      have := ih k hk
      simp only [List.take_succ_cons, valL, List.getElem_cons_succ, Int.pow_succ, this]
      rw [Int.mul_add, ← Int.mul_assoc, Int.mul_comm 10 xs[k], Int.mul_assoc xs[k], Int.mul_comm (10 ^ k) 10]
      omega
theorem valL_digs (n : Int) (h0 : 0 ≤ n) (hn : n ≤ 4611686018427387904) : valL 10 (digs n 10) = n := by
  have key : ∀ (f : Nat) (n : Int), n.toNat ≤ f → 0 ≤ n → n ≤ 4611686018427387904 → valL 10 (digs n 10) = n := by
    intro f
    induction f with
    | zero => intro n hf h0 _; rw [digs_zero n 10 (by omega)]; simp [valL]; omega
    | succ f ih =>
      intro n hf h0 hn
      by_cases hz : 0 < n
      · rw [digs_pos n 10 (by omega) hz (by omega)]
        have := ih (n / 10) (by omega) (by omega) (by omega)
        simp only [valL, this]
        omega
      · rw [digs_zero n 10 (by omega)]; simp [valL]; omega
  exact key n.toNat n (Nat.le_refl _) h0 hn
theorem beadS_self : ∀ (xs : List Int), beadS xs xs = 0 := by
  intro xs
  induction xs with
  | nil => rfl
  | cons x xs ih => simp only [beadS, ih, bead]; omega

/-- the moves of the places j - 1, .., 0 with the value v shown before -/
def amov (L : Nat) (ds : List Int) : Nat → Int → Int
  | 0, _ => 0
  | j + 1, v => beadS (plcd v 10 L) (plcd (v + ds.getD j 0 * 10 ^ j) 10 L) + amov L ds j (v + ds.getD j 0 * 10 ^ j)
theorem amov_congr (L : Nat) (ds es : List Int) (h : ∀ j, ds.getD j 0 = es.getD j 0) : ∀ (j : Nat) (v : Int), amov L ds j v = amov L es j v := by
  intro j
  induction j with
  | zero => intro v; rfl
  | succ j ih => intro v; simp only [amov, h, ih]
theorem amov_more (L : Nat) (ds : List Int) (m : Nat) (h : ds.length ≤ m) : ∀ (d : Nat) (v : Int), amov L ds (m + d) v = amov L ds m v := by
  intro d
  induction d with
  | zero => intro v; rfl
  | succ d ih =>
    intro v
    have e : ds.getD (m + d) 0 = 0 := by simp [List.getD, List.getElem?_eq_none (show ds.length ≤ m + d by omega)]
    show beadS (plcd v 10 L) (plcd (v + ds.getD (m + d) 0 * 10 ^ (m + d)) 10 L) + amov L ds (m + d) (v + ds.getD (m + d) 0 * 10 ^ (m + d)) = _
    rw [e, Int.zero_mul, Int.add_zero, beadS_self, ih, Int.zero_add]
theorem amov_digs (L : Nat) (hL : L ≤ 15) (n v : Int) (h0 : 0 ≤ n) (h : n < 10 ^ L) : amov L (plcd n 10 L) L v = amov L (digs n 10) (digs n 10).length v := by
  rw [amov_congr L _ _ (plcd_digs L n hL h0 h)]
  have hl := digs_le n h0 L hL h
  have := amov_more L (digs n 10) (digs n 10).length (Nat.le_refl _) (L - (digs n 10).length) v
  rw [show (digs n 10).length + (L - (digs n 10).length) = L from by omega] at this
  exact this
def addOk (xs : List Int) (n : Int) : Bool := abOk xs && (inB n 0 9999999999 && ctrB (valL 10 xs + n) xs.length)
def addL (xs : List Int) (n : Int) : List Int := if addOk xs n then plcd (valL 10 xs + n) 10 xs.length else []
def addM (xs : List Int) (n : Int) : Int := if addOk xs n then amov xs.length (plcd n 10 xs.length) xs.length (valL 10 xs) else 0
theorem addL_len (xs : List Int) (n : Int) : (addL xs n).length ≤ xs.length := by unfold addL; split <;> simp [plcd_length]
/-- A call returns a new slice of the integers xs, an integer and a bool. -/
def RetIIB (w : World) (xs : List Int) (m : Int) (ok : Bool) (e : Ending) (w' : World) : Prop := ∃ a cap, e = .returned (.tuple #[.slice a xs.length cap, .int .i64 m, .bool ok]) ∧ OwnI w' w.heap.size a cap xs ∧ Below w.heap.size w w'
theorem plcd_abOk (v : Int) (L : Nat) (h1 : 1 ≤ L) (h2 : L ≤ 10) : abOk (plcd v 10 L) = true := by
  have e1 : inB ((plcd v 10 L).length) 1 10 = true := by rw [inB_t, plcd_length]; omega
  have e2 : allIn (plcd v 10 L) 0 9 = true := by
    rw [allIn_t]; intro x hx
    have := plcd_mem 10 (by omega) L v x hx
    omega
  simp [abOk, e1, e2]
theorem beadR_plcd (v u : Int) (L : Nat) (h1 : 1 ≤ L) (h2 : L ≤ 10) : beadR (plcd v 10 L) (plcd u 10 L) = beadS (plcd v 10 L) (plcd u 10 L) := by
  simp [beadR, twoOk, plcd_abOk _ L h1 h2, plcd_length]
theorem beadS_plcd_bd (v u : Int) (L : Nat) (h2 : L ≤ 10) : 0 ≤ beadS (plcd v 10 L) (plcd u 10 L) ∧ beadS (plcd v 10 L) (plcd u 10 L) ≤ 50 := by
  have h := beadS_take_bd (plcd v 10 L) (plcd u 10 L) (plcd_mem 10 (by omega) L v) (plcd_mem 10 (by omega) L u) (by rw [plcd_length, plcd_length]) (plcd v 10 L).length (Nat.le_refl _)
  have e : (plcd u 10 L).take (plcd v 10 L).length = plcd u 10 L := List.take_of_length_le (by rw [plcd_length, plcd_length]; exact Nat.le_refl _)
  rw [List.take_length, e] at h
  rw [plcd_length] at h
  omega
theorem amov_bd (L : Nat) (hL : L ≤ 10) (ds : List Int) : ∀ (j : Nat) (v : Int), 0 ≤ amov L ds j v ∧ amov L ds j v ≤ 50 * j := by
  intro j
  induction j with
  | zero => intro v; simp [amov]
  | succ j ih =>
    intro v
    have h1 := ih (v + ds.getD j 0 * 10 ^ j)
    have h2 := beadS_plcd_bd v (v + ds.getD j 0 * 10 ^ j) L hL
    simp only [amov]; omega

theorem quietS {P : Program} {f : FuncId} {args : Array Value} {w : World} {n : Nat} {v : Value}
    (h : Calls P f args (w.drewN n) fun e w' => e = .returned v ∧ w.drewN n = w') : Calls P f args (w.drewN n) fun e w'' => e = .returned v ∧ ∃ m, w'' = w.drewN m :=
  h.mono fun _ _ ⟨he, hm⟩ => ⟨he, n, hm ▸ rfl⟩

theorem stillS {P : Program} {f : FuncId} {args : Array Value} {w : World} {v : Value}
    (h : Calls P f args w fun e w' => e = .returned v ∧ w = w') : Calls P f args w fun e w'' => e = .returned v ∧ w'' = w :=
  h.mono fun _ _ ⟨he, hm⟩ => ⟨he, hm.symm⟩

theorem Clone_any (a : Option Addr) (cap : Nat) (xs : List Int) (w : World) (hx : Ints w w.heap.size a cap xs) (h1 : 0 < xs.length) (h2 : xs.length ≤ 1048576) :
    Calls Try.prog 65 #[.slice a xs.length cap] w (RetI w xs) := by
  obtain ⟨-, -, b, off, ha, hc⟩ := hx
  obtain ⟨rfl, hb⟩ := ha h1
  have HB := Lib.hid hb; clear ha hb
  have HC := Lib.hid hc; clear hc
  obtain ⟨i0, hi, hz0, hz1, hz2⟩ := info_parts info_int
  have hq := fun (w : World) => Lib.run_eql_slice_nil (P := Try.prog) w 24 3 (some ⟨b, off, none⟩) xs.length cap 0 0 Try.underlying24
  go_enter Try.func65, Try.ntmps65
  go_wp2_with (at_builtin; refine wpList_append_own _ rfl _ _ 24 rfl w.heap.size 3 i0 (.int .i64 0) 1 8 Try.underlying24 hi hz0 hz1 hz2 rfl (by decide) _ 0 [] rfl (OwnV.lit0 _ _ (Nat.le_refl _)) ⟨b, off, none⟩ xs.length cap (xs.map (Value.int .i64)) rfl (by simp) ?c1 (ints_oneCell _ _) ?c3 ?c4 ?c5 ?_)
  case c1 =>
    intro j u hu
    rw [List.getElem?_map] at hu
    by_cases hj : j < xs.length
    · rw [List.getElem?_eq_getElem hj] at hu
      simp only [Option.map_some, Option.some.injEq] at hu
      subst hu
      rw [show (⟨b, off, none⟩ : Addr).add j = ⟨b, off + j, none⟩ from by simp [Addr.add], World.cell?_alloc_past _ _ _ HB.out]
      exact HC.out j hj
    · rw [List.getElem?_eq_none (by omega)] at hu; cases hu
  case c3 => unfold maxLen; omega
  case c4 => omega
  case c5 => simp
  intro v' w1 hown' hgrow _
  have hb1 : Below w.heap.size w w1 := ((Below.refl _ _).alloc (Nat.le_refl _) _).grown hgrow (by simp) (fun k hk => by simp [Value.ownBlock] at hk; omega)
  have HO : Hid (OwnV w1 w.heap.size v' xs) := by show OwnV _ _ _ _; unfold OwnV; simpa using hown'
  have HB1 := Lib.hid hb1
  clear hown' hgrow hb1
  go_wp2
  go_ret
  exact HO.out.ret HB1.out
set_option maxHeartbeats 1000000 in
theorem AbacusAdd_any (a : Option Addr) (cap : Nat) (xs : List Int) (n : Int) (w : World) (hx : Ints w w.heap.size a cap xs) :
    Calls Try.prog 36 #[.slice a xs.length cap, .int .i64 n] w (RetIIB w (addL xs n) (addM xs n) (addOk xs n)) := by
  have hl1 := hx.len
  have HX := Lib.hid hx
  clear hx
  cases hc1 : abOk xs
  · have hso : addOk xs n = false := by simp [addOk, hc1]
    have HF : Hid (addL xs n = []) := by show _ = _; simp [addL, hso]
    have HF2 : Hid (addM xs n = 0) := by show _ = _; simp [addM, hso]
    rw [HF.out, HF2.out, hso]; clear hso
    go_enter Try.func36, Try.ntmps36
    go_wp2_with fail
    refine (AbacusOk_any _ _ _ _ HX.out).mono ?_
    rintro e w1 ⟨rfl, hb⟩
    have HB := Lib.hid hb; clear hb
    go_wp2_with fail
    go_ret3
    exact ⟨none, 0, rfl, OwnV.nil _ _, HB.out⟩
  cases hn : inB n 0 9999999999
  · have hso : addOk xs n = false := by simp [addOk, hc1, hn]
    have HF : Hid (addL xs n = []) := by show _ = _; simp [addL, hso]
    have HF2 : Hid (addM xs n = 0) := by show _ = _; simp [addM, hso]
    rw [HF.out, HF2.out, hso]; clear hso
    go_enter Try.func36, Try.ntmps36
    go_wp2_with fail
    refine (AbacusOk_any _ _ _ _ HX.out).mono ?_
    rintro e w1 ⟨rfl, hb⟩
    have HB := Lib.hid hb; clear hb
    go_wp2_with fail
    refine (within_any _ _ _ _).mono ?_
    rintro e w' ⟨rfl, rfl⟩
    go_wp2_with fail
    go_ret3
    exact ⟨none, 0, rfl, OwnV.nil _ _, HB.out⟩
  obtain ⟨hn1, hn2⟩ := inB_t.1 hn
  obtain ⟨t1, t2, t3⟩ := abOk_t hc1
  have T3 := Lib.hid t3
  have HP1 := Lib.hid (abOk_pow hc1)
  obtain ⟨v1, v2⟩ := valL_bd 10 (by omega) xs t3
  have v3 : valL 10 xs < 10000000000 := by have := HP1.out; omega
  clear v2 t3
  cases hct : ctrB (valL 10 xs + n) xs.length
  · have hso : addOk xs n = false := by simp [addOk, hc1, hn, hct]
    have HF : Hid (addL xs n = []) := by show _ = _; simp [addL, hso]
    have HF2 : Hid (addM xs n = 0) := by show _ = _; simp [addM, hso]
    rw [HF.out, HF2.out, hso]; clear hso
    go_enter Try.func36, Try.ntmps36
    go_wp2_with fail
    refine (AbacusOk_any _ _ _ _ HX.out).mono ?_
    rintro e w1 ⟨rfl, hb⟩
    have hs := hb.size
    have HB := Lib.hid hb; clear hb
    go_wp2_with fail
    refine (within_any _ _ _ _).mono ?_
    rintro e w' ⟨rfl, rfl⟩
    go_wp2_with fail
    refine (valueOf_any _ _ xs 10 _ ((HX.out.below HB.out).mono (by omega)) T3.out (by omega) (Int.le_trans HP1.out (by omega))).mono ?_
    rintro e w' ⟨rfl, rfl⟩
    go_wp2_with fail
    refine (isCounter_any _ _ _).mono ?_
    rintro e w' ⟨rfl, rfl⟩
    go_wp2_with fail
    go_ret3
    exact ⟨none, 0, rfl, OwnV.nil _ _, HB.out⟩
  have hso : addOk xs n = true := by simp [addOk, hc1, hn, hct]
  obtain ⟨L, hL, -, -, h3, h4, h5⟩ := ctrB_t hct
  have hL' : L = xs.length := by omega
  subst hL'
  have hnL : n < 10 ^ xs.length := by omega
  have HDL := Lib.hid (digs_le n hn1 xs.length (by omega) hnL)
  have HF : Hid (addL xs n = plcd (valL 10 xs + n) 10 xs.length) := by show _ = _; simp [addL, hso]
  have HF2 : Hid (addM xs n = amov xs.length (digs n 10) (digs n 10).length (valL 10 xs)) := by
    show _ = _; simp only [addM, hso, if_true]; exact amov_digs xs.length (by omega) n _ hn1 hnL
  rw [HF.out, HF2.out, hso]; clear hso hnL hL
  have HVX := Lib.hid (plcd_valL 10 (by omega) xs T3.out)
  have HH4 := Lib.hid h4; clear h4
  go_enter Try.func36, Try.ntmps36
  go_wp2_with fail
  refine (AbacusOk_any _ _ _ _ HX.out).mono ?_
  rintro e w1 ⟨rfl, hb⟩
  have hs := hb.size
  have HB := Lib.hid hb; clear hb
  go_wp2_with fail
  refine (within_any _ _ _ _).mono ?_
  rintro e w' ⟨rfl, rfl⟩
  go_wp2_with fail
  refine (valueOf_any _ _ xs 10 _ ((HX.out.below HB.out).mono (by omega)) T3.out (by omega) (Int.le_trans HP1.out (by omega))).mono ?_
  rintro e w' ⟨rfl, rfl⟩
  go_wp2_with fail
  refine (isCounter_any _ _ _).mono ?_
  rintro e w' ⟨rfl, rfl⟩
  go_wp2_with fail
  refine (Clone_any _ _ xs _ ((HX.out.below HB.out).mono (by omega)) (by omega) (by omega)).mono ?_
  rintro e w2 ⟨a2, c2, rfl, ho, hb⟩
  have hs2 := hb.size
  have HO2 := Lib.hid ho
  have HB2 := Lib.hid (HB.out.trans (hb.mono (by omega)))
  clear ho hb
  go_wp2_with fail
  refine (digitsOf_any _ _ _ (by omega) (by omega) (by omega)).mono ?_
  rintro e w3 ⟨a3, c3, rfl, ho, hb⟩
  have hs3 := hb.size
  have HD3 := Lib.hid ho
  have HO3 := Lib.hid (HO2.out.kept hb)
  have HB3 := Lib.hid (HB2.out.trans (hb.mono (by omega)))
  clear ho hb HO2 HB HB2
  have hdl := HDL.out
  go_wp2_with fail
  clear hc1 hn hct
  go_loopw [7, 8, 10] (fun v mv kk wr => ∃ (i x m : Int) (an : Option Addr) (cn : Nat), v = .slice an xs.length cn ∧ mv = .int .i64 m ∧ kk = .int .i64 i ∧ -1 ≤ i ∧ i < (digs n 10).length ∧ x + valL 10 ((digs n 10).take (i + 1).toNat) = valL 10 xs + n ∧ 0 ≤ x ∧
      m + amov xs.length (digs n 10) (i + 1).toNat x = amov xs.length (digs n 10) (digs n 10).length (valL 10 xs) ∧ 0 ≤ m ∧ m ≤ 500 - 50 * (i + 1) ∧ OwnI wr w.heap.size an cn (plcd x 10 xs.length) ∧ Below w3.heap.size w3 wr) (fun _ _ kk _ => (intOf kk + 1).toNat)
  case atStart =>
    have e1 : (((digs n 10).length : Int) - 1 + 1).toNat = (digs n 10).length := by omega
    refine ⟨_, valL 10 xs, 0, _, _, rfl, rfl, rfl, by omega, by omega, ?_, v1, ?_, by omega, by omega, ?_, Below.refl _ _⟩
    · rw [e1, List.take_length, valL_digs n hn1 (by omega)]
    · rw [e1, Int.zero_add]
    · rw [HVX.out]; exact HO3.out.base (by omega)
  case round =>
    obtain ⟨i, x, m, an, cn, rfl, rfl, rfl, hi0, hi1, hxv, hx0, hmm, hm0, hm1, ho, hbl⟩ := hrel
    have hsz := hbl.size
    have HXV := Lib.hid hxv; have HMM := Lib.hid hmm
    clear hxv hmm
    by_cases hi : 0 ≤ i
    · obtain ⟨j, rfl⟩ := Int.eq_ofNat_of_zero_le hi
      have hj : j < (digs n 10).length := by omega
      have hj10 : j ≤ 10 := by omega
      have HE : Hid (((j : Int) + 1).toNat = j + 1) := by show _ = _; omega
      have HE2 : Hid (((j : Int) - 1 + 1).toNat = j) := by show _ = _; omega
      obtain ⟨hd0, hd1⟩ := digs_mem n 10 (by omega) (digs n 10)[j] (List.getElem_mem hj)
      obtain ⟨hp1, hp2⟩ := pow10 j hj10
      have hq0 : 0 ≤ (digs n 10)[j] * 10 ^ j := Int.mul_nonneg hd0 (by omega)
      have hvt := (valL_bd 10 (by omega) ((digs n 10).take j) (fun d hd => digs_mem n 10 (by omega) d (List.mem_of_mem_take hd))).1
      have hV := HXV.out
      rw [HE.out, valL_take_next _ j hj] at hV
      have hq1 : x + (digs n 10)[j] * 10 ^ j ≤ valL 10 xs + n := by omega
      have hA := HMM.out
      rw [HE.out] at hA
      have hget : (digs n 10).getD j 0 = (digs n 10)[j] := by simp [List.getD, hj]
      simp only [amov, hget] at hA
      have HV := Lib.hid hV; have HA := Lib.hid hA
      clear hV hA hget hvt
      have hxL : x < 10 ^ xs.length := by have := HH4.out; omega
      have HPV := Lib.hid (valL_plcd 10 (by omega) xs.length x hx0 hxL)
      have HPL := Lib.hid (plcd_length 10 xs.length x)
      have HPM := Lib.hid (plcd_mem 10 (by omega) xs.length x)
      clear hxL
      have HCV : Hid (∀ W : World, Ints W W.heap.size an cn (plcd x 10 xs.length) → Calls Try.prog 63 #[.slice an xs.length cn, .int .i64 10] W fun e w' => e = .returned (.int .i64 x) ∧ W = w') := by
        intro W hW
        have h := valueOf_any an cn (plcd x 10 xs.length) 10 W hW HPM.out (by omega) (by rw [HPL.out]; exact Int.le_trans HP1.out (by omega))
        rw [HPV.out, HPL.out] at h
        exact h
      have HBR : Hid (beadR (plcd x 10 xs.length) (plcd (x + (digs n 10)[j] * 10 ^ j) 10 xs.length) = beadS (plcd x 10 xs.length) (plcd (x + (digs n 10)[j] * 10 ^ j) 10 xs.length)) := beadR_plcd _ _ _ t1 t2
      obtain ⟨hbs0, hbs1⟩ := beadS_plcd_bd x (x + (digs n 10)[j] * 10 ^ j) xs.length t2
      have HCB : Hid (∀ (W : World) (a9 : Option Addr) (c9 : Nat), Ints W W.heap.size an cn (plcd x 10 xs.length) → Ints W W.heap.size a9 c9 (plcd (x + (digs n 10)[j] * 10 ^ j) 10 xs.length) →
          Calls Try.prog 33 #[.slice an xs.length cn, .slice a9 xs.length c9] W fun e w' => e = .returned (.int .i64 (beadS (plcd x 10 xs.length) (plcd (x + (digs n 10)[j] * 10 ^ j) 10 xs.length))) ∧ Below W.heap.size W w') := by
        intro W a9 c9 h1 h2
        have h := BeadMoves_any an a9 cn c9 (plcd x 10 xs.length) (plcd (x + (digs n 10)[j] * 10 ^ j) 10 xs.length) W h1 h2
        rw [HBR.out, plcd_length, plcd_length] at h
        exact h
      obtain ⟨-, -, bk, off, ha, hcc⟩ := (HD3.out.kept hbl).ints
      obtain ⟨rfl, -⟩ := ha (by omega)
      have hcx := hcc j hj
      clear ha hcc
      have HO := Lib.hid ho; have HBL := Lib.hid hbl
      clear ho hbl
      have HCP : Hid (∀ W : World, Calls Try.prog 48 #[.int .i64 10, .int .i64 j] W fun e w' => e = .returned (.int .i64 (10 ^ j)) ∧ W = w') := fun W => power_any 10 j W (by omega) (by omega) (by omega)
      have HPL2 := Lib.hid (plcd_length 10 xs.length (x + (digs n 10)[j] * 10 ^ j))
      generalize (digs n 10)[j] = d at *
      generalize (10 : Int) ^ j = p at *
      go_wp2_with fail
      refine wp_region_still_tail 12 (by kernel_rfl) (by kernel_rfl) ?_
      simp only [List.take_succ_cons, List.take_zero, List.drop_succ_cons, List.drop_zero]
      still_step
      refine wpStill_step (fun K hK => ?_)
      go_simp
      refine ⟨_, stillS (HCV.out _ (HO.out.ints.below ((Below.refl _ _).drew))), hK _ ?_⟩
      clear hK K
      repeat still_step
      refine wpStill_step (fun K hK => ?_)
      go_simp
      refine ⟨_, stillS (HCP.out _), hK _ ?_⟩
      clear hK K
      repeat still_step
      refine wpStill_nil ?_
      change wpList _ _ _ _ _ wr.drew
      have hBd : Below wr.heap.size wr wr.drew := (Below.refl _ _).drew
      have hsd := hBd.size
      have HOD := Lib.hid (HO.out.kept hBd)
      have HBD := Lib.hid (HBL.out.trans (hBd.mono hsz))
      clear hBd
      generalize wr.drew = wd at *
      go_wp2_with fail
      refine (placed_any (x + d * p) 10 xs.length _ (by omega) (by omega) (by omega) (by omega) (by omega)).mono ?_
      rintro e w4 ⟨a4, c4, rfl, ho4, hb4⟩
      rw [HPL2.out]
      have hs4 := hb4.size
      have HO4 := Lib.hid ho4
      have HOD4 := Lib.hid (HOD.out.kept hb4)
      have HBD4 := Lib.hid (HBD.out.trans (hb4.mono (by omega)))
      clear ho4 hb4
      go_wp2_with fail
      refine (HCB.out _ _ _ HOD4.out.ints HO4.out.ints).mono ?_
      rintro e w5 ⟨rfl, hb5⟩
      have hs5 := hb5.size
      have HO5 := Lib.hid (HO4.out.kept hb5)
      have HBD5 := Lib.hid (HBD4.out.trans (hb5.mono (by omega)))
      clear hb5
      go_wp2_with fail
      go_roundw
      case rel => exact ⟨(j : Int) - 1, x + d * p, m + beadS (plcd x 10 xs.length) (plcd (x + d * p) 10 xs.length), a4, c4, rfl, rfl, rfl, by omega, by omega, by rw [HE2.out]; have := HV.out; omega, by omega, by rw [HE2.out]; have := HA.out; omega, by omega, by omega, HO5.out.base (by omega), HBD5.out⟩
      case measure => simp [intOf] <;> omega
    · have HE : Hid ((i + 1).toNat = 0) := by show _ = _; omega
      have HO := Lib.hid ho; have HBL := Lib.hid hbl
      clear ho hbl
      have hxe : x = valL 10 xs + n := by have := HXV.out; rw [HE.out] at this; simpa [valL] using this
      have hme : m = amov xs.length (digs n 10) (digs n 10).length (valL 10 xs) := by have := HMM.out; rw [HE.out] at this; simpa [amov] using this
      have HXE := Lib.hid hxe; have HME := Lib.hid hme
      clear hxe hme
      go_wp2
      go_ret3
      have h1 := HO.out
      rw [HXE.out] at h1
      rw [← HME.out]
      have hl : (plcd (valL 10 xs + n) 10 xs.length).length = xs.length := plcd_length _ _ _
      refine ⟨an, cn, by rw [hl] <;> rfl, h1, HB3.out.trans (HBL.out.mono (by omega))⟩

end Go.Proofs.Ytkcjjhdmklhepaa
