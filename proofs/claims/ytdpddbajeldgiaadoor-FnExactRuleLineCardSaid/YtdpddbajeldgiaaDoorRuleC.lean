/- Inverses, TrimFactor and RuleLine, program and reference, and its law. Conditions: those of each contract. -/
import Derived.Test.YtdpddbajeldgiaaDoorRuleB
import Derived.Test.YtdpddbajeldgiaaDoorRepB
namespace Go.Proofs.YtdpddbajeldgiaaDoor
set_option linter.unusedVariables false
open Go.RowKit

/-- the extended algorithm of Euclid, in 64 bits -/
def einv : Nat → Int → Int → Int → Int → Int × Int
  | 0, r, _, x, _ => (r, x)
  | f + 1, r, s, x, y => if s = 0 then (r, x) else einv f s (r % s) y (wrap64 (x - wrap64 (r / s * y)))
theorem einv_end {f : Nat} {r s x y : Int} (h : s = 0) : einv (f + 1) r s x y = (r, x) := by rw [einv, if_pos h]
theorem einv_go {f : Nat} {r s x y : Int} (h : s ≠ 0) : einv (f + 1) r s x y = einv f s (r % s) y (wrap64 (x - wrap64 (r / s * y))) := by rw [einv, if_neg h]
def invR (m b : Int) : Int := if (einv 1001 m (b % m) 0 1).1 = 1 then ((einv 1001 m (b % m) 0 1).2.tmod m) % m else -1
theorem invR_bd (m b : Int) (h : 1 ≤ m) (h2 : m ≤ 1000) : -1 ≤ invR m b ∧ invR m b ≤ 1000 := by
  unfold invR
  split
  · have h1 := Int.emod_nonneg ((einv 1001 m (b % m) 0 1).2.tmod m) (show m ≠ 0 by omega)
    have h2 := Int.emod_lt_of_pos ((einv 1001 m (b % m) 0 1).2.tmod m) (show 0 < m by omega)
    omega
  · omega
theorem quo_bd (r s : Int) (h0 : 0 ≤ r) (h1 : 1 ≤ s) : 0 ≤ r / s * s ∧ r / s * s ≤ r ∧ r - r / s * s = r % s ∧ 0 ≤ r / s ∧ r / s ≤ r := by
  have h2 := Int.emod_nonneg r (show s ≠ 0 by omega)
  have h3 := Int.emod_add_mul_ediv r s
  have h4 : 0 ≤ r / s := Int.ediv_nonneg h0 (by omega)
  have h5 : r / s ≤ r := Int.ediv_le_self _ h0
  have h6 : s * (r / s) = r / s * s := Int.mul_comm _ _
  have h7 : 0 ≤ r / s * s := Int.mul_nonneg h4 (by omega)
  omega
theorem tmod_bd (x m : Int) (h : 1 ≤ m) : -m < x.tmod m ∧ x.tmod m < m := ⟨Int.lt_tmod_of_pos x (by omega), Int.tmod_lt_of_pos x (by omega)⟩
theorem inverse_any (b m : Int) (w : World) (hm1 : 2 ≤ m) (hm2 : m ≤ 1000) (hb0 : 0 ≤ b) (hb1 : b ≤ 1000) :
    Calls Tryd.prog 89 #[.int .i64 b, .int .i64 m] w fun e w' => e = .returned (.int .i64 (invR m b)) ∧ Below w.heap.size w w' := by
  obtain ⟨s0, s1⟩ := mod_bd b m (by omega)
  have HI : Hid (invR m b = if (einv 1001 m (b % m) 0 1).1 = 1 then ((einv 1001 m (b % m) 0 1).2.tmod m) % m else -1) := rfl
  go_enter Tryd.func89, Tryd.ntmps89
  go_wp2
  go_quiet (fail)
  go_wp2
  go_loop [5, 6, 7, 8] (fun r s x y => ∃ (f : Nat) (rv sv xv yv : Int), r = .int .i64 rv ∧ s = .int .i64 sv ∧ x = .int .i64 xv ∧ y = .int .i64 yv ∧ 0 ≤ rv ∧ rv ≤ 1000 ∧ 0 ≤ sv ∧ sv ≤ 1000 ∧ Hid (einv 1001 m (b % m) 0 1 = einv (f + 1) rv sv xv yv ∧ sv ≤ f)) (fun _ s _ _ => (intOf s).toNat)
  case atStart => exact ⟨1000, _, _, _, _, rfl, rfl, rfl, rfl, by omega, hm2, s0, by omega, ⟨rfl, by omega⟩⟩
  case round =>
    obtain ⟨f, rv, sv, xv, yv, rfl, rfl, rfl, rfl, r0, r1, v0, v1, he⟩ := hrel
    by_cases hz : sv = 0
    · have HE : Hid (einv 1001 m (b % m) 0 1 = (rv, xv)) := by
        show _ = _
        rw [he.out.1, einv_end hz]
      subst hz
      by_cases h1 : rv = 1
      · have HV : Hid (invR m b = (xv.tmod m) % m) := by
          show _ = _
          rw [HI.out, HE.out]
          simp [h1]
        subst h1
        obtain ⟨t0, t1⟩ := tmod_bd xv m (by omega)
        go_wp2
        go_ret
        exact ⟨by rw [HV.out] <;> rfl, below_drewN (Below.refl _ _) _⟩
      · have HV : Hid (invR m b = -1) := by
          show _ = _
          rw [HI.out, HE.out]
          simp [h1]
        go_wp2
        go_ret
        exact ⟨by rw [HV.out] <;> rfl, below_drewN (Below.refl _ _) _⟩
    · obtain ⟨q0, q1, q2, q3, q4⟩ := quo_bd rv sv r0 (by omega)
      obtain ⟨e0, e1⟩ := mod_bd rv sv (by omega)
      obtain ⟨f', hf⟩ : ∃ f', f = f' + 1 := ⟨f - 1, by have := he.out.2; omega⟩
      have HE : Hid (einv 1001 m (b % m) 0 1 = einv (f' + 1) sv (rv % sv) yv (wrap64 (xv - wrap64 (rv / sv * yv))) ∧ rv % sv ≤ f') := by
        refine ⟨?_, ?_⟩
        · rw [he.out.1, hf, einv_go hz]
        · have := he.out.2; omega
      have hgt : 0 < sv := by omega
      have HQ := Lib.hid q2
      clear hf he q2
      go_wp2
      go_round
      case rel => exact ⟨f', sv, rv % sv, yv, _, rfl, by rw [HQ.out], rfl, rfl, by omega, by omega, by omega, by omega, HE⟩
      case measure => simp [intOf]; have := HQ.out; omega
theorem emod_emod_m (b m : Int) : b % m % m = b % m := Int.emod_emod _ _
theorem l13Inverse_any (b m : Int) (w : World) (hm1 : 2 ≤ m) (hm2 : m ≤ 1000) (hb0 : 0 ≤ b) (hb1 : b ≤ 1000) :
    Calls Tryd.prog 86 #[.int .i64 (b % m), .int .i64 m] w fun e w' => e = .returned (.int .i64 (invR m b)) ∧ Below w.heap.size w w' := by
  obtain ⟨s0, s1⟩ := mod_bd b m (by omega)
  have HI : Hid (invR m b = if (einv 1001 m (b % m) 0 1).1 = 1 then ((einv 1001 m (b % m) 0 1).2.tmod m) % m else -1) := rfl
  have hee := emod_emod_m b m
  go_enter Tryd.func86, Tryd.ntmps86
  go_wp2
  try rw [hee]
  go_loop [5, 6, 7, 8] (fun r s x y => ∃ (f : Nat) (rv sv xv yv : Int), r = .int .i64 rv ∧ s = .int .i64 sv ∧ x = .int .i64 xv ∧ y = .int .i64 yv ∧ 0 ≤ rv ∧ rv ≤ 1000 ∧ 0 ≤ sv ∧ sv ≤ 1000 ∧ Hid (einv 1001 m (b % m) 0 1 = einv (f + 1) rv sv xv yv ∧ sv ≤ f)) (fun _ s _ _ => (intOf s).toNat)
  case atStart => exact ⟨1000, _, _, _, _, rfl, rfl, rfl, rfl, by omega, hm2, s0, by omega, ⟨rfl, by omega⟩⟩
  case round =>
    obtain ⟨f, rv, sv, xv, yv, rfl, rfl, rfl, rfl, r0, r1, v0, v1, he⟩ := hrel
    by_cases hz : sv = 0
    · have HE : Hid (einv 1001 m (b % m) 0 1 = (rv, xv)) := by
        show _ = _
        rw [he.out.1, einv_end hz]
      subst hz
      by_cases h1 : rv = 1
      · have HV : Hid (invR m b = (xv.tmod m) % m) := by
          show _ = _
          rw [HI.out, HE.out]
          simp [h1]
        subst h1
        obtain ⟨t0, t1⟩ := tmod_bd xv m (by omega)
        go_wp2
        go_ret
        exact ⟨by rw [HV.out] <;> rfl, Below.refl _ _⟩
      · have HV : Hid (invR m b = -1) := by
          show _ = _
          rw [HI.out, HE.out]
          simp [h1]
        go_wp2
        go_ret
        exact ⟨by rw [HV.out] <;> rfl, Below.refl _ _⟩
    · obtain ⟨q0, q1, q2, q3, q4⟩ := quo_bd rv sv r0 (by omega)
      obtain ⟨e0, e1⟩ := mod_bd rv sv (by omega)
      obtain ⟨f', hf⟩ : ∃ f', f = f' + 1 := ⟨f - 1, by have := he.out.2; omega⟩
      have HE : Hid (einv 1001 m (b % m) 0 1 = einv (f' + 1) sv (rv % sv) yv (wrap64 (xv - wrap64 (rv / sv * yv))) ∧ rv % sv ≤ f') := by
        refine ⟨?_, ?_⟩
        · rw [he.out.1, hf, einv_go hz]
        · have := he.out.2; omega
      have hgt : 0 < sv := by omega
      have HQ := Lib.hid q2
      clear hf he q2
      go_wp2
      go_round
      case rel => exact ⟨f', sv, rv % sv, yv, _, rfl, by rw [HQ.out], rfl, rfl, by omega, by omega, by omega, by omega, HE⟩
      case measure => simp [intOf]; have := HQ.out; omega
def trimR (m b : Int) : Int := if ruleOk m b then invR m b else -1
theorem TrimFactor_any (m b : Int) (w : World) (h : ruleOk m b = true) :
    Calls Tryd.prog 50 #[.int .i64 m, .int .i64 b] w fun e w' => e = .returned (.int .i64 (invR m b)) ∧ Below w.heap.size w w' := by
  obtain ⟨hb1, hb2, hm1, hm2⟩ := ruleOk_t h
  go_enter Tryd.func50, Tryd.ntmps50
  go_wp2_with (go_at_call 47; refine (isRuled_any _ _ _).mono ?_; rintro e w' ⟨rfl, rfl⟩)
  refine (inverse_any b m w hm1 hm2 (by omega) (by omega)).mono ?_
  rintro e w1 ⟨rfl, hb⟩
  go_wp2_with fail
  go_ret
  exact ⟨rfl, hb⟩
theorem sTrimFactor_any (m b : Int) (w : World) (h : ruleOk m b = true) :
    Calls Tryd.prog 46 #[.int .i64 m, .int .i64 b] w fun e w' => e = .returned (.int .i64 (invR m b)) ∧ Below w.heap.size w w' := by
  obtain ⟨hb1, hb2, hm1, hm2⟩ := ruleOk_t h
  go_enter Tryd.func46, Tryd.ntmps46
  go_wp2_with (go_at_call 43; refine (l24Ok_any _ _ _).mono ?_; rintro e w' ⟨rfl, rfl⟩)
  refine (l13Inverse_any b m w hm1 hm2 (by omega) (by omega)).mono ?_
  rintro e w1 ⟨rfl, hb⟩
  go_wp2_with fail
  go_ret
  exact ⟨rfl, hb⟩
theorem itB_size (n : Int) (h : i64B n) : (itB n).size ≤ 21 := itB_len n h
def trimB : ByteArray := ⟨#[116, 114, 105, 109]⟩
def blockB : ByteArray := ⟨#[98, 108, 111, 99, 107]⟩
def spB : ByteArray := ⟨#[32]⟩
def ruleL (m b : Int) : List ByteArray := [fmtN (smL m b), trimB, itB (invR m b), blockB, itB (blkR m b).1, itB (blkR m b).2]
def ruleLn (m b : Int) : ByteArray := if ruleOk m b then joinB (ruleL m b) spB else ⟨#[110, 111, 110, 101]⟩
theorem rule_join (f t k s : ByteArray) : joinB [f, trimB, t, blockB, k, s] spB = f ++ ⟨#[32, 116, 114, 105, 109, 32]⟩ ++ t ++ ⟨#[32, 98, 108, 111, 99, 107, 32]⟩ ++ k ++ ⟨#[32]⟩ ++ s := by
  have e : ∀ x : ByteArray, x = ⟨x.data.toList.toArray⟩ := fun x => rfl
  rw [e f, e t, e k, e s]
  rw [show (⟨#[32, 116, 114, 105, 109, 32]⟩ : ByteArray) = ⟨[(32 : UInt8), 116, 114, 105, 109, 32].toArray⟩ from rfl, show (⟨#[32, 98, 108, 111, 99, 107, 32]⟩ : ByteArray) = ⟨[(32 : UInt8), 98, 108, 111, 99, 107, 32].toArray⟩ from rfl, show (⟨#[32]⟩ : ByteArray) = ⟨[(32 : UInt8)].toArray⟩ from rfl]
  simp only [ba_app]
  unfold joinB
  congr 2
  simp [Lib.join_cons, Lib.joinTail, trimB, blockB, spB]
theorem OwnS.lit6 (w : World) (base : Nat) (h : base ≤ w.heap.size) (a b c d e f : ByteArray) : OwnS (w.alloc (.cells #[.string a, .string b, .string c, .string d, .string e, .string f] 9)) base (.slice (some ⟨w.heap.size, 0, none⟩) 6 6) [a, b, c, d, e, f] :=
  World.ownsRow_lit _ #[.string a, .string b, .string c, .string d, .string e, .string f] 6 h (by simp [maxLen]) rfl
set_option maxRecDepth 8000 in
set_option maxHeartbeats 400000 in
theorem RuleLine_any (m b : Int) (w : World) (ht : Tab w) :
    Calls Tryd.prog 20 #[.int .i64 m, .int .i64 b] w fun e w' => e = .returned (.string (ruleLn m b)) ∧ Below w.heap.size w w' := by
  have HT := Lib.hid ht; clear ht
  cases hq : ruleOk m b
  · have HF : Hid (ruleLn m b = ⟨#[110, 111, 110, 101]⟩) := by show _ = _; simp [ruleLn, hq]
    go_enter Tryd.func20, Tryd.ntmps20
    go_wp2_with (go_at_call 47; refine (isRuled_any _ _ _).mono ?_; rintro e w' ⟨rfl, rfl⟩)
    go_ret
    exact ⟨by rw [HF.out] <;> rfl, Below.refl _ _⟩
  obtain ⟨hb1, hb2, hm1, hm2⟩ := ruleOk_t hq
  have HF : Hid (ruleLn m b = joinB (ruleL m b) spB) := by show _ = _; simp [ruleLn, hq]
  have HBR : Hid (∀ W : World, Calls Tryd.prog 48 #[.int .i64 m, .int .i64 b] W fun e w' => e = .returned (.tuple #[.int .i64 (blkR m b).1, .int .i64 (blkR m b).2]) ∧ W = w') := fun W => BlockRule_any m b W
  have HSW : Hid (∀ W : World, Calls Tryd.prog 49 #[.int .i64 m, .int .i64 b, .int .i64 6] W (RetI W (smL m b))) := fun W => SmallWeights_6 m b W hq
  have HTF : Hid (∀ W : World, Calls Tryd.prog 50 #[.int .i64 m, .int .i64 b] W fun e w' => e = .returned (.int .i64 (invR m b)) ∧ Below W.heap.size W w') := fun W => TrimFactor_any m b W hq
  have hok : okI (smL m b) := fun x hx => by have := smL_mem hq x hx; exact ⟨by omega, by omega⟩
  have hfs := fmtN_size _ hok
  have hsl : (smL m b).length ≤ 6 := by rw [smL_len]; decide
  have hib := invR_bd m b (by omega) hm2
  have hbb := blkR_bd m b
  have HOK := Lib.hid hok
  have HO1 : Hid (i64B (invR m b)) := ⟨by omega, by omega⟩
  have HO2 : Hid (i64B (blkR m b).1) := ⟨by omega, by omega⟩
  have HO3 : Hid (i64B (blkR m b).2) := ⟨by omega, by omega⟩
  have HL : Hid (ruleL m b = [fmtN (smL m b), trimB, itB (invR m b), blockB, itB (blkR m b).1, itB (blkR m b).2]) := rfl
  have HM : Hid (∀ x ∈ [fmtN (smL m b), trimB, itB (invR m b), blockB, itB (blkR m b).1, itB (blkR m b).2], x.data.toList.length ≤ 30000) := by
    intro x hx
    have l1 := itB_size _ HO1.out
    have l2 := itB_size _ HO2.out
    have l3 := itB_size _ HO3.out
    have hsz : ∀ y : ByteArray, y.data.toList.length = y.size := fun y => rfl
    rw [hsz]
    simp only [List.mem_cons, List.not_mem_nil, or_false] at hx
    rcases hx with rfl | rfl | rfl | rfl | rfl | rfl
    · omega
    · decide
    · omega
    · decide
    · omega
    · omega
  clear hok
  go_enter Tryd.func20, Tryd.ntmps20
  go_wp2_with (go_at_call 47; refine (isRuled_any _ _ _).mono ?_; rintro e w' ⟨rfl, rfl⟩)
  clear hq
  refine (HBR.out _).mono ?_
  rintro e w' ⟨rfl, rfl⟩
  go_wp2_with fail
  refine (HSW.out _).mono ?_
  rintro e w1 ⟨a1, c1, rfl, hown, hb⟩
  have HO := Lib.hid hown.ints
  have HB1 := Lib.hid hb
  clear hown hb
  generalize (blkR m b).1 = bk at *
  generalize (blkR m b).2 = bs at *
  generalize invR m b = iv at *
  generalize smL m b = sl at *
  go_wp2_with fail
  refine (FormatNumbers_any a1 c1 sl _ HO.out (by omega) HOK.out (HT.out.upd HB1.out)).mono ?_
  rintro e w2 ⟨rfl, hb⟩
  have HB2 := Lib.hid (HB1.out.trans (hb.mono HB1.out.size))
  clear hb HB1 HO
  go_wp2_with fail
  refine (HTF.out _).mono ?_
  rintro e w3 ⟨rfl, hb⟩
  have HB3 := Lib.hid (HB2.out.trans (hb.mono HB2.out.size))
  clear hb HB2
  go_wp2_with fail
  refine (FormatInt_any iv _ HO1.out (HT.out.upd HB3.out)).mono ?_
  rintro e w4 ⟨rfl, hb⟩
  have HB4 := Lib.hid (HB3.out.trans (hb.mono HB3.out.size))
  clear hb HB3
  go_wp2_with fail
  refine (FormatInt_any bk _ HO2.out (HT.out.upd HB4.out)).mono ?_
  rintro e w5 ⟨rfl, hb⟩
  have HB5 := Lib.hid (HB4.out.trans (hb.mono HB4.out.size))
  clear hb HB4
  go_wp2_with fail
  refine (FormatInt_any bs _ HO3.out (HT.out.upd HB5.out)).mono ?_
  rintro e w6 ⟨rfl, hb⟩
  have HB6 := Lib.hid (HB5.out.trans (hb.mono HB5.out.size))
  clear hb HB5
  go_wp2_with fail
  have hs6 := HB6.out.size
  refine (Join_any w.heap.size _ _ _ _ (OwnS.lit6 w6 w.heap.size hs6 (fmtN sl) trimB (itB iv) blockB (itB bk) (itB bs)) (by decide) (by simp) HM.out).mono ?_
  rintro e w7 ⟨rfl, hb⟩
  go_wp2_with fail
  go_ret
  exact ⟨by rw [HF.out, HL.out] <;> rfl, (HB6.out.alloc hs6 _).trans (hb.mono (by simp; omega))⟩
set_option maxRecDepth 8000 in
set_option maxHeartbeats 400000 in
theorem sRuleLine_any (m b : Int) (w : World) :
    Calls Tryd.prog 19 #[.int .i64 m, .int .i64 b] w fun e w' => e = .returned (.string (ruleLn m b)) ∧ Below w.heap.size w w' := by
  cases hq : ruleOk m b
  · have HF : Hid (ruleLn m b = ⟨#[110, 111, 110, 101]⟩) := by show _ = _; simp [ruleLn, hq]
    go_enter Tryd.func19, Tryd.ntmps19
    go_wp2_with (go_at_call 43; refine (l24Ok_any _ _ _).mono ?_; rintro e w' ⟨rfl, rfl⟩)
    go_ret
    exact ⟨by rw [HF.out] <;> rfl, Below.refl _ _⟩
  obtain ⟨hb1, hb2, hm1, hm2⟩ := ruleOk_t hq
  have HF : Hid (ruleLn m b = fmtN (smL m b) ++ ⟨#[32, 116, 114, 105, 109, 32]⟩ ++ itB (invR m b) ++ ⟨#[32, 98, 108, 111, 99, 107, 32]⟩ ++ itB (blkR m b).1 ++ ⟨#[32]⟩ ++ itB (blkR m b).2) := by
    show _ = _
    rw [ruleLn, if_pos hq, ruleL, rule_join]
  have HBR : Hid (∀ W : World, Calls Tryd.prog 44 #[.int .i64 m, .int .i64 b] W fun e w' => e = .returned (.tuple #[.int .i64 (blkR m b).1, .int .i64 (blkR m b).2]) ∧ W = w') := fun W => sBlockRule_any m b W
  have HSW : Hid (∀ W : World, Calls Tryd.prog 45 #[.int .i64 m, .int .i64 b, .int .i64 6] W (RetI W (smL m b))) := fun W => sSmallWeights_6 m b W hq
  have HTF : Hid (∀ W : World, Calls Tryd.prog 46 #[.int .i64 m, .int .i64 b] W fun e w' => e = .returned (.int .i64 (invR m b)) ∧ Below W.heap.size W w') := fun W => sTrimFactor_any m b W hq
  have hok : okI (smL m b) := fun x hx => by have := smL_mem hq x hx; exact ⟨by omega, by omega⟩
  have hfs := fmtN_size _ hok
  have hsl : (smL m b).length ≤ 6 := by rw [smL_len]; decide
  have hib := invR_bd m b (by omega) hm2
  have hbb := blkR_bd m b
  have HOK := Lib.hid hok
  have HO1 : Hid (i64B (invR m b)) := ⟨by omega, by omega⟩
  have HO2 : Hid (i64B (blkR m b).1) := ⟨by omega, by omega⟩
  have HO3 : Hid (i64B (blkR m b).2) := ⟨by omega, by omega⟩
  have l1 := itB_size _ HO1.out
  have l2 := itB_size _ HO2.out
  have l3 := itB_size _ HO3.out
  clear hok
  go_enter Tryd.func19, Tryd.ntmps19
  go_wp2_with (go_at_call 43; refine (l24Ok_any _ _ _).mono ?_; rintro e w' ⟨rfl, rfl⟩)
  clear hq
  refine (HBR.out _).mono ?_
  rintro e w' ⟨rfl, rfl⟩
  go_wp2_with fail
  refine (HSW.out _).mono ?_
  rintro e w1 ⟨a1, c1, rfl, hown, hb⟩
  have HO := Lib.hid hown.ints
  have HB1 := Lib.hid hb
  clear hown hb
  generalize (blkR m b).1 = bk at *
  generalize (blkR m b).2 = bs at *
  generalize invR m b = iv at *
  generalize smL m b = sl at *
  have HCI : Hid (∀ W : World, Calls Tryd.prog 31 #[.int .i64 iv] W fun e w' => e = .returned (.string (itB iv)) ∧ Below W.heap.size W w') := fun W => sFormatInt_any iv W HO1.out
  have HCK : Hid (∀ W : World, Calls Tryd.prog 31 #[.int .i64 bk] W fun e w' => e = .returned (.string (itB bk)) ∧ Below W.heap.size W w') := fun W => sFormatInt_any bk W HO2.out
  have HCS : Hid (∀ W : World, Calls Tryd.prog 31 #[.int .i64 bs] W fun e w' => e = .returned (.string (itB bs)) ∧ Below W.heap.size W w') := fun W => sFormatInt_any bs W HO3.out
  have HCF : Hid (∀ W : World, Ints W W.heap.size a1 c1 sl → Calls Tryd.prog 11 #[.slice a1 sl.length c1] W fun e w' => e = .returned (.string (fmtN sl)) ∧ Below W.heap.size W w') := fun W h => sFormatNumbers_any a1 c1 sl W h (by omega) HOK.out
  generalize itB iv = s1 at *
  generalize itB bk = s2 at *
  generalize itB bs = s3 at *
  generalize fmtN sl = s0 at *
  go_wp2_with fail
  refine (HCF.out _ HO.out).mono ?_
  rintro e w2 ⟨rfl, hb⟩
  have HB2 := Lib.hid (HB1.out.trans (hb.mono HB1.out.size))
  clear hb HB1 HO
  go_wp2_with fail
  refine (HTF.out _).mono ?_
  rintro e w3 ⟨rfl, hb⟩
  have HB3 := Lib.hid (HB2.out.trans (hb.mono HB2.out.size))
  clear hb HB2
  go_wp2_with fail
  refine (HCI.out _).mono ?_
  rintro e w4 ⟨rfl, hb⟩
  have HB4 := Lib.hid (HB3.out.trans (hb.mono HB3.out.size))
  clear hb HB3
  go_wp2_with fail
  refine (HCK.out _).mono ?_
  rintro e w5 ⟨rfl, hb⟩
  have HB5 := Lib.hid (HB4.out.trans (hb.mono HB4.out.size))
  clear hb HB4
  go_wp2_with fail
  refine (HCS.out _).mono ?_
  rintro e w6 ⟨rfl, hb⟩
  have HB6 := Lib.hid (HB5.out.trans (hb.mono HB5.out.size))
  clear hb HB5
  go_wp2_with fail
  go_ret
  exact ⟨by rw [HF.out] <;> rfl, HB6.out⟩
set_option maxHeartbeats 2000000 in
theorem law_FnExactRuleLine (m : Int) (b : Int) (w : World) (fm : (Lit.int .i64 m).wf = true) (fb : (Lit.int .i64 b).wf = true) (ht : Tab w) :
    Calls Tryd.prog 6 #[.int .i64 m, .int .i64 b] w fun e w' => e = .returned (.bool true) ∧ Below w.heap.size w w' := by
  have HB0 : Hid (Below w.heap.size w w) := Below.refl _ _
  have HT := Lib.hid ht; clear ht
  go_enter Tryd.func6, Tryd.ntmps6
  go_wp2_with fail
  refine (sRuleLine_any m b _).mono ?_
  rintro e w1 ⟨rfl, hb⟩
  have hu := Below.upd hb; clear hb
  have hs1 := hu.size
  have HB1 : Hid (Below w.heap.size w w1) := HB0.out.trans (hu.below (by omega) (by omega))
  clear hu
  go_wp2_with fail
  refine (RuleLine_any m b _ (HT.out.upd HB1.out)).mono ?_
  rintro e w2 ⟨rfl, hb⟩
  have hu := Below.upd hb; clear hb
  have hs2 := hu.size
  have HB2 : Hid (Below w.heap.size w w2) := HB1.out.trans (hu.below (by omega) (by omega))
  clear hu
  go_wp2_with fail
  go_ret
  exact ⟨rfl, HB2.out⟩

end Go.Proofs.YtdpddbajeldgiaaDoor
