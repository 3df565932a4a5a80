/- Automorphic numbers, split squares, meetings: program and reference. Conditions: those of each contract. -/
import Derived.Test.YtkcjjhdmklhepaaSelvesC
namespace Go.Proofs.Ytkcjjhdmklhepaa
set_option linter.unusedVariables false
open Go.RowKit

def autos (p : Int) : List Int := upto (fun n => n * n % p == n) 0 p.toNat
def autoR (b k : Int) : List Int := if inB b 2 16 && inB k 1 4 then autos (b ^ k.toNat) else []
theorem pow_4 (b : Int) (h0 : 2 ≤ b) (h1 : b ≤ 16) (k : Nat) (hk : k ≤ 4) : 1 ≤ b ^ k ∧ b ^ k ≤ 65536 := by
  refine ⟨Int.pow_pos (by omega), ?_⟩
  refine Int.le_trans (pow_le16 b (by omega) h1 k).2 ?_
  have : ∀ j : Fin 5, (16 : Int) ^ j.val ≤ 65536 := by decide
  exact this ⟨k, by omega⟩
theorem autos_len (p : Int) : (autos p).length ≤ p.toNat := upto_len _ _ _
theorem autoR_len (b k : Int) : (autoR b k).length ≤ 65536 := by
  unfold autoR
  split
  · rename_i h
    simp only [Bool.and_eq_true, inB_t] at h
    have h1 := pow_4 b (by omega) (by omega) k.toNat (by omega)
    have h2 := autos_len (b ^ k.toNat)
    omega
  · simp
set_option maxHeartbeats 400000 in
theorem AutomorphicOf_any (b k : Int) (w : World) :
    Calls Try.prog 7 #[.int .i64 b, .int .i64 k] w (RetI w (autoR b k)) := by
  cases hb : inB b 2 16
  · have HF : Hid (autoR b k = []) := by show _ = _; simp [autoR, hb]
    go_enter Try.func7, Try.ntmps7
    go_wp2_with (first | (go_at_call 46; refine (BaseOk_any _ _).mono ?_; rintro e w' ⟨rfl, rfl⟩) | (go_at_call 47; refine (within_any _ _ _ _).mono ?_; rintro e w' ⟨rfl, rfl⟩))
    go_ret
    rw [HF.out]
    exact (OwnV.nil _ _).ret (Below.refl _ _)
  cases hk : inB k 1 4
  · have HF : Hid (autoR b k = []) := by show _ = _; simp [autoR, hb, hk]
    go_enter Try.func7, Try.ntmps7
    go_wp2_with (first | (go_at_call 46; refine (BaseOk_any _ _).mono ?_; rintro e w' ⟨rfl, rfl⟩) | (go_at_call 47; refine (within_any _ _ _ _).mono ?_; rintro e w' ⟨rfl, rfl⟩))
    go_ret
    rw [HF.out]
    exact (OwnV.nil _ _).ret (Below.refl _ _)
  obtain ⟨hb1, hb2⟩ := inB_t.1 hb
  obtain ⟨hk1, hk2⟩ := inB_t.1 hk
  obtain ⟨k, rfl⟩ := Int.eq_ofNat_of_zero_le (show 0 ≤ k by omega)
  obtain ⟨hp1, hp2⟩ := pow_4 b hb1 hb2 k (by omega)
  have hk6 : inB (k : Int) 1 6 = true := inB_t.2 (by omega)
  have HF : Hid (autoR b k = autos (b ^ k)) := by show _ = _; simp [autoR, hb, hk]
  have HA : Hid (∀ x : Int, 0 ≤ x → x < b ^ k → autoB x b k = (x * x % b ^ k == x)) := by
    intro x h0 h1
    have : inB x 0 (b ^ k - 1) = true := inB_t.2 (by omega)
    simp [autoB, hb, hk6, this]
  go_enter Try.func7, Try.ntmps7
  go_wp2_with (first | (go_at_call 46; refine (BaseOk_any _ _).mono ?_; rintro e w' ⟨rfl, rfl⟩) | (go_at_call 47; refine (within_any _ _ _ _).mono ?_; rintro e w' ⟨rfl, rfl⟩) | (go_at_call 48; refine (power_any _ _ _ (by omega) (by omega) (by omega)).mono ?_; rintro e w' ⟨rfl, rfl⟩))
  clear hb hk hk6
  go_loopw [5, 18] (fun v i wr => ∃ j : Nat, i = .int .i64 j ∧ (j : Int) ≤ b ^ k ∧ OwnV wr w.heap.size v (upto (fun n => n * n % b ^ k == n) 0 j) ∧ Below w.heap.size w wr) (fun _ i _ => (b ^ k - intOf i).toNat)
  case atStart => exact ⟨0, rfl, by omega, OwnV.nil _ _, Below.refl _ _⟩
  case round =>
    obtain ⟨j, rfl, hj, hown, hbl⟩ := hrel
    have hsz := hbl.size
    have HBL := Lib.hid hbl; clear hbl
    by_cases hlt : (j : Int) < b ^ k
    · have hjl := upto_len (fun n => n * n % b ^ k == n) 0 j
      have ha := HA.out j (by omega) hlt
      cases hsrc : autoB j b k
      · rw [hsrc] at ha
        have HNO := Lib.hid (upto_no (P := fun n => n * n % b ^ k == n) (lo := 0) (k := j) (by simpa using ha.symm))
        clear ha
        go_wp2_with fail
        refine (IsAutomorphic_any _ _ _ _).mono ?_
        rintro e w' ⟨rfl, rfl⟩
        go_wp2_with fail
        go_roundw
        case rel => exact ⟨j + 1, by go_num, by omega, by rw [HNO.out]; exact hown, HBL.out⟩
        case measure => simp [intOf]; omega
      · rw [hsrc] at ha
        have HYES := Lib.hid (upto_yes (P := fun n => n * n % b ^ k == n) (lo := 0) (k := j) (by simpa using ha.symm))
        clear ha
        go_wp2_with fail
        refine (IsAutomorphic_any _ _ _ _).mono ?_
        rintro e w' ⟨rfl, rfl⟩
        go_wp2_with (at_builtin; refine wpList_append_int rfl _ _ rfl w.heap.size _ _ rfl hown _ rfl (by omega) (by omega) ?_; intro v' w2 hown2 hbl2)
        have HB2 := Lib.hid hbl2; clear hbl2
        go_roundw
        case rel => exact ⟨j + 1, by go_num, by omega, by rw [HYES.out, Int.zero_add]; exact hown2, HBL.out.trans HB2.out⟩
        case measure => simp [intOf]; omega
    · have HJ : Hid ((b ^ k).toNat = j) := by show _ = _; omega
      go_wp2_with fail
      go_ret
      rw [HF.out]
      unfold autos
      rw [HJ.out]
      exact hown.ret HBL.out
theorem meet_lt (b most p q : Int) (h : p < q) (h2 : 0 < dsum p b) (h3 : q ≤ 1000000) (h4 : most ≤ 1000000) : meet b most p q = if most < p + dsum p b then -1 else meet b most q (p + dsum p b) := by
  have e := meet_ne b most p q (by omega) (by rw [Int.min_eq_left (by omega)]; exact h2) (by omega) h4
  rw [Int.min_eq_left (by omega), Int.max_eq_right (by omega)] at e
  exact e
theorem meet_gt (b most p q : Int) (h : q < p) (h2 : 0 < dsum q b) (h3 : p ≤ 1000000) (h4 : most ≤ 1000000) : meet b most p q = if most < q + dsum q b then -1 else meet b most p (q + dsum q b) := by
  rw [meet_comm, meet_lt b most q p h h2 h3 h4]
set_option maxHeartbeats 400000 in
theorem MeetingOf_any (n m b most : Int) (w : World) :
    Calls Try.prog 14 #[.int .i64 n, .int .i64 m, .int .i64 b, .int .i64 most] w fun e w' => e = .returned (.int .i64 (meetR n m b most)) ∧ Below w.heap.size w w' := by
  cases hk : (inB b 2 16 && (inB n 1 1000000 && (inB m 1 1000000 && inB most 1 1000000)))
  · have HF : Hid (meetR n m b most = -1) := by show _ = _; simp only [meetR, hk]; rfl
    cases hb : inB b 2 16
    all_goals cases hn : inB n 1 1000000
    all_goals cases hm : inB m 1 1000000
    all_goals cases ho : inB most 1 1000000
    all_goals try (exfalso; rw [hb, hn, hm, ho] at hk; exact absurd hk (by decide))
    all_goals
      clear hk
      go_enter Try.func14, Try.ntmps14
      go_wp2_with (first | (go_at_call 46; refine (BaseOk_any _ _).mono ?_; rintro e w' ⟨rfl, rfl⟩) | (go_at_call 47; refine (within_any _ _ _ _).mono ?_; rintro e w' ⟨rfl, rfl⟩))
      go_ret
      exact ⟨by rw [HF.out]; rfl, Below.refl _ _⟩
  have HF : Hid (meetR n m b most = meet b most n m) := by show _ = _; simp only [meetR, hk]; rfl
  simp only [Bool.and_eq_true] at hk
  obtain ⟨hb, hn, hm, ho⟩ := hk
  obtain ⟨hb1, hb2⟩ := inB_t.1 hb
  obtain ⟨hn1, hn2⟩ := inB_t.1 hn
  obtain ⟨hm1, hm2⟩ := inB_t.1 hm
  obtain ⟨ho1, ho2⟩ := inB_t.1 ho
  go_enter Try.func14, Try.ntmps14
  go_wp2_with (first | (go_at_call 46; refine (BaseOk_any _ _).mono ?_; rintro e w' ⟨rfl, rfl⟩) | (go_at_call 47; refine (within_any _ _ _ _).mono ?_; rintro e w' ⟨rfl, rfl⟩))
  have HBB := Lib.hid hb
  clear hb hn hm ho
  go_loopw [0, 1] (fun x y wr => ∃ p q : Int, x = .int .i64 p ∧ y = .int .i64 q ∧ 1 ≤ p ∧ 1 ≤ q ∧ p ≤ 1000000 ∧ q ≤ 1000000 ∧ meet b most p q = meetR n m b most ∧ Below w.heap.size w wr) (fun x y _ => (2000001 - (intOf x + intOf y)).toNat)
  case atStart => exact ⟨n, m, rfl, rfl, by omega, by omega, by omega, by omega, HF.out.symm, Below.refl _ _⟩
  case round =>
    obtain ⟨p, q, rfl, rfl, hp1, hq1, hp2, hq2, hmeet, hbl⟩ := hrel
    have hsz := hbl.size
    have HBL := Lib.hid hbl; clear hbl
    have HM := Lib.hid hmeet; clear hmeet
    by_cases hpq : p = q
    · subst hpq
      have hq : (p != p) = false := by simp
      have HE := Lib.hid (meet_eq b most p)
      by_cases hmo : most < p
      all_goals
        go_wp2_with fail
        go_ret
        exact ⟨by rw [← HM.out, HE.out]; first | (rw [if_pos (by omega)]; rfl) | (rw [if_neg (by omega)]; rfl), HBL.out⟩
    rcases Int.lt_or_gt_of_ne hpq with hlt | hlt
    · have hd0 := dsum_pos p b hb1 (by omega) (by omega)
      obtain ⟨hd1, hd2⟩ := dsum_bd p b hb1 hb2
      have HN := Lib.hid (meet_lt b most p q (by omega) (by omega) (by omega) (by omega))
      have hne : (p != q) = true := by rw [bne_iff_ne]; exact hpq
      have had := addB_yes p b HBB.out (inB_t.2 (by omega))
      clear hpq
      by_cases hmo : most < p + dsum p b
      · go_wp2_with fail
        refine (AddDigitSum_any _ _ _).mono ?_
        rintro e w1 ⟨rfl, hbl1⟩
        rw [had]; clear had
        have HB1 := Lib.hid hbl1; clear hbl1
        go_wp2_with fail
        go_ret
        exact ⟨by rw [← HM.out, HN.out, if_pos (by omega)]; rfl, HBL.out.trans (HB1.out.mono hsz)⟩
      · go_wp2_with fail
        refine (AddDigitSum_any _ _ _).mono ?_
        rintro e w1 ⟨rfl, hbl1⟩
        rw [had]; clear had
        have HB1 := Lib.hid hbl1; clear hbl1
        go_wp2_with fail
        go_roundw
        case rel => exact ⟨q, p + dsum p b, rfl, rfl, by omega, by omega, by omega, by omega, by rw [← HM.out, HN.out, if_neg (by omega)], HBL.out.trans (HB1.out.mono hsz)⟩
        case measure => simp [intOf]; omega
    · have hd0 := dsum_pos q b hb1 (by omega) (by omega)
      obtain ⟨hd1, hd2⟩ := dsum_bd q b hb1 hb2
      have HN := Lib.hid (meet_gt b most p q (by omega) (by omega) (by omega) (by omega))
      have hne : (p != q) = true := by rw [bne_iff_ne]; exact hpq
      have had := addB_yes q b HBB.out (inB_t.2 (by omega))
      clear hpq
      by_cases hmo : most < q + dsum q b
      · go_wp2_with fail
        refine (AddDigitSum_any _ _ _).mono ?_
        rintro e w1 ⟨rfl, hbl1⟩
        rw [had]; clear had
        have HB1 := Lib.hid hbl1; clear hbl1
        go_wp2_with fail
        go_ret
        exact ⟨by rw [← HM.out, HN.out, if_pos (by omega)]; rfl, HBL.out.trans (HB1.out.mono hsz)⟩
      · go_wp2_with fail
        refine (AddDigitSum_any _ _ _).mono ?_
        rintro e w1 ⟨rfl, hbl1⟩
        rw [had]; clear had
        have HB1 := Lib.hid hbl1; clear hbl1
        go_wp2_with fail
        go_roundw
        case rel => exact ⟨p, q + dsum q b, rfl, rfl, by omega, by omega, by omega, by omega, by rw [← HM.out, HN.out, if_neg (by omega)], HBL.out.trans (HB1.out.mono hsz)⟩
        case measure => simp [intOf]; omega

end Go.Proofs.Ytkcjjhdmklhepaa
