/- The contract of the program's classes. Conditions: those of each contract. -/
import Derived.Test.YtkapbhlnjmfaaaaDoorClsW
namespace Go.Proofs.YtkapbhlnjmfaaaaDoor
set_option linter.unusedVariables false
open Go.RowKit

set_option maxRecDepth 8000 in
set_option maxHeartbeats 4000000 in
theorem classes_any (a1 : Option Addr) (c1 : Nat) (a2 : Option Addr) (c2 : Nat) (m : Ma) (w : World) (hm : Mach w w.heap.size a1 c1 a2 c2 m) (hok : maOk m = true) (ht : Tab w) :
    Calls Tryd.prog 31 #[.agg #[.int .i64 m.base, .slice a1 m.next.length c1, .slice a2 m.final.length c2]] w
      fun e w' => ∃ g, e = .returned (.slice (some ⟨g, 0, none⟩) m.final.length m.final.length) ∧ RowN w' g m.final.length (clL m m.final.length) ∧ w.heap.size ≤ g ∧ Below w.heap.size w w' := by
  obtain ⟨q2, q10, n1, n144, -, -⟩ := maOk_t hok
  obtain ⟨w0, e0, hb0, hs0, k0, k1, k2⟩ := box_new m.base a1 m.next.length c1 a2 m.final.length c2 w
  obtain ⟨i0, hi, hz0, hz1, hz2⟩ := info_parts info_int
  have hmm := @run_makeMap Tryd.prog
  have HK : Hid (∀ W : World, Below w0.heap.size w0 W → W.cell? ⟨w.heap.size, 0, none⟩ = some (.int .i64 m.base) ∧ W.cell? ⟨w.heap.size, 1, none⟩ = some (.slice a1 m.next.length c1) ∧ W.cell? ⟨w.heap.size, 2, none⟩ = some (.slice a2 m.final.length c2)) := fun W hW =>
    ⟨(hW.cell (p := ⟨w.heap.size, 0, none⟩) (by show w.heap.size < _; omega)).trans k0, (hW.cell (p := ⟨w.heap.size, 1, none⟩) (by show w.heap.size < _; omega)).trans k1, (hW.cell (p := ⟨w.heap.size, 2, none⟩) (by show w.heap.size < _; omega)).trans k2⟩
  have HBW : Hid (∀ W : World, Below w0.heap.size w0 W → Below w.heap.size w W) := fun W hW => hb0.trans (hW.mono (by omega))
  have HML : Hid (∀ W : World, Below w0.heap.size w0 W → Mach W W.heap.size a1 c1 a2 c2 m) := fun W hW => hm.later (HBW.out W hW)
  have HT : Hid (∀ W : World, Below w0.heap.size w0 W → Tab W) := fun W hW => ht.upd (HBW.out W hW)
  have HST : Hid (∀ (W : World) (s d : Nat), Below w0.heap.size w0 W → s < m.final.length → d < m.base.toNat → Calls Tryd.prog 30 #[.agg #[.int .i64 m.base, .slice a1 m.next.length c1, .slice a2 m.final.length c2], .int .i64 s, .int .i64 d] W fun e w' => e = .returned (.int .i64 (nxM m s d)) ∧ Below W.heap.size W w') := fun W s d hW hs hd => by
    rw [← (nxM_eq hok s d hs hd).1]
    exact step_any a1 c1 a2 c2 m _ _ W (HML.out W hW) hok (by omega) (by omega) (by omega) (by omega)
  have HFI : Hid (∀ (n : Int) (W : World), 0 ≤ n → n ≤ 1000000 → Below w0.heap.size w0 W → Calls Tryd.prog 50 #[.int .i64 n] W fun e w' => e = .returned (.string (itB n)) ∧ Below W.heap.size W w') := fun n W h0 h1 hW => FormatInt_any n W ⟨by omega, by omega⟩ (HT.out W hW)
  obtain ⟨-, -, bf, offf, haf, hcf⟩ := (HML.out w0 (Below.refl _ _)).bools
  obtain ⟨rfl, hbf⟩ := haf (by omega)
  have HCF := Lib.hid hcf
  obtain ⟨k0, k1, k2⟩ := HK.out w0 (Below.refl _ _)
  clear hm haf hcf hb0 k0 k1
  go_enter Tryd.func31, Tryd.ntmps31
  go_wp2_with (at_make; refine wpList_make_full _ rfl _ _ 24 rfl (w.heap.size + 1) 3 i0 (.int .i64 0) 1 Tryd.underlying24 hi hz0 hz1 .i64 .i64 _ _ m.final.length rfl rfl rfl rfl ?_ ?_ (by simp) ?_)
  · rw [hz2]; omega
  · unfold maxLen; omega
  intro w1 hown hgrow
  have hr0 : RowN w1 (w.heap.size + 1) m.final.length (firstL m 0) := by
    rw [firstL_zero]
    exact RowN.made (by simpa using hown)
  rw [← e0] at hgrow
  clear e0
  have hb1 : Below w0.heap.size w0 w1 := (Below.refl _ _).grown hgrow (Nat.le_refl _) (fun k hk => by cases hk)
  have HR0 := Lib.hid hr0
  have HB1 := Lib.hid hb1
  have h2 := (HK.out w1 hb1).2.2
  have hs1 := hr0.blk (by omega)
  clear hown hgrow hr0 hb1
  go_wp2_with fail
  have HBB : Hid (∀ W : World, Below w0.heap.size w0 W → ∀ i (h : i < m.final.length), W.cell? ⟨bf, offf + i, none⟩ = some (.bool m.final[i])) := fun W hW i h => by
    rw [hW.cell (p := ⟨bf, offf + i, none⟩) hbf]
    exact HCF.out i h
  clear hbf HCF h2
  go_loopw [21] (fun iv wr => ∃ k : Nat, k ≤ m.final.length ∧ iv = .int .i64 k ∧ RowN wr (w.heap.size + 1) m.final.length (firstL m k) ∧ Below w0.heap.size w0 wr) (fun iv _ => m.final.length - (intOf iv).toNat)
  case atStart => exact ⟨0, Nat.zero_le _, rfl, HR0.out, HB1.out⟩
  case round =>
    obtain ⟨k, hk, rfl, hr, hb⟩ := hrel
    have HB := Lib.hid hb
    have HR := Lib.hid hr
    clear hb hr
    by_cases hlt : k < m.final.length
    · have hcx := HBB.out wr HB.out k hlt
      have hfl : k < (firstL m k).length := by simp [firstL]; omega
      have hcy := HR.out.cell k hfl
      have hfz := HR.out.frozen k
      cases hf : m.final[k]
      · have HS := Lib.hid (firstL_skip m k hlt hf)
        rw [hf] at hcx
        clear hf
        go_wp2_with fail
        go_roundw
        case rel => exact ⟨k + 1, by omega, by go_num, by rw [← HS.out]; exact HR.out, HB.out⟩
        case measure => simp [intOf]; omega
      · have HS := Lib.hid (firstL_set m k hlt hf)
        have HN := Lib.hid (HR.out.set k 1)
        rw [hf] at hcx
        clear hf
        go_wp2_with fail
        go_roundw
        case rel => exact ⟨k + 1, by omega, by go_num, by rw [← HS.out]; exact HN.out, HB.out.setCell (by show w0.heap.size ≤ w.heap.size + 1; omega) _⟩
        case measure => simp [intOf]; omega
    · obtain rfl : k = m.final.length := by omega
      have HR2 : Hid (RowN wr (w.heap.size + 1) m.final.length (clL m 0)) := by
        show RowN _ _ _ _
        rw [← firstL_all]
        exact HR.out
      clear HR
      go_wp2_with fail
      have HRZ : Hid (∀ r, (1 : Int) ≤ cntM m r ∧ cntM m r ≤ m.final.length) := fun r => by
        have h1 : 0 < cntM m r := cnt_pos (by omega)
        have h2 : cntM m r ≤ m.final.length := cnt_le _ _ _ _ _
        omega
      go_loopw [3, 6] (fun cv mv wr => ∃ r g, cv = .slice (some ⟨g, 0, none⟩) m.final.length m.final.length ∧ mv = .int .i64 (mnM m r) ∧ RowN wr g m.final.length (clL m r) ∧ w.heap.size < g ∧ Below w0.heap.size w0 wr ∧ (r : Int) ≤ mnM m r + (if r = 0 then 1 else 0)) (fun _ mv _ => (m.final.length + 1 - intOf mv).toNat)
      case atStart => exact ⟨0, w.heap.size + 1, rfl, rfl, HR2.out, Nat.lt_succ_self _, HB.out, by simp [mnM]⟩
      case round =>
        clear HB HR2 HR0 HB1 hs1
        obtain ⟨r, g, rfl, rfl, hr, hg, hb, hrc⟩ := hrel
        have HRC := Lib.hid hrc
        have HB := Lib.hid hb
        have HR := Lib.hid hr
        have hgl := hr.blk (by omega)
        clear hb hr hrc
        obtain ⟨wo, hwo⟩ : ∃ wo, wo = wr := ⟨_, rfl⟩
        have HG : Hid (∀ W : World, Below wo.heap.size wo W → RowN W g m.final.length (clL m r)) := fun W hW => by
          subst hwo
          exact HR.out.kept hW hgl
        have HBO : Hid (∀ W : World, Below wo.heap.size wo W → Below w0.heap.size w0 W) := fun W hW => by
          subst hwo
          exact HB.out.trans (hW.mono HB.out.size)
        go_wp2_with (at_make; refine wpList_make_full _ rfl _ _ 24 rfl (wr.heap.size + 1) 3 i0 (.int .i64 0) 1 Tryd.underlying24 hi hz0 hz1 .i64 .i64 _ _ m.final.length rfl rfl rfl rfl ?_ ?_ (by simp) ?_)
        · rw [hz2]; omega
        · unfold maxLen; omega
        intro w2 hown hgrow
        subst hwo
        have hrn : RowN w2 (wo.heap.size + 1) m.final.length (partL m r 0) := by
          rw [partL_zero]
          exact RowN.made (by simpa using hown)
        have hb2 : Below wo.heap.size wo w2 := ((Below.refl _ _).alloc (Nat.le_refl _) _).grown hgrow (by simp) (fun k hk => by cases hk)
        have hmp : MapS w2 wo.heap.size 0 (msF (kst m.base.toNat (nxM m) (clM m r)) 0) (dist (kst m.base.toNat (nxM m) (clM m r)) 0).length := by
          have h1 := (MapS.made wo).congr (fun x => msF_zero (kst m.base.toNat (nxM m) (clM m r)) x)
          exact h1.same (hgrow.block wo.heap.size (by simp) (by simp))
        have hs2 := hrn.blk (by omega)
        have HRN := Lib.hid hrn
        have HB2 := Lib.hid hb2
        have HMP := Lib.hid hmp
        have hS0b := HB.out.size
        clear hown hgrow hrn hb2 hmp
        go_wp2_with fail
        go_loopw [37] (fun sv wr => ∃ k nn : Nat, k ≤ m.final.length ∧ nn ≤ k ∧ sv = .int .i64 k ∧ MapS wr wo.heap.size nn (msF (kst m.base.toNat (nxM m) (clM m r)) k) (dist (kst m.base.toNat (nxM m) (clM m r)) k).length ∧ RowN wr (wo.heap.size + 1) m.final.length (partL m r k) ∧ Below wo.heap.size wo wr) (fun sv _ => m.final.length - (intOf sv).toNat)
        case atStart => exact ⟨0, 0, Nat.zero_le _, Nat.zero_le _, rfl, HMP.out, HRN.out, HB2.out⟩
        case round =>
          clear HMP HRN HB2 hs2
          obtain ⟨k, nn, hk, hnk, rfl, hmp, hrn, hb3⟩ := hrel
          have HMP := Lib.hid hmp
          have HRN := Lib.hid hrn
          have HB3 := Lib.hid hb3
          have hs3 := hrn.blk (by omega)
          clear hmp hrn hb3
          by_cases hlt : k < m.final.length
          · obtain ⟨w3, hw3⟩ : ∃ w3, w3 = wr := ⟨_, rfl⟩
            have hbA : Below wo.heap.size wo (wr.alloc (.cells #[.pointer none, .slice none 0 0] 74)) := HB3.out.alloc HB3.out.size _
            have hcx := (HG.out _ hbA).cell k (by rw [clL_len]; exact hlt)
            rw [clL_get] at hcx
            have hck := clM_lt hok r k hlt
            have HBN : Hid (IsB w3.heap.size w3.heap.size [] (wr.alloc (.cells #[.pointer none, .slice none 0 0] 74))) := by
              subst hw3; exact IsB.new w3
            have HBA := Lib.hid hbA
            have HBA3 : Hid (Below w3.heap.size w3 (wr.alloc (.cells #[.pointer none, .slice none 0 0] 74))) := by
              subst hw3; exact (Below.refl _ _).alloc (Nat.le_refl _) _
            have hk1 : (0 : Int) ≤ (k : Int) := by omega
            have hk2 : (k : Int) < (m.final.length : Int) := by omega
            clear hbA
            go_wp2_with fail
            subst hw3
            have hsA := HBA.out.size
            refine (HFI.out (clM m r k : Int) _ (by omega) (by omega) (HBO.out _ HBA.out)).mono ?_
            rintro e w4 ⟨rfl, hb4⟩
            have hbn4 := HBN.out.kept hb4
            have hl4 := itB_len (clM m r k : Int) ⟨by omega, by omega⟩
            have HS4 : Hid ((itB (clM m r k : Int)).data.toList = kpre (nxM m) (clM m r) k 0) := by
              show _ = _
              rw [kpre_zero, itB, Lib.itoa_nonneg]
            have HBA4 : Hid (Below w3.heap.size w3 w4) := HBA3.out.trans (hb4.mono (by simp))
            have hw4 := HBA4.out.size
            generalize itB (clM m r k : Int) = s4 at *
            clear hb4 HBN HBA HBA3 hcx hsA
            go_wp2_with fail
            refine (WriteString_s w3.heap.size w3.heap.size [] s4 w4 hbn4 (by rw [List.length_nil]; have hz4 : s4.size ≤ 21 := (by rw [Array.length_toList] at hl4; exact hl4); omega) hw4).mono ?_
            rintro e w5 ⟨rfl, hbn5, hb5⟩
            rw [List.nil_append, HS4.out] at hbn5
            have HBN5 := Lib.hid hbn5
            have HBA5 : Hid (Below w3.heap.size w3 w5) := HBA4.out.trans hb5
            have hk0 := (HK.out w5 (HBO.out _ (HB3.out.trans (HBA5.out.mono HB3.out.size)))).1
            clear hbn4 hb5 HBA4 HS4 hw4 hbn5 hl4
            go_wp2_with fail
            have hbn : ((m.base.toNat : Nat) : Int) = m.base := by omega
            have HKL : Hid (∀ d, d ≤ m.base.toNat → (kpre (nxM m) (clM m r) k d).length ≤ 300) := fun d hd => kpre_small hok r k d hlt hd
            go_loopw [48] (fun dv wr => ∃ d : Nat, d ≤ m.base.toNat ∧ dv = .int .i64 d ∧ IsB w3.heap.size w3.heap.size (kpre (nxM m) (clM m r) k d) wr ∧ Below w3.heap.size w3 wr) (fun dv _ => m.base.toNat - (intOf dv).toNat)
            case atStart => exact ⟨0, Nat.zero_le _, rfl, HBN5.out, HBA5.out⟩
            case round =>
              clear HBN5 HBA5 hk0
              obtain ⟨d, hd, rfl, hbn6, hb6⟩ := hrel
              have HBN6 := Lib.hid hbn6
              have HB6 := Lib.hid hb6
              have HB36 : Hid (Below wo.heap.size wo wr) := HB3.out.trans (hb6.mono HB3.out.size)
              have hs6 := hb6.size
              clear hbn6 hb6
              by_cases hdl : d < m.base.toNat
              · obtain ⟨k0, k1, k2⟩ := HK.out wr (HBO.out _ HB36.out)
                have hdi : (d : Int) < m.base := by omega
                have hlen6 := HKL.out d hd
                have hn6 := nxM_lt hok k d hlt hdl
                go_wp2_with fail
                refine (HST.out wr k d (HBO.out _ HB36.out) hlt hdl).mono ?_
                rintro e w7 ⟨rfl, hb7⟩
                have HB37 : Hid (Below wo.heap.size wo w7) := HB36.out.trans (hb7.mono HB36.out.size)
                have hc7 := (HG.out _ HB37.out).cell (nxM m k d) (by rw [clL_len]; exact hn6)
                rw [clL_get] at hc7
                have hck7 := clM_lt hok r _ hn6
                have HBN7 := Lib.hid (HBN6.out.kept hb7)
                have HB7 := Lib.hid (HB6.out.trans (hb7.mono hs6))
                have HS7 : Hid (kpre (nxM m) (clM m r) k d ++ ((⟨#[44]⟩ : ByteArray) ++ itB (clM m r (nxM m k d) : Int)).data.toList = kpre (nxM m) (clM m r) k (d + 1)) := by
                  show _ = _
                  rw [kpre_succ, itB, Lib.itoa_nonneg, show (⟨#[44]⟩ : ByteArray) ++ ⟨(Lib.decDigits (clM m r (nxM m k d))).toArray⟩ = ⟨(44 :: Lib.decDigits (clM m r (nxM m k d))).toArray⟩ from ba_app [44] _]
                generalize nxM m k d = s7 at *
                have hs71 : (0 : Int) ≤ (s7 : Int) := by omega
                have hs72 : (s7 : Int) < (m.final.length : Int) := by omega
                clear HBN6 HB6 HB36 hs6 hb7 k0 k1 k2
                go_wp2_with fail
                refine (HFI.out (clM m r s7 : Int) _ (by omega) (by omega) (HBO.out _ HB37.out)).mono ?_
                rintro e w8 ⟨rfl, hb8⟩
                have HBN8 := Lib.hid (HBN7.out.kept hb8)
                have HB8 := Lib.hid (HB7.out.trans (hb8.mono HB7.out.size))
                have hl8 := itB_len (clM m r s7 : Int) ⟨by omega, by omega⟩
                have hw8 := HB8.out.size
                generalize itB (clM m r s7 : Int) = s8 at *
                have hz8 : s8.size ≤ 21 := by rw [Array.length_toList] at hl8; exact hl8
                have hz9 : ((⟨#[44]⟩ : ByteArray) ++ s8).size ≤ 22 := by
                  rw [ByteArray.size_append]
                  have : (⟨#[44]⟩ : ByteArray).size = 1 := rfl
                  omega
                clear HBN7 HB7 HB37 hb8 hc7 hl8
                go_wp2_with fail
                refine (WriteString_s w3.heap.size w3.heap.size _ _ w8 HBN8.out (by omega) hw8).mono ?_
                rintro e w9 ⟨rfl, hbn9, hb9⟩
                rw [HS7.out] at hbn9
                have HBN9 := Lib.hid hbn9
                have HB9 := Lib.hid (HB8.out.trans hb9)
                clear HBN8 HB8 hb9 hbn9 HS7
                go_wp2_with fail
                go_roundw
                case rel => exact ⟨d + 1, by omega, by go_num, HBN9.out, HB9.out⟩
                case measure => simp [intOf]; omega
              · obtain rfl : d = m.base.toNat := by omega
                rw [kpre_all] at HBN6
                have hkl := HKL.out _ (Nat.le_refl _)
                rw [kpre_all] at hkl
                have hkm : (kst m.base.toNat (nxM m) (clM m r) k).length ≤ maxLen := by unfold maxLen; omega
                have HNE := Lib.hid (kst_ne m.base.toNat (nxM m) (clM m r) k)
                have HNUM : Hid (clM m (r + 1) k = num (kst m.base.toNat (nxM m) (clM m r)) k) := clM_succ m r k
                have HAT : Hid (msF (kst m.base.toNat (nxM m) (clM m r)) (k + 1) (kst m.base.toNat (nxM m) (clM m r) k) = some ((num (kst m.base.toNat (nxM m) (clM m r)) k : Nat) : Int)) := msF_at _ k
                have hkn := msF_known (kst m.base.toNat (nxM m) (clM m r)) k (kst m.base.toNat (nxM m) (clM m r) k)
                have HOLD := fun h => Lib.hid (fun y => msF_old (F := kst m.base.toNat (nxM m) (clM m r)) (k := k) h y)
                have HNEW := fun h => Lib.hid (fun y => msF_new (F := kst m.base.toNat (nxM m) (clM m r)) (k := k) h y)
                have HDL := Lib.hid (dist_len (kst m.base.toNat (nxM m) (clM m r)) k)
                have HDO := fun h => Lib.hid (dist_old (f := kst m.base.toNat (nxM m) (clM m r)) (k := k) h)
                have HDN := fun h => Lib.hid (dist_new (f := kst m.base.toNat (nxM m) (clM m r)) (k := k) h)
                have HMP6 : Hid (MapS wr wo.heap.size nn (msF (kst m.base.toNat (nxM m) (clM m r)) k) (dist (kst m.base.toNat (nxM m) (clM m r)) k).length) := HMP.out.kept HB6.out (by omega)
                have HRN6 : Hid (RowN wr (wo.heap.size + 1) m.final.length (partL m r k)) := HRN.out.kept HB6.out (by omega)
                have hdni : ¬ ((m.base.toNat : Nat) : Int) < m.base := by omega
                clear HMP HRN
                generalize hF : kst m.base.toNat (nxM m) (clM m r) = F at *
                go_wp2_with fail
                refine (String_any _ _ _ wr HBN6.out HNE.out).mono ?_
                rintro e v1 ⟨rfl, hbn1, hbv1⟩
                have hmp1 := HMP6.out.kept hbv1 (by omega)
                have HRN1 := Lib.hid (HRN6.out.kept hbv1 (by omega))
                have HBN1 := Lib.hid hbn1
                have HB1 := Lib.hid (HB6.out.trans hbv1)
                clear HBN6 HMP6 HRN6 HB6 HB36 hs6 hbn1 hbv1
                by_cases hmem : F k ∈ dist F k
                · have hsome : (msF F k (F k)).isSome = true := by rw [hkn]; simp [hmem]
                  have HO := HOLD hmem
                  have HDD := HDO hmem
                  clear HNEW HDN HDO HOLD hkn hmem
                  go_wp2_with (at_lookup; refine wpList_mapS_ok rfl _ _ rfl _ _ _ _ rfl hmp1 _ rfl hkm ?_; intro c hc; clear hc)
                  refine (String_any _ _ _ v1 HBN1.out HNE.out).mono ?_
                  rintro e v2 ⟨rfl, hbn2, hbv2⟩
                  have hmp2 := hmp1.kept hbv2 (by omega)
                  have hrn2 := HRN1.out.kept hbv2 (by omega)
                  have hb2 := HB1.out.trans hbv2
                  have hat2 : msF F k (F k) = some ((num F k : Nat) : Int) := by rw [← HO.out]; exact HAT.out
                  have hcy := hrn2.cell k (by rw [partL_len m r k hk]; exact hlt)
                  have hfz := hrn2.frozen k
                  have HSN : Hid (RowN (v2.setCell ⟨wo.heap.size + 1, k, none⟩ (.int .i64 (num F k : Nat))) (wo.heap.size + 1) m.final.length (partL m r (k + 1))) := by
                    have h1 := hrn2.set k ((num F k : Nat) : Int)
                    rw [← HNUM.out, partL_set m r k hlt] at h1
                    rw [← HNUM.out]
                    exact h1
                  have HMN := Lib.hid (hmp2.congr (fun y => HO.out y))
                  have HB2 := Lib.hid hb2
                  clear HBN1 HRN1 HB1 hmp1 hbn2 hbv2 hrn2 hb2 HAT
                  go_wp2_with (at_lookup; refine wpList_mapS_at rfl _ _ rfl _ _ _ _ rfl hmp2 _ rfl hkm _ hat2 ?_)
                  go_roundw
                  case rel =>
                    refine ⟨k + 1, nn, by omega, by omega, by go_num, ?_, HSN.out, ?_⟩
                    · rw [hF, HDD.out]
                      exact HMN.out.same (by simp [World.setCell, Array.getElem?_modify])
                    · exact (HB3.out.trans (HB2.out.mono HB3.out.size)).setCell (p := ⟨wo.heap.size + 1, k, none⟩) (Nat.le_succ _) _
                  case measure => simp [intOf]; omega
                · have hsome : (msF F k (F k)).isSome = false := by rw [hkn]; simp [hmem]
                  have hnone : msF F k (F k) = none := by
                    cases h : msF F k (F k) with
                    | none => rfl
                    | some v => rw [h] at hsome; cases hsome
                  have HNW := HNEW hmem
                  have HDD := HDN hmem
                  have hdk := HDL.out
                  have hdl2 : (dist F k).length ≤ 144 := by omega
                  have hwd : i64W ((dist F k).length : Int) := i64W_ok _ (by omega) (by omega)
                  have hnm : nn < maxLen := by unfold maxLen; omega
                  clear HNEW HDN HDO HOLD hkn hmem hdk
                  go_wp2_with (at_lookup; refine wpList_mapS_ok rfl _ _ rfl _ _ _ _ rfl hmp1 _ rfl hkm ?_; intro c hc; clear hc)
                  refine (String_any _ _ _ v1 HBN1.out HNE.out).mono ?_
                  rintro e v2 ⟨rfl, hbn2, hbv2⟩
                  have hmp2 := hmp1.kept hbv2 (by omega)
                  have HRN2 := Lib.hid (HRN1.out.kept hbv2 (by omega))
                  have HBN2 := Lib.hid hbn2
                  have HB2 := Lib.hid (HB3.out.trans ((HB1.out.trans hbv2).mono HB3.out.size))
                  clear HBN1 HRN1 HB1 hmp1 hbn2 hbv2
                  go_wp2_with (first
                    | (at_len; refine wpList_mapS_len rfl _ rfl _ _ _ _ rfl hmp2 ?_)
                    | (at_mapUpdate; refine wpList_mapS_set rfl _ _ _ rfl _ _ _ _ rfl hmp2 hnm _ ((dist F k).length : Int) rfl rfl hkm hwd hnone ?_; intro v3 hmp3 hgr3; refine Hid.out ?_))
                  refine Lib.hid ?_
                  have hrn3 : RowN v3 (wo.heap.size + 1) m.final.length (partL m r k) := HRN2.out.same (hgr3.block _ (HRN2.out.blk (by omega)) (by simp))
                  have HBN3 := Lib.hid (HBN2.out.turn hgr3 (by omega))
                  have hb3' := HB2.out.grown hgr3 HB2.out.size (fun j hj => by cases hj; exact Nat.le_refl _)
                  have hs3' := hgr3.size
                  have hmp4 := hmp3.congr HNW.out
                  have HB3' := Lib.hid hb3'
                  have HRN3 := Lib.hid hrn3
                  clear hmp2 HRN2 HBN2 HB2 hmp3 hgr3 hb3' hrn3 hsome hnone
                  go_wp2_with fail
                  refine (String_any _ _ _ v3 HBN3.out HNE.out).mono ?_
                  rintro e v4 ⟨rfl, hbn4', hbv4⟩
                  have hmp5 := hmp4.kept hbv4 (by omega)
                  have hrn4 := HRN3.out.kept hbv4 (by omega)
                  have HB4 := Lib.hid (HB3'.out.trans (hbv4.mono (by omega)))
                  have hat2 := HAT.out
                  have hcy := hrn4.cell k (by rw [partL_len m r k hk]; exact hlt)
                  have hfz := hrn4.frozen k
                  have HSN : Hid (RowN (v4.setCell ⟨wo.heap.size + 1, k, none⟩ (.int .i64 (num F k : Nat))) (wo.heap.size + 1) m.final.length (partL m r (k + 1))) := by
                    have h1 := hrn4.set k ((num F k : Nat) : Int)
                    rw [← HNUM.out, partL_set m r k hlt] at h1
                    rw [← HNUM.out]
                    exact h1
                  have HMN := Lib.hid hmp5
                  clear hbn4' hbv4 hrn4 HBN3 HRN3 HB3' hmp4
                  go_wp2_with (at_lookup; refine wpList_mapS_at rfl _ _ rfl _ _ _ _ rfl hmp5 _ rfl hkm _ hat2 ?_)
                  go_roundw
                  case rel =>
                    refine ⟨k + 1, nn + 1, by omega, by omega, by go_num, ?_, HSN.out, ?_⟩
                    · rw [hF, HDD.out, List.length_append]
                      exact HMN.out.same (by simp [World.setCell, Array.getElem?_modify])
                    · exact HB4.out.setCell (p := ⟨wo.heap.size + 1, k, none⟩) (Nat.le_succ _) _
                  case measure => simp [intOf]; omega
          · obtain rfl : k = m.final.length := by omega
            have hlen : (dist (kst m.base.toNat (nxM m) (clM m r)) m.final.length).length = cntM m r := (cntM_kst m r).symm
            rw [hlen] at HMP
            have HRN2 : Hid (RowN wr (wo.heap.size + 1) m.final.length (clL m (r + 1))) := by
              show RowN _ _ _ _
              rw [← partL_all]; exact HRN.out
            have HNZ := Lib.hid (HRZ.out r)
            clear hlen HRN
            by_cases he : (cntM m r : Int) = mnM m r
            · have HFIN : Hid (clL m (r + 1) = clL m m.final.length) := by
                show _ = _
                cases r with
                | zero => have := HNZ.out; simp [mnM] at he <;> omega
                | succ i =>
                  have e2 : mnM m (i + 1) = cntM m i := by simp [mnM]
                  have h3 := HRC.out
                  rw [e2] at he h3
                  exact clL_all hok i (by omega) (by simp at h3; omega)
              have he2 : ((cntM m r : Int) == mnM m r) = true := by rw [beq_iff_eq]; exact he
              clear he
              go_wp2_with (at_len; refine wpList_mapS_len rfl _ rfl _ _ _ _ rfl HMP.out ?_)
              go_ret
              exact ⟨wo.heap.size + 1, rfl, by rw [← HFIN.out]; exact HRN2.out, by omega, HBW.out _ (HBO.out _ HB3.out)⟩
            · have he2 : ((cntM m r : Int) == mnM m r) = false := by rw [beq_eq_false_iff_ne]; exact he
              have HGT : Hid (mnM m r < cntM m r) := by
                show _ < _
                cases r with
                | zero => have := HNZ.out; simp [mnM]; omega
                | succ i =>
                  have e2 : mnM m (i + 1) = cntM m i := by simp [mnM]
                  rw [e2] at he ⊢
                  have : cntM m i ≤ cntM m (i + 1) := cnt_step _ _ _ _ _
                  omega
              have HM1 : Hid (mnM m (r + 1) = cntM m r) := by show _ = _; simp [mnM]
              clear he
              go_wp2_with (at_len; refine wpList_mapS_len rfl _ rfl _ _ _ _ rfl HMP.out ?_)
              go_roundw
              case rel =>
                refine ⟨r + 1, wo.heap.size + 1, rfl, by rw [HM1.out], HRN2.out, by omega, HBO.out _ HB3.out, ?_⟩
                have h1 := HRC.out
                have h2 := HGT.out
                rw [HM1.out]
                by_cases hz : r = 0
                · subst hz; simp [mnM] at h2; simp; have := HNZ.out; omega
                · rw [if_neg hz] at h1; rw [if_neg (by omega)]; omega
              case measure =>
                have h1 := HNZ.out
                have h2 := HGT.out
                simp only [intOf]
                omega

end Go.Proofs.YtkapbhlnjmfaaaaDoor
