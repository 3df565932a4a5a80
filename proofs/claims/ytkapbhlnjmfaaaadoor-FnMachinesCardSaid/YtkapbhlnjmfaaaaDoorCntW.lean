/- CountAccepted. Conditions: those of each contract. -/
import Derived.Test.YtkapbhlnjmfaaaaDoorCntP
import Derived.Test.YtkapbhlnjmfaaaaDoorClsW
import Derived.Test.YtkapbhlnjmfaaaaDoorMachB
namespace Go.Proofs.YtkapbhlnjmfaaaaDoor
set_option linter.unusedVariables false
open Go.RowKit

def cntR (m : Ma) (k : Int) : Int := if (maOk m && inB k 0 9) = true then accN m.base.toNat (nxM m) (finN m) k.toNat 0 else -1
theorem getD_rowN {w : World} {g n : Nat} {xs : List Int} (h : RowN w g n xs) (u : Nat) (hu : u < n) : w.cell? ⟨g, u, none⟩ = some (.int .i64 (xs.getD u 0)) := by
  have hu2 : u < xs.length := by rw [h.2]; exact hu
  rw [h.cell u hu2]
  simp [List.getD, hu2]
theorem pow_small {b k : Nat} (hb : b ≤ 10) (hk : k ≤ 10) : b ^ k ≤ 10000000000 :=
  Nat.le_trans (Nat.pow_le_pow_left hb k) (Nat.le_trans (Nat.pow_le_pow_right (by omega) hk) (by decide))
set_option maxRecDepth 8000 in
set_option maxHeartbeats 4000000 in
theorem CountAccepted_any (a1 : Option Addr) (c1 : Nat) (a2 : Option Addr) (c2 : Nat) (m : Ma) (k : Int) (w : World) (hm : Mach w w.heap.size a1 c1 a2 c2 m) :
    Calls Tryd.prog 12 #[.agg #[.int .i64 m.base, .slice a1 m.next.length c1, .slice a2 m.final.length c2], .int .i64 k] w fun e w' => e = .returned (.int .i64 (cntR m k)) ∧ Below w.heap.size w w' := by
  obtain ⟨w0, e0, hb0, hs0, k0, k1, k2⟩ := box_new m.base a1 m.next.length c1 a2 m.final.length c2 w
  have HOKC : Hid (∀ W : World, Below w.heap.size w W → Calls Tryd.prog 19 #[.agg #[.int .i64 m.base, .slice a1 m.next.length c1, .slice a2 m.final.length c2]] W fun e w' => e = .returned (.bool (maOk m)) ∧ Below W.heap.size W w') := fun W hW => MachineOk_any a1 c1 a2 c2 m W (hm.later hW)
  have HK : Hid (∀ W : World, Below w0.heap.size w0 W → W.cell? ⟨w.heap.size, 0, none⟩ = some (.int .i64 m.base) ∧ W.cell? ⟨w.heap.size, 1, none⟩ = some (.slice a1 m.next.length c1) ∧ W.cell? ⟨w.heap.size, 2, none⟩ = some (.slice a2 m.final.length c2)) := fun W hW =>
    ⟨(hW.cell (p := ⟨w.heap.size, 0, none⟩) (by show w.heap.size < _; omega)).trans k0, (hW.cell (p := ⟨w.heap.size, 1, none⟩) (by show w.heap.size < _; omega)).trans k1, (hW.cell (p := ⟨w.heap.size, 2, none⟩) (by show w.heap.size < _; omega)).trans k2⟩
  have HBW : Hid (∀ W : World, Below w0.heap.size w0 W → Below w.heap.size w W) := fun W hW => hb0.trans (hW.mono (by omega))
  have HB0 := Lib.hid hb0
  cases hok : maOk m
  · have HF : Hid (cntR m k = -1) := by show _ = _; simp [cntR, hok]
    rw [hok] at HOKC
    clear hok hm hb0
    go_enter Tryd.func12, Tryd.ntmps12
    go_wp2_with fail
    rw [← e0]
    clear e0
    refine (HOKC.out _ HB0.out).mono ?_
    rintro e w1 ⟨rfl, hb1⟩
    have HB1 := Lib.hid (HB0.out.trans (hb1.mono (by omega)))
    clear hb1
    go_wp2_with fail
    go_ret
    exact ⟨by rw [HF.out] <;> rfl, HB1.out⟩
  cases hin : inB k 0 9
  · have HF : Hid (cntR m k = -1) := by show _ = _; simp [cntR, hok, hin]
    have hwi := fun W => within_any k 0 9 W
    rw [hin] at hwi
    have HWI := Lib.hid hwi
    rw [hok] at HOKC
    clear hok hin hm hb0 hwi
    go_enter Tryd.func12, Tryd.ntmps12
    go_wp2_with fail
    rw [← e0]
    clear e0
    refine (HOKC.out _ HB0.out).mono ?_
    rintro e w1 ⟨rfl, hb1⟩
    have HB1 := Lib.hid (HB0.out.trans (hb1.mono (by omega)))
    clear hb1
    go_wp2_with (go_at_call 35; refine (HWI.out _).mono ?_; rintro e w' ⟨rfl, rfl⟩)
    go_ret
    exact ⟨by rw [HF.out] <;> rfl, HB1.out⟩
  · have hwi := fun W => within_any k 0 9 W
    rw [hin] at hwi
    have HWI := Lib.hid hwi
    obtain ⟨kk0, kk9⟩ := inB_t.1 hin
    obtain ⟨K, rfl⟩ : ∃ K : Nat, k = (K : Int) := ⟨k.toNat, by omega⟩
    have HF : Hid (cntR m (K : Int) = accN m.base.toNat (nxM m) (finN m) K 0) := by show _ = _; simp [cntR, hok, hin]
    obtain ⟨q2, q10, n1, n144, -, -⟩ := maOk_t hok
    have hnx := nxM_lt hok
    have hn0 : 0 < m.final.length := by omega
    have HST : Hid (∀ (W : World) (s d : Nat), Below w0.heap.size w0 W → s < m.final.length → d < m.base.toNat → Calls Tryd.prog 30 #[.agg #[.int .i64 m.base, .slice a1 m.next.length c1, .slice a2 m.final.length c2], .int .i64 s, .int .i64 d] W fun e w' => e = .returned (.int .i64 (nxM m s d)) ∧ Below W.heap.size W w') := fun W s d hW hs hd => by
      rw [← (nxM_eq hok s d hs hd).1]
      exact step_any a1 c1 a2 c2 m _ _ W (hm.later (HBW.out W hW)) hok (by omega) (by omega) (by omega) (by omega)
    obtain ⟨-, -, bf, offf, haf, hcf⟩ := hm.bools
    obtain ⟨rfl, hbf⟩ := haf (by omega)
    have HFB : Hid (∀ W : World, Below w0.heap.size w0 W → ∀ s, s < m.final.length → W.cell? ⟨bf, offf + s, none⟩ = some (.bool (finN m s))) := fun W hW s hs => by
      rw [(HBW.out W hW).cell (p := ⟨bf, offf + s, none⟩) hbf, hcf s hs]
      simp [finN, List.getD, hs]
    have HNX := Lib.hid hnx
    have HMID : Hid (∀ j s d, j < K → s < m.final.length → d < m.base.toNat → 0 ≤ (waysN m.final.length m.base.toNat (nxM m) j).getD s 0 ∧ (waysN m.final.length m.base.toNat (nxM m) j).getD s 0 ≤ 10000000000 ∧
        0 ≤ (rowW (nxM m) ((waysN m.final.length m.base.toNat (nxM m) j).getD s 0) s (nextW m.base.toNat (nxM m) (waysN m.final.length m.base.toNat (nxM m) j) (List.replicate m.final.length 0) s) d).getD (nxM m s d) 0 ∧
        (rowW (nxM m) ((waysN m.final.length m.base.toNat (nxM m) j).getD s 0) s (nextW m.base.toNat (nxM m) (waysN m.final.length m.base.toNat (nxM m) j) (List.replicate m.final.length 0) s) d).getD (nxM m s d) 0 ≤ 10000000000) := fun j s d hj hs hd => by
      obtain ⟨h1, h2, h3, h4⟩ := ways_mid hnx hn0 j s d hs hd
      have p1 := pow_small (b := m.base.toNat) (k := j) (by omega) (by omega)
      have p2 := pow_small (b := m.base.toNat) (k := j + 1) (by omega) (by omega)
      refine ⟨h1, ?_, h3, ?_⟩
      · omega
      · omega
    have HEND : Hid (sumR m.final.length (fun u => (waysN m.final.length m.base.toNat (nxM m) K).getD u 0 * (if finN m u then 1 else 0)) = accN m.base.toNat (nxM m) (finN m) K 0) := ways_end hnx hn0 (finN m) K
    have HSUM : Hid (∀ s, s < m.final.length → 0 ≤ sumR s (fun u => (waysN m.final.length m.base.toNat (nxM m) K).getD u 0 * (if finN m u then 1 else 0)) ∧ sumR s (fun u => (waysN m.final.length m.base.toNat (nxM m) K).getD u 0 * (if finN m u then 1 else 0)) ≤ 10000000000 ∧ 0 ≤ (waysN m.final.length m.base.toNat (nxM m) K).getD s 0 ∧ (waysN m.final.length m.base.toNat (nxM m) K).getD s 0 ≤ 10000000000) := fun s hs => by
      have hW := waysN_nn hnx K
      have hnn : ∀ u, 0 ≤ (waysN m.final.length m.base.toNat (nxM m) K).getD u 0 * (if finN m u then 1 else 0) := fun u => Int.mul_nonneg (hW u) (by split <;> omega)
      have h1 := sumR_nonneg hnn s
      have h2 := sumR_mono hnn (show s ≤ m.final.length by omega)
      rw [HEND.out] at h2
      have h3 := (accN_bd m.base.toNat (nxM m) (finN m) K 0).2
      have p1 := pow_small (b := m.base.toNat) (k := K) (by omega) (by omega)
      have h4 := le_dot1 hW (u := s) (by rw [waysN_len]; exact hs)
      rw [ways_one hnx hn0 K] at h4
      exact ⟨h1, by omega, hW s, by omega⟩
    have HW0 : Hid (waysN m.final.length m.base.toNat (nxM m) 0 = (List.replicate m.final.length 0).set 0 1) := rfl
    have HBN : Hid (((m.base.toNat : Nat) : Int) = m.base) := by show _ = _; omega
    obtain ⟨i0, hi, hz0, hz1, hz2⟩ := info_parts info_int
    rw [hok] at HOKC
    clear hok hin hm hb0 hwi haf hcf hbf hnx
    go_enter Tryd.func12, Tryd.ntmps12
    go_wp2_with fail
    rw [← e0]
    clear e0
    refine (HOKC.out _ HB0.out).mono ?_
    rintro e w1 ⟨rfl, hb1⟩
    obtain ⟨x0, x1, x2⟩ := HK.out w1 hb1
    have HB1 := Lib.hid hb1
    have hs1 := hb1.size
    clear hb1
    go_wp2_with (first | (go_at_call 35; refine (HWI.out _).mono ?_; rintro e w' ⟨rfl, rfl⟩) | (at_make; refine wpList_make_full _ rfl _ _ 24 rfl w1.heap.size 3 i0 (.int .i64 0) 1 Tryd.underlying24 hi hz0 hz1 .i64 .i64 _ _ m.final.length rfl rfl rfl rfl ?_ ?_ (Nat.le_refl _) ?_))
    · rw [hz2]; omega
    · unfold maxLen; omega
    intro w2 hown hgrow
    have hr0 : RowN w2 w1.heap.size m.final.length (List.replicate m.final.length 0) := RowN.made (by simpa using hown)
    have hb2 : Below w0.heap.size w0 w2 := HB1.out.grown hgrow hs1 (fun k hk => by cases hk)
    have hcy := getD_rowN hr0 0 hn0
    have hfz := hr0.frozen 0
    have hr1 : RowN (w2.setCell ⟨w1.heap.size, 0, none⟩ (.int .i64 1)) w1.heap.size m.final.length (waysN m.final.length m.base.toNat (nxM m) 0) := by
      rw [HW0.out]; exact hr0.set 0 1
    have HR1 := Lib.hid hr1
    have HB2 : Hid (Below w0.heap.size w0 (w2.setCell ⟨w1.heap.size, 0, none⟩ (.int .i64 1))) := hb2.setCell (by exact hs1) _
    clear hown hgrow hr0 hr1 hb2 x0 x1 x2
    go_wp2_with fail
    go_loopw [5, 28] (fun v iv wr => ∃ (j g : Nat), j ≤ K ∧ iv = .int .i64 j ∧ v = .slice (some ⟨g, 0, none⟩) m.final.length m.final.length ∧ RowN wr g m.final.length (waysN m.final.length m.base.toNat (nxM m) j) ∧ w0.heap.size ≤ g ∧ Below w0.heap.size w0 wr) (fun _ iv _ => K - (intOf iv).toNat)
    case atStart => exact ⟨0, w1.heap.size, Nat.zero_le _, rfl, rfl, HR1.out, hs1, HB2.out⟩
    case round =>
      clear HR1 HB2 HB1 hcy hfz hs1
      obtain ⟨j, g, hj, rfl, rfl, hr, hg, hb⟩ := hrel
      have HR := Lib.hid hr
      have HB := Lib.hid hb
      have hgl := hr.blk hn0
      clear hr hb
      by_cases hjl : j < K
      · obtain ⟨wo, hwo⟩ : ∃ wo, wo = wr := ⟨_, rfl⟩
        go_wp2_with (at_make; refine wpList_make_full _ rfl _ _ 24 rfl wr.heap.size 3 i0 (.int .i64 0) 1 Tryd.underlying24 hi hz0 hz1 .i64 .i64 _ _ m.final.length rfl rfl rfl rfl ?_ ?_ (Nat.le_refl _) ?_)
        · rw [hz2]; omega
        · unfold maxLen; omega
        intro w3 hown hgrow
        subst hwo
        have hr0 : RowN w3 wo.heap.size m.final.length (nextW m.base.toNat (nxM m) (waysN m.final.length m.base.toNat (nxM m) j) (List.replicate m.final.length 0) 0) := RowN.made (by simpa using hown)
        have hb3 : Below wo.heap.size wo w3 := (Below.refl _ _).grown hgrow (Nat.le_refl _) (fun k hk => by cases hk)
        have HR0 := Lib.hid hr0
        have HB3 := Lib.hid hb3
        have HG : Hid (∀ W : World, Below wo.heap.size wo W → RowN W g m.final.length (waysN m.final.length m.base.toNat (nxM m) j)) := fun W hW => HR.out.kept hW hgl
        have HBO : Hid (∀ W : World, Below wo.heap.size wo W → Below w0.heap.size w0 W) := fun W hW => HB.out.trans (hW.mono HB.out.size)
        have hwos := HB.out.size
        have HNW : Hid (waysN m.final.length m.base.toNat (nxM m) (j + 1) = nextW m.base.toNat (nxM m) (waysN m.final.length m.base.toNat (nxM m) j) (List.replicate m.final.length 0) m.final.length) := rfl
        clear hown hgrow hr0 hb3
        go_wp2_with fail
        go_loopw [35] (fun sv wr => ∃ s : Nat, s ≤ m.final.length ∧ sv = .int .i64 s ∧ RowN wr wo.heap.size m.final.length (nextW m.base.toNat (nxM m) (waysN m.final.length m.base.toNat (nxM m) j) (List.replicate m.final.length 0) s) ∧ Below wo.heap.size wo wr) (fun sv _ => m.final.length - (intOf sv).toNat)
        case atStart => exact ⟨0, Nat.zero_le _, rfl, HR0.out, HB3.out⟩
        case round =>
          clear HR0 HB3
          obtain ⟨s, hs, rfl, hr, hb⟩ := hrel
          have HR1 := Lib.hid hr
          have HB1 := Lib.hid hb
          by_cases hsl : s < m.final.length
          · have hcx := getD_rowN (HG.out wr hb) s hsl
            obtain ⟨x0, -, -⟩ := HK.out wr (HBO.out wr hb)
            have HM2 := fun d hd => Lib.hid (HMID.out j s d hjl hsl hd)
            have HNS : Hid (nextW m.base.toNat (nxM m) (waysN m.final.length m.base.toNat (nxM m) j) (List.replicate m.final.length 0) (s + 1) = rowW (nxM m) ((waysN m.final.length m.base.toNat (nxM m) j).getD s 0) s (nextW m.base.toNat (nxM m) (waysN m.final.length m.base.toNat (nxM m) j) (List.replicate m.final.length 0) s) m.base.toNat) := rfl
            clear hr hb
            generalize (waysN m.final.length m.base.toNat (nxM m) j).getD s 0 = wv at *
            generalize nextW m.base.toNat (nxM m) (waysN m.final.length m.base.toNat (nxM m) j) (List.replicate m.final.length 0) s = L at *
            go_wp2_with fail
            go_loopw [42] (fun dv wr => ∃ d : Nat, d ≤ m.base.toNat ∧ dv = .int .i64 d ∧ RowN wr wo.heap.size m.final.length (rowW (nxM m) wv s L d) ∧ Below wo.heap.size wo wr) (fun dv _ => m.base.toNat - (intOf dv).toNat)
            case atStart => exact ⟨0, Nat.zero_le _, rfl, HR1.out, HB1.out⟩
            case round =>
              clear HR1 HB1 x0
              obtain ⟨d, hd, rfl, hr, hb⟩ := hrel
              have HR2 := Lib.hid hr
              have HB2 := Lib.hid hb
              have hbs := hb.size
              by_cases hdl : d < m.base.toNat
              · obtain ⟨x0, x1, x2⟩ := HK.out wr (HBO.out wr hb)
                have hdi : (d : Int) < m.base := by have := HBN.out; omega
                have hn6 := HNX.out s d hsl hdl
                obtain ⟨b1, b2, b3, b4⟩ := (HM2 d hdl).out
                have HRW : Hid (rowW (nxM m) wv s L (d + 1) = addAt (rowW (nxM m) wv s L d) (nxM m s d) wv) := rfl
                have HAD : Hid (∀ X : List Int, addAt X (nxM m s d) wv = X.set (nxM m s d) (X.getD (nxM m s d) 0 + wv)) := fun X => rfl
                have HSTP := Lib.hid (HST.out wr s d (HBO.out wr hb) hsl hdl)
                clear hr hb HM2
                generalize nxM m s d = u at *
                generalize rowW (nxM m) wv s L d = X at *
                generalize hX : X.getD u 0 = xv at *
                go_wp2_with fail
                refine HSTP.out.mono ?_
                rintro e w7 ⟨rfl, hb7⟩
                have hr7 := HR2.out.kept hb7 (HR2.out.blk hn0)
                have hcu := getD_rowN hr7 u hn6
                rw [hX] at hcu
                have hfu := hr7.frozen u
                have HN7 : Hid (RowN (w7.setCell ⟨wo.heap.size, u, none⟩ (.int .i64 (xv + wv))) wo.heap.size m.final.length (rowW (nxM m) wv s L (d + 1))) := by
                  show RowN _ _ _ _
                  rw [HRW.out, HAD.out, hX]
                  exact hr7.set u _
                have HB7 := Lib.hid (HB2.out.trans (hb7.mono hbs))
                have hu1 : (u : Int) < (m.final.length : Int) := by omega
                clear hb7 hr7 x0 x1 x2
                go_wp2_with fail
                go_roundw
                case rel => exact ⟨d + 1, by omega, by go_num, HN7.out, HB7.out.setCell (Nat.le_refl _) _⟩
                case measure => simp [intOf]; omega
              · obtain rfl : d = m.base.toNat := by omega
                have hdi : ¬ ((m.base.toNat : Nat) : Int) < m.base := by have := HBN.out; omega
                clear hr hb
                go_wp2_with fail
                go_roundw
                case rel => exact ⟨s + 1, by omega, by go_num, by rw [HNS.out]; exact HR2.out, HB2.out⟩
                case measure => simp [intOf]; omega
          · obtain rfl : s = m.final.length := by omega
            clear hr hb
            go_wp2_with fail
            go_roundw
            case rel => exact ⟨j + 1, wo.heap.size, by omega, by go_num, rfl, by rw [HNW.out]; exact HR1.out, hwos, HBO.out _ HB1.out⟩
            case measure => simp [intOf]; omega
      · obtain rfl : j = K := by omega
        go_wp2_with fail
        go_loop [10, 61] (fun cv sv => ∃ s : Nat, s ≤ m.final.length ∧ sv = .int .i64 s ∧ cv = .int .i64 (sumR s (fun u => (waysN m.final.length m.base.toNat (nxM m) j).getD u 0 * (if finN m u then 1 else 0)))) (fun _ sv => m.final.length - (intOf sv).toNat)
        case atStart => exact ⟨0, Nat.zero_le _, rfl, rfl⟩
        case round =>
          obtain ⟨s, hs, rfl, rfl⟩ := hrel
          by_cases hsl : s < m.final.length
          · have hcx := getD_rowN HR.out s hsl
            obtain ⟨-, -, x2⟩ := HK.out wr HB.out
            have hcb := HFB.out wr HB.out s hsl
            obtain ⟨b1, b2, b3, b4⟩ := HSUM.out s hsl
            have HSS : Hid (sumR (s + 1) (fun u => (waysN m.final.length m.base.toNat (nxM m) j).getD u 0 * (if finN m u then 1 else 0)) = sumR s (fun u => (waysN m.final.length m.base.toNat (nxM m) j).getD u 0 * (if finN m u then 1 else 0)) + (waysN m.final.length m.base.toNat (nxM m) j).getD s 0 * (if finN m s then 1 else 0)) := rfl
            generalize sumR s (fun u => (waysN m.final.length m.base.toNat (nxM m) j).getD u 0 * (if finN m u then 1 else 0)) = t at *
            generalize (waysN m.final.length m.base.toNat (nxM m) j).getD s 0 = wv at *
            have hs1 : (s : Int) < (m.final.length : Int) := by omega
            cases hf : finN m s
            · rw [hf] at hcb HSS
              clear hf
              go_wp2_with fail
              go_round
              case rel => exact ⟨s + 1, by omega, by go_num, by rw [HSS.out]; simp⟩
              case measure => simp [intOf]; omega
            · rw [hf] at hcb HSS
              clear hf
              go_wp2_with fail
              go_round
              case rel => exact ⟨s + 1, by omega, by go_num, by rw [HSS.out]; simp⟩
              case measure => simp [intOf]; omega
          · obtain rfl : s = m.final.length := by omega
            go_wp2_with fail
            go_ret
            exact ⟨by rw [HF.out, ← HEND.out] <;> rfl, HBW.out _ HB.out⟩

end Go.Proofs.YtkapbhlnjmfaaaaDoor
