/- The reference's classes of states: the walk. Conditions: those of each contract. -/
import Derived.Test.YtkapbhlnjmfaaaaDoorAlikeS
namespace Go.Proofs.YtkapbhlnjmfaaaaDoor
set_option linter.unusedVariables false
open Go.RowKit

theorem rng_next (m : Ma) (r k : Nat) : ((List.range k).map (fun s => (clM m r s : Int))) ++ [((clM m r k : Nat) : Int)] = (List.range (k + 1)).map (fun s => (clM m r s : Int)) := by
  rw [List.range_succ, List.map_append]; rfl
theorem row_ints {w : World} {base n : Nat} {v : Value} {xs : List Int} (h : w.ownsRow base 3 1 v n (xs.map (Value.int .i64))) (hn : xs.length = n) : ∃ a cap, v = .slice a n cap ∧ Ints w w.heap.size a cap xs := by
  subst hn
  obtain ⟨a, cap, rfl, h2⟩ := OwnI.of h
  exact ⟨a, cap, rfl, h2.ints⟩
theorem row_kept {w w' : World} {base n : Nat} {e : TypeId} {v : Value} {xs : List Value} (h : w.ownsRow base e 1 v n xs) (hb : Below w.heap.size w w') : w'.ownsRow base e 1 v n xs :=
  h.kept (row := none) ⟨hb.os, hb.tape, hb.output, hb.size, fun k hk _ => hb.block k hk⟩ (by cases v.ownBlock <;> simp)
set_option maxRecDepth 8000 in
set_option maxHeartbeats 4000000 in
theorem l17Classes_any (a1 : Option Addr) (c1 : Nat) (a2 : Option Addr) (c2 : Nat) (m : Ma) (w : World) (hm : Mach w w.heap.size a1 c1 a2 c2 m) (hok : maOk m = true) :
    Calls Tryd.prog 59 #[.agg #[.int .i64 m.base, .slice a1 m.next.length c1, .slice a2 m.final.length c2]] w
      fun e w' => ∃ a cap, e = .returned (.slice a m.final.length cap) ∧ Ints w' w'.heap.size a cap (clL m m.final.length) ∧ Below w.heap.size w w' := by
  obtain ⟨q2, q10, n1, n144, -, -⟩ := maOk_t hok
  obtain ⟨w0, e0, hb0, hs0, k0, k1, k2⟩ := box_new m.base a1 m.next.length c1 a2 m.final.length c2 w
  have HK : Hid (∀ W : World, Below w0.heap.size w0 W → W.cell? ⟨w.heap.size, 0, none⟩ = some (.int .i64 m.base) ∧ W.cell? ⟨w.heap.size, 1, none⟩ = some (.slice a1 m.next.length c1) ∧ W.cell? ⟨w.heap.size, 2, none⟩ = some (.slice a2 m.final.length c2)) := fun W hW =>
    ⟨(hW.cell (p := ⟨w.heap.size, 0, none⟩) (by show w.heap.size < _; omega)).trans k0, (hW.cell (p := ⟨w.heap.size, 1, none⟩) (by show w.heap.size < _; omega)).trans k1, (hW.cell (p := ⟨w.heap.size, 2, none⟩) (by show w.heap.size < _; omega)).trans k2⟩
  have HBW : Hid (∀ W : World, Below w0.heap.size w0 W → Below w.heap.size w W) := fun W hW => hb0.trans (hW.mono (by omega))
  have HAL : Hid (∀ (W : World) (rd : Nat) (a : Option Addr) (cap s r : Nat), Below w0.heap.size w0 W → Ints W W.heap.size a cap (clL m rd) → s < m.final.length → r < m.final.length →
      Calls Tryd.prog 66 #[.agg #[.int .i64 m.base, .slice a1 m.next.length c1, .slice a2 m.final.length c2], .slice a m.final.length cap, .int .i64 s, .int .i64 r] W
      fun e w' => e = .returned (.bool (decide (ky m.base.toNat (nxM m) (clM m rd) s = ky m.base.toNat (nxM m) (clM m rd) r))) ∧ Below W.heap.size W w') := fun W rd a cap s r hW hi hs hr =>
    l17Alike_any a1 c1 a2 c2 m rd a cap s r W (hm.later (HBW.out W hW)) hok hi hs hr
  obtain ⟨-, -, bf, offf, haf, hcf⟩ := hm.bools
  obtain ⟨rfl, hbf⟩ := haf (by omega)
  have HBB : Hid (∀ W : World, Below w0.heap.size w0 W → ∀ i (h : i < m.final.length), W.cell? ⟨bf, offf + i, none⟩ = some (.bool m.final[i])) := fun W hW i h => by
    rw [(HBW.out W hW).cell (p := ⟨bf, offf + i, none⟩) hbf]
    exact hcf i h
  have HFC : Hid (∀ i (h : i < m.final.length), (m.final[i] = true → clM m 0 i = 1) ∧ (m.final[i] = false → clM m 0 i = 0)) := fun i h => by
    refine ⟨fun hf => ?_, fun hf => ?_⟩
    · show c0M m i = 1; simp [c0M, finN, List.getD, h, hf]
    · show c0M m i = 0; simp [c0M, finN, List.getD, h, hf]
  have HL0 : Hid (OwnV (w0.alloc (.cells #[] 3)) (w.heap.size + 1) (.slice (some ⟨w.heap.size + 1, 0, none⟩) 0 0) ((List.range 0).map (fun s => (clM m 0 s : Int)))) := by
    have h := OwnV.lit0 w0 w0.heap.size (Nat.le_refl _)
    rw [hs0] at h
    exact h
  have HB1 : Hid (Below w0.heap.size w0 (w0.alloc (.cells #[] 3))) := (Below.refl _ _).alloc (Nat.le_refl _) _
  have k2' := (HK.out _ HB1.out).2.2
  rw [e0] at k2'
  clear hm hok k0 k1 k2 haf hcf hbf hb0
  go_enter Tryd.func59, Tryd.ntmps59
  go_wp2_with fail
  rw [← e0]
  clear e0 k2'
  go_loopw [3, 16] (fun v iv wr => ∃ k : Nat, k ≤ m.final.length ∧ iv = .int .i64 k ∧ OwnV wr (w.heap.size + 1) v ((List.range k).map (fun s => (clM m 0 s : Int))) ∧ Below w0.heap.size w0 wr) (fun _ iv _ => m.final.length - (intOf iv).toNat)
  case atStart => exact ⟨0, Nat.zero_le _, rfl, HL0.out, HB1.out⟩
  case round =>
    clear HL0 HB1
    obtain ⟨k, hk, rfl, hown, hb⟩ := hrel
    have HB := Lib.hid hb
    by_cases hlt : k < m.final.length
    · have hcx := HBB.out wr hb k hlt
      have hl : ((List.range k).map (fun s => (clM m 0 s : Int))).length ≤ 4398046511104 := by simp; omega
      have hbs : w.heap.size + 1 ≤ wr.heap.size := by have := hb.size; omega
      clear hb
      cases hf : m.final[k]
      · have HV := Lib.hid ((HFC.out k hlt).2 hf)
        rw [hf] at hcx
        clear hf
        go_wp2_with (at_builtin; refine wpList_append_int rfl _ _ rfl (w.heap.size + 1) _ _ rfl hown 0 rfl hl hbs ?_; intro v' w2 ho2 hb2)
        have HO2 : Hid (OwnV w2 (w.heap.size + 1) v' ((List.range (k + 1)).map (fun s => (clM m 0 s : Int)))) := by
          show OwnV _ _ _ _
          rw [← rng_next, HV.out]; exact ho2
        have HB2 := Lib.hid (HB.out.trans (hb2.mono (by omega)))
        clear ho2 hb2
        go_wp2_with fail
        go_roundw
        case rel => exact ⟨k + 1, by omega, by go_num, HO2.out, HB2.out⟩
        case measure => simp [intOf]; omega
      · have HV := Lib.hid ((HFC.out k hlt).1 hf)
        rw [hf] at hcx
        clear hf
        go_wp2_with (at_builtin; refine wpList_append_int rfl _ _ rfl (w.heap.size + 1) _ _ rfl hown 1 rfl hl hbs ?_; intro v' w2 ho2 hb2)
        have HO2 : Hid (OwnV w2 (w.heap.size + 1) v' ((List.range (k + 1)).map (fun s => (clM m 0 s : Int)))) := by
          show OwnV _ _ _ _
          rw [← rng_next, HV.out]; exact ho2
        have HB2 := Lib.hid (HB.out.trans (hb2.mono (by omega)))
        clear ho2 hb2
        go_wp2_with fail
        go_roundw
        case rel => exact ⟨k + 1, by omega, by go_num, HO2.out, HB2.out⟩
        case measure => simp [intOf]; omega
    · obtain rfl : k = m.final.length := by omega
      obtain ⟨-, -, k2⟩ := HK.out wr hb
      obtain ⟨a3, cap3, rfl, h3⟩ := OwnI.of hown
      have HI3 : Hid (Ints wr wr.heap.size a3 cap3 (clL m 0)) := h3.ints
      have hl3 : ((List.range m.final.length).map (fun s => (clM m 0 s : Int))).length = m.final.length := by simp
      rw [hl3]
      clear hb hown h3 hl3
      go_wp2_with fail
      go_loopw [3, 31] (fun v iv wr => ∃ (r : Nat) (a : Option Addr) (cap : Nat), r ≤ m.final.length ∧ iv = .int .i64 r ∧ v = .slice a m.final.length cap ∧ Ints wr wr.heap.size a cap (clL m r) ∧ Below w0.heap.size w0 wr) (fun _ iv _ => m.final.length - (intOf iv).toNat)
      case atStart => exact ⟨0, a3, cap3, Nat.zero_le _, rfl, rfl, HI3.out, HB.out⟩
      case round =>
        clear HI3 HB k2
        obtain ⟨r, a, cap, hr, rfl, rfl, hi3, hb⟩ := hrel
        have HI3 := Lib.hid hi3
        have HB := Lib.hid hb
        obtain ⟨-, -, k2⟩ := HK.out wr hb
        clear hi3 hb
        by_cases hlt : r < m.final.length
        · obtain ⟨wo, hwo⟩ : ∃ wo, wo = wr := ⟨_, rfl⟩
          have HP : Hid (((wr.alloc (.cells #[] 3)).alloc (.cells #[] 3)).ownsRow wr.heap.size 3 1 (.slice (some ⟨wr.heap.size, 0, none⟩) 0 0) 0 (((List.range 0).map (fun s => (clM m (r + 1) s : Int))).map (Value.int .i64))) := (World.ownsRow_lit _ #[] 0 (Nat.le_refl _) (by simp [maxLen]) rfl).alloc _
          have HF : Hid (((wr.alloc (.cells #[] 3)).alloc (.cells #[] 3)).ownsRow wr.heap.size 3 1 (.slice (some ⟨wr.heap.size + 1, 0, none⟩) 0 0) 0 (((reps (ky m.base.toNat (nxM m) (clM m r)) 0).map (fun (x : Nat) => (x : Int))).map (Value.int .i64))) := by
            have h := World.ownsRow_lit (base := wr.heap.size) (size := 1) (e := 3) (wr.alloc (.cells #[] 3)) #[] 0 (by simp) (by simp [maxLen]) rfl
            rw [show (wr.alloc (.cells #[] 3)).heap.size = wr.heap.size + 1 from by simp] at h
            exact h
          have HBA : Hid (Below wr.heap.size wr ((wr.alloc (.cells #[] 3)).alloc (.cells #[] 3))) := ((Below.refl _ _).alloc (Nat.le_refl _) _).alloc (by simp) _
          have k2' := (HK.out _ (HB.out.trans (HBA.out.mono HB.out.size))).2.2
          have HAP : Hid (ap (.slice (some ⟨wr.heap.size, 0, none⟩) 0 0) (.slice (some ⟨wr.heap.size + 1, 0, none⟩) 0 0)) := by
            intro g h1 h2
            simp [Value.ownBlock] at h1 h2
            omega
          go_wp2_with fail
          subst hwo
          have HBO : Hid (∀ W : World, Below wo.heap.size wo W → Below w0.heap.size w0 W) := fun W hW => HB.out.trans (hW.mono HB.out.size)
          have HIW : Hid (∀ W : World, Below wo.heap.size wo W → Ints W W.heap.size a cap (clL m r)) := fun W hW => (HI3.out.below hW).mono hW.size
          clear HB HI3 k2 k2'
          have HNUM : Hid (∀ k, clM m (r + 1) k = num (ky m.base.toNat (nxM m) (clM m r)) k) := fun k => rfl
          go_loopw [6, 7, 38] (fun nv fv sv wr => ∃ k : Nat, k ≤ m.final.length ∧ sv = .int .i64 k ∧ wr.ownsRow wo.heap.size 3 1 nv k (((List.range k).map (fun s => (clM m (r + 1) s : Int))).map (Value.int .i64)) ∧
            wr.ownsRow wo.heap.size 3 1 fv (reps (ky m.base.toNat (nxM m) (clM m r)) k).length (((reps (ky m.base.toNat (nxM m) (clM m r)) k).map (fun (x : Nat) => (x : Int))).map (Value.int .i64)) ∧ ap nv fv ∧ Below wo.heap.size wo wr) (fun _ _ sv _ => m.final.length - (intOf sv).toNat)
          case atStart => exact ⟨0, Nat.zero_le _, rfl, HP.out, HF.out, HAP.out, HBA.out⟩
          case round =>
            clear HP HF HAP HBA
            obtain ⟨k, hk, rfl, hnv, hfv, hap, hb⟩ := hrel
            have HNV := Lib.hid hnv
            have HFV := Lib.hid hfv
            have HAP := Lib.hid hap
            have HB := Lib.hid hb
            by_cases hkl : k < m.final.length
            · obtain ⟨w5, hw5⟩ : ∃ w5, w5 = wr := ⟨_, rfl⟩
              have hrl : (reps (ky m.base.toNat (nxM m) (clM m r)) k).length ≤ k := by rw [reps_len]; exact dist_len _ _
              obtain ⟨af, cf, rfl, hif⟩ := row_ints hfv (by simp)
              have HRC : Hid (∀ W : World, Below wr.heap.size wr W → ∀ j (h : j < (reps (ky m.base.toNat (nxM m) (clM m r)) k).length), ∃ b off, af = some ⟨b, off, none⟩ ∧ W.cell? ⟨b, off + j, none⟩ = some (.int .i64 (((reps (ky m.base.toNat (nxM m) (clM m r)) k)[j] : Nat) : Int))) := fun W hW j h => by
                obtain ⟨-, -, b, off, h1, h2⟩ := hif.below hW
                have hj : j < ((reps (ky m.base.toNat (nxM m) (clM m r)) k).map (fun (x : Nat) => (x : Int))).length := by simpa using h
                refine ⟨b, off, (h1 (by omega)).1, ?_⟩
                rw [h2 j hj, List.getElem_map]
              have HRL : Hid (∀ j (h : j < (reps (ky m.base.toNat (nxM m) (clM m r)) k).length), (reps (ky m.base.toNat (nxM m) (clM m r)) k)[j] < m.final.length) := fun j h => by
                have := reps_lt (ky m.base.toNat (nxM m) (clM m r)) k _ (List.getElem_mem h)
                omega
              have HFD := fun i hi he hn => Lib.hid (reps_found (ky m.base.toNat (nxM m) (clM m r)) k i hi he hn)
              have HNF := fun hn => Lib.hid (reps_none (ky m.base.toNat (nxM m) (clM m r)) k hn)
              clear hnv hfv hap hb hif
              go_wp2_with fail
              subst hw5
              have hkb : k ≤ 1000000 := by omega
              have hkn : Hid (k ≤ m.final.length) := hk
              generalize hKY : ky m.base.toNat (nxM m) (clM m r) = F at *
              generalize hRP : reps F k = R at *
              go_loopw [9, 43] (fun qv jv wr2 => ∃ j : Nat, j ≤ R.length ∧ jv = .int .i64 j ∧ qv = .int .i64 (-1) ∧ (∀ j' (h : j' < R.length), j' < j → F k ≠ F (R[j'])) ∧ Below w5.heap.size w5 wr2) (fun _ jv _ => R.length - (intOf jv).toNat)
              case atStart => exact ⟨0, Nat.zero_le _, rfl, rfl, fun j' h hj => by omega, Below.refl _ _⟩
              case round =>
                obtain ⟨j, hj, rfl, rfl, hno, hb2⟩ := hrel
                have HNO := Lib.hid hno
                have HB2 := Lib.hid hb2
                have hbo : Below wo.heap.size wo wr := HB.out.trans (hb2.mono HB.out.size)
                have HBX := Lib.hid hbo
                have hs2 := hb2.size
                obtain ⟨k0, k1, k2⟩ := HK.out wr (HBO.out wr hbo)
                clear hno hb2 hbo
                by_cases hjl : j < R.length
                · obtain ⟨bb, off, rfl, hcx⟩ := HRC.out wr HB2.out j hjl
                  have hrj := HRL.out j hjl
                  have hj1 : (j : Int) < (R.length : Int) := by omega
                  by_cases heq : F k = F (R[j])
                  · have hd : decide (F k = F (R[j])) = true := decide_eq_true heq
                    have HFD2 := HFD j hjl heq (fun j' h hlt => HNO.out j' h hlt)
                    have hALK := HAL.out wr r a cap k (R[j]) (HBO.out wr HBX.out) (HIW.out wr HBX.out) hkl hrj
                    rw [hKY, hd] at hALK
                    have HALK := Lib.hid hALK
                    have hj0 : ¬ (j : Int) < 0 := by omega
                    clear heq hd HFD HNF hALK
                    go_wp2_with fail
                    refine HALK.out.mono ?_
                    rintro e w6 ⟨rfl, hb6⟩
                    have hb56 := HB2.out.trans (hb6.mono hs2)
                    have hn6 := row_kept HNV.out hb56
                    have hf6 := row_kept HFV.out hb56
                    have HF6 := Lib.hid hf6
                    have HN6 := Lib.hid hn6
                    have hb66 : Below wo.heap.size wo w6 := HB.out.trans (hb56.mono HB.out.size)
                    have HB66 := Lib.hid hb66
                    have hsz6 := hb66.size
                    clear hb6 hb56 hf6 hb66 HALK k0 k1 k2 hcx
                    go_wp2_with (at_builtin; refine wpList_append_one rfl (.tmp 63) (.tmp 65) 24 3 (.int .i64 0) 8 Tryd.underlying24 info_int rfl (Nat.le_refl _) rfl wo.heap.size _ k _ rfl hn6 (.int .i64 (j : Int)) rfl rfl hkb hsz6 ?_; intro g7 cap7 w7 ho7 hg7 hat7 hlt7; refine Hid.out ?_)
                    refine Lib.hid ?_
                    have hap7 := HAP.out.grow (w' := w6) (m := k + 1) (cap := cap7) HF6.out hat7
                    have hf7 := HF6.out.kept hg7 (HAP.out.row (w := w6) (base := 0) (n := 0) (e := 0) (xs := []))
                    have hb7 := HB66.out.grown hg7 HB66.out.size (fun i hi => (World.ownsRow.lt HN6.out i hi).1)
                    have ho8 : w7.ownsRow wo.heap.size 3 1 (.slice (some ⟨g7, 0, none⟩) (k + 1) cap7) (k + 1) (((List.range (k + 1)).map (fun s => (clM m (r + 1) s : Int))).map (Value.int .i64)) := by
                      rw [← rng_next, List.map_append, HNUM.out k, HFD2.out.1]
                      exact ho7
                    have HAP7 := Lib.hid hap7
                    have HF7 := Lib.hid hf7
                    have HB7 := Lib.hid hb7
                    have HO8 := Lib.hid ho8
                    clear ho7 hg7 hat7 hlt7 hap7 hf7 hb7 ho8 hn6
                    go_wp2_with fail
                    go_roundw
                    case rel => exact ⟨k + 1, by omega, by go_num, HO8.out, by rw [hKY, HFD2.out.2]; exact HF7.out, HAP7.out, HB7.out⟩
                    case measure => simp [intOf]; omega
                  · have hd : decide (F k = F (R[j])) = false := decide_eq_false heq
                    have hALK := HAL.out wr r a cap k (R[j]) (HBO.out wr HBX.out) (HIW.out wr HBX.out) hkl hrj
                    rw [hKY, hd] at hALK
                    have HALK := Lib.hid hALK
                    have HNO2 : Hid (∀ j' (h : j' < R.length), j' < j + 1 → F k ≠ F (R[j'])) := fun j' h hlt => by
                      rcases Nat.lt_or_ge j' j with h1 | h1
                      · exact HNO.out j' h h1
                      · obtain rfl : j' = j := by omega
                        exact heq
                    clear heq hd HFD HNF hALK
                    go_wp2_with fail
                    refine HALK.out.mono ?_
                    rintro e w6 ⟨rfl, hb6⟩
                    have HB56 := Lib.hid (HB2.out.trans (hb6.mono hs2))
                    clear hb6 HALK k0 k1 k2 hcx
                    go_wp2_with fail
                    go_roundw
                    case rel => exact ⟨j + 1, by omega, by go_num, rfl, HNO2.out, HB56.out⟩
                    case measure => simp [intOf]; omega
                · obtain rfl : j = R.length := by omega
                  have HNF2 := HNF (fun j' h => HNO.out j' h h)
                  have hn6 := row_kept HNV.out HB2.out
                  have hf6 := row_kept HFV.out HB2.out
                  have HN6 := Lib.hid hn6
                  have HF6 := Lib.hid hf6
                  have hszx := HBX.out.size
                  have hRb : R.length ≤ 1000000 := by omega
                  clear HFD HNF k0 k1 k2 hn6
                  go_wp2_with (at_builtin; refine wpList_append_one rfl (.tmp 59) (.tmp 61) 24 3 (.int .i64 0) 8 Tryd.underlying24 info_int rfl (Nat.le_refl _) rfl wo.heap.size _ R.length _ rfl hf6 (.int .i64 (k : Int)) rfl rfl hRb hszx ?_; intro g6 cap6 w6 ho6 hg6 hat6 hlt6; refine Hid.out ?_)
                  refine Lib.hid ?_
                  have hap6 := HAP.out.grow' (w' := wr) (m := R.length + 1) (cap := cap6) HN6.out hat6
                  have hn7 := HN6.out.kept hg6 HAP.out.row'
                  have hb6 := HBX.out.grown hg6 HBX.out.size (fun i hi => (World.ownsRow.lt HF6.out i hi).1)
                  have ho6' : w6.ownsRow wo.heap.size 3 1 (.slice (some ⟨g6, 0, none⟩) (R.length + 1) cap6) (R.length + 1) (((R ++ [k]).map (fun (x : Nat) => (x : Int))).map (Value.int .i64)) := by
                    rw [List.map_append, List.map_append]
                    exact ho6
                  have HO6 := Lib.hid ho6'
                  have HAP6 := Lib.hid hap6
                  have HB6 := Lib.hid hb6
                  have HN7 := Lib.hid hn7
                  have hsz6 := hb6.size
                  clear ho6 ho6' hap6 hb6 hg6 hat6 hlt6 hf6
                  go_wp2_with (at_builtin; refine wpList_append_one rfl (.tmp 63) (.tmp 65) 24 3 (.int .i64 0) 8 Tryd.underlying24 info_int rfl (Nat.le_refl _) rfl wo.heap.size _ k _ rfl hn7 (.int .i64 (R.length : Int)) rfl rfl hkb hsz6 ?_; intro g7 cap7 w7 ho7 hg7 hat7 hlt7; refine Hid.out ?_)
                  refine Lib.hid ?_
                  have hap7 := HAP6.out.grow (w' := w6) (m := k + 1) (cap := cap7) HO6.out hat7
                  have hf7 := HO6.out.kept hg7 (HAP6.out.row (w := w6) (base := 0) (n := 0) (e := 0) (xs := []))
                  have hb7 := HB6.out.grown hg7 HB6.out.size (fun i hi => (World.ownsRow.lt HN7.out i hi).1)
                  have ho8 : w7.ownsRow wo.heap.size 3 1 (.slice (some ⟨g7, 0, none⟩) (k + 1) cap7) (k + 1) (((List.range (k + 1)).map (fun s => (clM m (r + 1) s : Int))).map (Value.int .i64)) := by
                    rw [← rng_next, List.map_append, HNUM.out k, HNF2.out.1]
                    exact ho7
                  have HAP7 := Lib.hid hap7
                  have HF7 := Lib.hid hf7
                  have HB7 := Lib.hid hb7
                  have HO8 := Lib.hid ho8
                  have hRl : (R ++ [k]).length = R.length + 1 := by simp
                  have HRL2 := Lib.hid hRl
                  clear ho7 hg7 hat7 hlt7 hap7 hf7 hb7 ho8 hn7 hRl
                  go_wp2_with fail
                  go_roundw
                  case rel => exact ⟨k + 1, by omega, by go_num, HO8.out, by rw [hKY, HNF2.out.2, HRL2.out]; exact HF7.out, HAP7.out, HB7.out⟩
                  case measure => simp [intOf]; omega
            · obtain rfl : k = m.final.length := by omega
              obtain ⟨an, cn, rfl, hin⟩ := row_ints hnv (by simp)
              have HIN : Hid (Ints wr wr.heap.size an cn (clL m (r + 1))) := hin
              clear hnv hfv hap hb hin HNV HFV HAP
              go_wp2_with fail
              go_roundw
              case rel => exact ⟨r + 1, an, cn, by omega, by go_num, rfl, HIN.out, HBO.out _ HB.out⟩
              case measure => simp [intOf]; omega
        · obtain rfl : r = m.final.length := by omega
          go_wp2_with fail
          go_ret
          exact ⟨a, cap, rfl, HI3.out, HBW.out _ HB.out⟩

end Go.Proofs.YtkapbhlnjmfaaaaDoor
