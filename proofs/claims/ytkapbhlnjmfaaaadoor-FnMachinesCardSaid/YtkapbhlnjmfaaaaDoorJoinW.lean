/- JoinMachines, for machines that can be joined. Conditions: those of each contract. -/
import Derived.Test.YtkapbhlnjmfaaaaDoorJoinP
import Derived.Test.YtkapbhlnjmfaaaaDoorDrawM
namespace Go.Proofs.YtkapbhlnjmfaaaaDoor
set_option linter.unusedVariables false
open Go.RowKit

theorem joinOk_t {a c : Ma} (h : joinOk a c = true) : maOk a = true ∧ maOk c = true ∧ a.base = c.base ∧ a.final.length * c.final.length ≤ 144 := by
  simp only [joinOk, Bool.and_eq_true, decide_eq_true_eq] at h
  exact ⟨h.1.1.1, h.1.1.2, h.1.2, h.2⟩
set_option maxRecDepth 8000 in
set_option maxHeartbeats 8000000 in
theorem JoinMachines_ok (a1 : Option Addr) (c1 : Nat) (a2 : Option Addr) (c2 : Nat) (m : Ma) (a3 : Option Addr) (c3 : Nat) (a4 : Option Addr) (c4 : Nat) (p : Ma) (both : Bool) (w : World) (hm : Mach w w.heap.size a1 c1 a2 c2 m) (hp : Mach w w.heap.size a3 c3 a4 c4 p) (hj : joinOk m p = true) :
    Calls Tryd.prog 8 #[.agg #[.int .i64 m.base, .slice a1 m.next.length c1, .slice a2 m.final.length c2], .agg #[.int .i64 p.base, .slice a3 p.next.length c3, .slice a4 p.final.length c4], .bool both] w (RetM w (joinM m p both) true) := by
  obtain ⟨hom, hop, hbase, hprod⟩ := joinOk_t hj
  obtain ⟨q2, q10, n1, n144, -, -⟩ := maOk_t hom
  obtain ⟨-, -, l1, l144, -, -⟩ := maOk_t hop
  obtain ⟨w0, e0, hb0, hs0, k0, k1, k2⟩ := box_new m.base a1 m.next.length c1 a2 m.final.length c2 w
  obtain ⟨wA, eA, hbA, hsA, j0, j1, j2⟩ := box_new p.base a3 p.next.length c3 a4 p.final.length c4 w0
  obtain ⟨wB, eB⟩ : ∃ wB, wB = wA.alloc (.cells #[.int .i64 0, .slice none 0 0, .slice none 0 0] 27) := ⟨_, rfl⟩
  have hsB : wB.heap.size = w.heap.size + 3 := by rw [eB]; simp; omega
  have hbAB : Below wA.heap.size wA wB := by rw [eB]; exact (Below.refl _ _).alloc (Nat.le_refl _) _
  have hbB : Below w.heap.size w wB := (hb0.trans (hbA.mono (by omega))).trans (hbAB.mono (by omega))
  have HKB : Hid (∀ W : World, Below wB.heap.size wB W → W.cell? ⟨w.heap.size, 0, none⟩ = some (.int .i64 m.base) ∧ W.cell? ⟨w.heap.size, 1, none⟩ = some (.slice a1 m.next.length c1) ∧ W.cell? ⟨w.heap.size, 2, none⟩ = some (.slice a2 m.final.length c2) ∧
      W.cell? ⟨w.heap.size + 1, 0, none⟩ = some (.int .i64 p.base) ∧ W.cell? ⟨w.heap.size + 1, 1, none⟩ = some (.slice a3 p.next.length c3) ∧ W.cell? ⟨w.heap.size + 1, 2, none⟩ = some (.slice a4 p.final.length c4)) := fun W hW => by
    have h1 : Below w0.heap.size w0 W := hbA.trans ((hbAB.trans (hW.mono (by omega))).mono (by omega))
    have h2 : Below wA.heap.size wA W := hbAB.trans (hW.mono (by omega))
    rw [hs0] at j0 j1 j2
    exact ⟨(h1.cell (p := ⟨w.heap.size, 0, none⟩) (by show w.heap.size < _; omega)).trans k0, (h1.cell (p := ⟨w.heap.size, 1, none⟩) (by show w.heap.size < _; omega)).trans k1, (h1.cell (p := ⟨w.heap.size, 2, none⟩) (by show w.heap.size < _; omega)).trans k2,
      (h2.cell (p := ⟨w.heap.size + 1, 0, none⟩) (by show w.heap.size + 1 < _; omega)).trans j0, (h2.cell (p := ⟨w.heap.size + 1, 1, none⟩) (by show w.heap.size + 1 < _; omega)).trans j1, (h2.cell (p := ⟨w.heap.size + 1, 2, none⟩) (by show w.heap.size + 1 < _; omega)).trans j2⟩
  have HRB : Hid (∀ W : World, Below wB.heap.size wB W → W.heap[w.heap.size + 1 + 1]? = some (.cells #[.int .i64 0, .slice none 0 0, .slice none 0 0] 27 (0, 0))) := fun W hW => by
    rw [hW.block _ (by omega), show w.heap.size + 1 + 1 = wA.heap.size by omega, eB]
    exact heap_alloc_new _ _
  have HBW : Hid (∀ W : World, Below wB.heap.size wB W → Below w.heap.size w W) := fun W hW => hbB.trans (hW.mono (by omega))
  have HOM : Hid (∀ W : World, Below wB.heap.size wB W → Calls Tryd.prog 19 #[.agg #[.int .i64 m.base, .slice a1 m.next.length c1, .slice a2 m.final.length c2]] W fun e w' => e = .returned (.bool true) ∧ Below W.heap.size W w') := fun W hW => by rw [← hom]; exact MachineOk_any a1 c1 a2 c2 m W (hm.later (HBW.out W hW))
  have HOP : Hid (∀ W : World, Below wB.heap.size wB W → Calls Tryd.prog 19 #[.agg #[.int .i64 p.base, .slice a3 p.next.length c3, .slice a4 p.final.length c4]] W fun e w' => e = .returned (.bool true) ∧ Below W.heap.size W w') := fun W hW => by rw [← hop]; exact MachineOk_any a3 c3 a4 c4 p W (hp.later (HBW.out W hW))
  have HSM : Hid (∀ (W : World) (s d : Nat), Below wB.heap.size wB W → s < m.final.length → d < m.base.toNat → Calls Tryd.prog 30 #[.agg #[.int .i64 m.base, .slice a1 m.next.length c1, .slice a2 m.final.length c2], .int .i64 s, .int .i64 d] W fun e w' => e = .returned (.int .i64 (nxM m s d)) ∧ Below W.heap.size W w') := fun W s d hW hs hd => by
    rw [← (nxM_eq hom s d hs hd).1]
    exact step_any a1 c1 a2 c2 m _ _ W (hm.later (HBW.out W hW)) hom (by omega) (by omega) (by omega) (by omega)
  have HSP : Hid (∀ (W : World) (s d : Nat), Below wB.heap.size wB W → s < p.final.length → d < m.base.toNat → Calls Tryd.prog 30 #[.agg #[.int .i64 p.base, .slice a3 p.next.length c3, .slice a4 p.final.length c4], .int .i64 s, .int .i64 d] W fun e w' => e = .returned (.int .i64 (nxM p s d)) ∧ Below W.heap.size W w') := fun W s d hW hs hd => by
    have hd2 : d < p.base.toNat := by rw [← hbase]; exact hd
    rw [← (nxM_eq hop s d hs hd2).1]
    exact step_any a3 c3 a4 c4 p _ _ W (hp.later (HBW.out W hW)) hop (by omega) (by omega) (by omega) (by omega)
  obtain ⟨-, -, bf, offf, haf, hcf⟩ := hm.bools
  obtain ⟨rfl, hbf⟩ := haf (by omega)
  have HFM : Hid (∀ W : World, Below wB.heap.size wB W → ∀ s, s < m.final.length → W.cell? ⟨bf, offf + s, none⟩ = some (.bool (finN m s))) := fun W hW s hs => by
    rw [(HBW.out W hW).cell (p := ⟨bf, offf + s, none⟩) hbf, hcf s hs]
    simp [finN, List.getD, hs]
  obtain ⟨-, -, bg, offg, hag, hcg⟩ := hp.bools
  obtain ⟨rfl, hbg⟩ := hag (by omega)
  have HFP : Hid (∀ W : World, Below wB.heap.size wB W → ∀ s, s < p.final.length → W.cell? ⟨bg, offg + s, none⟩ = some (.bool (finN p s))) := fun W hW s hs => by
    rw [(HBW.out W hW).cell (p := ⟨bg, offg + s, none⟩) hbg, hcg s hs]
    simp [finN, List.getD, hs]
  have HBB : Hid (Below wB.heap.size wB wB) := Below.refl _ _
  have hbq : (m.base != p.base) = false := by rw [bne_eq_false_iff_eq]; exact hbase
  have hprodI : (m.final.length : Int) * (p.final.length : Int) ≤ 144 := by rw [← Int.natCast_mul]; omega
  have hprod0 : 0 ≤ (m.final.length : Int) * (p.final.length : Int) := Int.mul_nonneg (by omega) (by omega)
  have hnp : ¬ (144 : Int) < (m.final.length : Int) * (p.final.length : Int) := by omega
  have HBN : Hid (((m.base.toNat : Nat) : Int) = m.base) := by show _ = _; omega
  have HJB : Hid (∀ s u d, s < m.final.length → u < p.final.length → d < m.base.toNat → jx m p s u d = (nxM m s d : Int) * (p.final.length : Int) + (nxM p u d : Int) ∧ 0 ≤ (nxM m s d : Int) * (p.final.length : Int) ∧ (nxM m s d : Int) * (p.final.length : Int) ≤ 144 ∧ nxM p u d ≤ 144) := fun s u d hs hu hd => by
    obtain ⟨h1, h2⟩ := jx_bd hom hop hbase s u d hs hu hd
    have h3 := nxM_lt hop u d hu (by rw [← hbase]; exact hd)
    have h4 : 0 ≤ (nxM m s d : Int) * (p.final.length : Int) := Int.mul_nonneg (by omega) (by omega)
    have h5 : jx m p s u d = (nxM m s d : Int) * (p.final.length : Int) + (nxM p u d : Int) := rfl
    exact ⟨h5, h4, by omega, by omega⟩
  obtain ⟨x0, x1, x2, x3, x4, x5⟩ := HKB.out wB HBB.out
  rw [e0] at eA
  rw [eA] at eB
  rw [eB] at x0 x1 x2 x3 x4 x5
  clear hm hp hj hom hop hb0 hbA hbAB hbB k0 k1 k2 j0 j1 j2 e0 eA haf hcf hbf hag hcg hbg hbase hprod
  go_enter Tryd.func8, Tryd.ntmps8
  go_wp2_with fail
  rw [← eB]
  clear eB x0 x1 x2 x3 x4 x5
  refine (HOM.out wB HBB.out).mono ?_
  rintro e w1 ⟨rfl, hb1⟩
  obtain ⟨x0, x1, x2, x3, x4, x5⟩ := HKB.out w1 hb1
  have HB1 := Lib.hid hb1
  clear hb1
  go_wp2_with fail
  refine (HOP.out w1 HB1.out).mono ?_
  rintro e w2 ⟨rfl, hb2⟩
  have hb12 := HB1.out.trans (hb2.mono HB1.out.size)
  have HB2 := Lib.hid hb12
  have hs2 := hb12.size
  clear x0 x1 x2 x3 x4 x5
  obtain ⟨x0, x1, x2, x3, x4, x5⟩ := HKB.out w2 hb12
  have hst0 := RedSt.begin0 (w := w2) (E := w.heap.size) m.base (by omega)
  have hbO : Below w2.heap.size w2 (w2.alloc (.cells #[.int .i64 m.base, .slice none 0 0, .slice none 0 0] 27)) := (Below.refl _ _).alloc (Nat.le_refl _) _
  have HST0 := Lib.hid hst0
  have HBO := Lib.hid hbO
  have HBE : Hid (∀ W : World, Below w2.heap.size w2 W → Below wB.heap.size wB W) := fun W hW => HB2.out.trans (hW.mono hs2)
  have hs2w : w.heap.size + 3 ≤ w2.heap.size := by omega
  obtain ⟨y0, y1, y2, y3, y4, y5⟩ := HKB.out _ (HBE.out _ hbO)
  clear hb2 hb12 hst0 hbO
  go_wp2_with fail
  go_loopw [48] (fun sv wr => ∃ (s : Nat) (v2 v3 : Value), sv = .int .i64 s ∧ s ≤ m.final.length ∧ RedSt wr w.heap.size w2.heap.size m.base (.slice none 0 0) v2 v3 (.slice none 0 0) [] (jall m p s) (fall m p both s) [] ∧ Below w2.heap.size w2 wr) (fun sv _ => m.final.length - (intOf sv).toNat)
  case atStart => exact ⟨0, _, _, rfl, Nat.zero_le _, HST0.out, HBO.out⟩
  case round =>
    clear HST0 HBO x0 x1 x2 x3 x4 x5 y0 y1 y2 y3 y4 y5
    obtain ⟨s, v2, v3, rfl, hs, hst, hb⟩ := hrel
    have HST := Lib.hid hst
    have HB := Lib.hid hb
    obtain ⟨x0, x1, x2, x3, x4, x5⟩ := HKB.out wr (HBE.out _ hb)
    by_cases hsl : s < m.final.length
    · have hcs := HFM.out wr (HBE.out _ hb) s hsl
      obtain ⟨fa, hfa⟩ : ∃ fa, fa = finN m s := ⟨_, rfl⟩
      rw [← hfa] at hcs
      have HFA := Lib.hid hfa
      clear hfa
      have hsi : (s : Int) < (m.final.length : Int) := by omega
      have HSB1 : Hid (jall m p (s + 1) = jall m p s ++ jcol m p s p.final.length) := rfl
      have HSB2 : Hid (fall m p both (s + 1) = fall m p both s ++ fcol m p both s p.final.length) := rfl
      have hjl := jall_len m p s
      have hfl := fall_len m p both s
      have hjb : s * p.final.length * m.base.toNat ≤ 144 * 144 * 10 := Nat.mul_le_mul (Nat.mul_le_mul (by omega) (by omega)) (by omega)
      have hfb : s * p.final.length ≤ 144 * 144 := Nat.mul_le_mul (by omega) (by omega)
      clear hst hb
      go_wp2_with fail
      go_loopw [56] (fun uv wr => ∃ (u : Nat) (v2 v3 : Value), uv = .int .i64 u ∧ u ≤ p.final.length ∧ RedSt wr w.heap.size w2.heap.size m.base (.slice none 0 0) v2 v3 (.slice none 0 0) [] (jall m p s ++ jcol m p s u) (fall m p both s ++ fcol m p both s u) [] ∧ Below w2.heap.size w2 wr) (fun uv _ => p.final.length - (intOf uv).toNat)
      case atStart => exact ⟨0, v2, v3, rfl, Nat.zero_le _, by simpa [jcol, fcol] using HST.out, HB.out⟩
      case round =>
        clear HST HB x0 x1 x2 x3 x4 x5 hcs v2 v3
        obtain ⟨u, v2, v3, rfl, hu, hst, hb⟩ := hrel
        have HST := Lib.hid hst
        have HB := Lib.hid hb
        by_cases hul : u < p.final.length
        · have hcu := HFP.out wr (HBE.out _ hb) u hul
          obtain ⟨fb, hfb⟩ : ∃ fb, fb = finN p u := ⟨_, rfl⟩
          rw [← hfb] at hcu
          have HFB := Lib.hid hfb
          clear hfb
          have hui : (u : Int) < (p.final.length : Int) := by omega
          have HUC : Hid (jcol m p s (u + 1) = jcol m p s u ++ jrow m p s u m.base.toNat) := rfl
          have HUF : Hid (fcol m p both s (u + 1) = fcol m p both s u ++ [jf both (finN m s) (finN p u)]) := rfl
          have hcl := jcol_len m p s u
          have hfcl := fcol_len m p both s u
          have hcb : u * m.base.toNat ≤ 144 * 10 := Nat.mul_le_mul (by omega) (by omega)
          have ho0 := hst.out
          have p0 : wr.cell? ⟨w2.heap.size, 0, none⟩ = some (.int .i64 m.base) := by simp [World.cell?, ho0]
          have hNL0 : (jall m p s ++ jcol m p s u).length ≤ 209000 := by rw [List.length_append, hjl, hcl]; omega
          have hFL0 : (fall m p both s ++ fcol m p both s u).length ≤ 1000000 := by rw [List.length_append, hfl, hfcl]; omega
          clear hst hb ho0
          generalize hN0 : jall m p s ++ jcol m p s u = N0 at *
          generalize hF0 : fall m p both s ++ fcol m p both s u = F0 at *
          go_wp2_with fail
          go_loopw [63] (fun dv wr => ∃ (d : Nat) (v2 : Value), dv = .int .i64 d ∧ d ≤ m.base.toNat ∧ RedSt wr w.heap.size w2.heap.size m.base (.slice none 0 0) v2 v3 (.slice none 0 0) [] (N0 ++ jrow m p s u d) F0 [] ∧ Below w2.heap.size w2 wr) (fun dv _ => m.base.toNat - (intOf dv).toNat)
          case atStart => exact ⟨0, v2, rfl, Nat.zero_le _, by simpa [jrow] using HST.out, HB.out⟩
          case round =>
            clear HST HB p0 hcu v2
            obtain ⟨d, v2, rfl, hd, hst, hb⟩ := hrel
            obtain ⟨x0, x1, x2, x3, x4, x5⟩ := HKB.out wr (HBE.out _ hb)
            by_cases hdl : d < m.base.toNat
            · have hdi : (d : Int) < m.base := by have := HBN.out; omega
              obtain ⟨b1, b2, b3, b4⟩ := HJB.out s u d hsl hul hdl
              have HJX := Lib.hid b1
              have HRN : Hid (jrow m p s u (d + 1) = jrow m p s u d ++ [jx m p s u d]) := rfl
              have hrl := jrow_len m p s u d
              have hNb : (N0 ++ jrow m p s u d).length ≤ 1000000 := by rw [List.length_append, hrl]; omega
              have HPR : Hid (∀ W : World, (RedSt W w.heap.size w2.heap.size m.base (.slice none 0 0) v2 v3 (.slice none 0 0) [] (N0 ++ jrow m p s u d) F0 [] ∧ Below w2.heap.size w2 W) → W.cell? ⟨w2.heap.size, 1, none⟩ = some v2 ∧ W.cell? ⟨w.heap.size, 0, none⟩ = some (.int .i64 m.base) ∧ W.cell? ⟨w.heap.size, 1, none⟩ = some (.slice a1 m.next.length c1) ∧ W.cell? ⟨w.heap.size, 2, none⟩ = some (.slice (some ⟨bf, offf, none⟩) m.final.length c2) ∧
                  W.cell? ⟨w.heap.size + 1, 0, none⟩ = some (.int .i64 p.base) ∧ W.cell? ⟨w.heap.size + 1, 1, none⟩ = some (.slice a3 p.next.length c3) ∧ W.cell? ⟨w.heap.size + 1, 2, none⟩ = some (.slice (some ⟨bg, offg, none⟩) p.final.length c4)) := fun W hW => by
                have ho := hW.1.out
                exact ⟨by simp [World.cell?, ho], HKB.out W (HBE.out _ hW.2)⟩
              have HCA : Hid (∀ (V : Value) (x : Int) (r : Int) (W : World), ((V = .agg #[.int .i64 m.base, .slice a1 m.next.length c1, .slice (some ⟨bf, offf, none⟩) m.final.length c2] ∧ x = (s : Int) ∧ r = (nxM m s d : Int)) ∨ (V = .agg #[.int .i64 p.base, .slice a3 p.next.length c3, .slice (some ⟨bg, offg, none⟩) p.final.length c4] ∧ x = (u : Int) ∧ r = (nxM p u d : Int))) →
                  (RedSt W w.heap.size w2.heap.size m.base (.slice none 0 0) v2 v3 (.slice none 0 0) [] (N0 ++ jrow m p s u d) F0 [] ∧ Below w2.heap.size w2 W) → Calls Tryd.prog 30 #[V, .int .i64 x, .int .i64 d] W fun e w' => e = .returned (.int .i64 r) ∧ (RedSt w' w.heap.size w2.heap.size m.base (.slice none 0 0) v2 v3 (.slice none 0 0) [] (N0 ++ jrow m p s u d) F0 [] ∧ Below w2.heap.size w2 w')) := by
                intro V x r W hV hW
                rcases hV with ⟨rfl, rfl, rfl⟩ | ⟨rfl, rfl, rfl⟩
                · refine (HSM.out W s d (HBE.out _ hW.2) hsl hdl).mono ?_
                  rintro e w' ⟨h1, h2⟩
                  exact ⟨h1, hW.1.kept h2, hW.2.trans (h2.mono hW.2.size)⟩
                · refine (HSP.out W u d (HBE.out _ hW.2) hul hdl).mono ?_
                  rintro e w' ⟨h1, h2⟩
                  exact ⟨h1, hW.1.kept h2, hW.2.trans (h2.mono hW.2.size)⟩
              have hPW : RedSt wr.drew w.heap.size w2.heap.size m.base (.slice none 0 0) v2 v3 (.slice none 0 0) [] (N0 ++ jrow m p s u d) F0 [] ∧ Below w2.heap.size w2 wr.drew := ⟨hst.drew, hb.drew⟩
              have HPW := Lib.hid hPW
              have p1 := (HPR.out wr.drew hPW).1
              have q1 : wr.cell? ⟨w2.heap.size, 1, none⟩ = some v2 := p1
              clear hst hb b1 hPW p1 hrl
              generalize nxM m s d = ra at *
              generalize nxM p u d = rc at *
              generalize hNN : N0 ++ jrow m p s u d = N at *
              generalize hjx : jx m p s u d = jv at *
              have hw1 : IntKind.i64.wrap ((ra : Int) * (p.final.length : Int)) = (ra : Int) * (p.final.length : Int) := by rw [IntKind.wrap_i64]; omega
              have hw2 : IntKind.i64.wrap ((ra : Int) * (p.final.length : Int) + (rc : Int)) = (ra : Int) * (p.final.length : Int) + (rc : Int) := by rw [IntKind.wrap_i64]; omega
              go_wp2_with fail
              go_region_law (first
                | (refine at_app _ _ _ rfl ?_; refine step_append_one rfl (.tmp 67) (.tmp 79) 24 3 (.int .i64 0) 8 Tryd.underlying24 info_int rfl (Nat.le_refl _) rfl (w2.heap.size + 1) v2 N.length _ rfl HPW.out.1.nx (.int .i64 ((ra : Int) * (p.final.length : Int) + (rc : Int))) rfl rfl hNb HPW.out.1.blk ?_; intro g6 cap6 w6 ho6 hg6 hat6 hlt6; obtain ⟨z1, z2, z3⟩ := HPW.out.1.addN ho6 hg6 hat6)
                | (refine at_fun 30 #[.tmp 68, .tmp 69, .tmp 70] _ rfl ?_; go_simp; go_wp2_with (go_at_call 30; refine (HCA.out _ _ (ra : Int) _ (Or.inl ⟨rfl, rfl, rfl⟩) HPW.out).mono ?_; rintro e w5 ⟨rfl, hPW⟩; have HPW := Lib.hid hPW; obtain ⟨q1, x0, x1, x2, x3, x4, x5⟩ := HPR.out _ hPW; have q1b : (w5.alloc (.cells #[.int .i64 ((ra : Int) * (p.final.length : Int) + (rc : Int))] 3)).cell? ⟨w2.heap.size, 1, none⟩ = some v2 := (by rw [World.cell?_alloc_past _ _ _ (by show w2.heap.size < w5.heap.size; exact hPW.1.blk)]; exact q1); clear hPW))
                | (refine at_fun 30 #[.tmp 74, .tmp 75, .tmp 76] _ rfl ?_; go_simp; go_wp2_with (go_at_call 30; refine (HCA.out _ _ (rc : Int) _ (Or.inr ⟨rfl, rfl, rfl⟩) HPW.out).mono ?_; rintro e w5 ⟨rfl, hPW⟩; have HPW := Lib.hid hPW; obtain ⟨q1, x0, x1, x2, x3, x4, x5⟩ := HPR.out _ hPW; have q1b : (w5.alloc (.cells #[.int .i64 ((ra : Int) * (p.final.length : Int) + (rc : Int))] 3)).cell? ⟨w2.heap.size, 1, none⟩ = some v2 := (by rw [World.cell?_alloc_past _ _ _ (by show w2.heap.size < w5.heap.size; exact hPW.1.blk)]; exact q1); clear hPW)))
              all_goals
                have HY := Lib.hid z3
                have HB6 : Hid (Below w2.heap.size w2 (w6.setCell ⟨w2.heap.size, 1, none⟩ (.slice (some ⟨g6, 0, none⟩) (N.length + 1) cap6))) := (HPW.out.2.grown hg6 HPW.out.2.size (fun j hj => by have := (World.ownsRow.lt HPW.out.1.nx j hj).1; omega)).setCell (p := ⟨w2.heap.size, 1, none⟩) (Nat.le_refl _) _
                clear ho6 hg6 hat6 hlt6 z1 z2 z3
                go_wp2_with fail
                go_roundw
                case rel =>
                  refine ⟨d + 1, .slice (some ⟨g6, 0, none⟩) (N.length + 1) cap6, by go_num, by omega, ?_, HB6.out⟩
                  rw [HRN.out, ← List.append_assoc, hNN, HJX.out]
                  exact HY.out
                case measure => simp [intOf]; omega
            · obtain rfl : d = m.base.toNat := by omega
              have hdi : ¬ ((m.base.toNat : Nat) : Int) < m.base := by have := HBN.out; omega
              have hfx := hst.fi
              have ho0 := hst.out
              have hOb := hst.blk
              have p2 : wr.cell? ⟨w2.heap.size, 2, none⟩ = some v3 := by simp [World.cell?, ho0]
              have HSTd := Lib.hid hst
              have HBd := Lib.hid hb
              have HADF := fun (y : Bool) (g cap : Nat) (w' : World) h1 h2 h3 => Lib.hid (hst.addF (g := g) (cap := cap) (w' := w') (y := y) h1 h2 h3)
              have HADD := Lib.hid HADF
              have HNG : Hid (∀ j, v3.ownBlock = some j → w2.heap.size ≤ j) := fun j hj => by have := (World.ownsRow.lt hfx j hj).1; omega
              have HUCC : Hid (jall m p s ++ jcol m p s (u + 1) = N0 ++ jrow m p s u m.base.toNat) := by show _ = _; rw [HUC.out, ← List.append_assoc, hN0]
              have HUFF : Hid (fall m p both s ++ fcol m p both s (u + 1) = F0 ++ [jf both (finN m s) (finN p u)]) := by show _ = _; rw [HUF.out, ← List.append_assoc, hF0]
              clear hst hb ho0 HADF x0 x1 x2 x3 x4 x5 hN0 hF0
              generalize hN1 : jall m p s ++ jcol m p s (u + 1) = N1 at *
              generalize hF1 : fall m p both s ++ fcol m p both s (u + 1) = F1 at *
              have HN1 := Lib.hid hN1
              have HF1 := Lib.hid hF1
              clear hN1 hF1
              generalize N0 ++ jrow m p s u m.base.toNat = N2 at *
              rw [← HFA.out, ← HFB.out] at HUFF
              clear HFA HFB
              cases both <;> cases fa <;> cases fb
              all_goals
                go_wp2_with (at_builtin; refine wpList_append_one rfl (.tmp 84) (.tmp 99) 25 4 (.bool false) 1 Tryd.underlying25 info_bool1 rfl (by decide) rfl (w2.heap.size + 1) v3 F0.length _ rfl hfx _ rfl rfl hFL0 hOb ?_; intro g6 cap6 w6 ho6 hg6 hat6 hlt6; obtain ⟨z1, z2, z3⟩ := (HADD.out _ g6 cap6 w6 ho6 hg6 hat6).out)
                have HY := Lib.hid z3
                have HB6 : Hid (Below w2.heap.size w2 (w6.setCell ⟨w2.heap.size, 2, none⟩ (.slice (some ⟨g6, 0, none⟩) (F0.length + 1) cap6))) := (HBd.out.grown hg6 HBd.out.size HNG.out).setCell (p := ⟨w2.heap.size, 2, none⟩) (Nat.le_refl _) _
                clear ho6 hg6 hat6 hlt6 z1 z2 z3
                go_roundw
                case rel =>
                  refine ⟨u + 1, v2, .slice (some ⟨g6, 0, none⟩) (F0.length + 1) cap6, by go_num, by omega, ?_, HB6.out⟩
                  rw [HN1.out, HF1.out, HUCC.out, HUFF.out]
                  exact HY.out
                case measure => simp [intOf]; omega
        · obtain rfl : u = p.final.length := by omega
          clear hst hb
          go_wp2_with fail
          go_roundw
          case rel => exact ⟨s + 1, v2, v3, by go_num, by omega, by rw [HSB1.out, HSB2.out]; exact HST.out, HB.out⟩
          case measure => simp [intOf]; omega
    · obtain rfl : s = m.final.length := by omega
      obtain ⟨b1, d1, b2, d2, e1, e2, -⟩ := HST.out.mach
      have hout := HST.out.out
      subst e1 e2
      have hr3 := HRB.out wr (HBE.out _ hb)
      have y0 : wr.cell? ⟨w.heap.size + 1 + 1, 0, none⟩ = some (.int .i64 0) := by simp [World.cell?, hr3]
      have y1 : wr.cell? ⟨w.heap.size + 1 + 1, 1, none⟩ = some (.slice none 0 0) := by simp [World.cell?, hr3]
      have y2 : wr.cell? ⟨w.heap.size + 1 + 1, 2, none⟩ = some (.slice none 0 0) := by simp [World.cell?, hr3]
      have z0 : wr.frozen? ⟨w.heap.size + 1 + 1, 0, none⟩ = false := by simp [World.frozen?, hr3]
      have z1 : wr.frozen? ⟨w.heap.size + 1 + 1, 1, none⟩ = false := by simp [World.frozen?, hr3]
      have z2 : wr.frozen? ⟨w.heap.size + 1 + 1, 2, none⟩ = false := by simp [World.frozen?, hr3]
      have p0 : wr.cell? ⟨w2.heap.size, 0, none⟩ = some (.int .i64 m.base) := by simp [World.cell?, hout]
      have p1 : wr.cell? ⟨w2.heap.size, 1, none⟩ = some (.slice b1 (jall m p m.final.length).length d1) := by simp [World.cell?, hout]
      have p2 : wr.cell? ⟨w2.heap.size, 2, none⟩ = some (.slice b2 (fall m p both m.final.length).length d2) := by simp [World.cell?, hout]
      have HR3 := Lib.hid hr3
      have HJM : Hid (joinM m p both = ⟨m.base, jall m p m.final.length, fall m p both m.final.length⟩) := rfl
      clear hout hr3 hst hb
      go_wp2_with fail
      refine bodyPost_ret (results_mach rfl _ _ (w.heap.size + 1 + 1) _ _ _ _ rfl (set_three HR3.out)) rfl ?_
      have hst4 := ((HST.out.other (set_other _ (w.heap.size + 1 + 1) 0 (.int .i64 m.base)) (by omega)).other (set_other _ (w.heap.size + 1 + 1) 1 (.slice b1 (jall m p m.final.length).length d1)) (by omega)).other (set_other _ (w.heap.size + 1 + 1) 2 (.slice b2 (fall m p both m.final.length).length d2)) (by omega)
      obtain ⟨b1', d1', b2', d2', e1', e2', hmach⟩ := hst4.mach
      simp only [Value.slice.injEq, true_and] at e1' e2'
      obtain ⟨rfl, rfl⟩ := e1'
      obtain ⟨rfl, rfl⟩ := e2'
      refine ⟨b1, d1, b2, d2, ?_, ?_, ?_⟩
      · rw [HJM.out]; rfl
      · rw [HJM.out]; exact hmach
      · exact (((HBW.out _ (HBE.out _ HB.out)).setCell (p := ⟨w.heap.size + 1 + 1, 0, none⟩) (by show w.heap.size ≤ w.heap.size + 1 + 1; omega) _).setCell (p := ⟨w.heap.size + 1 + 1, 1, none⟩) (by show w.heap.size ≤ w.heap.size + 1 + 1; omega) _).setCell (p := ⟨w.heap.size + 1 + 1, 2, none⟩) (by show w.heap.size ≤ w.heap.size + 1 + 1; omega) _

end Go.Proofs.YtkapbhlnjmfaaaaDoor
