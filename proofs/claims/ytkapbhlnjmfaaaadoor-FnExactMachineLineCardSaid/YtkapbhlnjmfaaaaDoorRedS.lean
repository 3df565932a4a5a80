/- The reference's reduced machine. Conditions: those of each contract. -/
import Derived.Test.YtkapbhlnjmfaaaaDoorRedX
import Derived.Test.YtkapbhlnjmfaaaaDoorClsS
namespace Go.Proofs.YtkapbhlnjmfaaaaDoor
set_option linter.unusedVariables false
open Go.RowKit

theorem getD_atJ (xs : List Int) (k : Nat) (h : k < xs.length) : xs.getD k 0 = xs[k] := by simp [List.getD, h]
/-- the last place below k where x stands, or -1 -/
def scanJ (xs : List Int) (x : Int) : Nat → Int
  | 0 => -1
  | k + 1 => if xs.getD k 0 = x then (k : Int) else scanJ xs x k
theorem scanJ_bd (xs : List Int) (x : Int) (k : Nat) : -1 ≤ scanJ xs x k ∧ scanJ xs x k < k := by
  induction k with
  | zero => exact ⟨by simp [scanJ], by simp [scanJ]⟩
  | succ k ih => rw [scanJ]; split <;> omega
theorem scanJ_none (xs : List Int) (x : Int) (h : x ∉ xs) : ∀ k, k ≤ xs.length → scanJ xs x k = -1 := by
  intro k
  induction k with
  | zero => intro _; rfl
  | succ k ih =>
    intro hk
    rw [scanJ, if_neg, ih (by omega)]
    rw [getD_atJ xs k hk]
    exact fun e => h (e ▸ List.getElem_mem hk)
theorem scanJ_some (xs : List Int) (x : Int) (hn : xs.Nodup) (h : x ∈ xs) : ∀ k, k ≤ xs.length → scanJ xs x k = if xs.idxOf x < k then ((xs.idxOf x : Nat) : Int) else -1 := by
  have hl := List.idxOf_lt_length_of_mem h
  have hg : xs[xs.idxOf x] = x := List.getElem_idxOf hl
  intro k
  induction k with
  | zero => intro _; simp [scanJ]
  | succ k ih =>
    intro hk
    have hk' : k < xs.length := hk
    rw [scanJ, getD_atJ xs k hk', ih (by omega)]
    by_cases e : xs[k] = x
    · have hik : xs.idxOf x = k := by
        rcases Nat.lt_trichotomy (xs.idxOf x) k with h1 | h1 | h1
        · exact absurd (hg.trans e.symm) (List.pairwise_iff_getElem.1 hn _ _ hl hk' h1)
        · exact h1
        · exact absurd (e.trans hg.symm) (List.pairwise_iff_getElem.1 hn _ _ hk' hl h1)
      rw [if_pos e, if_pos (by omega), hik]
    · rw [if_neg e]
      have hne : xs.idxOf x ≠ k := fun e2 => e (by subst e2; exact hg)
      by_cases h2 : xs.idxOf x < k
      · rw [if_pos h2, if_pos (by omega)]
      · rw [if_neg h2, if_neg (by omega)]
theorem clsOf_grow (c : Nat → Nat) (S : List Nat) (s : Nat) : clsOf c (S ++ [s]) = clsOf c S ++ [(c s : Int)] := clsOf_app c S s
/-- the slice of classes of the states -/
theorem RedSt.clss {w : World} {E O : Nat} {q : Int} {v1 v2 v3 v4 : Value} {S : List Nat} {N : List Int} {F : List Bool} {L : List Int} (h : RedSt w E O q v1 v2 v3 v4 S N F L) (h0 : 0 < L.length) :
    ∃ g cap, v4 = .slice (some ⟨g, 0, none⟩) L.length cap ∧ ∀ i (hi : i < L.length), w.cell? ⟨g, i, none⟩ = some (.int .i64 L[i]) := by
  obtain ⟨g, cap, rfl, -, -⟩ := World.ownsRow.form h.cl h0
  refine ⟨g, cap, rfl, fun i hi => ?_⟩
  have := World.ownsRow.cellAt h.cl i (by omega)
  rw [this, List.getElem?_map, List.getElem?_eq_getElem hi]
  rfl
set_option maxRecDepth 8000 in
set_option maxHeartbeats 4000000 in
theorem sReduceMachine_any (a1 : Option Addr) (c1 : Nat) (a2 : Option Addr) (c2 : Nat) (m : Ma) (w : World) (hm : Mach w w.heap.size a1 c1 a2 c2 m) :
    Calls Tryd.prog 45 #[.agg #[.int .i64 m.base, .slice a1 m.next.length c1, .slice a2 m.final.length c2]] w (RetM w (if maOk m = true then redM m else noM) (maOk m)) := by
  obtain ⟨w0, e0, hb0, hs0, k0, k1, k2⟩ := box_new m.base a1 m.next.length c1 a2 m.final.length c2 w
  have hbA : Below w.heap.size w (w0.alloc (.cells #[.int .i64 0, .slice none 0 0, .slice none 0 0] 27)) := hb0.alloc (by omega) _
  have HBA := Lib.hid hbA
  have HOKC : Hid (∀ W : World, Below w.heap.size w W → Calls Tryd.prog 58 #[.agg #[.int .i64 m.base, .slice a1 m.next.length c1, .slice a2 m.final.length c2]] W fun e w' => e = .returned (.bool (maOk m)) ∧ Below W.heap.size W w') := fun W hW => sMachineOk_any a1 c1 a2 c2 m W (hm.later hW)
  have HK : Hid (∀ W : World, Below w0.heap.size w0 W → W.cell? ⟨w.heap.size, 0, none⟩ = some (.int .i64 m.base) ∧ W.cell? ⟨w.heap.size, 1, none⟩ = some (.slice a1 m.next.length c1) ∧ W.cell? ⟨w.heap.size, 2, none⟩ = some (.slice a2 m.final.length c2)) := fun W hW =>
    ⟨(hW.cell (p := ⟨w.heap.size, 0, none⟩) (by show w.heap.size < _; omega)).trans k0, (hW.cell (p := ⟨w.heap.size, 1, none⟩) (by show w.heap.size < _; omega)).trans k1, (hW.cell (p := ⟨w.heap.size, 2, none⟩) (by show w.heap.size < _; omega)).trans k2⟩
  have HBW : Hid (∀ W : World, Below w0.heap.size w0 W → Below w.heap.size w W) := fun W hW => hb0.trans (hW.mono (by omega))
  have HBZ : Hid (Below w0.heap.size w0 (w0.alloc (.cells #[.int .i64 0, .slice none 0 0, .slice none 0 0] 27))) := (Below.refl _ _).alloc (Nat.le_refl _) _
  have HR : Hid ((w0.alloc (.cells #[.int .i64 0, .slice none 0 0, .slice none 0 0] 27)).heap[w.heap.size + 1]? = some (.cells #[.int .i64 0, .slice none 0 0, .slice none 0 0] 27 (0, 0))) := by
    show _ = _
    rw [show w.heap.size + 1 = w0.heap.size from hs0.symm]
    exact heap_alloc_new _ _
  obtain ⟨wA, eA⟩ : ∃ wA, wA = w0.alloc (.cells #[.int .i64 0, .slice none 0 0, .slice none 0 0] 27) := ⟨_, rfl⟩
  rw [← eA] at HBA HBZ HR
  obtain ⟨j0, j1, j2⟩ := HK.out wA HBZ.out
  cases hok : maOk m
  · rw [hok] at HOKC
    clear hok hm k0 k1 k2 hb0 hbA
    go_enter Tryd.func45, Tryd.ntmps45
    go_wp2_with fail
    rw [← e0, ← eA]
    refine (HOKC.out wA HBA.out).mono ?_
    rintro e w1 ⟨rfl, hb1⟩
    have hr1 := (hb1.block (w.heap.size + 1) (by rw [eA]; simp; omega)).trans HR.out
    have x0 : w1.cell? ⟨w.heap.size + 1, 0, none⟩ = some (.int .i64 0) := by simp [World.cell?, hr1]
    have x1 : w1.cell? ⟨w.heap.size + 1, 1, none⟩ = some (.slice none 0 0) := by simp [World.cell?, hr1]
    have x2 : w1.cell? ⟨w.heap.size + 1, 2, none⟩ = some (.slice none 0 0) := by simp [World.cell?, hr1]
    have f0 : w1.frozen? ⟨w.heap.size + 1, 0, none⟩ = false := by simp [World.frozen?, hr1]
    have f1 : w1.frozen? ⟨w.heap.size + 1, 1, none⟩ = false := by simp [World.frozen?, hr1]
    have f2 : w1.frozen? ⟨w.heap.size + 1, 2, none⟩ = false := by simp [World.frozen?, hr1]
    have HB1 := Lib.hid (HBA.out.trans (hb1.mono HBA.out.size))
    clear hb1 e0 eA
    go_wp2_with fail
    refine bodyPost_ret (results_mach rfl _ _ (w.heap.size + 1) _ _ _ _ rfl (set_three hr1)) rfl ?_
    exact ⟨none, 0, none, 0, rfl, noM_at _ _, ((HB1.out.setCell (p := ⟨w.heap.size + 1, 0, none⟩) (Nat.le_succ _) _).setCell (p := ⟨w.heap.size + 1, 1, none⟩) (Nat.le_succ _) _).setCell (p := ⟨w.heap.size + 1, 2, none⟩) (Nat.le_succ _) _⟩
  · obtain ⟨q2, q10, n1, n144, -, -⟩ := maOk_t hok
    have HCL : Hid (∀ W : World, Below w0.heap.size w0 W → Calls Tryd.prog 59 #[.agg #[.int .i64 m.base, .slice a1 m.next.length c1, .slice a2 m.final.length c2]] W
      fun e w' => ∃ a cap, e = .returned (.slice a m.final.length cap) ∧ Ints w' w'.heap.size a cap (clL m m.final.length) ∧ Below W.heap.size W w') := fun W hW =>
      l17Classes_any a1 c1 a2 c2 m W (hm.later (HBW.out W hW)) hok
    obtain ⟨-, -, bf, offf, haf, hcf⟩ := hm.bools
    obtain ⟨rfl, hbf⟩ := haf (by omega)
    have HFB : Hid (∀ W : World, Below w0.heap.size w0 W → ∀ s, s < m.final.length → W.cell? ⟨bf, offf + s, none⟩ = some (.bool (finN m s))) := fun W hW s hs => by
      rw [(HBW.out W hW).cell (p := ⟨bf, offf + s, none⟩) hbf, hcf s hs]
      simp [finN, List.getD, hs]
    obtain ⟨-, -, bn, offn, han, hcn⟩ := hm.ints
    have HNXC : Hid (∀ W : World, Below w0.heap.size w0 W → ∀ x d : Nat, x < m.final.length → d < m.base.toNat → ∃ j : Nat, (x : Int) * m.base + (d : Int) = (j : Int) ∧ j < m.next.length ∧ W.cell? ⟨bn, offn + j, none⟩ = some (.int .i64 (nxM m x d : Int))) := fun W hW x d hx hd => by
      obtain ⟨j, h1, h2, h3, h4, h5⟩ := step_get hok (x : Int) (d : Int) (by omega) (by omega) (by omega) (by omega)
      refine ⟨j, h1, h2, ?_⟩
      rw [(HBW.out W hW).cell (p := ⟨bn, offn + j, none⟩) (han (by omega)).2, hcn j h2, ← h3, (nxM_eq hok x d hx hd).1]
    have hpos : 0 < m.next.length := by
      obtain ⟨j, h1, h2, -⟩ := HNXC.out w0 (Below.refl _ _) 0 0 (by omega) (by omega)
      omega
    obtain ⟨rfl, -⟩ := han hpos
    have HIX : Hid (∀ x d : Nat, x < m.final.length → d < m.base.toNat → 0 ≤ (x : Int) * m.base ∧ (x : Int) * m.base ≤ 1440 ∧ m.next.length ≤ 1440) := fun x d hx hd => by
      have := step_ix hok (x : Int) (d : Int) (by omega) (by omega) (by omega) (by omega)
      omega
    have HOKM := Lib.hid hok
    have HRM : Hid (redM m = ⟨m.base, (redS m).2, (redS m).1.map (finN m)⟩) := rfl
    have HBN : Hid (((m.base.toNat : Nat) : Int) = m.base) := by show _ = _; omega
    rw [hok] at HOKC
    clear hok hm k0 k1 k2 hb0 hbA haf hcf hbf han hcn
    go_enter Tryd.func45, Tryd.ntmps45
    go_wp2_with fail
    rw [← e0, ← eA]
    refine (HOKC.out wA HBA.out).mono ?_
    rintro e w1 ⟨rfl, hb1⟩
    have hr1 := (hb1.block (w.heap.size + 1) (by rw [eA]; simp; omega)).trans HR.out
    have HB1 := Lib.hid (HBZ.out.trans (hb1.mono HBZ.out.size))
    obtain ⟨x0, x1, x2⟩ := HK.out w1 HB1.out
    have hs1 : w.heap.size + 1 < w1.heap.size := by have := hb1.size; rw [eA] at this; simp at this; omega
    clear hb1 e0 eA HR HBA HBZ HOKC j0 j1 j2
    go_wp2_with fail
    refine (HCL.out w1 HB1.out).mono ?_
    rintro e w2 ⟨a, ccap, rfl, hrow, hb2⟩
    have hr2 := (hb2.block (w.heap.size + 1) hs1).trans hr1
    have HB2 := Lib.hid (HB1.out.trans (hb2.mono HB1.out.size))
    have hs2 := hb2.size
    obtain ⟨x3, -, -⟩ := HK.out w2 HB2.out
    obtain ⟨-, -, g, goff, hga, hgc⟩ := hrow
    rw [clL_len] at hga
    obtain ⟨rfl, hgl⟩ := hga (by omega)
    have HRW : Hid (∀ W : World, Below w2.heap.size w2 W → ∀ x, x < m.final.length → W.cell? ⟨g, goff + x, none⟩ = some (.int .i64 (clM m m.final.length x : Int))) := fun W hW x hx => by
      rw [hW.cell (p := ⟨g, goff + x, none⟩) hgl, hgc x (by rw [clL_len]; exact hx), clL_get]
    clear hb2 hga hgc hr1 HCL x0 x1 x2
    have hbL : Below w2.heap.size w2 (w2.alloc (.cells #[.int .i64 0] 3)) := (Below.refl _ _).alloc (Nat.le_refl _) _
    have hc0 := HRW.out _ hbL 0 (by omega)
    rw [Nat.add_zero] at hc0
    have hcl0 := clM_lt HOKM.out m.final.length 0 (by omega)
    have HLIT : Hid ((w2.alloc (.cells #[.int .i64 0] 3)).ownsRow w2.heap.size 3 1 (.slice (some ⟨w2.heap.size, 0, none⟩) 1 1) 1 [.int .i64 0]) := World.ownsRow_lit _ #[.int .i64 0] 1 (Nat.le_refl _) (by simp [maxLen]) rfl
    have HLIC : Hid (((w2.alloc (.cells #[.int .i64 0] 3)).alloc (.cells #[.int .i64 (clM m m.final.length 0 : Int)] 3)).ownsRow w2.heap.size 3 1 (.slice (some ⟨w2.heap.size + 1, 0, none⟩) 1 1) 1 [.int .i64 (clM m m.final.length 0 : Int)]) := by
      have h := World.ownsRow_lit (base := w2.heap.size) (size := 1) (e := 3) (w2.alloc (.cells #[.int .i64 0] 3)) #[.int .i64 (clM m m.final.length 0 : Int)] 1 (by simp) (by simp [maxLen]) rfl
      rw [show (w2.alloc (.cells #[.int .i64 0] 3)).heap.size = w2.heap.size + 1 from by simp] at h
      exact h
    have hB0 := HB2.out.size
    have hb3 : Below w2.heap.size w2 ((w2.alloc (.cells #[.int .i64 0] 3)).alloc (.cells #[.int .i64 (clM m m.final.length 0 : Int)] 3)) := hbL.alloc (by simp) _
    obtain ⟨x4, -, -⟩ := HK.out _ (HB2.out.trans (hb3.mono hB0))
    have HB3 := Lib.hid hb3
    clear hb3 hbL
    have HST0 : Hid (RedSt (((w2.alloc (.cells #[.int .i64 0] 3)).alloc (.cells #[.int .i64 (clM m m.final.length 0 : Int)] 3)).alloc (.cells #[.int .i64 m.base, .slice none 0 0, .slice none 0 0] 27)) w2.heap.size (w2.heap.size + 1 + 1) m.base (.slice (some ⟨w2.heap.size, 0, none⟩) 1 1) (.slice none 0 0) (.slice none 0 0) (.slice (some ⟨w2.heap.size + 1, 0, none⟩) 1 1) [0] [] [] (clsOf (clM m m.final.length) [0])) := by
      have h := RedSt.begin (w := (w2.alloc (.cells #[.int .i64 0] 3)).alloc (.cells #[.int .i64 (clM m m.final.length 0 : Int)] 3)) (E := w2.heap.size) m.base (v4 := .slice (some ⟨w2.heap.size + 1, 0, none⟩) 1 1) (L := clsOf (clM m m.final.length) [0]) (by simp) (HLIT.out.alloc _) HLIC.out (by intro g hg; simp [Value.ownBlock] at hg; omega)
      rw [show ((w2.alloc (.cells #[.int .i64 0] 3)).alloc (.cells #[.int .i64 (clM m m.final.length 0 : Int)] 3)).heap.size = w2.heap.size + 1 + 1 from by simp] at h
      exact h
    have HB5 : Hid (Below w2.heap.size w2 (((w2.alloc (.cells #[.int .i64 0] 3)).alloc (.cells #[.int .i64 (clM m m.final.length 0 : Int)] 3)).alloc (.cells #[.int .i64 m.base, .slice none 0 0, .slice none 0 0] 27))) := HB3.out.alloc HB3.out.size _
    have hGO : Hid (GoodS m.final.length (clM m m.final.length) [0]) := GoodS.start (by omega)
    have hNX := nxM_lt HOKM.out
    have HNX := Lib.hid hNX
    have HRS : Hid (bfs m.base.toNat (clM m m.final.length) (nxM m) (m.final.length + 1) 0 ([0], []) = redS m) := rfl
    have HBE : Hid (∀ W : World, Below w2.heap.size w2 W → Below w0.heap.size w0 W) := fun W hW => HB2.out.trans (hW.mono hB0)
    have HR2 := Lib.hid hr2
    have hs22 : w.heap.size + 1 < w2.heap.size := by omega
    clear hNX hr2 HB3 HLIT HLIC
    go_wp2_with fail
    go_loopw [5, 6, 8] (fun v1 v4 iv wr => ∃ (i f : Nat) (Q : List Nat × List Int) (v2 v3 : Value), iv = .int .i64 i ∧ i ≤ Q.1.length ∧ bfs m.base.toNat (clM m m.final.length) (nxM m) f i Q = redS m ∧ m.final.length < f + i ∧ GoodS m.final.length (clM m m.final.length) Q.1 ∧ Q.2.length = i * m.base.toNat ∧
      RedSt wr w2.heap.size (w2.heap.size + 1 + 1) m.base v1 v2 v3 v4 Q.1 Q.2 ((Q.1.take i).map (finN m)) (clsOf (clM m m.final.length) Q.1) ∧ Below w2.heap.size w2 wr ∧ 0 < Q.1.length) (fun _ _ iv _ => (m.final.length + 1 - (intOf iv).toNat))
    case atStart => exact ⟨0, m.final.length + 1, ([0], []), .slice none 0 0, .slice none 0 0, rfl, Nat.zero_le _, HRS.out, by omega, hGO.out, by simp, HST0.out, HB5.out, by simp⟩
    case round =>
      clear HST0 HB5 hGO HRS hc0 x3 x4
      obtain ⟨i, f, Q, v2, v3, rfl, hi, hbf, hfi, hgo, hNl, hst, hb, hpos⟩ := hrel
      have hSl := hgo.len
      have HGO := Lib.hid hgo
      have HBF := Lib.hid hbf
      have HNL := Lib.hid hNl
      have HST1 := Lib.hid hst
      have HB := Lib.hid hb
      obtain ⟨g1, cap1, rfl, hcs⟩ := hst.state hpos
      clear hgo hbf hst hb hcs hNl
      by_cases hlt : i < Q.1.length
      · obtain ⟨s0, hs0e⟩ : ∃ s0, s0 = Q.1[i] := ⟨_, rfl⟩
        have hs0n : s0 < m.final.length := by rw [hs0e]; exact HGO.out.lt _ (List.getElem_mem hlt)
        have hgd : Q.1.getD i 0 = s0 := by rw [hs0e]; simp [List.getD, hlt]
        obtain ⟨f, rfl⟩ : ∃ f', f = f' + 1 := ⟨f - 1, by omega⟩
        have HBF2 : Hid (bfs m.base.toNat (clM m m.final.length) (nxM m) f (i + 1) (rowQ (clM m m.final.length) (nxM m) s0 Q m.base.toNat) = redS m) := by
          show _ = _
          rw [← HBF.out, bfs, if_pos hlt, hgd]
        have HPRE : Hid (∀ d, ∃ t, (rowQ (clM m m.final.length) (nxM m) s0 Q d).1 = Q.1 ++ t) := fun d => rowQ_pre _ _ _ _ d
        have HGD : Hid (∀ d, d ≤ m.base.toNat → GoodS m.final.length (clM m m.final.length) (rowQ (clM m m.final.length) (nxM m) s0 Q d).1) := rowQ_good HNX.out hs0n HGO.out
        have HLN : Hid (∀ d, (rowQ (clM m m.final.length) (nxM m) s0 Q d).2.length = Q.2.length + d) := fun d => rowQ_len _ _ _ _ d
        have HSI : Hid (∀ d, ∃ h : i < (rowQ (clM m m.final.length) (nxM m) s0 Q d).1.length, (rowQ (clM m m.final.length) (nxM m) s0 Q d).1[i] = s0) := fun d => by
          obtain ⟨t, ht⟩ := HPRE.out d
          have hl : i < (rowQ (clM m m.final.length) (nxM m) s0 Q d).1.length := by rw [ht, List.length_append]; omega
          refine ⟨hl, ?_⟩
          have h2 : (rowQ (clM m m.final.length) (nxM m) s0 Q d).1[i] = Q.1[i] := by
            simp only [ht]
            exact List.getElem_append_left hlt
          exact h2.trans hs0e.symm
        have HTK : Hid (∀ d, ((rowQ (clM m m.final.length) (nxM m) s0 Q d).1.take (i + 1)).map (finN m) = (Q.1.take i).map (finN m) ++ [finN m s0]) := fun d => by
          obtain ⟨t, ht⟩ := HPRE.out d
          rw [ht, List.take_append_of_le_length (by omega), List.take_succ_eq_append_getElem hlt, List.map_append, ← hs0e]
          rfl
        have hFl : ((Q.1.take i).map (finN m)).length = i := by simp; omega
        have hNl2 : Q.2.length ≤ 1440 := by
          rw [HNL.out]
          have : i * m.base.toNat ≤ 144 * 10 := Nat.mul_le_mul (by omega) (by omega)
          omega
        have hlt2 : (i : Int) < (Q.1.length : Int) := by omega
        clear hs0e hgd HBF hi
        generalize hF : (Q.1.take i).map (finN m) = F at *
        go_wp2_with fail
        go_loopw [5, 6, 9] (fun v1 v4 dv wr => ∃ (d : Nat) (v2 v3 : Value), dv = .int .i64 d ∧ d ≤ m.base.toNat ∧
          RedSt wr w2.heap.size (w2.heap.size + 1 + 1) m.base v1 v2 v3 v4 (rowQ (clM m m.final.length) (nxM m) s0 Q d).1 (rowQ (clM m m.final.length) (nxM m) s0 Q d).2 F (clsOf (clM m m.final.length) (rowQ (clM m m.final.length) (nxM m) s0 Q d).1) ∧ Below w2.heap.size w2 wr) (fun _ _ dv _ => (m.base.toNat - (intOf dv).toNat))
        case atStart => exact ⟨0, v2, v3, rfl, Nat.zero_le _, HST1.out, HB.out⟩
        case round =>
          clear HST1 HB v2 v3
          obtain ⟨d, v2, v3, rfl, hd, hst, hb⟩ := hrel
          have hgoo := HGD.out d hd
          have hSl2 := hgoo.len
          have HND := Lib.hid hgoo.nodup
          have hln := HLN.out d
          obtain ⟨hil, hie⟩ := HSI.out d
          have HNEXT : Hid (rowQ (clM m m.final.length) (nxM m) s0 Q (d + 1) = stepQ (clM m m.final.length) (rowQ (clM m m.final.length) (nxM m) s0 Q d) (nxM m s0 d)) := rfl
          have HTD := Lib.hid (HTK.out d)
          have hEq : d = m.base.toNat → rowQ (clM m m.final.length) (nxM m) s0 Q m.base.toNat = rowQ (clM m m.final.length) (nxM m) s0 Q d := fun e => by rw [e]
          generalize hQd : rowQ (clM m m.final.length) (nxM m) s0 Q d = Qd at *
          have hHEQ := Lib.hid hEq
          have hNl3 : Qd.2.length ≤ 1450 := by omega
          have HLN3 := Lib.hid hln
          obtain ⟨g2, cap2, rfl, hcs⟩ := hst.state (by omega)
          obtain ⟨g4, cap4, rfl, hc4⟩ := hst.clss (by rw [clsOf_len]; omega)
          have HC4 := Lib.hid hc4
          have hci := hcs i hil
          rw [hie] at hci
          have HST2 := Lib.hid hst
          have HB2' := Lib.hid hb
          clear hst hb hgoo hcs hEq hln hc4
          obtain ⟨x5, x6, x7⟩ := HK.out wr (HBE.out _ HB2'.out)
          by_cases hdl : d < m.base.toNat
          · have hdi : (d : Int) < m.base := by have := HBN.out; omega
            have hi1 : (0 : Int) ≤ (i : Int) := by omega
            have hi2 : (i : Int) < (Qd.1.length : Int) := by omega
            obtain ⟨j1, e1, l1, cc1⟩ := HNXC.out wr (HBE.out _ HB2'.out) s0 d hs0n hdl
            obtain ⟨z1, z2, z3⟩ := HIX.out s0 d hs0n hdl
            have hn5 := HNX.out s0 d hs0n hdl
            have z4 : (j1 : Int) < (m.next.length : Int) := by omega
            generalize nxM m s0 d = s5 at *
            go_wp2
            go_quiet (fail)
            obtain ⟨w5, hw5⟩ : ∃ w5, w5 = wr.drewN nq := ⟨_, rfl⟩
            have hb5' : Below wr.heap.size wr w5 := by rw [hw5]; exact below_drewN (Below.refl _ _) nq
            rw [← hw5]
            have HST5 := Lib.hid (HST2.out.kept hb5')
            have hb25 := HB2'.out.trans (hb5'.mono HB2'.out.size)
            have HB25 := Lib.hid hb25
            have hc5 := HRW.out w5 hb25 s5 hn5
            have hck5 := clM_lt HOKM.out m.final.length _ hn5
            have HC5 : Hid (∀ k (h : k < (clsOf (clM m m.final.length) Qd.1).length), w5.cell? ⟨g4, k, none⟩ = some (.int .i64 (clsOf (clM m m.final.length) Qd.1)[k])) := fun k h => by
              obtain ⟨g4', cap4', e4, hc4'⟩ := HST5.out.clss (by omega)
              simp only [Value.slice.injEq, Option.some.injEq, Addr.mk.injEq, and_true] at e4
              obtain ⟨rfl, -⟩ := e4
              exact hc4' k h
            have HLL : Hid ((clsOf (clM m m.final.length) Qd.1).length = Qd.1.length) := clsOf_len _ _
            have hLb : (clsOf (clM m m.final.length) Qd.1).length ≤ 144 := by rw [HLL.out]; omega
            clear hw5 hb5' hb25 HST2 HB2' HC4 x5 x6 x7 hci cc1 z1 z2 z3 z4 l1 e1
            have hs51 : (0 : Int) ≤ (s5 : Int) := by omega
            have hs52 : (s5 : Int) < (m.final.length : Int) := by omega
            have HSB := Lib.hid (scanJ_bd (clsOf (clM m m.final.length) Qd.1) (clM m m.final.length s5 : Int))
            have HSN : Hid (∀ k (h : k < (clsOf (clM m m.final.length) Qd.1).length), scanJ (clsOf (clM m m.final.length) Qd.1) (clM m m.final.length s5 : Int) (k + 1) = if (clsOf (clM m m.final.length) Qd.1)[k] = (clM m m.final.length s5 : Int) then (k : Int) else scanJ (clsOf (clM m m.final.length) Qd.1) (clM m m.final.length s5 : Int) k) := fun k h => by rw [scanJ, getD_atJ _ k h]
            have hstd := HST5.out
            have HADDM := fun (ix : Int) (g cap : Nat) (w' : World) h1 h2 h3 => Lib.hid (hstd.addN (g := g) (cap := cap) (w' := w') (y := ix) h1 h2 h3)
            have HAT1 : (clM m m.final.length s5 : Int) ∈ clsOf (clM m m.final.length) Qd.1 → Hid (scanJ (clsOf (clM m m.final.length) Qd.1) (clM m m.final.length s5 : Int) (clsOf (clM m m.final.length) Qd.1).length = (((clsOf (clM m m.final.length) Qd.1).idxOf (clM m m.final.length s5 : Int) : Nat) : Int)) := fun h => by
              show _ = _
              rw [scanJ_some _ _ HND.out h _ (Nat.le_refl _), if_pos (List.idxOf_lt_length_of_mem h)]
            have HAT2 : (clM m m.final.length s5 : Int) ∉ clsOf (clM m m.final.length) Qd.1 → Hid (scanJ (clsOf (clM m m.final.length) Qd.1) (clM m m.final.length s5 : Int) (clsOf (clM m m.final.length) Qd.1).length = -1) := fun h => scanJ_none _ _ h _ (Nat.le_refl _)
            have HNX1 : (clM m m.final.length s5 : Int) ∈ clsOf (clM m m.final.length) Qd.1 → Hid (stepQ (clM m m.final.length) Qd s5 = (Qd.1, Qd.2 ++ [(((clsOf (clM m m.final.length) Qd.1).idxOf (clM m m.final.length s5 : Int) : Nat) : Int)])) := fun h => by
              show _ = _
              rw [stepQ, grow_old h]
            have HNX2 : (clM m m.final.length s5 : Int) ∉ clsOf (clM m m.final.length) Qd.1 → Hid (stepQ (clM m m.final.length) Qd s5 = (Qd.1 ++ [s5], Qd.2 ++ [((Qd.1.length : Nat) : Int)])) := fun h => stepQ_new h
            have HAPP : Hid (clsOf (clM m m.final.length) (Qd.1 ++ [s5]) = clsOf (clM m m.final.length) Qd.1 ++ [(clM m m.final.length s5 : Int)]) := clsOf_app _ _ _
            have hnx := hstd.nx
            have hst1 := hstd.st
            have hcl1 := hstd.cl
            have ho5 := hstd.out
            have p1 : w5.cell? ⟨w2.heap.size + 1 + 1, 1, none⟩ = some v2 := by simp [World.cell?, ho5]
            have hOb : w2.heap.size + 1 + 1 + 1 ≤ w5.heap.size := hstd.blk
            have hEb : w2.heap.size ≤ w5.heap.size := by omega
            have hNb : Qd.2.length ≤ 1000000 := by omega
            have hSb : Qd.1.length ≤ 1000000 := by omega
            have HNG : Hid (∀ j, v2.ownBlock = some j → w2.heap.size ≤ j) := fun j hj => by have := (World.ownsRow.lt hnx _ hj).1; omega
            generalize hLL : clsOf (clM m m.final.length) Qd.1 = L at *
            generalize hX : clM m m.final.length s5 = xc at *
            clear hstd ho5
            go_wp2_with fail
            go_loop [11, 55] (fun kv iv => ∃ k : Nat, k ≤ L.length ∧ iv = .int .i64 k ∧ kv = .int .i64 (scanJ L (xc : Int) k)) (fun _ iv => L.length - (intOf iv).toNat)
            case atStart => exact ⟨0, Nat.zero_le _, rfl, rfl⟩
            case round =>
              obtain ⟨k, hk, rfl, rfl⟩ := hrel
              by_cases hkl : k < L.length
              · have hcy := HC5.out k hkl
                have HN3 := Lib.hid (HSN.out k hkl)
                have hk1 : (k : Int) < (L.length : Int) := by omega
                by_cases hq : L[k] = (xc : Int)
                · have hq2 : (L[k] == (xc : Int)) = true := by rw [beq_iff_eq]; exact hq
                  have HV : Hid (scanJ L (xc : Int) (k + 1) = (k : Int)) := by show _ = _; rw [HN3.out, if_pos hq]
                  clear hq
                  go_wp2_with fail
                  go_round
                  case rel => exact ⟨k + 1, by omega, by go_num, by rw [HV.out]⟩
                  case measure => simp [intOf]; omega
                · have hq2 : (L[k] == (xc : Int)) = false := by rw [beq_eq_false_iff_ne]; exact hq
                  have HV : Hid (scanJ L (xc : Int) (k + 1) = scanJ L (xc : Int) k) := by show _ = _; rw [HN3.out, if_neg hq]
                  clear hq
                  go_wp2_with fail
                  go_round
                  case rel => exact ⟨k + 1, by omega, by go_num, by rw [HV.out]⟩
                  case measure => simp [intOf]; omega
              · obtain rfl : k = L.length := by omega
                by_cases hmem : (xc : Int) ∈ L
                · have hA := (HAT1 hmem).out
                  have HN1 := HNX1 hmem
                  rw [hA]
                  generalize L.idxOf (xc : Int) = ix at *
                  have hix : ¬ (ix : Int) < 0 := by omega
                  have HADD := Lib.hid (HADDM (ix : Int))
                  clear hmem hA HNX1 HNX2 HAT1 HAT2 HADDM HSN HSB
                  go_wp2_with (at_builtin; refine wpList_append_one rfl (.tmp 84) (.tmp 86) 24 3 (.int .i64 0) 8 Tryd.underlying24 info_int rfl (Nat.le_refl _) rfl (w2.heap.size + 1 + 1 + 1) v2 Qd.2.length _ rfl hnx (.int .i64 (ix : Int)) rfl rfl hNb hOb ?_; intro g6 cap6 w6 ho6 hg6 hat6 hlt6; obtain ⟨y1, y2, y3⟩ := (HADD.out g6 cap6 w6 ho6 hg6 hat6).out)
                  have HY3 := Lib.hid y3
                  have HB6 : Hid (Below w2.heap.size w2 (w6.setCell ⟨w2.heap.size + 1 + 1, 1, none⟩ (.slice (some ⟨g6, 0, none⟩) (Qd.2.length + 1) cap6))) := (HB25.out.grown hg6 hEb HNG.out).setCell (by show w2.heap.size ≤ w2.heap.size + 1 + 1; omega) _
                  clear ho6 hg6 hat6 hlt6 y1 y2 y3
                  go_roundw
                  case rel =>
                    refine ⟨d + 1, .slice (some ⟨g6, 0, none⟩) (Qd.2.length + 1) cap6, v3, by go_num, by omega, ?_, HB6.out⟩
                    rw [HNEXT.out, HN1.out, hLL]
                    exact HY3.out
                  case measure => simp [intOf]; omega
                · have hA := (HAT2 hmem).out
                  have HN1 := HNX2 hmem
                  rw [hA]
                  clear hmem hA HNX1 HNX2 HAT1 HAT2 HADDM HSN HSB hnx p1 hOb
                  go_wp2_with (at_builtin; refine wpList_append_one rfl (.tmp 72) (.tmp 74) 24 3 (.int .i64 0) 8 Tryd.underlying24 info_int rfl (Nat.le_refl _) rfl w2.heap.size _ Qd.1.length _ rfl hst1 (.int .i64 (s5 : Int)) rfl rfl hSb hEb ?_; intro g6 cap6 w6 ho6 hg6 hat6 hlt6; refine Hid.out ?_)
                  refine Lib.hid ?_
                  have hst6 := HST5.out.addS ho6 hg6 hat6
                  have hb6 := HB25.out.grown hg6 hEb (fun j hj => (World.ownsRow.lt HST5.out.st j hj).1)
                  have hc6 := HRW.out w6 hb6 s5 hn5
                  rw [hX] at hc6
                  have hcl6 := hst6.cl
                  have hE6 : w2.heap.size ≤ w6.heap.size := hb6.size
                  have hL6 : L.length ≤ 1000000 := by omega
                  have HST6 := Lib.hid hst6
                  have HB6 := Lib.hid hb6
                  clear ho6 hg6 hat6 hlt6 hst6 hb6 hc5 hst1 hcl1 hEb
                  go_wp2_with (at_builtin; refine wpList_append_one rfl (.tmp 76) (.tmp 81) 24 3 (.int .i64 0) 8 Tryd.underlying24 info_int rfl (Nat.le_refl _) rfl w2.heap.size _ L.length _ rfl hcl6 (.int .i64 (xc : Int)) rfl rfl hL6 hE6 ?_; intro g7 cap7 w7 ho7 hg7 hat7 hlt7; refine Hid.out ?_)
                  refine Lib.hid ?_
                  have hst7 := HST6.out.addL ho7 hg7 hat7
                  have hb7 := HB6.out.grown hg7 hE6 (fun j hj => (World.ownsRow.lt HST6.out.cl j hj).1)
                  have HADDM := fun (g cap : Nat) (w' : World) h1 h2 h3 => Lib.hid (hst7.addN (g := g) (cap := cap) (w' := w') (y := (Qd.1.length : Int)) h1 h2 h3)
                  have HADD := Lib.hid HADDM
                  have hnx := hst7.nx
                  have ho8 := hst7.out
                  have p1 : w7.cell? ⟨w2.heap.size + 1 + 1, 1, none⟩ = some v2 := by simp [World.cell?, ho8]
                  have hOb : w2.heap.size + 1 + 1 + 1 ≤ w7.heap.size := hst7.blk
                  have hE7 : w2.heap.size ≤ w7.heap.size := hb7.size
                  have HB7 := Lib.hid hb7
                  clear ho7 hg7 hat7 hlt7 hst7 hb7 ho8 HADDM hcl6 hc6 HST6 HB6
                  go_wp2_with (at_builtin; refine wpList_append_one rfl (.tmp 84) (.tmp 86) 24 3 (.int .i64 0) 8 Tryd.underlying24 info_int rfl (Nat.le_refl _) rfl (w2.heap.size + 1 + 1 + 1) v2 Qd.2.length _ rfl hnx (.int .i64 (Qd.1.length : Int)) rfl rfl hNb hOb ?_; intro g9 cap9 w9 ho9 hg9 hat9 hlt9; obtain ⟨y1, y2, y3⟩ := (HADD.out g9 cap9 w9 ho9 hg9 hat9).out)
                  have HY3 := Lib.hid y3
                  have HB9 : Hid (Below w2.heap.size w2 (w9.setCell ⟨w2.heap.size + 1 + 1, 1, none⟩ (.slice (some ⟨g9, 0, none⟩) (Qd.2.length + 1) cap9))) := (HB7.out.grown hg9 hE7 HNG.out).setCell (by show w2.heap.size ≤ w2.heap.size + 1 + 1; omega) _
                  clear ho9 hg9 hat9 hlt9 y1 y2 y3
                  go_roundw
                  case rel =>
                    refine ⟨d + 1, .slice (some ⟨g9, 0, none⟩) (Qd.2.length + 1) cap9, v3, by go_num, by omega, ?_, HB9.out⟩
                    rw [HNEXT.out, HN1.out, HAPP.out]
                    exact HY3.out
                  case measure => simp [intOf]; omega
          · obtain rfl : d = m.base.toNat := by omega
            have HBF3 : Hid (bfs m.base.toNat (clM m m.final.length) (nxM m) f (i + 1) Qd = redS m) := by
              show _ = _
              rw [← hHEQ.out rfl]
              exact HBF2.out
            have HGO3 : Hid (GoodS m.final.length (clM m m.final.length) Qd.1) := by
              have := HGD.out m.base.toNat (Nat.le_refl _)
              rwa [hHEQ.out rfl] at this
            have HNL3 : Hid (Qd.2.length = (i + 1) * m.base.toNat) := by
              show _ = _
              rw [HLN3.out, HNL.out, Nat.add_mul, Nat.one_mul]
            have hdi : ¬ ((m.base.toNat : Nat) : Int) < m.base := by have := HBN.out; omega
            obtain ⟨-, -, x7⟩ := HK.out wr (HBE.out _ HB2'.out)
            have hfb := HFB.out wr (HBE.out _ HB2'.out) s0 hs0n
            have hstd := HST2.out.drew
            have HADD : Hid (∀ (g cap : Nat) (w' : World), w'.ownsRow (w2.heap.size + 1 + 1 + 1) 4 1 (.slice (some ⟨g, 0, none⟩) (F.length + 1) cap) (F.length + 1) (F.map Value.bool ++ [.bool (finN m s0)]) → wr.drew.grownBy w' v3.ownBlock → (v3.ownBlock = some g ∨ wr.drew.heap.size < g) →
              w'.cell? ⟨w2.heap.size + 1 + 1, 2, none⟩ = some v3 ∧ w'.frozen? ⟨w2.heap.size + 1 + 1, 2, none⟩ = false ∧ RedSt (w'.setCell ⟨w2.heap.size + 1 + 1, 2, none⟩ (.slice (some ⟨g, 0, none⟩) (F.length + 1) cap)) w2.heap.size (w2.heap.size + 1 + 1) m.base (.slice (some ⟨g2, 0, none⟩) Qd.1.length cap2) v2 (.slice (some ⟨g, 0, none⟩) (F.length + 1) cap) (.slice (some ⟨g4, 0, none⟩) (clsOf (clM m m.final.length) Qd.1).length cap4) Qd.1 Qd.2 (F ++ [finN m s0]) (clsOf (clM m m.final.length) Qd.1)) := fun g cap w' h1 h2 h3 => hstd.addF h1 h2 h3
            have hfx := hstd.fi
            have ho5 := HST2.out.out
            have p2 : wr.cell? ⟨w2.heap.size + 1 + 1, 2, none⟩ = some v3 := by simp [World.cell?, ho5]
            have p2b : (wr.alloc (.cells #[.bool (finN m s0)] 4)).cell? ⟨w2.heap.size + 1 + 1, 2, none⟩ = some v3 := by rw [World.cell?_alloc_past _ _ _ (by show (w2.heap.size + 1 + 1) < wr.heap.size; exact HST2.out.blk)]; exact p2
            have hOb : w2.heap.size + 1 + 1 + 1 ≤ wr.drew.heap.size := hstd.blk
            have hFb : F.length ≤ 1000000 := by omega
            have HOB : Hid (w2.heap.size ≤ wr.drew.heap.size) := by show _ ≤ _; omega
            have HNG : Hid (∀ j, v3.ownBlock = some j → w2.heap.size ≤ j) := fun j hj => by have := (World.ownsRow.lt hfx _ hj).1; omega
            have hi1 : (0 : Int) ≤ (i : Int) := by omega
            have hi2 : (i : Int) < (Qd.1.length : Int) := by omega
            have hs01 : (0 : Int) ≤ (s0 : Int) := by omega
            have hs02 : (s0 : Int) < (m.final.length : Int) := by omega
            have HFL := Lib.hid hFl
            generalize hfn : finN m s0 = fb at *
            clear hFl hstd ho5
            go_wp2_with fail
            go_region_law (refine step_append_one rfl (.tmp 90) (.tmp 99) 25 4 (.bool false) 1 Tryd.underlying25 info_bool1 rfl (by omega) rfl (w2.heap.size + 1 + 1 + 1) v3 F.length _ rfl hfx (.bool fb) rfl rfl hFb hOb ?_; intro g6 cap6 w6 ho6 hg6 hat6 hlt6; obtain ⟨y1, y2, y3⟩ := HADD.out g6 cap6 w6 ho6 hg6 hat6)
            all_goals
              have HY3 := Lib.hid y3
              have HB6 : Hid (Below w2.heap.size w2 (w6.setCell ⟨w2.heap.size + 1 + 1, 2, none⟩ (.slice (some ⟨g6, 0, none⟩) (F.length + 1) cap6))) := (HB2'.out.drew.grown hg6 HOB.out HNG.out).setCell (by show w2.heap.size ≤ (w2.heap.size + 1 + 1); omega) _
              clear ho6 hg6 hat6 hlt6 y1 y2 y3
              go_wp2_with fail
              go_roundw
              case rel =>
                refine ⟨i + 1, f, Qd, v2, .slice (some ⟨g6, 0, none⟩) (F.length + 1) cap6, by go_num, by omega, HBF3.out, by omega, HGO3.out, HNL3.out, ?_, HB6.out, by omega⟩
                rw [HTD.out]
                exact HY3.out
              case measure => simp [intOf]; omega
      · obtain rfl : i = Q.1.length := by omega
        have HE : Hid (redS m = Q) := by
          show _ = _
          rw [← HBF.out]
          cases f with
          | zero => rfl
          | succ f => rw [bfs, if_neg (by omega)]
        obtain ⟨b1, d1, b2, d2, e1, e2, hmach⟩ := HST1.out.mach
        have hout := HST1.out.out
        subst e1 e2
        rw [List.take_length] at hmach
        have hQ : (⟨m.base, Q.2, Q.1.map (finN m)⟩ : Ma) = redM m := by rw [HRM.out, HE.out]
        have hr3 := (HB.out.block (w.heap.size + 1) hs22).trans HR2.out
        have y0 : wr.cell? ⟨w.heap.size + 1, 0, none⟩ = some (.int .i64 0) := by simp [World.cell?, hr3]
        have y1 : wr.cell? ⟨w.heap.size + 1, 1, none⟩ = some (.slice none 0 0) := by simp [World.cell?, hr3]
        have y2 : wr.cell? ⟨w.heap.size + 1, 2, none⟩ = some (.slice none 0 0) := by simp [World.cell?, hr3]
        have z0 : wr.frozen? ⟨w.heap.size + 1, 0, none⟩ = false := by simp [World.frozen?, hr3]
        have z1 : wr.frozen? ⟨w.heap.size + 1, 1, none⟩ = false := by simp [World.frozen?, hr3]
        have z2 : wr.frozen? ⟨w.heap.size + 1, 2, none⟩ = false := by simp [World.frozen?, hr3]
        have p0 : wr.cell? ⟨w2.heap.size + 1 + 1, 0, none⟩ = some (.int .i64 m.base) := by simp [World.cell?, hout]
        have p1 : wr.cell? ⟨w2.heap.size + 1 + 1, 1, none⟩ = some (.slice b1 Q.2.length d1) := by simp [World.cell?, hout]
        have p2 : wr.cell? ⟨w2.heap.size + 1 + 1, 2, none⟩ = some (.slice b2 ((Q.1.take Q.1.length).map (finN m)).length d2) := by simp [World.cell?, hout]
        have hlm : ((Q.1.take Q.1.length).map (finN m)).length = Q.1.length := by simp
        rw [hlm] at p2
        have HR3 := Lib.hid hr3
        clear hout hmach HBF hr3
        go_wp2_with fail
        refine bodyPost_ret (results_mach rfl _ _ (w.heap.size + 1) _ _ _ _ rfl (set_three HR3.out)) rfl ?_
        have hst4 := ((HST1.out.setLow (w.heap.size + 1) 0 (.int .i64 m.base) hs22).setLow (w.heap.size + 1) 1 (.slice b1 (Q.2.length) d1) hs22).setLow (w.heap.size + 1) 2 (.slice b2 Q.1.length d2) hs22
        obtain ⟨b1', d1', b2', d2', e1', e2', hmach⟩ := hst4.mach
        simp only [Value.slice.injEq, true_and] at e1' e2'
        obtain ⟨rfl, rfl⟩ := e1'
        obtain ⟨rfl, rfl⟩ := e2'
        rw [List.take_length] at hmach
        refine ⟨b1, d1, b2, d2, ?_, ?_, ?_⟩
        · rw [← hQ]
          simp only [List.length_map]
          rfl
        · rw [← hQ]
          exact hmach
        · exact HBW.out _ (((HBE.out _ HB.out).setCell (p := ⟨w.heap.size + 1, 0, none⟩) (by show w0.heap.size ≤ w.heap.size + 1; omega) _).setCell (p := ⟨w.heap.size + 1, 1, none⟩) (by show w0.heap.size ≤ w.heap.size + 1; omega) _ |>.setCell (p := ⟨w.heap.size + 1, 2, none⟩) (by show w0.heap.size ≤ w.heap.size + 1; omega) _)

end Go.Proofs.YtkapbhlnjmfaaaaDoor
