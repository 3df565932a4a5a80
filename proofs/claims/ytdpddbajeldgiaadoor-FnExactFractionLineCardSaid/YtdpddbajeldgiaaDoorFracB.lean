/- Expansions: the reference's lengths and digits. Conditions: those of each contract. -/
import Derived.Test.YtdpddbajeldgiaaDoorFracA
namespace Go.Proofs.YtdpddbajeldgiaaDoor
set_option linter.unusedVariables false
open Go.RowKit

theorem l14Digits_any (p q b : Int) (n : Nat) (w : World) (h : fracOk p q b = true) (hn : n ≤ 5000) :
    Calls Tryd.prog 71 #[.int .i64 p, .int .i64 q, .int .i64 b, .int .i64 n] w (RetI w (dgs p q b n)) := by
  obtain ⟨h1, h2, h3, h4, h5, h6⟩ := fracOk_t h
  have HRB : Hid (∀ k, 0 ≤ rs p q b k ∧ rs p q b k < q) := rs_bd h
  have HRM : Hid (∀ k, 0 ≤ rs p q b k * b ∧ rs p q b k * b ≤ 16000 ∧ 0 ≤ dg p q b k ∧ dg p q b k < b) := rs_mul h
  clear h
  go_enter Tryd.func71, Tryd.ntmps71
  go_wp2
  go_loopw [0, 9, 10] (fun pv v i wr => ∃ j : Nat, j ≤ n ∧ i = .int .i64 j ∧ pv = .int .i64 (rs p q b j) ∧ OwnV wr w.heap.size v (dgs p q b j) ∧ Below w.heap.size w wr) (fun _ _ i _ => n - (intOf i).toNat)
  case atStart => exact ⟨0, Nat.zero_le _, rfl, rfl, OwnV.lit0 _ _ (Nat.le_refl _), (Below.refl _ _).alloc (Nat.le_refl _) _⟩
  case round =>
    obtain ⟨j, hj, rfl, rfl, hown, hb⟩ := hrel
    have hdl := dgs_len p q b j
    have hsz := hb.size
    have HB := Lib.hid hb
    clear hb
    by_cases hlt : j < n
    · obtain ⟨m0, m1, m2, m3⟩ := HRM.out j
      have HRN : Hid (rs p q b (j + 1) = rs p q b j * b % q) := rfl
      have HDN : Hid (dgs p q b (j + 1) = dgs p q b j ++ [rs p q b j * b / q]) := rfl
      have m4 : rs p q b j * b / q < b := m3
      have m5 : 0 ≤ rs p q b j * b / q := m2
      have m6 := Int.emod_nonneg (rs p q b j * b) (show q ≠ 0 by omega)
      have m7 := Int.emod_lt_of_pos (rs p q b j * b) (show 0 < q by omega)
      go_wp2_with (at_builtin; refine wpList_append_int rfl _ _ rfl w.heap.size _ _ rfl hown (rs p q b j * b / q) rfl (by omega) (by omega) ?_; intro v' w2 hown2 hbl2)
      have HB2 := Lib.hid (HB.out.trans hbl2)
      clear hbl2
      go_roundw
      case rel => exact ⟨j + 1, by omega, by go_num, by rw [HRN.out], hown2, HB2.out⟩
      case measure => simp [intOf]; omega
    · obtain rfl : j = n := by omega
      go_wp2
      go_ret
      exact hown.ret HB.out
/-- what stands at v while the first j rests are marked -/
def seenR (p q b : Int) (j v : Nat) : Int := if (v : Int) ∈ rss p q b j then ((rss p q b j).idxOf (v : Int) : Nat) + 1 else 0
def seenA (p q b : Int) (j : Nat) : List Int := (List.range q.toNat).map (seenR p q b j)
theorem seenA_len (p q b : Int) (j : Nat) : (seenA p q b j).length = q.toNat := by simp [seenA]
theorem seenA_get (p q b : Int) (j v : Nat) (h : v < q.toNat) : (seenA p q b j)[v]? = some (seenR p q b j v) := by
  unfold seenA
  rw [List.getElem?_map, List.getElem?_range h]; rfl
theorem seenA_zero (p q b : Int) : seenA p q b 0 = List.replicate q.toNat 0 := by
  unfold seenA
  rw [List.eq_replicate_iff]
  refine ⟨by simp, fun x hx => ?_⟩
  obtain ⟨v, -, rfl⟩ := List.mem_map.1 hx
  simp [seenR, rss]
theorem seenA_set (p q b : Int) (j v : Nat) (hv : rs p q b j = (v : Int)) (hn : rs p q b j ∉ rss p q b j) (h : v < q.toNat) : (seenA p q b j).set v ((j : Int) + 1) = seenA p q b (j + 1) := by
  apply List.ext_getElem?
  intro u
  by_cases hu : u < q.toNat
  · rw [seenA_get _ _ _ _ _ hu]
    by_cases e : u = v
    · subst e
      rw [List.getElem?_set_self (by rw [seenA_len]; exact hu)]
      congr 1
      rw [hv] at hn
      rw [seenR, rss, hv, if_pos (by simp), List.idxOf_append, if_neg hn, rss_len]
      simp
    · rw [List.getElem?_set_ne (fun h => e h.symm), seenA_get _ _ _ _ _ hu]
      congr 1
      have hne : (u : Int) ≠ rs p q b j := by rw [hv]; omega
      rw [seenR, seenR, rss]
      by_cases hm : (u : Int) ∈ rss p q b j
      · rw [if_pos hm, if_pos (List.mem_append_left _ hm), List.idxOf_append, if_pos hm]
      · rw [if_neg hm, if_neg (by simp [hm, hne])]
  · rw [List.getElem?_eq_none (by rw [List.length_set, seenA_len]; omega), List.getElem?_eq_none (by rw [seenA_len]; omega)]
def OwnQ (w : World) (base g n : Nat) (ys : List Int) : Prop := w.ownsRow base 3 1 (.slice (some ⟨g, 0, none⟩) n n) n (ys.map (Value.int .i64))
/-- 'append(out, y)': but for the row's own block and new ones nothing turns -/
theorem wpList_append_intG {ops : Array Oper} {rest : List Oper} {o : Oper} {a : Act} {Q : Exit → Act → World → Prop} {wr : World} (hgd : o.guard = none) (s x : Operand)
    (ho : o.op = .call { callee := .builtin .append, args := #[s, x], argTypes := #[22, 22] }) (base : Nat) (v : Value) (xs : List Int) (hs : a.eval s = v) (hown : OwnV wr base v xs)
    (y : Int) (hx : a.eval x = .slice (some ⟨wr.heap.size, 0, none⟩) 1 1) (hl : xs.length ≤ 4398046511104) (hb : base ≤ wr.heap.size)
    (h : ∀ v' w', OwnV w' base v' (xs ++ [y]) → Below base wr w' → (∀ k, k < wr.heap.size → v.ownBlock ≠ some k → w'.heap[k]? = wr.heap[k]?) → wpList Tryd.prog ops Q rest (a.put o.dst v') w') :
    wpList Tryd.prog ops Q (o :: rest) a (wr.alloc (.cells #[.int .i64 y] 3)) := by
  obtain ⟨i0, hi, hz0, hz1, hz2⟩ := info_parts info_int
  refine wpList_append_own _ hgd s x 22 ho base 3 i0 (.int .i64 0) 1 8 Tryd.underlying22 hi hz0 hz1 hz2 rfl (by decide) v xs.length _ hs (World.ownsRow.alloc hown _) ⟨wr.heap.size, 0, none⟩ 1 1 [.int .i64 y] hx rfl (cell_one_new _ _ _) ?c2 ?c3 ?c4 ?c5 ?_
  case c2 => intro u hu; simp at hu; subst hu; rfl
  case c3 => unfold maxLen; omega
  case c4 => omega
  case c5 => simp; omega
  intro v' w1 hown' hgrow _
  refine h v' w1 (by unfold OwnV; simpa using hown') ?_ ?_
  · exact ((Below.refl _ _).alloc hb _).grown hgrow (by simp; omega) (fun k hk => (World.ownsRow.lt hown k hk).1)
  · intro k hk hne
    rw [hgrow.block k (by simp; omega) (fun e => hne e.symm)]
    exact Below.heap_alloc wr _ k hk
theorem OwnQ.same {w w' : World} {base g n : Nat} {ys : List Int} (h : OwnQ w base g n ys) (he : w'.heap[g]? = w.heap[g]?) : OwnQ w' base g n ys := by
  rcases h.2 with ⟨hv, hn⟩ | ⟨g', cap', cur, hv, hg, hh, r⟩
  · simp at hv
  · have hv' := hv
    simp only [Value.slice.injEq, Option.some.injEq, Addr.mk.injEq, and_true, true_and] at hv'
    obtain ⟨rfl, rfl⟩ := hv'
    exact ⟨h.1, Or.inr ⟨g, _, cur, rfl, hg, by rw [he]; exact hh, r⟩⟩
theorem OwnV.same {w w' : World} {base : Nat} {v : Value} {xs : List Int} (h : OwnV w base v xs) (he : ∀ g, v.ownBlock = some g → w'.heap[g]? = w.heap[g]?) : OwnV w' base v xs := by
  rcases h.2 with ⟨hv, hn⟩ | ⟨g', cap', cur, hv, hg, hh, r⟩
  · exact ⟨h.1, Or.inl ⟨hv, hn⟩⟩
  · exact ⟨h.1, Or.inr ⟨g', cap', cur, hv, hg, by rw [he g' (by rw [hv]; rfl)]; exact hh, r⟩⟩
theorem own_apart {w : World} {base S n : Nat} {v' : Value} {x : Int} {r ys : List Int} (h : OwnV w base v' (x :: r)) (hq : OwnQ w S S n ys) (hy : ys[0]? = some 0) (hn : 0 < n) (hx : x ≠ 0) : v'.ownBlock ≠ some S := by
  intro e
  have h0 := h
  rcases h.2 with ⟨hv, hn'⟩ | ⟨g, cap', cur, hv, hg, hh, r'⟩
  · simp at hn'
  · subst hv
    have hgS : g = S := by simpa [Value.ownBlock] using e
    subst hgS
    have c1 := World.ownsRow.cellAt h0 0 (by simp)
    have c2 := World.ownsRow.cellAt hq 0 (by omega)
    have c3 := c1.symm.trans c2
    rw [List.getElem?_map (l := ys), hy] at c3
    simp at c3
    exact hx c3
set_option maxRecDepth 8000 in
set_option maxHeartbeats 1000000 in
theorem l14Lengths_any (p q b : Int) (w : World) (h : fracOk p q b = true) :
    Calls Tryd.prog 70 #[.int .i64 p, .int .i64 q, .int .i64 b] w fun e w' => e = .returned (.tuple #[.int .i64 (frR p q b).1, .int .i64 (frR p q b).2]) ∧ Below w.heap.size w w' := by
  obtain ⟨Q, rfl⟩ : ∃ Q : Nat, q = (Q : Int) := ⟨q.toNat, by have := fracOk_t h; omega⟩
  obtain ⟨h1, h2, h3, h4, h5, h6⟩ := fracOk_t h
  have HF := Lib.hid h
  have HRB : Hid (∀ k, 0 ≤ rs p Q b k ∧ rs p Q b k < Q) := rs_bd h
  have HRM : Hid (∀ k, 0 ≤ rs p Q b k * b ∧ rs p Q b k * b ≤ 16000 ∧ 0 ≤ dg p Q b k ∧ dg p Q b k < b) := rs_mul h
  clear h
  have hQ2 : (Q : Int).toNat = Q := Int.toNat_natCast Q
  have hQ1 : 1 ≤ Q := by omega
  have hQn : Q ≤ 1000 := by omega
  have HQ2 := Lib.hid hQ2
  obtain ⟨i0, hi, hz0, hz1, hz2⟩ := info_parts info_int
  have HFR : Hid (frR p Q b = fr p Q b (Q + 1) 0) := by show _ = _; rw [frR, hQ2]
  have hrow : Hid (OwnV (w.alloc (.cells #[] 3)) w.heap.size (.slice (some ⟨w.heap.size, 0, none⟩) 0 0) []) := OwnV.lit0 _ _ (Nat.le_refl _)
  clear hQ2
  go_enter Tryd.func70, Tryd.ntmps70
  go_wp2_with (at_make; refine wpList_make_full _ rfl _ _ 22 rfl (w.heap.size + 1) 3 i0 (.int .i64 0) 1 Tryd.underlying22 hi hz0 hz1 .i64 .i64 _ _ Q rfl rfl rfl rfl ?_ ?_ (by simp) ?_)
  · rw [hz2]; omega
  · unfold maxLen; omega
  intro w1 hown hgrow
  have hown0 : OwnQ w1 (w.heap.size + 1) (w.heap.size + 1) Q (seenA p Q b 0) := by
    rw [seenA_zero, HQ2.out]
    unfold OwnQ
    rw [List.map_replicate, ← toList_madeCells_one]
    simpa using hown
  have hrow1 : OwnV w1 w.heap.size (.slice (some ⟨w.heap.size, 0, none⟩) 0 0) (rss p Q b 0) := World.ownsRow.kept (row := none) hrow.out hgrow (by simp [Value.ownBlock])
  have hb0 : Below w.heap.size w w1 := ((Below.refl _ _).alloc (Nat.le_refl _) _).grown hgrow (by simp) (fun k hk => by cases hk)
  have HO0 := Lib.hid hown0
  have HB0 := Lib.hid hb0
  have HR0 := Lib.hid hrow1
  have hs0 := hgrow.size
  clear hown hown0 hgrow hb0 hrow1
  go_wp2
  go_loopw [0, 8] (fun pv v wr => ∃ j : Nat, pv = .int .i64 (rs p Q b j) ∧ OwnV wr w.heap.size v (rss p Q b j) ∧ v.ownBlock ≠ some (w.heap.size + 1) ∧ OwnQ wr (w.heap.size + 1) (w.heap.size + 1) Q (seenA p Q b j) ∧ Below w.heap.size w wr ∧ w.heap.size + 1 < wr.heap.size ∧ (rss p Q b j).Nodup ∧ (∀ i, i < j → rs p Q b i ≠ 0) ∧ frR p Q b = fr p Q b (Q + 1 - j) j) (fun _ v _ => Q + 1 - sliceLen v)
  case atStart => exact ⟨0, rfl, HR0.out, by simp [Value.ownBlock], HO0.out, HB0.out, by have := World.block_lt_of_cell? w1 ⟨w.heap.size + 1, 0, none⟩ (World.ownsRow.cellAt HO0.out 0 (by omega) |>.trans (by rw [List.getElem?_map, seenA_get p Q b 0 0 (by have := HQ2.out; omega)]; rfl)); exact this, List.nodup_nil, fun i h => by omega, HFR.out⟩
  case round =>
    obtain ⟨j, rfl, hown, hne, hq, hb, hlt, hnd, hnz, hfr⟩ := hrel
    have hjq := rss_le HF.out hnd
    have hrl := rss_len p Q b j
    obtain ⟨r0, r1⟩ := HRB.out j
    obtain ⟨m0, m1, m2, m3⟩ := HRM.out j
    obtain ⟨ad, cd, rfl, hoi⟩ := hown.own
    have HRL := Lib.hid hrl
    have HB := Lib.hid hb
    have hjQ : j ≤ Q := by omega
    have hfe : Q + 1 - j = (Q - j) + 1 := by omega
    have HFE := Lib.hid hfe
    clear hb hown hfe
    by_cases hz : rs p Q b j = 0
    · have HV : Hid (frR p Q b = (j, 0)) := by show _ = _; rw [hfr, HFE.out, fr_zero hz]
      have hz2 : (rs p Q b j == 0) = true := by rw [hz]; rfl
      rw [hrl]
      clear hoi hq hfr hz hrl
      go_wp2
      go_ret2
      exact ⟨by rw [HV.out] <;> rfl, HB.out⟩
    obtain ⟨v, hv⟩ : ∃ v : Nat, rs p Q b j = (v : Int) := ⟨(rs p Q b j).toNat, by omega⟩
    have hvQ : v < Q := by omega
    have hvq : v < (Q : Int).toNat := by have := HQ2.out; omega
    have hz2 : ((v : Int) == 0) = false := by rw [beq_eq_false_iff_ne, ← hv]; exact hz
    have hcs : wr.cell? ⟨w.heap.size + 1, v, none⟩ = some (.int .i64 (seenR p Q b j v)) := by
      have h1 := World.ownsRow.cellAt hq v (by omega)
      rw [List.getElem?_map, seenA_get _ _ _ _ _ hvq] at h1
      exact h1
    by_cases hm : rs p Q b j ∈ rss p Q b j
    · have hix := idx_lt hm
      have HV : Hid (frR p Q b = ((rss p Q b j).idxOf (rs p Q b j), j - (rss p Q b j).idxOf (rs p Q b j))) := by show _ = _; rw [hfr, HFE.out, fr_hit hz hm]
      have hsv : seenR p Q b j v = (((rss p Q b j).idxOf (rs p Q b j) : Nat) : Int) + 1 := by
        rw [hv] at hm
        rw [seenR, if_pos hm, hv]
      rw [hsv] at hcs
      rw [hv]
      rw [hrl]
      clear hoi hq hfr hz hm hsv hv hrl
      generalize (rss p Q b j).idxOf (rs p Q b j) = i at *
      have hwA : IntKind.i64.wrap (i : Int) = i := by rw [IntKind.wrap_i64]; omega
      have hwB : IntKind.i64.wrap ((j : Int) - ((i : Int) + 1)) = (j : Int) - ((i : Int) + 1) := by rw [IntKind.wrap_i64]; omega
      have hwC : IntKind.i64.wrap ((j : Int) - ((i : Int) + 1) + 1) = (j : Int) - ((i : Int) + 1) + 1 := by rw [IntKind.wrap_i64]; omega
      have HE : Hid ((((j - i : Nat)) : Int) = (j : Int) - ((i : Int) + 1) + 1) := by show _ = _; omega
      have hgt : (0 : Int) < (i : Int) + 1 := by omega
      go_wp2
      go_quiet (fail)
      go_wp2
      go_ret2
      refine ⟨?_, below_drewN HB.out _⟩
      rw [HV.out]
      dsimp only
      rw [HE.out]
      rfl
    · have hsv : seenR p Q b j v = 0 := by
        rw [hv] at hm
        rw [seenR, if_neg hm]
      rw [hsv] at hcs
      have HRN : Hid (rs p Q b (j + 1) = rs p Q b j * b % Q) := rfl
      have HRS : Hid (rss p Q b (j + 1) = rss p Q b j ++ [rs p Q b j]) := rfl
      have HND := Lib.hid (rss_nodup hnd hm)
      have HFG : Hid (frR p Q b = fr p Q b (Q + 1 - (j + 1)) (j + 1)) := by
        show _ = _
        rw [hfr, HFE.out, fr_go hz hm, show Q - j = Q + 1 - (j + 1) by omega]
      have HNZ : Hid (∀ i, i < j + 1 → rs p Q b i ≠ 0) := by
        intro i hi
        rcases Nat.lt_or_ge i j with h' | h'
        · exact hnz i h'
        · rw [show i = j by omega]; exact hz
      have hjQ2 : j < Q := by
        have := rss_le HF.out HND.out
        omega
      have HS0 : Hid ((seenA p Q b j)[0]? = some 0) := by
        show _ = _
        rw [seenA_get p Q b j 0 (by omega), seenR, if_neg]
        intro h0
        obtain ⟨i, hi, e⟩ := rss_mem h0
        exact hnz i hi e
      have HX : Hid (∃ r, rss p Q b j ++ [rs p Q b j] = rs p Q b 0 :: r) := by
        cases j with
        | zero => exact ⟨[], rfl⟩
        | succ j =>
          have : ∀ k, ∃ r, rss p Q b (k + 1) = rs p Q b 0 :: r := by
            intro k
            induction k with
            | zero => exact ⟨[], rfl⟩
            | succ k ih =>
              obtain ⟨r, hr⟩ := ih
              exact ⟨r ++ [rs p Q b (k + 1)], by rw [rss, hr]; rfl⟩
          exact this (j + 1)
      have HSET := Lib.hid (seenA_set p Q b j v hv hm hvq)
      have m6 := Int.emod_nonneg (rs p Q b j * b) (show (Q : Int) ≠ 0 by omega)
      have m7 := Int.emod_lt_of_pos (rs p Q b j * b) (show 0 < (Q : Int) by omega)
      have hov := hoi.ownV
      have hbs := HB.out.size
      have hv0 : (0 : Int) ≤ (v : Int) := by omega
      have hvl : (v : Int) < (Q : Int) := by omega
      rw [hrl] at hov hne
      rw [hv] at HRN HRS HX m0 m1 m6 m7
      rw [hv]
      rw [hrl]
      clear hoi hfr hz hm hsv hv hnd hnz m2 m3
      go_wp2_with (at_builtin; refine wpList_append_intG rfl _ _ rfl w.heap.size _ _ rfl hov (v : Int) rfl (by omega) (by omega) ?_; intro v' w2 hown2 hbl2 hk2; refine Hid.out ?_)
      refine Lib.hid ?_
      have hq2 := hq.same (hk2 (w.heap.size + 1) hlt hne)
      have hne2 : v'.ownBlock ≠ some (w.heap.size + 1) := by
        obtain ⟨r, hr⟩ := HX.out
        have h3 := hown2
        rw [hr] at h3
        exact own_apart h3 hq2 HS0.out (by omega) (HNZ.out 0 (by omega))
      have hs2 := hbl2.size
      have HB2 := Lib.hid (HB.out.trans hbl2)
      have hfx := World.ownsRow.frozenAt hq2 v
      have hst := (World.ownsRow.stored hq2 v (.int .i64 ((j : Int) + 1))).1
      rw [← List.map_set, HSET.out] at hst
      obtain ⟨u, hcu⟩ : ∃ u : Value, w2.cell? ⟨w.heap.size + 1, v, none⟩ = some u := by
        have h := World.ownsRow.cellAt hq2 v (by omega)
        rw [List.getElem?_map, seenA_get _ _ _ _ _ hvq] at h
        exact ⟨_, h⟩
      have hown3 : OwnV (w2.setCell ⟨w.heap.size + 1, v, none⟩ (.int .i64 ((j : Int) + 1))) w.heap.size v' (rss p Q b j ++ [(v : Int)]) := hown2.same (fun g hg => Below.heap_setCell _ _ _ _ (fun e => hne2 (by rw [hg]; exact congrArg some e)))
      obtain ⟨a3, c3, rfl, ho3⟩ := hown2.own
      have hl3 : (rss p Q b j ++ [(v : Int)]).length = j + 1 := by rw [List.length_append, hrl]; rfl
      rw [hl3] at hown3 hne2
      rw [hl3]
      have HST := Lib.hid hst
      have HO3 := Lib.hid hown3
      have HNE := Lib.hid hne2
      clear hst hown3 hown2 ho3 hbl2 hk2 hq hq2 hov hne hne2 hcs
      go_wp2
      go_roundw
      case rel => exact ⟨j + 1, by rw [HRN.out], by rw [HRS.out]; exact HO3.out, HNE.out, HST.out, HB2.out.setCell (by simp) _, by simp [World.setCell]; omega, HND.out, HNZ.out, HFG.out⟩
      case measure => simp [sliceLen]; omega

end Go.Proofs.YtdpddbajeldgiaaDoor
