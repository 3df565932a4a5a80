/- The law on the pairs of unit fractions. Conditions: none. -/
import Derived.Test.YtmdnmcbpcjfgmaaUnitsE
import Derived.StillTailTactics
namespace Go.Proofs.Ytmdnmcbpcjfgmaa
set_option linter.unusedVariables false
open Go.RowKit

/-- a slice of rows of two numbers, all in blocks from L on, below U -/
def OwnSS (w : World) (L U : Nat) (a : Option Addr) (cap : Nat) (rows : List (List Int)) : Prop :=
  ∃ gs, Rows2 w L U gs rows ∧ w.ownsRow L 26 1 (.slice a rows.length cap) rows.length (gs.map slv) ∧ ∀ g o s, a = some ⟨g, o, s⟩ → g < U
theorem OwnSV.ss {w : World} {base : Nat} {v : Value} {rows : List (List Int)} (h : OwnSV w base v rows) : ∃ a cap, v = .slice a rows.length cap ∧ OwnSS w base w.heap.size a cap rows := by
  obtain ⟨a, cap, rfl⟩ := h.shape
  obtain ⟨gs, h1, h2⟩ := h
  refine ⟨a, cap, rfl, gs, h1, h2, fun g o s e => ?_⟩
  subst e
  exact (World.ownsRow.lt h2 g rfl).2
theorem Upd.widen {L U g : Nat} {w w1 w2 : World} (h : Upd L U w w1) (h2 : Upd g (g + 1) w1 w2) (hL : L ≤ g) (hU : g < U) : Upd L U w w2 :=
  ⟨h2.os.trans h.os, h2.tape.trans h.tape, h2.output.trans h.output, Nat.le_trans h.size h2.size, fun k hk hc => (h2.block k (Nat.lt_of_lt_of_le hk h.size) (by omega)).trans (h.block k hk hc)⟩
theorem ownsRow_keep {w w' : World} {L : Nat} {t : TypeId} {a : Option Addr} {n cap : Nat} {xs : List Value} (h : w.ownsRow L t 1 (.slice a n cap) n xs) (he : ∀ g cur, a = some ⟨g, 0, none⟩ → w.heap[g]? = some (Obj.cells cur t (0, 0)) → w'.heap[g]? = w.heap[g]?) :
    w'.ownsRow L t 1 (.slice a n cap) n xs := by
  refine ⟨h.1, ?_⟩
  rcases h.2 with h1 | ⟨g, cap', cur, hv, hg, hh, r⟩
  · exact Or.inl h1
  · refine Or.inr ⟨g, cap', cur, hv, hg, ?_, r⟩
    have hv' := hv
    simp only [Value.slice.injEq] at hv'
    rw [he g cur hv'.1 hh]; exact hh
theorem OwnSS.upd {w w' : World} {L U L' U' : Nat} {a : Option Addr} {cap : Nat} {rows : List (List Int)} (h : OwnSS w L U a cap rows) (hu : Upd L' U' w w') (hc : U ≤ L' ∨ U' ≤ L) : OwnSS w' L U a cap rows := by
  obtain ⟨gs, h1, h2, h3⟩ := h
  have hg : ∀ g ∈ gs, w'.heap[g]? = w.heap[g]? := by
    intro g hg
    obtain ⟨i, hi, rfl⟩ := List.getElem_of_mem hg
    obtain ⟨r1, r2, r3, r4⟩ := h1.row i hi (by rw [← h1.len]; exact hi)
    obtain ⟨cur, hcur⟩ := r4.blk
    exact hu.block _ (lt_of_block hcur) (by omega)
  refine ⟨gs, h1.keep (Nat.le_refl _) hg, ?_, h3⟩
  refine ownsRow_keep h2 (fun g cur e hh => hu.block g (lt_of_block hh) ?_)
  have := h3 g 0 none e
  have hL : L ≤ g := by
    subst e
    exact (World.ownsRow.lt h2 g rfl).1
  omega
theorem OwnSS.below {w w' : World} {L U : Nat} {a : Option Addr} {cap : Nat} {rows : List (List Int)} (h : OwnSS w L U a cap rows) (hb : Below w.heap.size w w') (hU : U ≤ w.heap.size) : OwnSS w' L U a cap rows :=
  h.upd (Below.upd hb) (Or.inl hU)
theorem OwnSS.at {w : World} {L U : Nat} {a : Option Addr} {cap : Nat} {rows : List (List Int)} (h : OwnSS w L U a cap rows) (i : Nat) (hi : i < rows.length) :
    ∃ b g, a = some ⟨b, 0, none⟩ ∧ w.cell? ⟨b, i, none⟩ = some (.slice (some ⟨g, 0, none⟩) 2 2) ∧ rows[i].length = 2 ∧ OwnI w g (some ⟨g, 0, none⟩) 2 rows[i] := by
  obtain ⟨gs, h1, h2, h3⟩ := h
  have hi2 : i < gs.length := by rw [h1.len]; exact hi
  obtain ⟨r1, r2, r3, r4⟩ := h1.row i hi2 hi
  have h2' := h2
  rcases h2.2 with ⟨hv, hn⟩ | ⟨b, cap', cur, hv, hb, hh, r⟩
  · omega
  · simp only [Value.slice.injEq] at hv
    obtain ⟨rfl, -, -⟩ := hv
    have hc := World.ownsRow.cellAt h2' i (by omega)
    rw [List.getElem?_map, List.getElem?_eq_getElem hi2] at hc
    exact ⟨b, gs[i], rfl, hc, r3, r4⟩
def marksSS (k0 : Int) (n : Nat) : List (List Int) := (List.range n).map (fun (j : Nat) => marks (k0 + 2 * (j : Int)) 2)
theorem marksSS_len (k0 : Int) (n : Nat) : (marksSS k0 n).length = n := by simp [marksSS]
theorem marksSS_get (k0 : Int) (n i : Nat) (h : i < (marksSS k0 n).length) : (marksSS k0 n)[i] = marks (k0 + 2 * (i : Int)) 2 := by simp [marksSS]
def mkr (k0 : Int) (rows : List (List Int)) (i : Nat) : List (List Int) := marksSS k0 i ++ rows.drop i
theorem mkr_len (k0 : Int) (rows : List (List Int)) (i : Nat) (h : i ≤ rows.length) : (mkr k0 rows i).length = rows.length := by simp [mkr, marksSS_len]; omega
theorem mkr_get (k0 : Int) (rows : List (List Int)) (i : Nat) (h : i < rows.length) : (mkr k0 rows i)[i]'(by rw [mkr_len k0 rows i (by omega)]; exact h) = rows[i] := by
  unfold mkr
  rw [List.getElem_append_right (by rw [marksSS_len]; exact Nat.le_refl _)]
  simp [marksSS_len]
theorem mkr_set (k0 : Int) (rows : List (List Int)) (i : Nat) (h : i < rows.length) : (mkr k0 rows i).set i (marks (k0 + 2 * (i : Int)) 2) = mkr k0 rows (i + 1) := by
  unfold mkr
  have e : marksSS k0 (i + 1) = marksSS k0 i ++ [marks (k0 + 2 * (i : Int)) 2] := by simp [marksSS, List.range_succ]
  rw [e, List.set_append_right _ _ (by rw [marksSS_len]; exact Nat.le_refl _), marksSS_len, Nat.sub_self, List.drop_eq_getElem_cons h, List.set_cons_zero]
  simp
/-- one row marked -/
theorem OwnSS.mark {w w' : World} {L U : Nat} {a : Option Addr} {cap : Nat} {rows : List (List Int)} (h : OwnSS w L U a cap rows) (i : Nat) (hi : i < rows.length) (ms : List Int) (hm : ms.length = 2) :
    ∃ b g, a = some ⟨b, 0, none⟩ ∧ L ≤ g ∧ g < U ∧ w.cell? ⟨b, i, none⟩ = some (.slice (some ⟨g, 0, none⟩) 2 2) ∧ rows[i].length = 2 ∧ OwnI w g (some ⟨g, 0, none⟩) 2 rows[i] ∧
      (Upd g (g + 1) w w' → OwnI w' g (some ⟨g, 0, none⟩) 2 ms → OwnSS w' L U a cap (rows.set i ms)) := by
  obtain ⟨gs, h1, h2, h3⟩ := h
  have hi2 : i < gs.length := by rw [h1.len]; exact hi
  obtain ⟨r1, r2, r3, r4⟩ := h1.row i hi2 hi
  have h2' := h2
  rcases h2.2 with ⟨hv, hn⟩ | ⟨b, cap', cur, hv, hb, hh, r⟩
  · omega
  · simp only [Value.slice.injEq] at hv
    obtain ⟨rfl, -, -⟩ := hv
    have hc := World.ownsRow.cellAt h2' i (by omega)
    rw [List.getElem?_map, List.getElem?_eq_getElem hi2] at hc
    refine ⟨b, gs[i], rfl, r1, r2, hc, r3, r4, fun hu ho => ?_⟩
    obtain ⟨cg, hcg⟩ := r4.blk
    refine ⟨gs, ⟨by rw [List.length_set]; exact h1.len, h1.inc, fun j hj hj' => ?_⟩, ?_, h3⟩
    · rw [List.length_set] at hj'
      obtain ⟨s1, s2, s3, s4⟩ := h1.row j hj hj'
      by_cases hij : i = j
      · subst hij
        rw [List.getElem_set_self]
        exact ⟨s1, s2, hm, ho⟩
      · rw [List.getElem_set_ne hij]
        obtain ⟨cj, hcj⟩ := s4.blk
        have hne : gs[j] < gs[i] ∨ gs[i] < gs[j] := by
          rcases Nat.lt_or_gt_of_ne hij with hlt | hlt
          · exact Or.inr (List.pairwise_iff_getElem.1 h1.inc i j hi2 hj hlt)
          · exact Or.inl (List.pairwise_iff_getElem.1 h1.inc j i hj hi2 hlt)
        exact ⟨s1, s2, s3, s4.same (hu.block _ (lt_of_block hcj) (by omega))⟩
    · rw [List.length_set]
      refine ownsRow_keep h2 (fun g cur' e hh' => hu.block g (lt_of_block hh') ?_)
      have hne : g ≠ gs[i] := by
        intro he
        rw [he, hcg] at hh'
        simp at hh'
      omega
theorem eqIntS_len (a a' : Option Addr) (n cap cap' : Nat) (xs : List Int) (w : World) (hn : n = xs.length) (hx : Ints w w.heap.size a cap xs) (hy : Ints w w.heap.size a' cap' xs) :
    Calls Try.prog 18 #[.slice a n cap, .slice a' n cap'] w fun e w' => e = .returned (.bool true) ∧ Below w.heap.size w w' := by subst hn; exact eqIntS_same a a' cap cap' xs w hx hy
theorem markR_len (L U : Nat) (a : Option Addr) (n cap : Nat) (xs : List Int) (k0 : Int) (w : World) (hn : n = xs.length) (hx : OwnR w L U a cap xs) (h0 : 0 ≤ k0) (h1 : k0 + n ≤ 4611686018427387904) :
    Calls Try.prog 19 #[.slice a n cap, .int .i64 k0] w
      fun e w' => e = .returned (.int .i64 (k0 + n)) ∧ OwnR w' L U a cap (marks k0 n) ∧ Upd L U w w' := by subst hn; exact markR_any L U a cap xs k0 w hx h0 h1
set_option maxHeartbeats 400000 in
theorem eqIntSS_same (a a' : Option Addr) (cap cap' L U L' U' : Nat) (rows : List (List Int)) (w : World) (hx : OwnSS w L U a cap rows) (hy : OwnSS w L' U' a' cap' rows) (hU : U ≤ w.heap.size) (hU' : U' ≤ w.heap.size) (hl : rows.length ≤ 1000000) :
    Calls Try.prog 28 #[.slice a rows.length cap, .slice a' rows.length cap'] w fun e w' => e = .returned (.bool true) ∧ Below w.heap.size w w' := by
  have HX := Lib.hid hx; have HY := Lib.hid hy
  clear hx hy
  go_enter Try.func28, Try.ntmps28
  go_wp2
  go_loopw [5] (fun i wr => ∃ k : Nat, k ≤ rows.length ∧ i = .int .i64 k ∧ Below w.heap.size w wr) (fun i _ => rows.length - (intOf i).toNat)
  case atStart => exact ⟨0, Nat.zero_le _, rfl, Below.refl _ _⟩
  case round =>
    obtain ⟨k, hk, rfl, hb⟩ := hrel
    have hsz := hb.size
    by_cases hlt : k < rows.length
    · obtain ⟨b1, g1, rfl, hc1, hr1, ho1⟩ := (HX.out.below hb hU).at k hlt
      obtain ⟨b2, g2, rfl, hc2, hr2, ho2⟩ := (HY.out.below hb hU').at k hlt
      have hg1 : (0 : Int) ≤ (k : Int) := by omega
      have hg2 : (k : Int) < (rows.length : Int) := by omega
      have HB := Lib.hid hb
      have HR := Lib.hid hr1
      have HO1 := Lib.hid ho1; have HO2 := Lib.hid ho2
      clear hb hr1 hr2 ho1 ho2
      go_wp2_with fail
      refine wp_region_still_tail 8 (by kernel_rfl) (by kernel_rfl) ?_
      simp only [List.take_succ_cons, List.take_zero, List.drop_succ_cons, List.drop_zero]
      repeat still_step
      refine wpStill_nil ?_
      change wpList _ _ _ _ _ wr.drew
      have hBd : Below wr.heap.size wr wr.drew := (Below.refl _ _).drew
      have hsd := hBd.size
      have HOD1 := Lib.hid (HO1.out.kept hBd); have HOD2 := Lib.hid (HO2.out.kept hBd)
      have HBD := Lib.hid (HB.out.trans (hBd.mono hsz))
      clear hBd
      generalize wr.drew = wd at *
      go_wp2_with fail
      refine (eqIntS_len _ _ 2 _ _ rows[k] _ HR.out.symm HOD1.out.ints HOD2.out.ints).mono ?_
      rintro e w5 ⟨rfl, hb5⟩
      have HB5 := Lib.hid (HBD.out.trans (hb5.mono (by omega))); clear hb5
      go_wp2_with fail
      go_roundw
      case rel => exact ⟨k + 1, by omega, by go_num, HB5.out⟩
      case measure => simp [intOf] <;> omega
    · have HB := Lib.hid hb; clear hb
      go_wp2
      go_ret
      exact ⟨rfl, HB.out⟩
set_option maxHeartbeats 400000 in
theorem markIntSS_any (L U : Nat) (a : Option Addr) (cap : Nat) (rows : List (List Int)) (k0 : Int) (w : World) (hx : OwnSS w L U a cap rows) (h0 : 0 ≤ k0) (h1 : k0 ≤ 1000000) (hl : rows.length ≤ 1000000) :
    Calls Try.prog 29 #[.slice a rows.length cap, .int .i64 k0] w fun e w' => e = .returned (.int .i64 (k0 + 2 * rows.length)) ∧ OwnSS w' L U a cap (marksSS k0 rows.length) ∧ Upd L U w w' := by
  have hx0 : OwnSS w L U a cap (mkr k0 rows 0) := by simpa [mkr, marksSS] using hx
  have HX := Lib.hid hx0; clear hx hx0
  go_enter Try.func29, Try.ntmps29
  go_wp2
  go_loopw [1, 5] (fun q i wr => ∃ k : Nat, k ≤ rows.length ∧ i = .int .i64 k ∧ q = .int .i64 (k0 + 2 * k) ∧ OwnSS wr L U a cap (mkr k0 rows k) ∧ Upd L U w wr) (fun _ i _ => rows.length - (intOf i).toNat)
  case atStart => exact ⟨0, Nat.zero_le _, rfl, by simp, HX.out, Upd.refl _ _ _⟩
  case round =>
    obtain ⟨k, hk, rfl, rfl, ho, hu⟩ := hrel
    by_cases hlt : k < rows.length
    · have hlen := mkr_len k0 rows k hk
      have hset := mkr_set k0 rows k hlt
      have HALL : Hid (∀ w' : World, ∃ b g, a = some ⟨b, 0, none⟩ ∧ L ≤ g ∧ g < U ∧ wr.cell? ⟨b, k, none⟩ = some (.slice (some ⟨g, 0, none⟩) 2 2) ∧ (mkr k0 rows k)[k].length = 2 ∧ OwnI wr g (some ⟨g, 0, none⟩) 2 (mkr k0 rows k)[k] ∧
        (Upd g (g + 1) wr w' → OwnI w' g (some ⟨g, 0, none⟩) 2 (marks (k0 + 2 * (k : Int)) 2) → OwnSS w' L U a cap ((mkr k0 rows k).set k (marks (k0 + 2 * (k : Int)) 2)))) := fun w' => ho.mark k (by omega) _ (marks_length _ _)
      obtain ⟨b, g, rfl, hg1, hg2, hc, hr, hoi, -⟩ := HALL.out wr
      have HNX : Hid (∀ w' : World, Upd g (g + 1) wr w' → OwnI w' g (some ⟨g, 0, none⟩) 2 (marks (k0 + 2 * (k : Int)) 2) → OwnSS w' L U (some ⟨b, 0, none⟩) cap (mkr k0 rows (k + 1))) := by
        intro w' h1 h2
        obtain ⟨b', g', hb', -, -, hc', -, -, hnx⟩ := HALL.out w'
        simp only [Option.some.injEq, Addr.mk.injEq, and_true] at hb'
        subst hb'
        rw [hc] at hc'
        simp only [Option.some.injEq, Value.slice.injEq, Addr.mk.injEq, and_true] at hc'
        subst hc'
        rw [← hset]
        exact hnx h1 h2
      have HOR : Hid (OwnR wr g (g + 1) (some ⟨g, 0, none⟩) 2 (mkr k0 rows k)[k]) := ⟨hoi, fun g' o s e => by simp only [Option.some.injEq, Addr.mk.injEq] at e; omega⟩
      have HR := Lib.hid hr
      have HU := Lib.hid hu
      have hgi1 : (0 : Int) ≤ (k : Int) := by omega
      have hgi2 : (k : Int) < (rows.length : Int) := by omega
      clear hu hr ho hset HALL
      go_wp2_with fail
      refine (markR_len g (g + 1) _ 2 _ _ _ _ HR.out.symm HOR.out (by omega) (by omega)).mono ?_
      rintro e w1 ⟨rfl, ho1, hu1⟩
      have HO1 := Lib.hid ho1; have HU1 := Lib.hid hu1
      clear ho1 hu1
      go_wp2_with fail
      go_roundw
      case rel => exact ⟨k + 1, by omega, by go_num, by go_num, HNX.out _ HU1.out HO1.out.1, HU.out.widen HU1.out hg1 hg2⟩
      case measure => simp [intOf] <;> omega
    · have HO := Lib.hid ho; have HU := Lib.hid hu
      clear ho hu
      go_wp2
      go_ret
      obtain rfl : k = rows.length := by omega
      refine ⟨rfl, ?_, HU.out⟩
      have h := HO.out
      have e : mkr k0 rows rows.length = marksSS k0 rows.length := by simp [mkr]
      rw [e] at h
      exact h
theorem held_len (a : Option Addr) (n cap : Nat) (k0 : Int) (w : World) (xs : List Int) (hxs : xs = marks k0 n) (hx : Ints w w.heap.size a cap xs) (h0 : 0 ≤ k0) (h1 : k0 + n ≤ 4611686018427387904) :
    Calls Try.prog 20 #[.slice a n cap, .int .i64 k0] w fun e w' => e = .returned (.int .i64 (k0 + n)) ∧ w = w' := by subst hxs; exact heldIntS_any a cap k0 n w hx h0 h1
set_option maxHeartbeats 400000 in
theorem heldIntSS_any (L U : Nat) (a : Option Addr) (cap n : Nat) (k0 : Int) (w : World) (hx : OwnSS w L U a cap (marksSS k0 n)) (h0 : 0 ≤ k0) (h1 : k0 ≤ 1000000) (hl : n ≤ 1000000) :
    Calls Try.prog 30 #[.slice a n cap, .int .i64 k0] w fun e w' => e = .returned (.int .i64 (k0 + 2 * n)) ∧ w = w' := by
  have HX := Lib.hid hx; clear hx
  have hml := marksSS_len k0 n
  go_enter Try.func30, Try.ntmps30
  go_wp2
  go_loop [1, 5] (fun q i => ∃ k : Nat, k ≤ n ∧ i = .int .i64 k ∧ q = .int .i64 (k0 + 2 * k)) (fun _ i => n - (intOf i).toNat)
  case atStart => exact ⟨0, Nat.zero_le _, rfl, by simp⟩
  case round =>
    obtain ⟨k, hk, rfl, rfl⟩ := hrel
    by_cases hlt : k < n
    · obtain ⟨b, g, rfl, hc, hr, ho⟩ := HX.out.at k (by omega)
      have hget := marksSS_get k0 n k (by omega)
      have HG := Lib.hid hget
      have HOI := Lib.hid ho.ints
      clear hr ho hget
      have hgi1 : (0 : Int) ≤ (k : Int) := by omega
      have hgi2 : (k : Int) < (n : Int) := by omega
      go_wp2_with fail
      refine (held_len _ 2 _ _ _ _ HG.out HOI.out (by omega) (by omega)).mono ?_
      rintro e w1 ⟨rfl, rfl⟩
      go_wp2_with fail
      go_round
      case rel => exact ⟨k + 1, by omega, by go_num, by go_num⟩
      case measure => simp [intOf] <;> omega
    · go_wp2
      go_ret
      obtain rfl : k = n := by omega
      exact ⟨rfl, rfl⟩
theorem pairR_le (q : Int) : (pairR q).length ≤ 1000000 := by have := pairR_len q; omega
set_option maxHeartbeats 1000000 in
theorem law_FnExactPairsFor (q : Int) (w : World) (fq : (Lit.int .i64 q).wf = true) :
    Calls Try.prog 8 #[.int .i64 q] w fun e w' => e = .returned (.bool true) ∧ Below w.heap.size w w' := by
  have hlen := pairR_le q
  have HB0 : Hid (Below w.heap.size w w) := Below.refl _ _
  go_enter Try.func8, Try.ntmps8
  go_wp2_with fail
  refine (sPairsFor_any q _).mono ?_
  rintro e w1 ⟨vW, rfl, ho, hb⟩
  obtain ⟨aW, cW, rfl, hss⟩ := ho.ss
  have HOW1 := Lib.hid hss
  have hs1 := hb.size
  have HB1 : Hid (Below w.heap.size w w1) := hb
  clear ho hss hb
  go_wp2_with fail
  refine (PairsFor_any q _).mono ?_
  rintro e w2 ⟨vG, rfl, ho, hb⟩
  obtain ⟨aG, cG, rfl, hss⟩ := ho.ss
  have hs2 := hb.size
  have HOG2 := Lib.hid hss
  have HOW2 : Hid (OwnSS w2 w.heap.size w1.heap.size aW cW (pairR q)) := HOW1.out.below hb (by omega); clear HOW1
  have HB2 : Hid (Below w.heap.size w w2) := HB1.out.trans (hb.mono (by omega)); clear HB1
  clear ho hss hb
  go_wp2_with fail
  refine (eqIntSS_same _ _ _ _ _ _ _ _ (pairR q) _ HOG2.out HOW2.out (by omega) (by omega) hlen).mono ?_
  rintro e w3 ⟨rfl, hb⟩
  have hs3 := hb.size
  have HOW3 : Hid (OwnSS w3 w.heap.size w1.heap.size aW cW (pairR q)) := HOW2.out.below hb (by omega); clear HOW2
  have HOG3 : Hid (OwnSS w3 w1.heap.size w2.heap.size aG cG (pairR q)) := HOG2.out.below hb (by omega); clear HOG2
  have HB3 : Hid (Below w.heap.size w w3) := HB2.out.trans (hb.mono (by omega)); clear HB2
  clear hb
  go_wp2_with fail
  refine (markIntSS_any _ _ _ _ (pairR q) 1 _ HOG3.out (by omega) (by omega) hlen).mono ?_
  rintro e w4 ⟨rfl, ho, hu⟩
  have hs4 := hu.size
  have HOG4 := Lib.hid ho
  have HOW4 : Hid (OwnSS w4 w.heap.size w1.heap.size aW cW (pairR q)) := HOW3.out.upd hu (by omega); clear HOW3
  have HB4 : Hid (Below w.heap.size w w4) := HB3.out.trans (hu.below (by omega) (by omega)); clear HB3 HOG3
  clear ho hu
  go_wp2_with fail
  refine (heldIntSS_any _ _ _ _ (pairR q).length 1 _ HOG4.out (by omega) (by omega) hlen).mono ?_
  rintro e w' ⟨rfl, rfl⟩
  have hp1 : (0 : Int) ≤ 1 + 2 * ((pairR q).length : Int) := by omega
  go_wp2_with fail
  refine (PairsFor_any q _).mono ?_
  rintro e w5 ⟨vH, rfl, ho, hb⟩
  obtain ⟨aH, cH, rfl, hss⟩ := ho.ss
  have hs5 := hb.size
  have HOH5 := Lib.hid hss
  have HOW5 : Hid (OwnSS w5 w.heap.size w1.heap.size aW cW (pairR q)) := HOW4.out.below hb (by omega); clear HOW4
  have HOG5 : Hid (OwnSS w5 w1.heap.size w2.heap.size aG cG (marksSS 1 (pairR q).length)) := HOG4.out.below hb (by omega); clear HOG4
  have HB5 : Hid (Below w.heap.size w w5) := HB4.out.trans (hb.mono (by omega)); clear HB4
  clear ho hss hb
  go_wp2_with fail
  refine (eqIntSS_same _ _ _ _ _ _ _ _ (pairR q) _ HOH5.out HOW5.out (by omega) (by omega) hlen).mono ?_
  rintro e w6 ⟨rfl, hb⟩
  have hs6 := hb.size
  have HOG6 : Hid (OwnSS w6 w1.heap.size w2.heap.size aG cG (marksSS 1 (pairR q).length)) := HOG5.out.below hb (by omega); clear HOG5
  have HB6 : Hid (Below w.heap.size w w6) := HB5.out.trans (hb.mono (by omega)); clear HB5
  clear hb
  go_wp2_with fail
  refine (heldIntSS_any _ _ _ _ (pairR q).length 1 _ HOG6.out (by omega) (by omega) hlen).mono ?_
  rintro e w' ⟨rfl, rfl⟩
  go_wp2_with fail
  go_ret
  exact ⟨rfl, HB6.out⟩

end Go.Proofs.Ytmdnmcbpcjfgmaa
