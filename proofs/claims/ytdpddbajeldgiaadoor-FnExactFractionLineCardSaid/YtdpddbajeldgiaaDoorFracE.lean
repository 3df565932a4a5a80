/- The reference's ExpansionOf and FormatExpansion. Conditions: those of each contract. -/
import Derived.Test.YtdpddbajeldgiaaDoorFracB
import Derived.Test.YtdpddbajeldgiaaDoorFracD
namespace Go.Proofs.YtdpddbajeldgiaaDoor
set_option linter.unusedVariables false
open Go.RowKit

/-- a slice that is not nil, of the integers xs, in a block below B -/
def IntsP (w : World) (B b off cap : Nat) (xs : List Int) : Prop := xs.length ≤ cap ∧ cap ≤ maxLen ∧ b < B ∧ ∀ i (h : i < xs.length), w.cell? ⟨b, off + i, none⟩ = some (.int .i64 xs[i])
theorem IntsP.below {w w' : World} {B b off cap : Nat} {xs : List Int} (h : IntsP w B b off cap xs) (hb : Below B w w') : IntsP w' B b off cap xs :=
  ⟨h.1, h.2.1, h.2.2.1, fun i hi => (hb.cell (p := ⟨b, off + i, none⟩) h.2.2.1).trans (h.2.2.2 i hi)⟩
theorem IntsP.mono {w : World} {B B' b off cap : Nat} {xs : List Int} (h : IntsP w B b off cap xs) (hB : B ≤ B') : IntsP w B' b off cap xs := ⟨h.1, h.2.1, by have := h.2.2.1; omega, h.2.2.2⟩
theorem l14Digits_some (p q b : Int) (n : Nat) (w : World) (h : fracOk p q b = true) (hn : n ≤ 5000) :
    Calls Tryd.prog 71 #[.int .i64 p, .int .i64 q, .int .i64 b, .int .i64 n] w fun e w' => (∃ g cap, e = .returned (.slice (some ⟨g, 0, none⟩) n cap) ∧ IntsP w' w'.heap.size g 0 cap (dgs p q b n)) ∧ Below w.heap.size w w' := by
  obtain ⟨h1, h2, h3, h4, h5, h6⟩ := fracOk_t h
  have HRB : Hid (∀ k, 0 ≤ rs p q b k ∧ rs p q b k < q) := rs_bd h
  have HRM : Hid (∀ k, 0 ≤ rs p q b k * b ∧ rs p q b k * b ≤ 16000 ∧ 0 ≤ dg p q b k ∧ dg p q b k < b) := rs_mul h
  clear h
  go_enter Tryd.func71, Tryd.ntmps71
  go_wp2
  go_loopw [0, 9, 10] (fun pv v i wr => ∃ j : Nat, j ≤ n ∧ i = .int .i64 j ∧ pv = .int .i64 (rs p q b j) ∧ OwnV wr w.heap.size v (dgs p q b j) ∧ (j = 0 → v = .slice (some ⟨w.heap.size, 0, none⟩) 0 0) ∧ Below w.heap.size w wr ∧ w.heap.size < wr.heap.size) (fun _ _ i _ => n - (intOf i).toNat)
  case atStart => exact ⟨0, Nat.zero_le _, rfl, rfl, OwnV.lit0 _ _ (Nat.le_refl _), fun _ => rfl, (Below.refl _ _).alloc (Nat.le_refl _) _, by simp⟩
  case round =>
    obtain ⟨j, hj, rfl, rfl, hown, hv0, hb, hlt2⟩ := hrel
    have hdl := dgs_len p q b j
    have hsz := hb.size
    have HB := Lib.hid hb
    have HV0 := Lib.hid hv0
    clear hb hv0
    by_cases hlt : j < n
    · obtain ⟨m0, m1, m2, m3⟩ := HRM.out j
      have HRN : Hid (rs p q b (j + 1) = rs p q b j * b % q) := rfl
      have HDN : Hid (dgs p q b (j + 1) = dgs p q b j ++ [rs p q b j * b / q]) := rfl
      have m4 : rs p q b j * b / q < b := m3
      have m5 : 0 ≤ rs p q b j * b / q := m2
      have m6 := Int.emod_nonneg (rs p q b j * b) (show q ≠ 0 by omega)
      have m7 := Int.emod_lt_of_pos (rs p q b j * b) (show 0 < q by omega)
      go_wp2_with (at_builtin; refine wpList_append_int rfl _ _ rfl w.heap.size _ _ rfl hown (rs p q b j * b / q) rfl (by omega) (by omega) ?_; intro v' w2 hown2 hbl2)
      have HB2 := Lib.hid (HB.out.trans hbl2)
      have hs2 := hbl2.size
      clear hbl2
      go_roundw
      case rel => exact ⟨j + 1, by omega, by go_num, by rw [HRN.out], hown2, fun h => by omega, HB2.out, by omega⟩
      case measure => simp [intOf]; omega
    · obtain rfl : j = n := by omega
      obtain ⟨ad, cd, rfl, hoi⟩ := hown.own
      have hxi := hoi.ints
      have HP : Hid (∃ g, ad = some ⟨g, 0, none⟩ ∧ IntsP wr wr.heap.size g 0 cd (dgs p q b j)) := by
        obtain ⟨e1, e2, b0, off, e3, e4⟩ := hxi
        by_cases hz : j = 0
        · have e := HV0.out hz
          simp only [Value.slice.injEq] at e
          refine ⟨w.heap.size, e.1, e1, e2, hlt2, fun i hi => ?_⟩
          rw [hdl] at hi; omega
        · obtain ⟨g, eg, hg1, hg2, hg3⟩ := hoi.someN (by omega)
          obtain ⟨e5, e6⟩ := e3 (by omega)
          rw [eg] at e5
          simp only [Option.some.injEq, Addr.mk.injEq, and_true] at e5
          obtain ⟨rfl, rfl⟩ := e5
          exact ⟨g, eg, e1, e2, e6, e4⟩
      rw [hdl]
      clear hown hoi hxi HV0 hdl
      go_wp2
      go_ret
      obtain ⟨g, rfl, hp⟩ := HP.out
      exact ⟨⟨g, cd, rfl, hp⟩, HB.out⟩
theorem fr_bd (p q b : Int) : ∀ (f j : Nat), (fr p q b f j).1 ≤ j + f ∧ (fr p q b f j).2 ≤ j + f := by
  intro f
  induction f with
  | zero => intro j; simp [fr]
  | succ f ih =>
    intro j
    rw [fr]
    split
    · refine ⟨?_, ?_⟩ <;> simp <;> omega
    split
    · rename_i hm
      have := idx_lt hm
      refine ⟨?_, ?_⟩ <;> simp <;> omega
    · have := ih (j + 1); omega
theorem frR_bd {p q b : Int} (h : fracOk p q b = true) : (frR p q b).1 ≤ 1001 ∧ (frR p q b).2 ≤ 1001 := by
  obtain ⟨h1, h2, -⟩ := fracOk_t h
  have := fr_bd p q b (q.toNat + 1) 0
  unfold frR
  omega
theorem preR_len {p q b : Int} (h : fracOk p q b = true) : (preR p q b).length = (frR p q b).1 := by rw [preR, if_pos h, dgs_len]
theorem perR_len {p q b : Int} (h : fracOk p q b = true) : (perR p q b).length = (frR p q b).2 := by rw [perR, if_pos h, List.length_drop, dgs_len]; omega
theorem preR_mem {p q b : Int} (h : fracOk p q b = true) : ∀ x ∈ preR p q b, 0 ≤ x ∧ x < b := by rw [preR, if_pos h]; exact dgs_mem h _
theorem perR_mem {p q b : Int} (h : fracOk p q b = true) : ∀ x ∈ perR p q b, 0 ≤ x ∧ x < b := by rw [perR, if_pos h]; exact fun x hx => dgs_mem h _ x (List.mem_of_mem_drop hx)
theorem sExpansionOf_ok (p q b : Int) (w : World) (h : fracOk p q b = true) :
    Calls Tryd.prog 35 #[.int .i64 p, .int .i64 q, .int .i64 b] w fun e w' => (∃ g c o c', e = .returned (.tuple #[.slice (some ⟨g, 0, none⟩) (preR p q b).length c, .slice (some ⟨g, o, none⟩) (perR p q b).length c', .bool true]) ∧ IntsP w' w'.heap.size g 0 c (preR p q b) ∧ IntsP w' w'.heap.size g o c' (perR p q b)) ∧ Below w.heap.size w w' := by
  have HL : Hid (Calls Tryd.prog 70 #[.int .i64 p, .int .i64 q, .int .i64 b] w fun e w' => e = .returned (.tuple #[.int .i64 (frR p q b).1, .int .i64 (frR p q b).2]) ∧ Below w.heap.size w w') := l14Lengths_any p q b w h
  obtain ⟨f1, f2⟩ := frR_bd h
  have HD : Hid (∀ W : World, Calls Tryd.prog 71 #[.int .i64 p, .int .i64 q, .int .i64 b, .int .i64 (((frR p q b).1 : Int) + ((frR p q b).2 : Int))] W fun e w' => (∃ g cap, e = .returned (.slice (some ⟨g, 0, none⟩) ((frR p q b).1 + (frR p q b).2) cap) ∧ IntsP w' w'.heap.size g 0 cap (dgs p q b ((frR p q b).1 + (frR p q b).2))) ∧ Below W.heap.size W w') := fun W => l14Digits_some p q b _ W h (by omega)
  have HP : Hid (preR p q b = dgs p q b (frR p q b).1) := by show _ = _; rw [preR, if_pos h]
  have HQ : Hid (perR p q b = (dgs p q b ((frR p q b).1 + (frR p q b).2)).drop (frR p q b).1) := by show _ = _; rw [perR, if_pos h]
  have HT := Lib.hid (dgs_take p q b (frR p q b).1 (frR p q b).2)
  have HLn : Hid (∀ k, (dgs p q b k).length = k) := dgs_len p q b
  generalize (frR p q b).1 = i at *
  generalize (frR p q b).2 = d at *
  go_enter Tryd.func35, Tryd.ntmps35
  go_wp2_with (go_at_call 69; refine (l14Ok_any _ _ _ _).mono ?_; rintro e w' ⟨rfl, rfl⟩)
  clear h
  refine HL.out.mono ?_
  rintro e w1 ⟨rfl, hb1⟩
  have HB1 := Lib.hid hb1
  clear hb1
  go_wp2_with fail
  refine (HD.out _).mono ?_
  rintro e w2 ⟨⟨g, cap, rfl, hp⟩, hb2⟩
  have HB2 := Lib.hid (HB1.out.trans (hb2.mono HB1.out.size))
  have hcap : i + d ≤ cap := by have := hp.1; rw [HLn.out] at this; exact this
  have HPP := Lib.hid hp
  have hic : i ≤ cap := by omega
  have hid2 : i ≤ i + d := by omega
  clear hb2 hp
  have HI1 : Hid (IntsP w2 w2.heap.size g 0 cap (preR p q b)) := by
    obtain ⟨e1, e2, e3, e4⟩ := HPP.out
    rw [HP.out, ← HT.out]
    refine ⟨by rw [List.length_take, HLn.out]; omega, e2, e3, fun k hk => ?_⟩
    rw [List.getElem_take]
    exact e4 k (by rw [List.length_take, HLn.out] at hk; rw [HLn.out]; omega)
  have HI2 : Hid (∀ o c', (o = i ∧ c' = cap - i) ∨ (d = 0 ∧ c' ≤ maxLen) → IntsP w2 w2.heap.size g o c' (perR p q b)) := by
    intro o c' ho
    obtain ⟨e1, e2, e3, e4⟩ := HPP.out
    rw [HQ.out]
    rcases ho with ⟨rfl, rfl⟩ | ⟨hd0, hc0⟩
    · refine ⟨by rw [List.length_drop, HLn.out]; omega, by omega, e3, fun k hk => ?_⟩
      rw [List.getElem_drop]
      have h5 := e4 (o + k) (by rw [List.length_drop, HLn.out] at hk; rw [HLn.out]; omega)
      rwa [Nat.zero_add] at h5
    · refine ⟨by rw [List.length_drop, HLn.out, hd0]; omega, hc0, e3, fun k hk => ?_⟩
      rw [List.length_drop, HLn.out, hd0] at hk
      omega
  have HPL : Hid ((preR p q b).length = i) := by show _ = _; rw [HP.out, HLn.out]
  have HQL : Hid ((perR p q b).length = d) := by show _ = _; rw [HQ.out, List.length_drop, HLn.out]; omega
  have hcm := HPP.out.2.1
  by_cases hce : cap = i
  · have hd0 : d = 0 := by omega
    subst hce
    subst hd0
    go_wp2_with fail
    go_quiet (fail)
    go_wp2
    go_ret3
    rw [HPL.out, HQL.out]
    refine ⟨⟨g, _, _, _, rfl, HI1.out.below (below_drewN (Below.refl _ _) _), (HI2.out _ _ ?_).below (below_drewN (Below.refl _ _) _)⟩, below_drewN HB2.out _⟩
    first
      | exact Or.inr ⟨rfl, by omega⟩
      | exact Or.inr ⟨rfl, by simp [maxLen]⟩
      | exact Or.inl ⟨rfl, by omega⟩
      | exact Or.inl ⟨rfl, by simp⟩
      | (right; simp [maxLen])
  · go_wp2_with fail
    go_quiet (fail)
    go_wp2
    go_ret3
    rw [HPL.out, HQL.out]
    refine ⟨⟨g, _, _, _, rfl, HI1.out.below (below_drewN (Below.refl _ _) _), (HI2.out _ _ ?_).below (below_drewN (Below.refl _ _) _)⟩, below_drewN HB2.out _⟩
    exact Or.inl ⟨rfl, rfl⟩

end Go.Proofs.YtdpddbajeldgiaaDoor
