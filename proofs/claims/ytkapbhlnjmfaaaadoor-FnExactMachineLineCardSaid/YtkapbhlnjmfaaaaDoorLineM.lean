/- MachineLine: contracts of both sides. Conditions: those of each contract. -/
import Derived.Test.YtkapbhlnjmfaaaaDoorRedS
import Derived.Test.YtkapbhlnjmfaaaaDoorMachD
namespace Go.Proofs.YtkapbhlnjmfaaaaDoor
set_option linter.unusedVariables false
open Go.RowKit

def lineR (m : Ma) : ByteArray := if maOk m = true then (⟨#[115, 116, 97, 116, 101, 115, 32]⟩ : ByteArray) ++ itB ((redM m).final.length : Int) ++ ⟨#[32, 108, 101, 97, 115, 116, 32]⟩ ++ itB (leastR m) else ⟨#[110, 111, 110, 101]⟩
theorem leastR_bd (m : Ma) : -1 ≤ leastR m ∧ leastR m ≤ 10000 := by
  unfold leastR
  split
  · omega
  · split
    · rename_i n h
      have := List.mem_of_find?_eq_some h
      rw [List.mem_range] at this
      omega
    · omega
theorem bfs_good {n b : Nat} {c : Nat → Nat} {nx : Nat → Nat → Nat} (hnx : ∀ s d, s < n → d < b → nx s d < n) : ∀ (f i : Nat) (Q : List Nat × List Int), GoodS n c Q.1 → GoodS n c (bfs b c nx f i Q).1 := by
  intro f
  induction f with
  | zero => intro i Q h; exact h
  | succ f ih =>
    intro i Q h
    rw [bfs]
    split
    · rename_i hi
      refine ih _ _ (rowQ_good hnx ?_ h b (Nat.le_refl _))
      have e : Q.1.getD i 0 = Q.1[i] := by simp [List.getD, hi]
      rw [e]
      exact h.lt _ (List.getElem_mem hi)
    · exact h
theorem redM_len {m : Ma} (hok : maOk m = true) : (redM m).final.length ≤ 144 := by
  obtain ⟨-, -, n1, n144, -, -⟩ := maOk_t hok
  have h1 : GoodS m.final.length (clM m m.final.length) (redS m).1 := bfs_good (nxM_lt hok) _ _ _ (GoodS.start (by omega))
  have h2 := h1.len
  show ((redS m).1.map (finN m)).length ≤ 144
  rw [List.length_map]
  omega
set_option maxRecDepth 8000 in
set_option maxHeartbeats 2000000 in
theorem MachineLine_any (a1 : Option Addr) (c1 : Nat) (a2 : Option Addr) (c2 : Nat) (m : Ma) (w : World) (hm : Mach w w.heap.size a1 c1 a2 c2 m) (ht : Tab w) :
    Calls Tryd.prog 25 #[.agg #[.int .i64 m.base, .slice a1 m.next.length c1, .slice a2 m.final.length c2]] w fun e w' => e = .returned (.string (lineR m)) ∧ Below w.heap.size w w' := by
  obtain ⟨w0, e0, hb0, hs0, k0, k1, k2⟩ := box_new m.base a1 m.next.length c1 a2 m.final.length c2 w
  have HRED : Hid (∀ W : World, Below w.heap.size w W → Calls Tryd.prog 9 #[.agg #[.int .i64 m.base, .slice a1 m.next.length c1, .slice a2 m.final.length c2]] W (RetM W (if maOk m = true then redM m else noM) (maOk m))) := fun W hW => (ReduceMachine_any a1 c1 a2 c2 m W (hm.later hW) (ht.upd hW))
  have HFI : Hid (∀ (n : Int) (W : World), i64B n → Below w.heap.size w W → Calls Tryd.prog 50 #[.int .i64 n] W fun e w' => e = .returned (.string (itB n)) ∧ Below W.heap.size W w') := fun n W hn hW => FormatInt_any n W hn (ht.upd hW)
  have HLE : Hid (∀ W : World, Below w.heap.size w W → Calls Tryd.prog 14 #[.agg #[.int .i64 m.base, .slice a1 m.next.length c1, .slice a2 m.final.length c2]] W fun e w' => e = .returned (.int .i64 (leastR m)) ∧ Below W.heap.size W w') := fun W hW => LeastAccepted_any a1 c1 a2 c2 m W (hm.later hW)
  have HKB : Hid (∀ W : World, Below w0.heap.size w0 W → W.cell? ⟨w.heap.size, 0, none⟩ = some (.int .i64 m.base) ∧ W.cell? ⟨w.heap.size, 1, none⟩ = some (.slice a1 m.next.length c1) ∧ W.cell? ⟨w.heap.size, 2, none⟩ = some (.slice a2 m.final.length c2)) := fun W hW =>
    ⟨(hW.cell (p := ⟨w.heap.size, 0, none⟩) (by show w.heap.size < _; omega)).trans k0, (hW.cell (p := ⟨w.heap.size, 1, none⟩) (by show w.heap.size < _; omega)).trans k1, (hW.cell (p := ⟨w.heap.size, 2, none⟩) (by show w.heap.size < _; omega)).trans k2⟩
  have HBW : Hid (∀ W : World, Below w0.heap.size w0 W → Below w.heap.size w W) := fun W hW => hb0.trans (hW.mono (by omega))
  have HB0 := Lib.hid hb0
  cases hok : maOk m
  · have HF : Hid (lineR m = ⟨#[110, 111, 110, 101]⟩) := by show _ = _; simp [lineR, hok]
    rw [hok] at HRED
    clear hok hm hb0 k0 k1 k2 ht
    go_enter Tryd.func25, Tryd.ntmps25
    go_wp2_with fail
    rw [← e0]
    clear e0
    refine (HRED.out _ HB0.out).mono ?_
    rintro e w1 ⟨b1, d1, b2, d2, rfl, -, hb1⟩
    have HB1 := Lib.hid (HB0.out.trans (hb1.mono (by omega)))
    have HB2 := Lib.hid (HB1.out.alloc HB1.out.size (.cells #[.int .i64 noM.base, .slice b1 noM.next.length d1, .slice b2 noM.final.length d2] 27))
    clear hb1
    go_wp2_with fail
    go_ret
    exact ⟨by rw [HF.out] <;> rfl, HB2.out⟩
  · have hlb := leastR_bd m
    have HO2 : Hid (i64B (leastR m)) := by show i64B _; unfold i64B; omega
    have hrl := redM_len hok
    have HO1 : Hid (i64B ((redM m).final.length : Int)) := by show i64B _; unfold i64B; omega
    have HF : Hid (lineR m = (⟨#[115, 116, 97, 116, 101, 115, 32]⟩ : ByteArray) ++ itB ((redM m).final.length : Int) ++ ⟨#[32, 108, 101, 97, 115, 116, 32]⟩ ++ itB (leastR m)) := by show _ = _; simp [lineR, hok]
    have hz1 : (itB ((redM m).final.length : Int)).size ≤ 21 := by
      have := itB_len _ HO1.out
      rw [Array.length_toList] at this
      exact this
    have hz2 : (itB (leastR m)).size ≤ 21 := by
      have := itB_len _ HO2.out
      rw [Array.length_toList] at this
      exact this
    rw [hok] at HRED
    have hlen : (redM m).final.length ≤ 144 := hrl
    have HFN : Hid (∀ (n : Int) (W : World), (n = ((redM m).final.length : Int) ∨ n = leastR m) → Below w.heap.size w W → Calls Tryd.prog 50 #[.int .i64 n] W fun e w' => e = .returned (.string (itB n)) ∧ Below W.heap.size W w') := fun n W hn hW => HFI.out n W (by rcases hn with rfl | rfl; exact HO1.out; exact HO2.out) hW
    clear hok hm hb0 k0 k1 k2 HFI hlb hrl ht
    rw [if_pos rfl] at HRED
    generalize leastR m = lr at *
    generalize redM m = rm at *
    generalize itB = ff at *
    have hz3 : ((⟨#[115, 116, 97, 116, 101, 115, 32]⟩ : ByteArray) ++ ff (rm.final.length : Int)).size ≤ 28 := by
      rw [ByteArray.size_append, show (⟨#[115, 116, 97, 116, 101, 115, 32]⟩ : ByteArray).size = 7 from rfl]; omega
    have hz4 : ((⟨#[115, 116, 97, 116, 101, 115, 32]⟩ : ByteArray) ++ ff (rm.final.length : Int) ++ ⟨#[32, 108, 101, 97, 115, 116, 32]⟩).size ≤ 35 := by
      rw [ByteArray.size_append, show (⟨#[32, 108, 101, 97, 115, 116, 32]⟩ : ByteArray).size = 7 from rfl]; omega
    go_enter Tryd.func25, Tryd.ntmps25
    go_wp2_with fail
    rw [← e0]
    clear e0
    refine (HRED.out _ HB0.out).mono ?_
    rintro e w1 ⟨b1, d1, b2, d2, rfl, -, hb1⟩
    obtain ⟨w2, e2, hb2, hs2', j0, j1, j2⟩ := box_new rm.base b1 rm.next.length d1 b2 rm.final.length d2 w1
    have hb02 : Below w0.heap.size w0 w2 := hb1.trans (hb2.mono hb1.size)
    have HPC : Hid (∀ W : World, Below w2.heap.size w2 W → Below w.heap.size w W ∧ W.cell? ⟨w1.heap.size, 2, none⟩ = some (.slice b2 rm.final.length d2) ∧ W.cell? ⟨w.heap.size, 0, none⟩ = some (.int .i64 m.base) ∧ W.cell? ⟨w.heap.size, 1, none⟩ = some (.slice a1 m.next.length c1) ∧ W.cell? ⟨w.heap.size, 2, none⟩ = some (.slice a2 m.final.length c2)) := fun W hW =>
      have hW0 := hb02.trans (hW.mono hb02.size)
      ⟨HBW.out W hW0, (hW.cell (p := ⟨w1.heap.size, 2, none⟩) (by show w1.heap.size < _; omega)).trans j2, HKB.out W hW0⟩
    have hP0 : Below w2.heap.size w2 w2.drew := (Below.refl _ _).drew
    have q1 := HPC.out _ hP0
    obtain ⟨qb, q2, q3, q4, q5⟩ := HPC.out w2 (Below.refl _ _)
    have qq := q1.1
    clear hb1 hb2 hb02 j0 j1 j2 q1 qb
    go_wp2_with fail
    rw [← e2]
    clear e2
    have hP := hP0
    go_region_with (first
      | (go_at_call 14; refine (HLE.out _ qq).mono ?_; rintro e w' ⟨rfl, hbx⟩; have hP := hP.trans (hbx.mono hP.size); obtain ⟨qq, q2, q3, q4, q5⟩ := HPC.out _ hP; clear hbx)
      | (go_at_call 50; refine (HFN.out _ _ ?_ qq).mono ?_; (first | exact Or.inl rfl | exact Or.inr rfl); rintro e w' ⟨rfl, hbx⟩; have hP := hP.trans (hbx.mono hP.size); obtain ⟨qq, q2, q3, q4, q5⟩ := HPC.out _ hP; clear hbx))
    all_goals
      have HQQ := Lib.hid qq
      clear qq hP
      go_wp2_with fail
      go_ret
      exact ⟨by rw [HF.out] <;> rfl, HQQ.out⟩
set_option maxRecDepth 8000 in
set_option maxHeartbeats 2000000 in
theorem sMachineLine_any (a1 : Option Addr) (c1 : Nat) (a2 : Option Addr) (c2 : Nat) (m : Ma) (w : World) (hm : Mach w w.heap.size a1 c1 a2 c2 m) :
    Calls Tryd.prog 23 #[.agg #[.int .i64 m.base, .slice a1 m.next.length c1, .slice a2 m.final.length c2]] w fun e w' => e = .returned (.string (lineR m)) ∧ Below w.heap.size w w' := by
  obtain ⟨w0, e0, hb0, hs0, k0, k1, k2⟩ := box_new m.base a1 m.next.length c1 a2 m.final.length c2 w
  have HRED : Hid (∀ W : World, Below w.heap.size w W → Calls Tryd.prog 45 #[.agg #[.int .i64 m.base, .slice a1 m.next.length c1, .slice a2 m.final.length c2]] W (RetM W (if maOk m = true then redM m else noM) (maOk m))) := fun W hW => (sReduceMachine_any a1 c1 a2 c2 m W (hm.later hW))
  have HFI : Hid (∀ (n : Int) (W : World), i64B n → Below w.heap.size w W → Calls Tryd.prog 46 #[.int .i64 n] W fun e w' => e = .returned (.string (itB n)) ∧ Below W.heap.size W w') := fun n W hn hW => sFormatInt_any n W hn
  have HLE : Hid (∀ W : World, Below w.heap.size w W → Calls Tryd.prog 47 #[.agg #[.int .i64 m.base, .slice a1 m.next.length c1, .slice a2 m.final.length c2]] W fun e w' => e = .returned (.int .i64 (leastR m)) ∧ Below W.heap.size W w') := fun W hW => sLeastAccepted_any a1 c1 a2 c2 m W (hm.later hW)
  have HKB : Hid (∀ W : World, Below w0.heap.size w0 W → W.cell? ⟨w.heap.size, 0, none⟩ = some (.int .i64 m.base) ∧ W.cell? ⟨w.heap.size, 1, none⟩ = some (.slice a1 m.next.length c1) ∧ W.cell? ⟨w.heap.size, 2, none⟩ = some (.slice a2 m.final.length c2)) := fun W hW =>
    ⟨(hW.cell (p := ⟨w.heap.size, 0, none⟩) (by show w.heap.size < _; omega)).trans k0, (hW.cell (p := ⟨w.heap.size, 1, none⟩) (by show w.heap.size < _; omega)).trans k1, (hW.cell (p := ⟨w.heap.size, 2, none⟩) (by show w.heap.size < _; omega)).trans k2⟩
  have HBW : Hid (∀ W : World, Below w0.heap.size w0 W → Below w.heap.size w W) := fun W hW => hb0.trans (hW.mono (by omega))
  have HB0 := Lib.hid hb0
  cases hok : maOk m
  · have HF : Hid (lineR m = ⟨#[110, 111, 110, 101]⟩) := by show _ = _; simp [lineR, hok]
    rw [hok] at HRED
    clear hok hm hb0 k0 k1 k2
    go_enter Tryd.func23, Tryd.ntmps23
    go_wp2_with fail
    rw [← e0]
    clear e0
    refine (HRED.out _ HB0.out).mono ?_
    rintro e w1 ⟨b1, d1, b2, d2, rfl, -, hb1⟩
    have HB1 := Lib.hid (HB0.out.trans (hb1.mono (by omega)))
    have HB2 := Lib.hid (HB1.out.alloc HB1.out.size (.cells #[.int .i64 noM.base, .slice b1 noM.next.length d1, .slice b2 noM.final.length d2] 27))
    clear hb1
    go_wp2_with fail
    go_ret
    exact ⟨by rw [HF.out] <;> rfl, HB2.out⟩
  · have hlb := leastR_bd m
    have HO2 : Hid (i64B (leastR m)) := by show i64B _; unfold i64B; omega
    have hrl := redM_len hok
    have HO1 : Hid (i64B ((redM m).final.length : Int)) := by show i64B _; unfold i64B; omega
    have HF : Hid (lineR m = (⟨#[115, 116, 97, 116, 101, 115, 32]⟩ : ByteArray) ++ itB ((redM m).final.length : Int) ++ ⟨#[32, 108, 101, 97, 115, 116, 32]⟩ ++ itB (leastR m)) := by show _ = _; simp [lineR, hok]
    have hz1 : (itB ((redM m).final.length : Int)).size ≤ 21 := by
      have := itB_len _ HO1.out
      rw [Array.length_toList] at this
      exact this
    have hz2 : (itB (leastR m)).size ≤ 21 := by
      have := itB_len _ HO2.out
      rw [Array.length_toList] at this
      exact this
    rw [hok] at HRED
    have hlen : (redM m).final.length ≤ 144 := hrl
    have HFN : Hid (∀ (n : Int) (W : World), (n = ((redM m).final.length : Int) ∨ n = leastR m) → Below w.heap.size w W → Calls Tryd.prog 46 #[.int .i64 n] W fun e w' => e = .returned (.string (itB n)) ∧ Below W.heap.size W w') := fun n W hn hW => HFI.out n W (by rcases hn with rfl | rfl; exact HO1.out; exact HO2.out) hW
    clear hok hm hb0 k0 k1 k2 HFI hlb hrl
    rw [if_pos rfl] at HRED
    generalize leastR m = lr at *
    generalize redM m = rm at *
    generalize itB = ff at *
    have hz3 : ((⟨#[115, 116, 97, 116, 101, 115, 32]⟩ : ByteArray) ++ ff (rm.final.length : Int)).size ≤ 28 := by
      rw [ByteArray.size_append, show (⟨#[115, 116, 97, 116, 101, 115, 32]⟩ : ByteArray).size = 7 from rfl]; omega
    have hz4 : ((⟨#[115, 116, 97, 116, 101, 115, 32]⟩ : ByteArray) ++ ff (rm.final.length : Int) ++ ⟨#[32, 108, 101, 97, 115, 116, 32]⟩).size ≤ 35 := by
      rw [ByteArray.size_append, show (⟨#[32, 108, 101, 97, 115, 116, 32]⟩ : ByteArray).size = 7 from rfl]; omega
    go_enter Tryd.func23, Tryd.ntmps23
    go_wp2_with fail
    rw [← e0]
    clear e0
    refine (HRED.out _ HB0.out).mono ?_
    rintro e w1 ⟨b1, d1, b2, d2, rfl, -, hb1⟩
    obtain ⟨w2, e2, hb2, hs2', j0, j1, j2⟩ := box_new rm.base b1 rm.next.length d1 b2 rm.final.length d2 w1
    have hb02 : Below w0.heap.size w0 w2 := hb1.trans (hb2.mono hb1.size)
    have HPC : Hid (∀ W : World, Below w2.heap.size w2 W → Below w.heap.size w W ∧ W.cell? ⟨w1.heap.size, 2, none⟩ = some (.slice b2 rm.final.length d2) ∧ W.cell? ⟨w.heap.size, 0, none⟩ = some (.int .i64 m.base) ∧ W.cell? ⟨w.heap.size, 1, none⟩ = some (.slice a1 m.next.length c1) ∧ W.cell? ⟨w.heap.size, 2, none⟩ = some (.slice a2 m.final.length c2)) := fun W hW =>
      have hW0 := hb02.trans (hW.mono hb02.size)
      ⟨HBW.out W hW0, (hW.cell (p := ⟨w1.heap.size, 2, none⟩) (by show w1.heap.size < _; omega)).trans j2, HKB.out W hW0⟩
    have hP0 : Below w2.heap.size w2 w2.drew := (Below.refl _ _).drew
    have q1 := HPC.out _ hP0
    obtain ⟨qb, q2, q3, q4, q5⟩ := HPC.out w2 (Below.refl _ _)
    have qq := q1.1
    clear hb1 hb2 hb02 j0 j1 j2 q1 qb
    go_wp2_with fail
    rw [← e2]
    clear e2
    have hP := hP0
    go_region_with (first
      | (go_at_call 47; refine (HLE.out _ qq).mono ?_; rintro e w' ⟨rfl, hbx⟩; have hP := hP.trans (hbx.mono hP.size); obtain ⟨qq, q2, q3, q4, q5⟩ := HPC.out _ hP; clear hbx)
      | (go_at_call 46; refine (HFN.out _ _ ?_ qq).mono ?_; (first | exact Or.inl rfl | exact Or.inr rfl); rintro e w' ⟨rfl, hbx⟩; have hP := hP.trans (hbx.mono hP.size); obtain ⟨qq, q2, q3, q4, q5⟩ := HPC.out _ hP; clear hbx))
    all_goals
      have HQQ := Lib.hid qq
      clear qq hP
      go_wp2_with fail
      go_ret
      exact ⟨by rw [HF.out] <;> rfl, HQQ.out⟩

end Go.Proofs.YtkapbhlnjmfaaaaDoor
