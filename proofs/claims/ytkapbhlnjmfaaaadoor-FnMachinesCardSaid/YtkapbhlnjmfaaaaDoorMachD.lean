/- Machines: AcceptsNumber, LeastAccepted. Conditions: those of each contract. -/
import Derived.Test.YtkapbhlnjmfaaaaDoorMachC
import Derived.Deep.RegionHeld3
namespace Go.Proofs.YtkapbhlnjmfaaaaDoor
set_option linter.unusedVariables false
open Go.RowKit

def finM (m : Ma) (n : Int) : Bool := m.final.getD (runM m (digs n m.base)).toNat false
def accR (m : Ma) (n : Int) : Bool := maOk m && inB n 0 1000000000000 && finM m n
theorem fin_get {m : Ma} (h : maOk m = true) (n : Int) : ∃ i : Nat, runM m (digs n m.base) = (i : Int) ∧ ∃ hi : i < m.final.length, finM m n = m.final[i] := by
  obtain ⟨r1, r2⟩ := runM_bd h (digs n m.base) (digs_mem n m.base (maOk_t h).1)
  have hi : (runM m (digs n m.base)).toNat < m.final.length := by omega
  exact ⟨_, by omega, hi, by simp [finM, List.getD, hi]⟩
def leastR (m : Ma) : Int := if maOk m = false then -1 else match (List.range 10000).find? (fun (n : Nat) => finM m (n : Int)) with
  | some n => (n : Int)
  | none => -1
theorem leastR_found {m : Ma} (h : maOk m = true) (k : Nat) (hk : k < 10000) (h1 : ∀ j : Nat, j < k → finM m (j : Int) = false) (h2 : finM m (k : Int) = true) : leastR m = (k : Int) := by
  have : (List.range 10000).find? (fun (n : Nat) => finM m (n : Int)) = some k := by
    rw [List.find?_range_eq_some]
    exact ⟨h2, by simp [hk], fun j hj => by simp [h1 j hj]⟩
  simp [leastR, h, this]
theorem leastR_none {m : Ma} (h : maOk m = true) (h1 : ∀ j : Nat, j < 10000 → finM m (j : Int) = false) : leastR m = -1 := by
  have : (List.range 10000).find? (fun (n : Nat) => finM m (n : Int)) = none := by
    rw [List.find?_range_eq_none]
    exact fun j hj => by simp [h1 j hj]
  simp [leastR, h, this]
set_option maxHeartbeats 4000000 in
theorem AcceptsNumber_any (a1 : Option Addr) (c1 : Nat) (a2 : Option Addr) (c2 : Nat) (m : Ma) (n : Int) (w : World) (hm : Mach w w.heap.size a1 c1 a2 c2 m) :
    Calls Tryd.prog 15 #[.agg #[.int .i64 m.base, .slice a1 m.next.length c1, .slice a2 m.final.length c2], .int .i64 n] w fun e w' => e = .returned (.bool (accR m n)) ∧ Below w.heap.size w w' := by
  obtain ⟨w0, e0, hb0, hs0, k0, k1, k2⟩ := box_new m.base a1 m.next.length c1 a2 m.final.length c2 w
  have HBW : Hid (∀ W : World, Below w0.heap.size w0 W → Below w.heap.size w W) := fun W hW => hb0.trans (hW.mono (by omega))
  have HOKC : Hid (∀ W : World, Below w0.heap.size w0 W → Calls Tryd.prog 19 #[.agg #[.int .i64 m.base, .slice a1 m.next.length c1, .slice a2 m.final.length c2]] W fun e w' => e = .returned (.bool (maOk m)) ∧ Below w0.heap.size w0 w') := fun W hW => (MachineOk_any a1 c1 a2 c2 m W (hm.later (HBW.out W hW))).mono (fun e w' h => ⟨h.1, hW.trans (h.2.mono hW.size)⟩)
  have HKS : Hid (∀ W : World, Below w0.heap.size w0 W → W.cell? ⟨w.heap.size, 0, none⟩ = some (.int .i64 m.base) ∧ W.cell? ⟨w.heap.size, 1, none⟩ = some (.slice a1 m.next.length c1) ∧ W.cell? ⟨w.heap.size, 2, none⟩ = some (.slice a2 m.final.length c2)) := fun W hW =>
    ⟨(hW.cell (p := ⟨w.heap.size, 0, none⟩) (by show w.heap.size < _; omega)).trans k0, (hW.cell (p := ⟨w.heap.size, 1, none⟩) (by show w.heap.size < _; omega)).trans k1, (hW.cell (p := ⟨w.heap.size, 2, none⟩) (by show w.heap.size < _; omega)).trans k2⟩
  have HML : Hid (∀ W : World, Below w0.heap.size w0 W → Mach W W.heap.size a1 c1 a2 c2 m) := fun W hW => hm.later (HBW.out W hW)
  have HBS : Hid (Bools w w.heap.size a2 c2 m.final) := hm.bools
  have HBR : Hid (Below w0.heap.size w0 w0) := Below.refl _ _
  have HB0 := Lib.hid hb0
  clear hb0 hm
  have HIN : Hid (∀ W : World, Calls Tryd.prog 38 #[.int .i64 n] W fun e w' => e = .returned (.bool (inB n 0 1000000000000)) ∧ W = w') := fun W => isNumber_any n W
  obtain ⟨k0, k1, k2⟩ := HKS.out _ HBR.out
  have HOKD : Hid (∀ W : World, (W.cell? ⟨w.heap.size, 0, none⟩ = some (.int .i64 m.base) ∧ W.cell? ⟨w.heap.size, 1, none⟩ = some (.slice a1 m.next.length c1) ∧ W.cell? ⟨w.heap.size, 2, none⟩ = some (.slice a2 m.final.length c2) ∧ Below w0.heap.size w0 W) → Calls Tryd.prog 19 #[.agg #[.int .i64 m.base, .slice a1 m.next.length c1, .slice a2 m.final.length c2]] W fun e w' => e = .returned (.bool (maOk m)) ∧ (w'.cell? ⟨w.heap.size, 0, none⟩ = some (.int .i64 m.base) ∧ w'.cell? ⟨w.heap.size, 1, none⟩ = some (.slice a1 m.next.length c1) ∧ w'.cell? ⟨w.heap.size, 2, none⟩ = some (.slice a2 m.final.length c2) ∧ Below w0.heap.size w0 w')) := fun W hW =>
    (HOKC.out W hW.2.2.2).mono (fun e w' h => ⟨h.1, (HKS.out w' h.2).1, (HKS.out w' h.2).2.1, (HKS.out w' h.2).2.2, h.2⟩)
  have HSD : Hid (w0.drew.cell? ⟨w.heap.size, 0, none⟩ = some (.int .i64 m.base) ∧ w0.drew.cell? ⟨w.heap.size, 1, none⟩ = some (.slice a1 m.next.length c1) ∧ w0.drew.cell? ⟨w.heap.size, 2, none⟩ = some (.slice a2 m.final.length c2) ∧ Below w0.heap.size w0 w0.drew) := ⟨(HKS.out _ HBR.out.drew).1, (HKS.out _ HBR.out.drew).2.1, (HKS.out _ HBR.out.drew).2.2, HBR.out.drew⟩
  cases hok : maOk m
  · have HF : Hid (accR m n = false) := by show _ = _; simp [accR, hok]
    rw [hok] at HOKD
    clear hok HOKC
    go_enter Tryd.func15, Tryd.ntmps15
    go_wp2_with fail
    rw [← e0]
    clear e0
    refine wp_region_any (by kernel_rfl) ?_
    (try (change wpAny _ _ _ _ _ _ _ (World.drew _)))
    refine wpAny_ready (rs := [0]) (by kernel_rfl) (by simp) ?_
    refine AllReady.cons rfl (fun K hK => ?_) AllReady.nil
    go_simp
    first | (refine hK _ _ ?_; clear hK K) | skip
    try simp only [Act.put, List.getElem_toArray, List.getElem_cons_zero, List.getElem_cons_succ, List.setIfInBounds_toArray, List.set_cons_zero, List.set_cons_succ]
    refine wpAny_ready (rs := [1]) (by kernel_rfl) (by simp) ?_
    refine AllReady.cons rfl (fun K hK => ?_) AllReady.nil
    go_simp
    go_wp2_with (go_at_call 19; refine (HOKD.out _ ?_).mono ?_; (first | assumption | exact HSD.out | exact ⟨by assumption, by assumption, by assumption, by assumption⟩); rintro e w1 ⟨rfl, s0, s1, s2, s3⟩)
    first | (refine hK _ _ ?_; clear hK K) | skip
    try simp only [Act.put, List.getElem_toArray, List.getElem_cons_zero, List.getElem_cons_succ, List.setIfInBounds_toArray, List.set_cons_zero, List.set_cons_succ]
    refine wpAny_take (i := 2) (v := ?_) rfl (by kernel_rfl) (by kernel_rfl) (by kernel_rfl) (fun _ _ _ h => h) (Or.inl ⟨by rfl, ?_⟩) ?_
    rotate_left
    · intro w; go_simp; try with_reducible rfl
    try simp only [Act.put, List.getElem_toArray, List.getElem_cons_zero, List.getElem_cons_succ, List.setIfInBounds_toArray, List.set_cons_zero, List.set_cons_succ]
    refine wpAny_take (i := 3) (v := undef) rfl (by kernel_rfl) (by kernel_rfl) (by kernel_rfl) (fun _ _ _ h => h) (Or.inr ⟨by rfl, rfl⟩) ?_
    try simp only [Act.put, List.getElem_toArray, List.getElem_cons_zero, List.getElem_cons_succ, List.setIfInBounds_toArray, List.set_cons_zero, List.set_cons_succ]
    refine wpAny_take (i := 4) (v := undef) rfl (by kernel_rfl) (by kernel_rfl) (by kernel_rfl) (fun _ _ _ h => h) (Or.inr ⟨by rfl, rfl⟩) ?_
    try simp only [Act.put, List.getElem_toArray, List.getElem_cons_zero, List.getElem_cons_succ, List.setIfInBounds_toArray, List.set_cons_zero, List.set_cons_succ]
    refine wpAny_take (i := 5) (v := ?_) rfl (by kernel_rfl) (by kernel_rfl) (by kernel_rfl) (fun _ _ _ h => h) (Or.inl ⟨by rfl, ?_⟩) ?_
    rotate_left
    · intro w; go_simp; try with_reducible rfl
    try simp only [Act.put, List.getElem_toArray, List.getElem_cons_zero, List.getElem_cons_succ, List.setIfInBounds_toArray, List.set_cons_zero, List.set_cons_succ]
    refine wpAny_take (i := 6) (v := ?_) rfl (by kernel_rfl) (by kernel_rfl) (by kernel_rfl) (fun _ _ _ h => h) (Or.inl ⟨by rfl, ?_⟩) ?_
    rotate_left
    · intro w; go_simp; try with_reducible rfl
    try simp only [Act.put, List.getElem_toArray, List.getElem_cons_zero, List.getElem_cons_succ, List.setIfInBounds_toArray, List.set_cons_zero, List.set_cons_succ]
    refine wpAny_take (i := 7) (v := undef) rfl (by kernel_rfl) (by kernel_rfl) (by kernel_rfl) (fun _ _ _ h => h) (Or.inr ⟨by rfl, rfl⟩) ?_
    try simp only [Act.put, List.getElem_toArray, List.getElem_cons_zero, List.getElem_cons_succ, List.setIfInBounds_toArray, List.set_cons_zero, List.set_cons_succ]
    refine wpAny_take (i := 8) (v := undef) rfl (by kernel_rfl) (by kernel_rfl) (by kernel_rfl) (fun _ _ _ h => h) (Or.inr ⟨by rfl, rfl⟩) ?_
    try simp only [Act.put, List.getElem_toArray, List.getElem_cons_zero, List.getElem_cons_succ, List.setIfInBounds_toArray, List.set_cons_zero, List.set_cons_succ]
    refine wpAny_take (i := 9) (v := undef) rfl (by kernel_rfl) (by kernel_rfl) (by kernel_rfl) (fun _ _ _ h => h) (Or.inr ⟨by rfl, rfl⟩) ?_
    try simp only [Act.put, List.getElem_toArray, List.getElem_cons_zero, List.getElem_cons_succ, List.setIfInBounds_toArray, List.set_cons_zero, List.set_cons_succ]
    refine wpAny_take (i := 10) (v := undef) rfl (by kernel_rfl) (by kernel_rfl) (by kernel_rfl) (fun _ _ _ h => h) (Or.inr ⟨by rfl, rfl⟩) ?_
    try simp only [Act.put, List.getElem_toArray, List.getElem_cons_zero, List.getElem_cons_succ, List.setIfInBounds_toArray, List.set_cons_zero, List.set_cons_succ]
    refine wpAny_take (i := 11) (v := undef) rfl (by kernel_rfl) (by kernel_rfl) (by kernel_rfl) (fun _ _ _ h => h) (Or.inr ⟨by rfl, rfl⟩) ?_
    try simp only [Act.put, List.getElem_toArray, List.getElem_cons_zero, List.getElem_cons_succ, List.setIfInBounds_toArray, List.set_cons_zero, List.set_cons_succ]
    refine wpAny_take (i := 12) (v := undef) rfl (by kernel_rfl) (by kernel_rfl) (by kernel_rfl) (fun _ _ _ h => h) (Or.inr ⟨by rfl, rfl⟩) ?_
    try simp only [Act.put, List.getElem_toArray, List.getElem_cons_zero, List.getElem_cons_succ, List.setIfInBounds_toArray, List.set_cons_zero, List.set_cons_succ]
    refine wpAny_take (i := 13) (v := undef) rfl (by kernel_rfl) (by kernel_rfl) (by kernel_rfl) (fun _ _ _ h => h) (Or.inr ⟨by rfl, rfl⟩) ?_
    try simp only [Act.put, List.getElem_toArray, List.getElem_cons_zero, List.getElem_cons_succ, List.setIfInBounds_toArray, List.set_cons_zero, List.set_cons_succ]
    refine wpAny_take (i := 14) (v := undef) rfl (by kernel_rfl) (by kernel_rfl) (by kernel_rfl) (fun _ _ _ h => h) (Or.inr ⟨by rfl, rfl⟩) ?_
    try simp only [Act.put, List.getElem_toArray, List.getElem_cons_zero, List.getElem_cons_succ, List.setIfInBounds_toArray, List.set_cons_zero, List.set_cons_succ]
    refine wpAny_take (i := 15) (v := undef) rfl (by kernel_rfl) (by kernel_rfl) (by kernel_rfl) (fun _ _ _ h => h) (Or.inr ⟨by rfl, rfl⟩) ?_
    try simp only [Act.put, List.getElem_toArray, List.getElem_cons_zero, List.getElem_cons_succ, List.setIfInBounds_toArray, List.set_cons_zero, List.set_cons_succ]
    refine wpAny_take (i := 16) (v := undef) rfl (by kernel_rfl) (by kernel_rfl) (by kernel_rfl) (fun _ _ _ h => h) (Or.inr ⟨by rfl, rfl⟩) ?_
    try simp only [Act.put, List.getElem_toArray, List.getElem_cons_zero, List.getElem_cons_succ, List.setIfInBounds_toArray, List.set_cons_zero, List.set_cons_succ]
    refine wpAny_take (i := 17) (v := ?_) rfl (by kernel_rfl) (by kernel_rfl) (by kernel_rfl) (fun _ _ _ h => h) (Or.inl ⟨by rfl, ?_⟩) ?_
    rotate_left
    · intro w; go_simp; try with_reducible rfl
    try simp only [Act.put, List.getElem_toArray, List.getElem_cons_zero, List.getElem_cons_succ, List.setIfInBounds_toArray, List.set_cons_zero, List.set_cons_succ]
    refine wpAny_ready (rs := [18]) (by kernel_rfl) (by simp) ?_
    refine AllReady.cons rfl (fun K hK => ?_) AllReady.nil
    go_simp
    first | (refine hK _ _ ?_; clear hK K) | skip
    try simp only [Act.put, List.getElem_toArray, List.getElem_cons_zero, List.getElem_cons_succ, List.setIfInBounds_toArray, List.set_cons_zero, List.set_cons_succ]
    refine wpAny_done (by kernel_rfl) ?_ _
    all_goals go_wp2_with fail
    all_goals go_ret
    all_goals exact ⟨by rw [HF.out] <;> rfl, HBW.out _ s3⟩
  cases hin : inB n 0 1000000000000
  · have HF : Hid (accR m n = false) := by show _ = _; simp [accR, hin]
    rw [hok] at HOKD
    rw [hin] at HIN
    clear hok hin HOKC
    go_enter Tryd.func15, Tryd.ntmps15
    go_wp2_with fail
    rw [← e0]
    clear e0
    refine wp_region_any (by kernel_rfl) ?_
    (try (change wpAny _ _ _ _ _ _ _ (World.drew _)))
    refine wpAny_ready (rs := [0]) (by kernel_rfl) (by simp) ?_
    refine AllReady.cons rfl (fun K hK => ?_) AllReady.nil
    go_simp
    first | (refine hK _ _ ?_; clear hK K) | skip
    try simp only [Act.put, List.getElem_toArray, List.getElem_cons_zero, List.getElem_cons_succ, List.setIfInBounds_toArray, List.set_cons_zero, List.set_cons_succ]
    refine wpAny_ready (rs := [1]) (by kernel_rfl) (by simp) ?_
    refine AllReady.cons rfl (fun K hK => ?_) AllReady.nil
    go_simp
    go_wp2_with (go_at_call 19; refine (HOKD.out _ ?_).mono ?_; (first | assumption | exact HSD.out | exact ⟨by assumption, by assumption, by assumption, by assumption⟩); rintro e w1 ⟨rfl, s0, s1, s2, s3⟩)
    first | (refine hK _ _ ?_; clear hK K) | skip
    try simp only [Act.put, List.getElem_toArray, List.getElem_cons_zero, List.getElem_cons_succ, List.setIfInBounds_toArray, List.set_cons_zero, List.set_cons_succ]
    refine wpAny_take (i := 2) (v := ?_) rfl (by kernel_rfl) (by kernel_rfl) (by kernel_rfl) (fun _ _ _ h => h) (Or.inl ⟨by rfl, ?_⟩) ?_
    rotate_left
    · intro w; go_simp; try with_reducible rfl
    try simp only [Act.put, List.getElem_toArray, List.getElem_cons_zero, List.getElem_cons_succ, List.setIfInBounds_toArray, List.set_cons_zero, List.set_cons_succ]
    refine wpAny_take (i := 3) (v := ?_) rfl (by kernel_rfl) (by kernel_rfl) (by kernel_rfl) (fun _ _ _ h => h) (Or.inl ⟨by rfl, ?_⟩) ?_
    rotate_left
    · intro w; go_simp; try with_reducible rfl
    try simp only [Act.put, List.getElem_toArray, List.getElem_cons_zero, List.getElem_cons_succ, List.setIfInBounds_toArray, List.set_cons_zero, List.set_cons_succ]
    refine wpAny_ready (rs := [4]) (by kernel_rfl) (by simp) ?_
    refine AllReady.cons rfl (fun K hK => ?_) AllReady.nil
    go_simp
    go_wp2_with (go_at_call 38; refine (HIN.out _).mono ?_; rintro e w' ⟨rfl, rfl⟩)
    first | (refine hK _ _ ?_; clear hK K) | skip
    try simp only [Act.put, List.getElem_toArray, List.getElem_cons_zero, List.getElem_cons_succ, List.setIfInBounds_toArray, List.set_cons_zero, List.set_cons_succ]
    refine wpAny_take (i := 5) (v := ?_) rfl (by kernel_rfl) (by kernel_rfl) (by kernel_rfl) (fun _ _ _ h => h) (Or.inl ⟨by rfl, ?_⟩) ?_
    rotate_left
    · intro w; go_simp; try with_reducible rfl
    try simp only [Act.put, List.getElem_toArray, List.getElem_cons_zero, List.getElem_cons_succ, List.setIfInBounds_toArray, List.set_cons_zero, List.set_cons_succ]
    refine wpAny_take (i := 6) (v := ?_) rfl (by kernel_rfl) (by kernel_rfl) (by kernel_rfl) (fun _ _ _ h => h) (Or.inl ⟨by rfl, ?_⟩) ?_
    rotate_left
    · intro w; go_simp; try with_reducible rfl
    try simp only [Act.put, List.getElem_toArray, List.getElem_cons_zero, List.getElem_cons_succ, List.setIfInBounds_toArray, List.set_cons_zero, List.set_cons_succ]
    refine wpAny_take (i := 7) (v := undef) rfl (by kernel_rfl) (by kernel_rfl) (by kernel_rfl) (fun _ _ _ h => h) (Or.inr ⟨by rfl, rfl⟩) ?_
    try simp only [Act.put, List.getElem_toArray, List.getElem_cons_zero, List.getElem_cons_succ, List.setIfInBounds_toArray, List.set_cons_zero, List.set_cons_succ]
    refine wpAny_take (i := 8) (v := undef) rfl (by kernel_rfl) (by kernel_rfl) (by kernel_rfl) (fun _ _ _ h => h) (Or.inr ⟨by rfl, rfl⟩) ?_
    try simp only [Act.put, List.getElem_toArray, List.getElem_cons_zero, List.getElem_cons_succ, List.setIfInBounds_toArray, List.set_cons_zero, List.set_cons_succ]
    refine wpAny_take (i := 9) (v := undef) rfl (by kernel_rfl) (by kernel_rfl) (by kernel_rfl) (fun _ _ _ h => h) (Or.inr ⟨by rfl, rfl⟩) ?_
    try simp only [Act.put, List.getElem_toArray, List.getElem_cons_zero, List.getElem_cons_succ, List.setIfInBounds_toArray, List.set_cons_zero, List.set_cons_succ]
    refine wpAny_take (i := 10) (v := undef) rfl (by kernel_rfl) (by kernel_rfl) (by kernel_rfl) (fun _ _ _ h => h) (Or.inr ⟨by rfl, rfl⟩) ?_
    try simp only [Act.put, List.getElem_toArray, List.getElem_cons_zero, List.getElem_cons_succ, List.setIfInBounds_toArray, List.set_cons_zero, List.set_cons_succ]
    refine wpAny_take (i := 11) (v := undef) rfl (by kernel_rfl) (by kernel_rfl) (by kernel_rfl) (fun _ _ _ h => h) (Or.inr ⟨by rfl, rfl⟩) ?_
    try simp only [Act.put, List.getElem_toArray, List.getElem_cons_zero, List.getElem_cons_succ, List.setIfInBounds_toArray, List.set_cons_zero, List.set_cons_succ]
    refine wpAny_take (i := 12) (v := undef) rfl (by kernel_rfl) (by kernel_rfl) (by kernel_rfl) (fun _ _ _ h => h) (Or.inr ⟨by rfl, rfl⟩) ?_
    try simp only [Act.put, List.getElem_toArray, List.getElem_cons_zero, List.getElem_cons_succ, List.setIfInBounds_toArray, List.set_cons_zero, List.set_cons_succ]
    refine wpAny_take (i := 13) (v := undef) rfl (by kernel_rfl) (by kernel_rfl) (by kernel_rfl) (fun _ _ _ h => h) (Or.inr ⟨by rfl, rfl⟩) ?_
    try simp only [Act.put, List.getElem_toArray, List.getElem_cons_zero, List.getElem_cons_succ, List.setIfInBounds_toArray, List.set_cons_zero, List.set_cons_succ]
    refine wpAny_take (i := 14) (v := undef) rfl (by kernel_rfl) (by kernel_rfl) (by kernel_rfl) (fun _ _ _ h => h) (Or.inr ⟨by rfl, rfl⟩) ?_
    try simp only [Act.put, List.getElem_toArray, List.getElem_cons_zero, List.getElem_cons_succ, List.setIfInBounds_toArray, List.set_cons_zero, List.set_cons_succ]
    refine wpAny_take (i := 15) (v := undef) rfl (by kernel_rfl) (by kernel_rfl) (by kernel_rfl) (fun _ _ _ h => h) (Or.inr ⟨by rfl, rfl⟩) ?_
    try simp only [Act.put, List.getElem_toArray, List.getElem_cons_zero, List.getElem_cons_succ, List.setIfInBounds_toArray, List.set_cons_zero, List.set_cons_succ]
    refine wpAny_take (i := 16) (v := undef) rfl (by kernel_rfl) (by kernel_rfl) (by kernel_rfl) (fun _ _ _ h => h) (Or.inr ⟨by rfl, rfl⟩) ?_
    try simp only [Act.put, List.getElem_toArray, List.getElem_cons_zero, List.getElem_cons_succ, List.setIfInBounds_toArray, List.set_cons_zero, List.set_cons_succ]
    refine wpAny_take (i := 17) (v := ?_) rfl (by kernel_rfl) (by kernel_rfl) (by kernel_rfl) (fun _ _ _ h => h) (Or.inl ⟨by rfl, ?_⟩) ?_
    rotate_left
    · intro w; go_simp; try with_reducible rfl
    try simp only [Act.put, List.getElem_toArray, List.getElem_cons_zero, List.getElem_cons_succ, List.setIfInBounds_toArray, List.set_cons_zero, List.set_cons_succ]
    refine wpAny_ready (rs := [18]) (by kernel_rfl) (by simp) ?_
    refine AllReady.cons rfl (fun K hK => ?_) AllReady.nil
    go_simp
    first | (refine hK _ _ ?_; clear hK K) | skip
    try simp only [Act.put, List.getElem_toArray, List.getElem_cons_zero, List.getElem_cons_succ, List.setIfInBounds_toArray, List.set_cons_zero, List.set_cons_succ]
    refine wpAny_done (by kernel_rfl) ?_ _
    all_goals go_wp2_with fail
    all_goals go_ret
    all_goals exact ⟨by rw [HF.out] <;> rfl, HBW.out _ s3⟩
  have HF : Hid (accR m n = finM m n) := by show _ = _; simp [accR, hok, hin]
  have hn2 := (inB_t.1 hin).2
  have hq2 := (maOk_t hok).1
  have hq10 := (maOk_t hok).2.1
  have hfl := (maOk_t hok).2.2.1
  have hfl2 := (maOk_t hok).2.2.2.1
  have HOK : Hid (maOk m = true) := hok
  have HDG : Hid (∀ (n : Int), n ≤ 1000000000000 → ∀ W : World, Below w0.heap.size w0 W → Calls Tryd.prog 37 #[.int .i64 n, .int .i64 m.base] W fun e w' => ∃ a cap, e = .returned (.slice a (digs n m.base).length cap) ∧ Ints w' w'.heap.size a cap (digs n m.base) ∧ Below w0.heap.size w0 w') := fun n hn W hW =>
    (digitsOf_any n m.base W (by omega) hq2 (by omega)).mono (fun e w' ⟨a, cap, h1, h2, h3⟩ => ⟨a, cap, h1, h2.ints, hW.trans (h3.mono hW.size)⟩)
  have HRUN : Hid (∀ (n : Int) (W : World) (a : Option Addr) (cap : Nat), Below w0.heap.size w0 W → Ints W W.heap.size a cap (digs n m.base) → Calls Tryd.prog 36 #[.agg #[.int .i64 m.base, .slice a1 m.next.length c1, .slice a2 m.final.length c2], .slice a (digs n m.base).length cap] W fun e w' => e = .returned (.int .i64 (runM m (digs n m.base))) ∧ Below w0.heap.size w0 w') := fun n W a cap hW hx =>
    (run_any a1 c1 a2 c2 m a cap (digs n m.base) W (HML.out W hW) HOK.out hx (digs_mem n m.base hq2)).mono (fun e w' h => ⟨h.1, hW.trans (h.2.mono hW.size)⟩)
  obtain ⟨-, -, b, off, hab, hcb⟩ := HBS.out
  obtain ⟨rfl, hbb⟩ := hab (by omega)
  have HFN : Hid (∀ (i : Nat) (hi : i < m.final.length) (W : World), Below w0.heap.size w0 W → W.cell? ⟨b, off + i, none⟩ = some (.bool m.final[i])) := fun i hi W hW => ((HBW.out W hW).cell (p := ⟨b, off + i, none⟩) hbb).trans (hcb i hi)
  clear hab hcb HBS
  obtain ⟨i, hri, hil, hfi⟩ := fin_get hok n
  have HOKE : Hid (∀ W : World, (W.cell? ⟨w.heap.size, 0, none⟩ = some (.int .i64 m.base) ∧ W.cell? ⟨w.heap.size, 1, none⟩ = some (.slice a1 m.next.length c1) ∧ W.cell? ⟨w.heap.size, 2, none⟩ = some (.slice (some ⟨b, off, none⟩) m.final.length c2) ∧ Below w0.heap.size w0 W ∧ W.cell? ⟨b, off + i, none⟩ = some (.bool m.final[i])) → Calls Tryd.prog 19 #[.agg #[.int .i64 m.base, .slice a1 m.next.length c1, .slice (some ⟨b, off, none⟩) m.final.length c2]] W fun e w' => e = .returned (.bool (maOk m)) ∧ (w'.cell? ⟨w.heap.size, 0, none⟩ = some (.int .i64 m.base) ∧ w'.cell? ⟨w.heap.size, 1, none⟩ = some (.slice a1 m.next.length c1) ∧ w'.cell? ⟨w.heap.size, 2, none⟩ = some (.slice (some ⟨b, off, none⟩) m.final.length c2) ∧ Below w0.heap.size w0 w' ∧ w'.cell? ⟨b, off + i, none⟩ = some (.bool m.final[i]))) := fun W hW =>
    (HOKC.out W hW.2.2.2.1).mono (fun e w' h => ⟨h.1, (HKS.out w' h.2).1, (HKS.out w' h.2).2.1, (HKS.out w' h.2).2.2, h.2, HFN.out i hil w' h.2⟩)
  have HD1 : Hid (∀ W : World, (W.cell? ⟨w.heap.size, 0, none⟩ = some (.int .i64 m.base) ∧ W.cell? ⟨w.heap.size, 1, none⟩ = some (.slice a1 m.next.length c1) ∧ W.cell? ⟨w.heap.size, 2, none⟩ = some (.slice (some ⟨b, off, none⟩) m.final.length c2) ∧ Below w0.heap.size w0 W ∧ W.cell? ⟨b, off + i, none⟩ = some (.bool m.final[i])) → Calls Tryd.prog 37 #[.int .i64 n, .int .i64 m.base] W fun e w' => ∃ a cap, e = .returned (.slice a (digs n m.base).length cap) ∧ Ints w' w'.heap.size a cap (digs n m.base) ∧ (w'.cell? ⟨w.heap.size, 0, none⟩ = some (.int .i64 m.base) ∧ w'.cell? ⟨w.heap.size, 1, none⟩ = some (.slice a1 m.next.length c1) ∧ w'.cell? ⟨w.heap.size, 2, none⟩ = some (.slice (some ⟨b, off, none⟩) m.final.length c2) ∧ Below w0.heap.size w0 w' ∧ w'.cell? ⟨b, off + i, none⟩ = some (.bool m.final[i]))) := fun W hW =>
    (HDG.out n hn2 W hW.2.2.2.1).mono (fun e w' ⟨a, cap, h1, h2, h3⟩ => ⟨a, cap, h1, h2, (HKS.out w' h3).1, (HKS.out w' h3).2.1, (HKS.out w' h3).2.2, h3, HFN.out i hil w' h3⟩)
  have HR1 : Hid (∀ (W : World) (a : Option Addr) (cap : Nat), Below w0.heap.size w0 W → Ints W W.heap.size a cap (digs n m.base) → Calls Tryd.prog 36 #[.agg #[.int .i64 m.base, .slice a1 m.next.length c1, .slice (some ⟨b, off, none⟩) m.final.length c2], .slice a (digs n m.base).length cap] W fun e w' => e = .returned (.int .i64 (i : Int)) ∧ (w'.cell? ⟨w.heap.size, 0, none⟩ = some (.int .i64 m.base) ∧ w'.cell? ⟨w.heap.size, 1, none⟩ = some (.slice a1 m.next.length c1) ∧ w'.cell? ⟨w.heap.size, 2, none⟩ = some (.slice (some ⟨b, off, none⟩) m.final.length c2) ∧ Below w0.heap.size w0 w' ∧ w'.cell? ⟨b, off + i, none⟩ = some (.bool m.final[i]))) := fun W a cap hW hx => by
    have := HRUN.out n W a cap hW hx
    rw [hri] at this
    exact this.mono (fun e w' h => ⟨h.1, (HKS.out w' h.2).1, (HKS.out w' h.2).2.1, (HKS.out w' h.2).2.2, h.2, HFN.out i hil w' h.2⟩)
  have HSE : Hid (w0.drew.cell? ⟨w.heap.size, 0, none⟩ = some (.int .i64 m.base) ∧ w0.drew.cell? ⟨w.heap.size, 1, none⟩ = some (.slice a1 m.next.length c1) ∧ w0.drew.cell? ⟨w.heap.size, 2, none⟩ = some (.slice (some ⟨b, off, none⟩) m.final.length c2) ∧ Below w0.heap.size w0 w0.drew ∧ w0.drew.cell? ⟨b, off + i, none⟩ = some (.bool m.final[i])) := ⟨(HKS.out _ HBR.out.drew).1, (HKS.out _ HBR.out.drew).2.1, (HKS.out _ HBR.out.drew).2.2, HBR.out.drew, HFN.out i hil _ HBR.out.drew⟩
  rw [hfi] at HF
  rw [hok] at HOKE
  rw [hin] at HIN
  clear hok hin hri hfi HDG HRUN HFN HOKC HOKD HSD
  generalize m.final[i] = r at *
  generalize digs n m.base = ds at *
  go_enter Tryd.func15, Tryd.ntmps15
  go_wp2_with fail
  rw [← e0]
  clear e0
  go_region_held3 (fun W => (W.cell? ⟨w.heap.size, 0, none⟩ = some (.int .i64 m.base) ∧ W.cell? ⟨w.heap.size, 1, none⟩ = some (.slice a1 m.next.length c1) ∧ W.cell? ⟨w.heap.size, 2, none⟩ = some (.slice (some ⟨b, off, none⟩) m.final.length c2) ∧ Below w0.heap.size w0 W ∧ W.cell? ⟨b, off + i, none⟩ = some (.bool r))) (first | assumption | exact HSE.out | exact ⟨s0, s1, s2, s3, s4⟩ | exact ⟨t0, t1, t2, t3, t4⟩ | exact ⟨r0, r1, r2, r3, r4⟩) (first | (go_at_call 19; refine (HOKE.out _ ?_).mono ?_; (first | assumption | exact HSE.out); rintro e w1 ⟨rfl, s0, s1, s2, s3, s4⟩) | (go_at_call 38; refine (HIN.out _).mono ?_; rintro e w' ⟨rfl, rfl⟩) | (go_at_call 37; refine (HD1.out _ ?_).mono ?_; (first | assumption | exact HSE.out); rintro e w2 ⟨a, cap, rfl, hx, t0, t1, t2, t3, t4⟩; have HX := Lib.hid hx; clear hx) | (go_at_call 36; refine (HR1.out _ _ _ t3 HX.out).mono ?_; rintro e w3 ⟨rfl, r0, r1, r2, r3, r4⟩))
  all_goals go_wp2_with fail
  all_goals go_ret
  all_goals exact ⟨by rw [HF.out] <;> rfl, HBW.out _ r3⟩
set_option maxHeartbeats 4000000 in
theorem LeastAccepted_any (a1 : Option Addr) (c1 : Nat) (a2 : Option Addr) (c2 : Nat) (m : Ma) (w : World) (hm : Mach w w.heap.size a1 c1 a2 c2 m) :
    Calls Tryd.prog 14 #[.agg #[.int .i64 m.base, .slice a1 m.next.length c1, .slice a2 m.final.length c2]] w fun e w' => e = .returned (.int .i64 (leastR m)) ∧ Below w.heap.size w w' := by
  obtain ⟨w0, e0, hb0, hs0, k0, k1, k2⟩ := box_new m.base a1 m.next.length c1 a2 m.final.length c2 w
  have HBW : Hid (∀ W : World, Below w0.heap.size w0 W → Below w.heap.size w W) := fun W hW => hb0.trans (hW.mono (by omega))
  have HOKC : Hid (∀ W : World, Below w0.heap.size w0 W → Calls Tryd.prog 19 #[.agg #[.int .i64 m.base, .slice a1 m.next.length c1, .slice a2 m.final.length c2]] W fun e w' => e = .returned (.bool (maOk m)) ∧ Below w0.heap.size w0 w') := fun W hW => (MachineOk_any a1 c1 a2 c2 m W (hm.later (HBW.out W hW))).mono (fun e w' h => ⟨h.1, hW.trans (h.2.mono hW.size)⟩)
  have HKS : Hid (∀ W : World, Below w0.heap.size w0 W → W.cell? ⟨w.heap.size, 0, none⟩ = some (.int .i64 m.base) ∧ W.cell? ⟨w.heap.size, 1, none⟩ = some (.slice a1 m.next.length c1) ∧ W.cell? ⟨w.heap.size, 2, none⟩ = some (.slice a2 m.final.length c2)) := fun W hW =>
    ⟨(hW.cell (p := ⟨w.heap.size, 0, none⟩) (by show w.heap.size < _; omega)).trans k0, (hW.cell (p := ⟨w.heap.size, 1, none⟩) (by show w.heap.size < _; omega)).trans k1, (hW.cell (p := ⟨w.heap.size, 2, none⟩) (by show w.heap.size < _; omega)).trans k2⟩
  have HML : Hid (∀ W : World, Below w0.heap.size w0 W → Mach W W.heap.size a1 c1 a2 c2 m) := fun W hW => hm.later (HBW.out W hW)
  have HBS : Hid (Bools w w.heap.size a2 c2 m.final) := hm.bools
  have HBR : Hid (Below w0.heap.size w0 w0) := Below.refl _ _
  have HB0 := Lib.hid hb0
  clear hb0 hm
  obtain ⟨k0, k1, k2⟩ := HKS.out _ HBR.out
  cases hok : maOk m
  · have HF : Hid (leastR m = -1) := by show _ = _; simp [leastR, hok]
    rw [hok] at HOKC
    clear hok
    go_enter Tryd.func14, Tryd.ntmps14
    go_wp2_with fail
    rw [← e0]
    clear e0
    refine (HOKC.out _ HBR.out).mono ?_
    rintro e w1 ⟨rfl, hb1⟩
    have HB1 := Lib.hid hb1
    clear hb1
    go_wp2_with fail
    go_ret
    exact ⟨by rw [HF.out] <;> rfl, HBW.out _ HB1.out⟩
  have hq2 := (maOk_t hok).1
  have hq10 := (maOk_t hok).2.1
  have hfl := (maOk_t hok).2.2.1
  have hfl2 := (maOk_t hok).2.2.2.1
  have HOK : Hid (maOk m = true) := hok
  have HDG : Hid (∀ (n : Int), n ≤ 1000000000000 → ∀ W : World, Below w0.heap.size w0 W → Calls Tryd.prog 37 #[.int .i64 n, .int .i64 m.base] W fun e w' => ∃ a cap, e = .returned (.slice a (digs n m.base).length cap) ∧ Ints w' w'.heap.size a cap (digs n m.base) ∧ Below w0.heap.size w0 w') := fun n hn W hW =>
    (digitsOf_any n m.base W (by omega) hq2 (by omega)).mono (fun e w' ⟨a, cap, h1, h2, h3⟩ => ⟨a, cap, h1, h2.ints, hW.trans (h3.mono hW.size)⟩)
  have HRUN : Hid (∀ (n : Int) (W : World) (a : Option Addr) (cap : Nat), Below w0.heap.size w0 W → Ints W W.heap.size a cap (digs n m.base) → Calls Tryd.prog 36 #[.agg #[.int .i64 m.base, .slice a1 m.next.length c1, .slice a2 m.final.length c2], .slice a (digs n m.base).length cap] W fun e w' => e = .returned (.int .i64 (runM m (digs n m.base))) ∧ Below w0.heap.size w0 w') := fun n W a cap hW hx =>
    (run_any a1 c1 a2 c2 m a cap (digs n m.base) W (HML.out W hW) HOK.out hx (digs_mem n m.base hq2)).mono (fun e w' h => ⟨h.1, hW.trans (h.2.mono hW.size)⟩)
  obtain ⟨-, -, b, off, hab, hcb⟩ := HBS.out
  obtain ⟨rfl, hbb⟩ := hab (by omega)
  have HFN : Hid (∀ (i : Nat) (hi : i < m.final.length) (W : World), Below w0.heap.size w0 W → W.cell? ⟨b, off + i, none⟩ = some (.bool m.final[i])) := fun i hi W hW => ((HBW.out W hW).cell (p := ⟨b, off + i, none⟩) hbb).trans (hcb i hi)
  clear hab hcb HBS
  rw [hok] at HOKC
  clear hok
  go_enter Tryd.func14, Tryd.ntmps14
  go_wp2_with fail
  rw [← e0]
  clear e0
  refine (HOKC.out _ HBR.out).mono ?_
  rintro e w1 ⟨rfl, hb1⟩
  have HB1 := Lib.hid hb1
  clear hb1 k0 k1 k2
  go_wp2_with fail
  go_loopw [7] (fun i wr => ∃ k : Nat, k ≤ 10000 ∧ i = .int .i64 k ∧ (∀ j : Nat, j < k → finM m (j : Int) = false) ∧ Below w0.heap.size w0 wr) (fun i _ => 10000 - (intOf i).toNat)
  case atStart => exact ⟨0, by omega, rfl, fun j hj => by omega, HB1.out⟩
  case round =>
    obtain ⟨k, hk, rfl, hnot, hb⟩ := hrel
    have HN := Lib.hid hnot; clear hnot
    by_cases hlt : k < 10000
    · obtain ⟨i, hri, hil, hfi⟩ := fin_get HOK.out (k : Int)
      have HD1 : Hid (∀ W : World, (W.cell? ⟨w.heap.size, 0, none⟩ = some (.int .i64 m.base) ∧ W.cell? ⟨w.heap.size, 1, none⟩ = some (.slice a1 m.next.length c1) ∧ W.cell? ⟨w.heap.size, 2, none⟩ = some (.slice (some ⟨b, off, none⟩) m.final.length c2) ∧ Below w0.heap.size w0 W ∧ W.cell? ⟨b, off + i, none⟩ = some (.bool m.final[i])) → Calls Tryd.prog 37 #[.int .i64 (k : Int), .int .i64 m.base] W fun e w' => ∃ a cap, e = .returned (.slice a (digs (k : Int) m.base).length cap) ∧ Ints w' w'.heap.size a cap (digs (k : Int) m.base) ∧ (w'.cell? ⟨w.heap.size, 0, none⟩ = some (.int .i64 m.base) ∧ w'.cell? ⟨w.heap.size, 1, none⟩ = some (.slice a1 m.next.length c1) ∧ w'.cell? ⟨w.heap.size, 2, none⟩ = some (.slice (some ⟨b, off, none⟩) m.final.length c2) ∧ Below w0.heap.size w0 w' ∧ w'.cell? ⟨b, off + i, none⟩ = some (.bool m.final[i]))) := fun W hW =>
        (HDG.out (k : Int) (by omega) W hW.2.2.2.1).mono (fun e w' ⟨a, cap, h1, h2, h3⟩ => ⟨a, cap, h1, h2, (HKS.out w' h3).1, (HKS.out w' h3).2.1, (HKS.out w' h3).2.2, h3, HFN.out i hil w' h3⟩)
      have HR1 : Hid (∀ (W : World) (a : Option Addr) (cap : Nat), Below w0.heap.size w0 W → Ints W W.heap.size a cap (digs (k : Int) m.base) → Calls Tryd.prog 36 #[.agg #[.int .i64 m.base, .slice a1 m.next.length c1, .slice (some ⟨b, off, none⟩) m.final.length c2], .slice a (digs (k : Int) m.base).length cap] W fun e w' => e = .returned (.int .i64 (i : Int)) ∧ (w'.cell? ⟨w.heap.size, 0, none⟩ = some (.int .i64 m.base) ∧ w'.cell? ⟨w.heap.size, 1, none⟩ = some (.slice a1 m.next.length c1) ∧ w'.cell? ⟨w.heap.size, 2, none⟩ = some (.slice (some ⟨b, off, none⟩) m.final.length c2) ∧ Below w0.heap.size w0 w' ∧ w'.cell? ⟨b, off + i, none⟩ = some (.bool m.final[i]))) := fun W a cap hW hx => by
        have := HRUN.out (k : Int) W a cap hW hx
        rw [hri] at this
        exact this.mono (fun e w' h => ⟨h.1, (HKS.out w' h.2).1, (HKS.out w' h.2).2.1, (HKS.out w' h.2).2.2, h.2, HFN.out i hil w' h.2⟩)
      have HSE : Hid (wr.drew.cell? ⟨w.heap.size, 0, none⟩ = some (.int .i64 m.base) ∧ wr.drew.cell? ⟨w.heap.size, 1, none⟩ = some (.slice a1 m.next.length c1) ∧ wr.drew.cell? ⟨w.heap.size, 2, none⟩ = some (.slice (some ⟨b, off, none⟩) m.final.length c2) ∧ Below w0.heap.size w0 wr.drew ∧ wr.drew.cell? ⟨b, off + i, none⟩ = some (.bool m.final[i])) := ⟨(HKS.out _ hb.drew).1, (HKS.out _ hb.drew).2.1, (HKS.out _ hb.drew).2.2, hb.drew, HFN.out i hil _ hb.drew⟩
      obtain ⟨x0, x1, x2⟩ := HKS.out _ hb
      have HBC := Lib.hid hb
      clear hb
      have HYES : Hid (m.final[i] = true → leastR m = (k : Int)) := fun h => leastR_found HOK.out k hlt HN.out (by rw [hfi]; exact h)
      have HNO : Hid (m.final[i] = false → ∀ j : Nat, j < k + 1 → finM m (j : Int) = false) := fun h j hj => by
        rcases Nat.lt_or_ge j k with h2 | h2
        · exact HN.out j h2
        · obtain rfl : j = k := by omega
          rw [hfi]; exact h
      clear hri hfi
      generalize m.final[i] = r at *
      generalize digs (k : Int) m.base = ds at *
      have hkm : (k : Int) < 10000 := by omega
      have hkd : decide ((k : Int) < 10000) = true := decide_eq_true hkm
      have hke : decide ((k : Int) ≤ 9999) = true := decide_eq_true (by omega)
      clear hk hlt
      cases r
      · go_wp2_with fail
        go_region_held3 (fun W => (W.cell? ⟨w.heap.size, 0, none⟩ = some (.int .i64 m.base) ∧ W.cell? ⟨w.heap.size, 1, none⟩ = some (.slice a1 m.next.length c1) ∧ W.cell? ⟨w.heap.size, 2, none⟩ = some (.slice (some ⟨b, off, none⟩) m.final.length c2) ∧ Below w0.heap.size w0 W ∧ W.cell? ⟨b, off + i, none⟩ = some (.bool false))) (first | assumption | exact HSE.out | exact ⟨s0, s1, s2, s3, s4⟩ | exact ⟨t0, t1, t2, t3, t4⟩ | exact ⟨r0, r1, r2, r3, r4⟩) (first | (go_at_call 37; refine (HD1.out _ ?_).mono ?_; (first | assumption | exact HSE.out); rintro e w2 ⟨a, cap, rfl, hx, t0, t1, t2, t3, t4⟩; have HX := Lib.hid hx; clear hx) | (go_at_call 36; refine (HR1.out _ _ _ t3 HX.out).mono ?_; rintro e w3 ⟨rfl, r0, r1, r2, r3, r4⟩))
        all_goals go_wp2_with fail
        all_goals go_roundw
        all_goals first | exact ⟨k + 1, by omega, by go_num, HNO.out (by simp), r3⟩ | (simp [intOf]; done) | (simp [intOf]; omega)
      · go_wp2_with fail
        go_region_held3 (fun W => (W.cell? ⟨w.heap.size, 0, none⟩ = some (.int .i64 m.base) ∧ W.cell? ⟨w.heap.size, 1, none⟩ = some (.slice a1 m.next.length c1) ∧ W.cell? ⟨w.heap.size, 2, none⟩ = some (.slice (some ⟨b, off, none⟩) m.final.length c2) ∧ Below w0.heap.size w0 W ∧ W.cell? ⟨b, off + i, none⟩ = some (.bool true))) (first | assumption | exact HSE.out | exact ⟨s0, s1, s2, s3, s4⟩ | exact ⟨t0, t1, t2, t3, t4⟩ | exact ⟨r0, r1, r2, r3, r4⟩) (first | (go_at_call 37; refine (HD1.out _ ?_).mono ?_; (first | assumption | exact HSE.out); rintro e w2 ⟨a, cap, rfl, hx, t0, t1, t2, t3, t4⟩; have HX := Lib.hid hx; clear hx) | (go_at_call 36; refine (HR1.out _ _ _ t3 HX.out).mono ?_; rintro e w3 ⟨rfl, r0, r1, r2, r3, r4⟩))
        all_goals go_wp2_with fail
        all_goals go_ret
        all_goals exact ⟨by rw [HYES.out (by simp)] <;> rfl, HBW.out _ r3⟩
    · obtain rfl : k = 10000 := by omega
      have HF := Lib.hid (leastR_none HOK.out HN.out)
      have HBC := Lib.hid hb
      clear hb
      go_wp2_with fail
      go_ret
      exact ⟨by rw [HF.out] <;> rfl, HBW.out _ HBC.out⟩
set_option maxHeartbeats 4000000 in
theorem sLeastAccepted_any (a1 : Option Addr) (c1 : Nat) (a2 : Option Addr) (c2 : Nat) (m : Ma) (w : World) (hm : Mach w w.heap.size a1 c1 a2 c2 m) :
    Calls Tryd.prog 47 #[.agg #[.int .i64 m.base, .slice a1 m.next.length c1, .slice a2 m.final.length c2]] w fun e w' => e = .returned (.int .i64 (leastR m)) ∧ Below w.heap.size w w' := by
  obtain ⟨w0, e0, hb0, hs0, k0, k1, k2⟩ := box_new m.base a1 m.next.length c1 a2 m.final.length c2 w
  have HBW : Hid (∀ W : World, Below w0.heap.size w0 W → Below w.heap.size w W) := fun W hW => hb0.trans (hW.mono (by omega))
  have HOKC : Hid (∀ W : World, Below w0.heap.size w0 W → Calls Tryd.prog 58 #[.agg #[.int .i64 m.base, .slice a1 m.next.length c1, .slice a2 m.final.length c2]] W fun e w' => e = .returned (.bool (maOk m)) ∧ Below w0.heap.size w0 w') := fun W hW => (sMachineOk_any a1 c1 a2 c2 m W (hm.later (HBW.out W hW))).mono (fun e w' h => ⟨h.1, hW.trans (h.2.mono hW.size)⟩)
  have HKS : Hid (∀ W : World, Below w0.heap.size w0 W → W.cell? ⟨w.heap.size, 0, none⟩ = some (.int .i64 m.base) ∧ W.cell? ⟨w.heap.size, 1, none⟩ = some (.slice a1 m.next.length c1) ∧ W.cell? ⟨w.heap.size, 2, none⟩ = some (.slice a2 m.final.length c2)) := fun W hW =>
    ⟨(hW.cell (p := ⟨w.heap.size, 0, none⟩) (by show w.heap.size < _; omega)).trans k0, (hW.cell (p := ⟨w.heap.size, 1, none⟩) (by show w.heap.size < _; omega)).trans k1, (hW.cell (p := ⟨w.heap.size, 2, none⟩) (by show w.heap.size < _; omega)).trans k2⟩
  have HML : Hid (∀ W : World, Below w0.heap.size w0 W → Mach W W.heap.size a1 c1 a2 c2 m) := fun W hW => hm.later (HBW.out W hW)
  have HBS : Hid (Bools w w.heap.size a2 c2 m.final) := hm.bools
  have HBR : Hid (Below w0.heap.size w0 w0) := Below.refl _ _
  have HB0 := Lib.hid hb0
  clear hb0 hm
  obtain ⟨k0, k1, k2⟩ := HKS.out _ HBR.out
  cases hok : maOk m
  · have HF : Hid (leastR m = -1) := by show _ = _; simp [leastR, hok]
    rw [hok] at HOKC
    clear hok
    go_enter Tryd.func47, Tryd.ntmps47
    go_wp2_with fail
    rw [← e0]
    clear e0
    refine (HOKC.out _ HBR.out).mono ?_
    rintro e w1 ⟨rfl, hb1⟩
    have HB1 := Lib.hid hb1
    clear hb1
    go_wp2_with fail
    go_ret
    exact ⟨by rw [HF.out] <;> rfl, HBW.out _ HB1.out⟩
  have hq2 := (maOk_t hok).1
  have hq10 := (maOk_t hok).2.1
  have hfl := (maOk_t hok).2.2.1
  have hfl2 := (maOk_t hok).2.2.2.1
  have HOK : Hid (maOk m = true) := hok
  have HDG : Hid (∀ (n : Int), n ≤ 1000000000000 → ∀ W : World, Below w0.heap.size w0 W → Calls Tryd.prog 61 #[.int .i64 n, .int .i64 m.base] W fun e w' => ∃ a cap, e = .returned (.slice a (digs n m.base).length cap) ∧ Ints w' w'.heap.size a cap (digs n m.base) ∧ Below w0.heap.size w0 w') := fun n hn W hW =>
    (l02Digits_any n m.base W (by omega) hq2 (by omega)).mono (fun e w' ⟨a, cap, h1, h2, h3⟩ => ⟨a, cap, h1, h2.ints, hW.trans (h3.mono hW.size)⟩)
  have HRUN : Hid (∀ (n : Int) (W : World) (a : Option Addr) (cap : Nat), Below w0.heap.size w0 W → Ints W W.heap.size a cap (digs n m.base) → Calls Tryd.prog 60 #[.agg #[.int .i64 m.base, .slice a1 m.next.length c1, .slice a2 m.final.length c2], .slice a (digs n m.base).length cap] W fun e w' => e = .returned (.int .i64 (runM m (digs n m.base))) ∧ Below w0.heap.size w0 w') := fun n W a cap hW hx =>
    (l17Run_any a1 c1 a2 c2 m a cap (digs n m.base) W (HML.out W hW) HOK.out hx (digs_mem n m.base hq2)).mono (fun e w' h => ⟨h.1, hW.trans (h.2.mono hW.size)⟩)
  obtain ⟨-, -, b, off, hab, hcb⟩ := HBS.out
  obtain ⟨rfl, hbb⟩ := hab (by omega)
  have HFN : Hid (∀ (i : Nat) (hi : i < m.final.length) (W : World), Below w0.heap.size w0 W → W.cell? ⟨b, off + i, none⟩ = some (.bool m.final[i])) := fun i hi W hW => ((HBW.out W hW).cell (p := ⟨b, off + i, none⟩) hbb).trans (hcb i hi)
  clear hab hcb HBS
  rw [hok] at HOKC
  clear hok
  go_enter Tryd.func47, Tryd.ntmps47
  go_wp2_with fail
  rw [← e0]
  clear e0
  refine (HOKC.out _ HBR.out).mono ?_
  rintro e w1 ⟨rfl, hb1⟩
  have HB1 := Lib.hid hb1
  clear hb1 k0 k1 k2
  go_wp2_with fail
  go_loopw [3] (fun i wr => ∃ k : Nat, k ≤ 10000 ∧ i = .int .i64 k ∧ (∀ j : Nat, j < k → finM m (j : Int) = false) ∧ Below w0.heap.size w0 wr) (fun i _ => 10000 - (intOf i).toNat)
  case atStart => exact ⟨0, by omega, rfl, fun j hj => by omega, HB1.out⟩
  case round =>
    obtain ⟨k, hk, rfl, hnot, hb⟩ := hrel
    have HN := Lib.hid hnot; clear hnot
    by_cases hlt : k < 10000
    · obtain ⟨i, hri, hil, hfi⟩ := fin_get HOK.out (k : Int)
      have HD1 : Hid (∀ W : World, (W.cell? ⟨w.heap.size, 0, none⟩ = some (.int .i64 m.base) ∧ W.cell? ⟨w.heap.size, 1, none⟩ = some (.slice a1 m.next.length c1) ∧ W.cell? ⟨w.heap.size, 2, none⟩ = some (.slice (some ⟨b, off, none⟩) m.final.length c2) ∧ Below w0.heap.size w0 W ∧ W.cell? ⟨b, off + i, none⟩ = some (.bool m.final[i])) → Calls Tryd.prog 61 #[.int .i64 (k : Int), .int .i64 m.base] W fun e w' => ∃ a cap, e = .returned (.slice a (digs (k : Int) m.base).length cap) ∧ Ints w' w'.heap.size a cap (digs (k : Int) m.base) ∧ (w'.cell? ⟨w.heap.size, 0, none⟩ = some (.int .i64 m.base) ∧ w'.cell? ⟨w.heap.size, 1, none⟩ = some (.slice a1 m.next.length c1) ∧ w'.cell? ⟨w.heap.size, 2, none⟩ = some (.slice (some ⟨b, off, none⟩) m.final.length c2) ∧ Below w0.heap.size w0 w' ∧ w'.cell? ⟨b, off + i, none⟩ = some (.bool m.final[i]))) := fun W hW =>
        (HDG.out (k : Int) (by omega) W hW.2.2.2.1).mono (fun e w' ⟨a, cap, h1, h2, h3⟩ => ⟨a, cap, h1, h2, (HKS.out w' h3).1, (HKS.out w' h3).2.1, (HKS.out w' h3).2.2, h3, HFN.out i hil w' h3⟩)
      have HR1 : Hid (∀ (W : World) (a : Option Addr) (cap : Nat), Below w0.heap.size w0 W → Ints W W.heap.size a cap (digs (k : Int) m.base) → Calls Tryd.prog 60 #[.agg #[.int .i64 m.base, .slice a1 m.next.length c1, .slice (some ⟨b, off, none⟩) m.final.length c2], .slice a (digs (k : Int) m.base).length cap] W fun e w' => e = .returned (.int .i64 (i : Int)) ∧ (w'.cell? ⟨w.heap.size, 0, none⟩ = some (.int .i64 m.base) ∧ w'.cell? ⟨w.heap.size, 1, none⟩ = some (.slice a1 m.next.length c1) ∧ w'.cell? ⟨w.heap.size, 2, none⟩ = some (.slice (some ⟨b, off, none⟩) m.final.length c2) ∧ Below w0.heap.size w0 w' ∧ w'.cell? ⟨b, off + i, none⟩ = some (.bool m.final[i]))) := fun W a cap hW hx => by
        have := HRUN.out (k : Int) W a cap hW hx
        rw [hri] at this
        exact this.mono (fun e w' h => ⟨h.1, (HKS.out w' h.2).1, (HKS.out w' h.2).2.1, (HKS.out w' h.2).2.2, h.2, HFN.out i hil w' h.2⟩)
      have HSE : Hid (wr.drew.cell? ⟨w.heap.size, 0, none⟩ = some (.int .i64 m.base) ∧ wr.drew.cell? ⟨w.heap.size, 1, none⟩ = some (.slice a1 m.next.length c1) ∧ wr.drew.cell? ⟨w.heap.size, 2, none⟩ = some (.slice (some ⟨b, off, none⟩) m.final.length c2) ∧ Below w0.heap.size w0 wr.drew ∧ wr.drew.cell? ⟨b, off + i, none⟩ = some (.bool m.final[i])) := ⟨(HKS.out _ hb.drew).1, (HKS.out _ hb.drew).2.1, (HKS.out _ hb.drew).2.2, hb.drew, HFN.out i hil _ hb.drew⟩
      obtain ⟨x0, x1, x2⟩ := HKS.out _ hb
      have HBC := Lib.hid hb
      clear hb
      have HYES : Hid (m.final[i] = true → leastR m = (k : Int)) := fun h => leastR_found HOK.out k hlt HN.out (by rw [hfi]; exact h)
      have HNO : Hid (m.final[i] = false → ∀ j : Nat, j < k + 1 → finM m (j : Int) = false) := fun h j hj => by
        rcases Nat.lt_or_ge j k with h2 | h2
        · exact HN.out j h2
        · obtain rfl : j = k := by omega
          rw [hfi]; exact h
      clear hri hfi
      generalize m.final[i] = r at *
      generalize digs (k : Int) m.base = ds at *
      have hkm : (k : Int) < 10000 := by omega
      have hkd : decide ((k : Int) < 10000) = true := decide_eq_true hkm
      have hke : decide ((k : Int) ≤ 9999) = true := decide_eq_true (by omega)
      clear hk hlt
      cases r
      · go_wp2_with fail
        go_region_held3 (fun W => (W.cell? ⟨w.heap.size, 0, none⟩ = some (.int .i64 m.base) ∧ W.cell? ⟨w.heap.size, 1, none⟩ = some (.slice a1 m.next.length c1) ∧ W.cell? ⟨w.heap.size, 2, none⟩ = some (.slice (some ⟨b, off, none⟩) m.final.length c2) ∧ Below w0.heap.size w0 W ∧ W.cell? ⟨b, off + i, none⟩ = some (.bool false))) (first | assumption | exact HSE.out | exact ⟨s0, s1, s2, s3, s4⟩ | exact ⟨t0, t1, t2, t3, t4⟩ | exact ⟨r0, r1, r2, r3, r4⟩) (first | (go_at_call 61; refine (HD1.out _ ?_).mono ?_; (first | assumption | exact HSE.out); rintro e w2 ⟨a, cap, rfl, hx, t0, t1, t2, t3, t4⟩; have HX := Lib.hid hx; clear hx) | (go_at_call 60; refine (HR1.out _ _ _ t3 HX.out).mono ?_; rintro e w3 ⟨rfl, r0, r1, r2, r3, r4⟩))
        all_goals go_wp2_with fail
        all_goals go_roundw
        all_goals first | exact ⟨k + 1, by omega, by go_num, HNO.out (by simp), r3⟩ | (simp [intOf]; done) | (simp [intOf]; omega)
      · go_wp2_with fail
        go_region_held3 (fun W => (W.cell? ⟨w.heap.size, 0, none⟩ = some (.int .i64 m.base) ∧ W.cell? ⟨w.heap.size, 1, none⟩ = some (.slice a1 m.next.length c1) ∧ W.cell? ⟨w.heap.size, 2, none⟩ = some (.slice (some ⟨b, off, none⟩) m.final.length c2) ∧ Below w0.heap.size w0 W ∧ W.cell? ⟨b, off + i, none⟩ = some (.bool true))) (first | assumption | exact HSE.out | exact ⟨s0, s1, s2, s3, s4⟩ | exact ⟨t0, t1, t2, t3, t4⟩ | exact ⟨r0, r1, r2, r3, r4⟩) (first | (go_at_call 61; refine (HD1.out _ ?_).mono ?_; (first | assumption | exact HSE.out); rintro e w2 ⟨a, cap, rfl, hx, t0, t1, t2, t3, t4⟩; have HX := Lib.hid hx; clear hx) | (go_at_call 60; refine (HR1.out _ _ _ t3 HX.out).mono ?_; rintro e w3 ⟨rfl, r0, r1, r2, r3, r4⟩))
        all_goals go_wp2_with fail
        all_goals go_ret
        all_goals exact ⟨by rw [HYES.out (by simp)] <;> rfl, HBW.out _ r3⟩
    · obtain rfl : k = 10000 := by omega
      have HF := Lib.hid (leastR_none HOK.out HN.out)
      have HBC := Lib.hid hb
      clear hb
      go_wp2_with fail
      go_ret
      exact ⟨by rw [HF.out] <;> rfl, HBW.out _ HBC.out⟩

end Go.Proofs.YtkapbhlnjmfaaaaDoor
