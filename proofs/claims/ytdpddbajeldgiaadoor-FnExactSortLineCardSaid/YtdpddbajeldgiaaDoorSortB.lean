/- SortCycle, SortLength, SortLine, program and reference, and the law of SortLine. Conditions: those of each contract. -/
import Derived.Test.YtdpddbajeldgiaaDoorSortA
import Derived.Test.YtdpddbajeldgiaaDoorRepB
namespace Go.Proofs.YtdpddbajeldgiaaDoor
set_option linter.unusedVariables false
open Go.RowKit

theorem itB_sz (n : Int) (h : i64B n) : (itB n).size ≤ 21 := itB_len n h
noncomputable def soLn (n b k : Int) : ByteArray := if soOk n b k = true then itB (cycI (sst b k.toNat) n) ++ ⟨#[32]⟩ ++ fmtN (cycR (sst b k.toNat) n) else ⟨#[110, 111, 110, 101]⟩
theorem isSorted_any (n b k : Int) (w : World) :
    Calls Tryd.prog 104 #[.int .i64 n, .int .i64 b, .int .i64 k] w fun r w' => r = .returned (.bool (soOk n b k)) ∧ w = w' := by
  have HF : Hid (soOk n b k = (inB b 2 16 && inB k 2 5 && inB n 0 (b ^ k.toNat - 1))) := rfl
  cases hb : inB b 2 16
  · have HX := Lib.hid hb
    go_enter Tryd.func104, Tryd.ntmps104
    go_wp2_with (first | (go_at_call 75; refine (BaseOk_any _ _).mono ?_; rintro e w' ⟨rfl, rfl⟩) | (go_at_call 87; refine (within_any _ _ _ _).mono ?_; rintro e w' ⟨rfl, rfl⟩))
    go_ret
    exact ⟨by rw [HF.out, HX.out] <;> rfl, rfl⟩
  cases hk : inB k 2 5
  · have HX := Lib.hid hb
    have HY := Lib.hid hk
    go_enter Tryd.func104, Tryd.ntmps104
    go_wp2_with (first | (go_at_call 75; refine (BaseOk_any _ _).mono ?_; rintro e w' ⟨rfl, rfl⟩) | (go_at_call 87; refine (within_any _ _ _ _).mono ?_; rintro e w' ⟨rfl, rfl⟩))
    go_ret
    exact ⟨by rw [HF.out, HX.out, HY.out] <;> rfl, rfl⟩
  · have HX := Lib.hid hb
    have HY := Lib.hid hk
    obtain ⟨b1, b2⟩ := inB_t.1 hb
    obtain ⟨k1, k2⟩ := inB_t.1 hk
    obtain ⟨K, rfl⟩ : ∃ K : Nat, k = (K : Int) := ⟨k.toNat, by omega⟩
    rw [Int.toNat_natCast] at HF
    obtain ⟨p1, p2⟩ := pow_k5' b K b1 b2 (by omega)
    have HPW : Hid (∀ W : World, Calls Tryd.prog 123 #[.int .i64 b, .int .i64 K] W fun e w' => e = .returned (.int .i64 (b ^ K)) ∧ W = w') := fun W => power_any b K W (by omega) (by omega) (by omega)
    generalize b ^ K = P at *
    go_enter Tryd.func104, Tryd.ntmps104
    go_wp2_with (first | (go_at_call 75; refine (BaseOk_any _ _).mono ?_; rintro e w' ⟨rfl, rfl⟩) | (go_at_call 87; refine (within_any _ _ _ _).mono ?_; rintro e w' ⟨rfl, rfl⟩) | (go_at_call 123; refine (HPW.out _).mono ?_; rintro e w' ⟨rfl, rfl⟩))
    go_ret
    exact ⟨by rw [HF.out, HX.out, HY.out] <;> rfl, rfl⟩
theorem SortCycle1_any (x b : Int) (k p q : Nat) (w : World) (hx0 : 0 ≤ x) (hx1 : x ≤ 1000000000000) (hb1 : 2 ≤ b) (hb2 : b ≤ 16) (hk1 : 2 ≤ k) (hk2 : k ≤ 5) (hp : w.cell? ⟨p, 0, none⟩ = some (.int .i64 b)) (hq : w.cell? ⟨q, 0, none⟩ = some (.int .i64 k)) :
    Calls Tryd.prog 105 #[.int .i64 x, .pointer (some ⟨p, 0, none⟩), .pointer (some ⟨q, 0, none⟩)] w fun r w' => r = .returned (.int .i64 (sst b k x)) ∧ Below w.heap.size w w' := by
  have HP := Lib.hid (sortStep_any x b k w hx0 hx1 hb1 hb2 hk1 hk2)
  generalize sst b k x = s at *
  go_enter Tryd.func105, Tryd.ntmps105
  go_wp2_with fail
  refine HP.out.mono ?_
  rintro r w' ⟨rfl, hb⟩
  have HB := Lib.hid hb
  clear hb
  go_wp2_with fail
  go_ret
  exact ⟨rfl, HB.out⟩
theorem SortCycle_no (n b k : Int) (w : World) (h : soOk n b k = false) :
    Calls Tryd.prog 65 #[.int .i64 n, .int .i64 b, .int .i64 k] w fun r w' => r = .returned (.slice none 0 0) ∧ Below w.heap.size w w' := by
  have HP : Hid (∀ W : World, Calls Tryd.prog 104 #[.int .i64 n, .int .i64 b, .int .i64 k] W fun r w' => r = .returned (.bool false) ∧ W = w') := fun W => by rw [← h]; exact isSorted_any n b k W
  have HB : Hid (∀ o1 o2, Below w.heap.size w ((w.alloc o1).alloc o2)) := fun o1 o2 => ((Below.refl _ _).alloc (Nat.le_refl _) _).alloc (by simp) _
  clear h
  go_enter Tryd.func65, Tryd.ntmps65
  go_wp2_with fail
  refine (HP.out _).mono ?_
  rintro r w1 ⟨rfl, rfl⟩
  go_wp2_with fail
  go_ret
  exact ⟨rfl, HB.out _ _⟩
set_option maxRecDepth 8000 in
theorem SortCycle_ok (n b : Int) (k : Nat) (w : World) (h : soOk n b k = true) :
    Calls Tryd.prog 65 #[.int .i64 n, .int .i64 b, .int .i64 k] w (RetI w (cycR (sst b k) n)) := by
  obtain ⟨h1, h2, h3, h4, h5, h6⟩ := soOk_t h
  rw [Int.toNat_natCast] at h6
  have HP : Hid (∀ W : World, Calls Tryd.prog 104 #[.int .i64 n, .int .i64 b, .int .i64 k] W fun r w' => r = .returned (.bool true) ∧ W = w') := fun W => by rw [← h]; exact isSorted_any n b k W
  obtain ⟨p1, p2⟩ := pow_k5' b k h1 h2 (by omega)
  clear h
  have HC : Hid (∀ W : World, W.cell? ⟨w.heap.size, 0, none⟩ = some (.int .i64 b) → W.cell? ⟨w.heap.size + 1, 0, none⟩ = some (.int .i64 k) → w.heap.size + 1 < W.heap.size →
      Calls Tryd.prog 97 #[.int .i64 n, .func (.func 105) #[] #[.pointer (some ⟨w.heap.size, 0, none⟩), .pointer (some ⟨w.heap.size + 1, 0, none⟩)]] W (RetC W (cycI (sst b k) n) (cycR (sst b k) n))) := fun W hp hq hl =>
    cycleFrom_any 105 w.heap.size (w.heap.size + 1) (b ^ k).toNat (b ^ k - 1) (sst b k) n W (sst_stays b k h1 h2 (by omega)) h5 h6 (fun _ _ => rfl)
      (fun x W2 hx0 hx1 hW2 => SortCycle1_any x b k _ _ W2 hx0 (by omega) h1 h2 (by omega) (by omega) ((hW2.cell (p := ⟨w.heap.size, 0, none⟩) (by show w.heap.size < _; omega)).trans hp) ((hW2.cell (p := ⟨w.heap.size + 1, 0, none⟩) hl).trans hq))
  have hmf : ∀ (fn : Fn) (first cap : Array Value) (w : World), (Instr.makeFunc fn first cap).run Tryd.prog w = .ok (.func fn first cap) w := fun _ _ _ _ => rfl
  have HB : Hid (∀ o1 o2, Below w.heap.size w ((w.alloc o1).alloc o2)) := fun o1 o2 => ((Below.refl _ _).alloc (Nat.le_refl _) _).alloc (by simp) _
  have HCL : Hid (Calls Tryd.prog 97 #[.int .i64 n, .func (.func 105) #[] #[.pointer (some ⟨w.heap.size, 0, none⟩), .pointer (some ⟨w.heap.size + 1, 0, none⟩)]] ((w.alloc (.cells #[.int .i64 b] 3)).alloc (.cells #[.int .i64 k] 3)) (RetC ((w.alloc (.cells #[.int .i64 b] 3)).alloc (.cells #[.int .i64 k] 3)) (cycI (sst b k) n) (cycR (sst b k) n))) :=
    HC.out _ (by rw [World.cell?_alloc_past _ _ _ (by simp), World.cell?_alloc_at _ _ _ _ rfl]; rfl) (by rw [World.cell?_alloc_at _ _ _ _ (by simp)]; rfl) (by simp)
  have hci := (cycR_facts (sst_stays b k h1 h2 (by omega)) h5 h6).2.2.1
  clear HC h6 p1 p2
  generalize cycI (sst b k) n = ci at *
  generalize cycR (sst b k) n = cr at *
  go_enter Tryd.func65, Tryd.ntmps65
  go_wp2_with fail
  refine (HP.out _).mono ?_
  rintro r w1 ⟨rfl, rfl⟩
  go_wp2_with fail
  refine HCL.out.mono ?_
  rintro r w2 ⟨a2, c2, rfl, ho, hb2⟩
  have HO := Lib.hid (ho.lower (HB.out _ _).size)
  have HB2 := Lib.hid ((HB.out _ _).trans (hb2.mono (HB.out _ _).size))
  clear ho hb2
  go_wp2_with fail
  go_ret
  exact ⟨a2, c2, rfl, HO.out, HB2.out⟩
theorem SortLength1_any (x b : Int) (k p q : Nat) (w : World) (hx0 : 0 ≤ x) (hx1 : x ≤ 1000000000000) (hb1 : 2 ≤ b) (hb2 : b ≤ 16) (hk1 : 2 ≤ k) (hk2 : k ≤ 5) (hp : w.cell? ⟨p, 0, none⟩ = some (.int .i64 b)) (hq : w.cell? ⟨q, 0, none⟩ = some (.int .i64 k)) :
    Calls Tryd.prog 107 #[.int .i64 x, .pointer (some ⟨p, 0, none⟩), .pointer (some ⟨q, 0, none⟩)] w fun r w' => r = .returned (.int .i64 (sst b k x)) ∧ Below w.heap.size w w' := by
  have HP := Lib.hid (sortStep_any x b k w hx0 hx1 hb1 hb2 hk1 hk2)
  generalize sst b k x = s at *
  go_enter Tryd.func107, Tryd.ntmps107
  go_wp2_with fail
  refine HP.out.mono ?_
  rintro r w' ⟨rfl, hb⟩
  have HB := Lib.hid hb
  clear hb
  go_wp2_with fail
  go_ret
  exact ⟨rfl, HB.out⟩
theorem SortLength_no (n b k : Int) (w : World) (h : soOk n b k = false) :
    Calls Tryd.prog 66 #[.int .i64 n, .int .i64 b, .int .i64 k] w fun r w' => r = .returned (.int .i64 (-1)) ∧ Below w.heap.size w w' := by
  have HP : Hid (∀ W : World, Calls Tryd.prog 104 #[.int .i64 n, .int .i64 b, .int .i64 k] W fun r w' => r = .returned (.bool false) ∧ W = w') := fun W => by rw [← h]; exact isSorted_any n b k W
  have HB : Hid (∀ o1 o2, Below w.heap.size w ((w.alloc o1).alloc o2)) := fun o1 o2 => ((Below.refl _ _).alloc (Nat.le_refl _) _).alloc (by simp) _
  clear h
  go_enter Tryd.func66, Tryd.ntmps66
  go_wp2_with fail
  refine (HP.out _).mono ?_
  rintro r w1 ⟨rfl, rfl⟩
  go_wp2_with fail
  go_ret
  exact ⟨rfl, HB.out _ _⟩
set_option maxRecDepth 8000 in
theorem SortLength_ok (n b : Int) (k : Nat) (w : World) (h : soOk n b k = true) :
    Calls Tryd.prog 66 #[.int .i64 n, .int .i64 b, .int .i64 k] w fun r w' => r = .returned (.int .i64 (cycI (sst b k) n)) ∧ Below w.heap.size w w' := by
  obtain ⟨h1, h2, h3, h4, h5, h6⟩ := soOk_t h
  rw [Int.toNat_natCast] at h6
  have HP : Hid (∀ W : World, Calls Tryd.prog 104 #[.int .i64 n, .int .i64 b, .int .i64 k] W fun r w' => r = .returned (.bool true) ∧ W = w') := fun W => by rw [← h]; exact isSorted_any n b k W
  obtain ⟨p1, p2⟩ := pow_k5' b k h1 h2 (by omega)
  clear h
  have HC : Hid (∀ W : World, W.cell? ⟨w.heap.size, 0, none⟩ = some (.int .i64 b) → W.cell? ⟨w.heap.size + 1, 0, none⟩ = some (.int .i64 k) → w.heap.size + 1 < W.heap.size →
      Calls Tryd.prog 97 #[.int .i64 n, .func (.func 107) #[] #[.pointer (some ⟨w.heap.size, 0, none⟩), .pointer (some ⟨w.heap.size + 1, 0, none⟩)]] W (RetC W (cycI (sst b k) n) (cycR (sst b k) n))) := fun W hp hq hl =>
    cycleFrom_any 107 w.heap.size (w.heap.size + 1) (b ^ k).toNat (b ^ k - 1) (sst b k) n W (sst_stays b k h1 h2 (by omega)) h5 h6 (fun _ _ => rfl)
      (fun x W2 hx0 hx1 hW2 => SortLength1_any x b k _ _ W2 hx0 (by omega) h1 h2 (by omega) (by omega) ((hW2.cell (p := ⟨w.heap.size, 0, none⟩) (by show w.heap.size < _; omega)).trans hp) ((hW2.cell (p := ⟨w.heap.size + 1, 0, none⟩) hl).trans hq))
  have hmf : ∀ (fn : Fn) (first cap : Array Value) (w : World), (Instr.makeFunc fn first cap).run Tryd.prog w = .ok (.func fn first cap) w := fun _ _ _ _ => rfl
  have HB : Hid (∀ o1 o2, Below w.heap.size w ((w.alloc o1).alloc o2)) := fun o1 o2 => ((Below.refl _ _).alloc (Nat.le_refl _) _).alloc (by simp) _
  have HCL : Hid (Calls Tryd.prog 97 #[.int .i64 n, .func (.func 107) #[] #[.pointer (some ⟨w.heap.size, 0, none⟩), .pointer (some ⟨w.heap.size + 1, 0, none⟩)]] ((w.alloc (.cells #[.int .i64 b] 3)).alloc (.cells #[.int .i64 k] 3)) (RetC ((w.alloc (.cells #[.int .i64 b] 3)).alloc (.cells #[.int .i64 k] 3)) (cycI (sst b k) n) (cycR (sst b k) n))) :=
    HC.out _ (by rw [World.cell?_alloc_past _ _ _ (by simp), World.cell?_alloc_at _ _ _ _ rfl]; rfl) (by rw [World.cell?_alloc_at _ _ _ _ (by simp)]; rfl) (by simp)
  have hci := (cycR_facts (sst_stays b k h1 h2 (by omega)) h5 h6).2.2.1
  clear HC h6 p1 p2
  generalize cycI (sst b k) n = ci at *
  generalize cycR (sst b k) n = cr at *
  go_enter Tryd.func66, Tryd.ntmps66
  go_wp2_with fail
  refine (HP.out _).mono ?_
  rintro r w1 ⟨rfl, rfl⟩
  go_wp2_with fail
  refine HCL.out.mono ?_
  rintro r w2 ⟨a2, c2, rfl, ho, hb2⟩
  have HO := Lib.hid (ho.lower (HB.out _ _).size)
  have HB2 := Lib.hid ((HB.out _ _).trans (hb2.mono (HB.out _ _).size))
  clear ho hb2
  go_wp2_with fail
  go_ret
  exact ⟨rfl, HB2.out⟩
theorem l22Fits_any (n b k : Int) (w : World) :
    Calls Tryd.prog 103 #[.int .i64 n, .int .i64 b, .int .i64 k] w fun r w' => r = .returned (.bool (soOk n b k)) ∧ Below w.heap.size w w' := by
  have HF := Lib.hid (soOk_fits n b k)
  cases hx : (inB b 2 16 && inB n 0 1000000000000)
  · have HX := Lib.hid hx
    go_enter Tryd.func103, Tryd.ntmps103
    go_wp2_with (first | (go_at_call 117; refine (l02Ok_any _ _ _).mono ?_; rintro e w' ⟨rfl, rfl⟩) | (go_at_call 84; refine (l01In_any _ _ _ _).mono ?_; rintro e w' ⟨rfl, rfl⟩))
    go_ret
    exact ⟨by rw [HF.out, HX.out] <;> rfl, Below.refl _ _⟩
  cases hk : inB k 2 5
  · have HX := Lib.hid hx
    have HY := Lib.hid hk
    go_enter Tryd.func103, Tryd.ntmps103
    go_wp2_with (first | (go_at_call 117; refine (l02Ok_any _ _ _).mono ?_; rintro e w' ⟨rfl, rfl⟩) | (go_at_call 84; refine (l01In_any _ _ _ _).mono ?_; rintro e w' ⟨rfl, rfl⟩))
    go_ret
    exact ⟨by rw [HF.out, HX.out, HY.out] <;> rfl, Below.refl _ _⟩
  · have HX := Lib.hid hx
    have HY := Lib.hid hk
    rw [Bool.and_eq_true] at hx
    obtain ⟨b1, b2⟩ := inB_t.1 hx.1
    obtain ⟨n1, n2⟩ := inB_t.1 hx.2
    have HD : Hid (∀ W : World, Calls Tryd.prog 129 #[.int .i64 n, .int .i64 b] W (RetI W (digs n b))) := fun W => l02Digits_any n b W (by omega) b1 b2
    have hdl := digs_len n b
    have HX2 := HX
    have hxx := HX.out
    clear hx
    generalize digs n b = D at *
    go_enter Tryd.func103, Tryd.ntmps103
    go_wp2_with (first | (go_at_call 117; refine (l02Ok_any _ _ _).mono ?_; rintro e w' ⟨rfl, rfl⟩) | (go_at_call 84; refine (l01In_any _ _ _ _).mono ?_; rintro e w' ⟨rfl, rfl⟩) | (go_at_call 129; refine (HD.out _).mono ?_; rintro e w1 ⟨a1, c1, rfl, ho1, hb1⟩))
    go_ret
    exact ⟨by rw [HF.out, HX2.out, HY.out] <;> rfl, hb1⟩
theorem l22Step1_any (x : Int) (b k : Nat) (w : World) (hx0 : 0 ≤ x) (hx1 : x < (b : Int) ^ k) (hb1 : 2 ≤ b) (hb2 : b ≤ 16) (hk1 : 2 ≤ k) (hk2 : k ≤ 5) :
    Calls Tryd.prog 118 #[.int .i64 x, .int .i64 b, .int .i64 k, .int .i64 1] w fun r w' => r = .returned (.int .i64 (sst b k x)) ∧ Below w.heap.size w w' := by
  have HP := Lib.hid (l22Sort_any x b k w hx0 hx1 hb1 hb2 hk1 hk2)
  clear hx1
  generalize sst b k x = s at *
  go_enter Tryd.func118, Tryd.ntmps118
  go_wp2_with fail
  refine HP.out.mono ?_
  rintro r w' ⟨rfl, hb⟩
  have HB := Lib.hid hb
  clear hb
  go_wp2_with fail
  go_ret
  exact ⟨rfl, HB.out⟩
theorem sSortCycle_no (n b k : Int) (w : World) (h : soOk n b k = false) :
    Calls Tryd.prog 63 #[.int .i64 n, .int .i64 b, .int .i64 k] w fun r w' => r = .returned (.slice none 0 0) ∧ Below w.heap.size w w' := by
  have HP : Hid (Calls Tryd.prog 103 #[.int .i64 n, .int .i64 b, .int .i64 k] w fun r w' => r = .returned (.bool false) ∧ Below w.heap.size w w') := by rw [← h]; exact l22Fits_any n b k w
  clear h
  go_enter Tryd.func63, Tryd.ntmps63
  go_wp2_with fail
  refine HP.out.mono ?_
  rintro r w1 ⟨rfl, hb⟩
  have HB := Lib.hid hb
  clear hb
  go_wp2_with fail
  go_ret
  exact ⟨rfl, HB.out⟩
theorem sSortCycle_ok (n : Int) (b k : Nat) (w : World) (h : soOk n b k = true) :
    Calls Tryd.prog 63 #[.int .i64 n, .int .i64 b, .int .i64 k] w (RetI w (cycR (sst b k) n)) := by
  obtain ⟨h1, h2, h3, h4, h5, h6⟩ := soOk_t h
  rw [Int.toNat_natCast] at h6
  have HP : Hid (Calls Tryd.prog 103 #[.int .i64 n, .int .i64 b, .int .i64 k] w fun r w' => r = .returned (.bool true) ∧ Below w.heap.size w w') := by rw [← h]; exact l22Fits_any n b k w
  have HC : Hid (∀ W : World, Calls Tryd.prog 95 #[.int .i64 n, .int .i64 b, .int .i64 k, .int .i64 1] W (RetL W (cycI (sst b k) n) (cycR (sst b k) n))) := fun W =>
    l22Cycle_any b k 1 ((b : Int) ^ k).toNat ((b : Int) ^ k - 1) (sst b k) n W (sst_stays b k h1 h2 (by omega)) h5 h6 (fun x W2 hx0 hx1 => l22Step1_any x b k W2 hx0 (by omega) (by omega) (by omega) (by omega) (by omega))
  clear h h6
  generalize cycI (sst b k) n = ci at *
  generalize cycR (sst b k) n = cr at *
  go_enter Tryd.func63, Tryd.ntmps63
  go_wp2_with fail
  refine HP.out.mono ?_
  rintro r w1 ⟨rfl, hb⟩
  have HB := Lib.hid hb
  clear hb
  go_wp2_with fail
  refine (HC.out _).mono ?_
  rintro r w2 ⟨a2, c2, rfl, ho, hb2⟩
  have HO := Lib.hid (ho.lower HB.out.size)
  have HB2 := Lib.hid (HB.out.trans (hb2.mono HB.out.size))
  clear ho hb2
  go_wp2_with fail
  go_ret
  exact ⟨a2, c2, rfl, HO.out, HB2.out⟩
theorem sSortLength_no (n b k : Int) (w : World) (h : soOk n b k = false) :
    Calls Tryd.prog 64 #[.int .i64 n, .int .i64 b, .int .i64 k] w fun r w' => r = .returned (.int .i64 (-1)) ∧ Below w.heap.size w w' := by
  have HP : Hid (Calls Tryd.prog 103 #[.int .i64 n, .int .i64 b, .int .i64 k] w fun r w' => r = .returned (.bool false) ∧ Below w.heap.size w w') := by rw [← h]; exact l22Fits_any n b k w
  clear h
  go_enter Tryd.func64, Tryd.ntmps64
  go_wp2_with fail
  refine HP.out.mono ?_
  rintro r w1 ⟨rfl, hb⟩
  have HB := Lib.hid hb
  clear hb
  go_wp2_with fail
  go_ret
  exact ⟨rfl, HB.out⟩
theorem sSortLength_ok (n : Int) (b k : Nat) (w : World) (h : soOk n b k = true) :
    Calls Tryd.prog 64 #[.int .i64 n, .int .i64 b, .int .i64 k] w fun r w' => r = .returned (.int .i64 (cycI (sst b k) n)) ∧ Below w.heap.size w w' := by
  obtain ⟨h1, h2, h3, h4, h5, h6⟩ := soOk_t h
  rw [Int.toNat_natCast] at h6
  have HP : Hid (Calls Tryd.prog 103 #[.int .i64 n, .int .i64 b, .int .i64 k] w fun r w' => r = .returned (.bool true) ∧ Below w.heap.size w w') := by rw [← h]; exact l22Fits_any n b k w
  have HC : Hid (∀ W : World, Calls Tryd.prog 95 #[.int .i64 n, .int .i64 b, .int .i64 k, .int .i64 1] W (RetL W (cycI (sst b k) n) (cycR (sst b k) n))) := fun W =>
    l22Cycle_any b k 1 ((b : Int) ^ k).toNat ((b : Int) ^ k - 1) (sst b k) n W (sst_stays b k h1 h2 (by omega)) h5 h6 (fun x W2 hx0 hx1 => l22Step1_any x b k W2 hx0 (by omega) (by omega) (by omega) (by omega) (by omega))
  clear h h6
  generalize cycI (sst b k) n = ci at *
  generalize cycR (sst b k) n = cr at *
  go_enter Tryd.func64, Tryd.ntmps64
  go_wp2_with fail
  refine HP.out.mono ?_
  rintro r w1 ⟨rfl, hb⟩
  have HB := Lib.hid hb
  clear hb
  go_wp2_with fail
  refine (HC.out _).mono ?_
  rintro r w2 ⟨a2, c2, rfl, ho, hb2⟩
  have HO := Lib.hid (ho.lower HB.out.size)
  have HB2 := Lib.hid (HB.out.trans (hb2.mono HB.out.size))
  clear ho hb2
  go_wp2_with fail
  go_ret
  exact ⟨rfl, HB2.out⟩
set_option maxRecDepth 8000 in
theorem SortLine_any (n b k : Int) (w : World) (ht : Tab w) :
    Calls Tryd.prog 30 #[.int .i64 n, .int .i64 b, .int .i64 k] w fun r w' => r = .returned (.string (soLn n b k)) ∧ Below w.heap.size w w' := by
  cases hq : soOk n b k
  · have HF : Hid (soLn n b k = ⟨#[110, 111, 110, 101]⟩) := by show _ = _; simp [soLn, hq]
    have HP := Lib.hid (SortCycle_no n b k w hq)
    have hnn := fun (w : World) => Lib.run_eql_slice_nil (P := Tryd.prog) w 22 3 none 0 0 0 0 Tryd.underlying22
    clear hq
    go_enter Tryd.func30, Tryd.ntmps30
    go_wp2_with fail
    refine HP.out.mono ?_
    rintro r w1 ⟨rfl, hb⟩
    have HB := Lib.hid hb
    clear hb
    go_wp2_with fail
    go_ret
    exact ⟨by rw [HF.out] <;> rfl, HB.out⟩
  · obtain ⟨h1, h2, h3, h4, h5, h6⟩ := soOk_t hq
    obtain ⟨K, rfl⟩ : ∃ K : Nat, k = (K : Int) := ⟨k.toNat, by omega⟩
    obtain ⟨B, rfl⟩ : ∃ B : Nat, b = (B : Int) := ⟨b.toNat, by omega⟩
    rw [Int.toNat_natCast] at h6
    have HF : Hid (soLn n B K = itB (cycI (sst B K) n) ++ ⟨#[32]⟩ ++ fmtN (cycR (sst B K) n)) := by show _ = _; rw [soLn, if_pos hq, Int.toNat_natCast]
    have HP := Lib.hid (SortCycle_ok n B K w hq)
    have HLN : Hid (∀ W : World, Calls Tryd.prog 66 #[.int .i64 n, .int .i64 B, .int .i64 K] W fun r w' => r = .returned (.int .i64 (cycI (sst B K) n)) ∧ Below W.heap.size W w') := fun W => SortLength_ok n B K W hq
    obtain ⟨p1, p2⟩ := pow_k5' B K h1 h2 (by omega)
    obtain ⟨f1, f2, f3, f4⟩ := cycR_facts (sst_stays B K h1 h2 (by omega)) h5 h6
    have hok : okI (cycR (sst B K) n) := fun x hx => by have := f4 x hx; exact ⟨by omega, by omega⟩
    have hcl : (cycR (sst B K) n).length ≤ 1048577 := by omega
    have hci : cycI (sst B K) n ≤ 1048577 := by omega
    have HOK := Lib.hid hok
    have hfs := fmtN_size _ hok
    have HT := Lib.hid ht
    clear ht
    clear hq f2 f3 f4 hok h6 p1 p2
    generalize cycR (sst B K) n = cr at *
    generalize cycI (sst B K) n = ci at *
    have HIB : Hid (i64B (ci : Int)) := ⟨by omega, by omega⟩
    have his := itB_sz _ HIB.out
    go_enter Tryd.func30, Tryd.ntmps30
    go_wp2_with fail
    refine HP.out.mono ?_
    rintro r w1 ⟨a1, c1, rfl, ho, hb⟩
    have HB := Lib.hid hb
    have HX1 := Lib.hid ho.ints
    obtain ⟨g, rfl, -, -, -⟩ := ho.someN (by omega)
    have hnn := fun (w : World) => Lib.run_eql_slice_nil (P := Tryd.prog) w 22 3 (some ⟨g, 0, none⟩) cr.length c1 0 0 Tryd.underlying22
    clear hb ho
    go_wp2_with fail
    refine (HLN.out _).mono ?_
    rintro r w2 ⟨rfl, hb2⟩
    have HB2 := Lib.hid (HB.out.trans (hb2.mono HB.out.size))
    have HX2 := Lib.hid ((HX1.out.below hb2).mono hb2.size)
    have HFI := Lib.hid (FormatInt_any ci w2 HIB.out (HT.out.upd HB2.out))
    generalize itB (ci : Int) = t1 at *
    clear hb2
    go_wp2_with fail
    refine HFI.out.mono ?_
    rintro r w3 ⟨rfl, hb3⟩
    have HB3 := Lib.hid (HB2.out.trans (hb3.mono HB2.out.size))
    have HFN := Lib.hid (FormatNumbers_any _ c1 cr w3 ((HX2.out.below hb3).mono hb3.size) (by omega) HOK.out (HT.out.upd HB3.out))
    generalize fmtN cr = t2 at *
    clear hb3
    go_wp2_with fail
    refine HFN.out.mono ?_
    rintro r w4 ⟨rfl, hb4⟩
    have HB4 := Lib.hid (HB3.out.trans (hb4.mono HB3.out.size))
    clear hb4
    go_wp2_with fail
    go_ret
    exact ⟨by rw [HF.out] <;> rfl, HB4.out⟩
set_option maxRecDepth 8000 in
theorem sSortLine_any (n b k : Int) (w : World) :
    Calls Tryd.prog 29 #[.int .i64 n, .int .i64 b, .int .i64 k] w fun r w' => r = .returned (.string (soLn n b k)) ∧ Below w.heap.size w w' := by
  cases hq : soOk n b k
  · have HF : Hid (soLn n b k = ⟨#[110, 111, 110, 101]⟩) := by show _ = _; simp [soLn, hq]
    have HP := Lib.hid (sSortCycle_no n b k w hq)
    have hnn := fun (w : World) => Lib.run_eql_slice_nil (P := Tryd.prog) w 22 3 none 0 0 0 0 Tryd.underlying22
    clear hq
    go_enter Tryd.func29, Tryd.ntmps29
    go_wp2_with fail
    refine HP.out.mono ?_
    rintro r w1 ⟨rfl, hb⟩
    have HB := Lib.hid hb
    clear hb
    go_wp2_with fail
    go_ret
    exact ⟨by rw [HF.out] <;> rfl, HB.out⟩
  · obtain ⟨h1, h2, h3, h4, h5, h6⟩ := soOk_t hq
    obtain ⟨K, rfl⟩ : ∃ K : Nat, k = (K : Int) := ⟨k.toNat, by omega⟩
    obtain ⟨B, rfl⟩ : ∃ B : Nat, b = (B : Int) := ⟨b.toNat, by omega⟩
    rw [Int.toNat_natCast] at h6
    have HF : Hid (soLn n B K = itB (cycI (sst B K) n) ++ ⟨#[32]⟩ ++ fmtN (cycR (sst B K) n)) := by show _ = _; rw [soLn, if_pos hq, Int.toNat_natCast]
    have HP := Lib.hid (sSortCycle_ok n B K w hq)
    have HLN : Hid (∀ W : World, Calls Tryd.prog 64 #[.int .i64 n, .int .i64 B, .int .i64 K] W fun r w' => r = .returned (.int .i64 (cycI (sst B K) n)) ∧ Below W.heap.size W w') := fun W => sSortLength_ok n B K W hq
    obtain ⟨p1, p2⟩ := pow_k5' B K h1 h2 (by omega)
    obtain ⟨f1, f2, f3, f4⟩ := cycR_facts (sst_stays B K h1 h2 (by omega)) h5 h6
    have hok : okI (cycR (sst B K) n) := fun x hx => by have := f4 x hx; exact ⟨by omega, by omega⟩
    have hcl : (cycR (sst B K) n).length ≤ 1048577 := by omega
    have hci : cycI (sst B K) n ≤ 1048577 := by omega
    have HOK := Lib.hid hok
    have hfs := fmtN_size _ hok
    clear hq f2 f3 f4 hok h6 p1 p2
    generalize cycR (sst B K) n = cr at *
    generalize cycI (sst B K) n = ci at *
    have HIB : Hid (i64B (ci : Int)) := ⟨by omega, by omega⟩
    have his := itB_sz _ HIB.out
    have hz : ((cr.length : Int) == 0) = false := by rw [beq_eq_false_iff_ne]; omega
    go_enter Tryd.func29, Tryd.ntmps29
    go_wp2_with fail
    refine HP.out.mono ?_
    rintro r w1 ⟨a1, c1, rfl, ho, hb⟩
    have HB := Lib.hid hb
    have HX1 := Lib.hid ho.ints
    clear hb ho
    go_wp2_with fail
    refine (HLN.out _).mono ?_
    rintro r w2 ⟨rfl, hb2⟩
    have HB2 := Lib.hid (HB.out.trans (hb2.mono HB.out.size))
    have HX2 := Lib.hid ((HX1.out.below hb2).mono hb2.size)
    have HFI := Lib.hid (sFormatInt_any ci w2 HIB.out)
    generalize itB (ci : Int) = t1 at *
    clear hb2
    go_wp2_with fail
    refine HFI.out.mono ?_
    rintro r w3 ⟨rfl, hb3⟩
    have HB3 := Lib.hid (HB2.out.trans (hb3.mono HB2.out.size))
    have HFN := Lib.hid (sFormatNumbers_any _ c1 cr w3 ((HX2.out.below hb3).mono hb3.size) (by omega) HOK.out)
    generalize fmtN cr = t2 at *
    clear hb3
    go_wp2_with fail
    refine HFN.out.mono ?_
    rintro r w4 ⟨rfl, hb4⟩
    have HB4 := Lib.hid (HB3.out.trans (hb4.mono HB3.out.size))
    clear hb4
    go_wp2_with fail
    go_ret
    exact ⟨by rw [HF.out] <;> rfl, HB4.out⟩
set_option maxHeartbeats 2000000 in
theorem law_FnExactSortLine (n : Int) (b : Int) (k : Int) (w : World) (fn : (Lit.int .i64 n).wf = true) (fb : (Lit.int .i64 b).wf = true) (fk : (Lit.int .i64 k).wf = true) (ht : Tab w) :
    Calls Tryd.prog 10 #[.int .i64 n, .int .i64 b, .int .i64 k] w fun e w' => e = .returned (.bool true) ∧ Below w.heap.size w w' := by
  have HB0 : Hid (Below w.heap.size w w) := Below.refl _ _
  have HT := Lib.hid ht; clear ht
  go_enter Tryd.func10, Tryd.ntmps10
  go_wp2_with fail
  refine (sSortLine_any n b k _).mono ?_
  rintro e w1 ⟨rfl, hb⟩
  have hu := Below.upd hb; clear hb
  have hs1 := hu.size
  have HB1 : Hid (Below w.heap.size w w1) := HB0.out.trans (hu.below (by omega) (by omega))
  clear hu
  go_wp2_with fail
  refine (SortLine_any n b k _ (HT.out.upd HB1.out)).mono ?_
  rintro e w2 ⟨rfl, hb⟩
  have hu := Below.upd hb; clear hb
  have hs2 := hu.size
  have HB2 : Hid (Below w.heap.size w w2) := HB1.out.trans (hu.below (by omega) (by omega))
  clear hu
  go_wp2_with fail
  go_ret
  exact ⟨rfl, HB2.out⟩

end Go.Proofs.YtdpddbajeldgiaaDoor
