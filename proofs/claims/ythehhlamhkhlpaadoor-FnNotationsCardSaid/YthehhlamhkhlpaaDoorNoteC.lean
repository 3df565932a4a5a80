/- AdditiveRoman. Conditions: those of each contract. -/
import Derived.Test.YthehhlamhkhlpaaDoorNoteA
import Derived.Test.YthehhlamhkhlpaaDoorRomanA
namespace Go.Proofs.YthehhlamhkhlpaaDoor
set_option linter.unusedVariables false
open Go.RowKit

def aV : List Int := [1000, 500, 100, 50, 10, 5, 1]
def aL : List UInt8 := [77, 68, 67, 76, 88, 86, 73]
def nA (n : Int) : Nat → Int
  | 0 => n
  | k + 1 => nA n k % aV.getD k 1
def sA (n : Int) : Nat → List UInt8
  | 0 => []
  | k + 1 => sA n k ++ Lib.repeatL [aL.getD k 0] (nA n k / aV.getD k 1).toNat
def addR (n : Int) : List UInt8 := if inB n 1 3999 then sA n 7 else []
theorem aV_pos : ∀ k, 1 ≤ aV.getD k 1 := by
  intro k
  rcases Nat.lt_or_ge k 7 with h | h
  · have : ∀ j : Fin 7, 1 ≤ aV.getD j.val 1 := by decide
    exact this ⟨k, h⟩
  · have : aV.getD k 1 = 1 := by simp [List.getD, aV, h]
    omega
theorem emod_le' (a b : Int) (h0 : 0 ≤ a) (hb : 1 ≤ b) : a % b ≤ a := by
  have h1 := Int.mul_ediv_add_emod a b
  have h2 : 0 ≤ b * (a / b) := Int.mul_nonneg (by omega) (Int.ediv_nonneg h0 (by omega))
  omega
theorem nA_bd (n : Int) (h0 : 0 ≤ n) (h1 : n ≤ 3999) (k : Nat) : 0 ≤ nA n k ∧ nA n k ≤ 3999 := by
  induction k with
  | zero => exact ⟨h0, h1⟩
  | succ k ih =>
    have hp := aV_pos k
    have h2 := Int.emod_nonneg (nA n k) (show aV.getD k 1 ≠ 0 by omega)
    have h3 : nA n k % aV.getD k 1 ≤ nA n k := emod_le' _ _ ih.1 hp
    simp only [nA]
    omega
theorem sA_len (n : Int) (h0 : 0 ≤ n) (h1 : n ≤ 3999) (k : Nat) : (sA n k).length ≤ 3999 * k := by
  induction k with
  | zero => simp [sA]
  | succ k ih =>
    have hb := nA_bd n h0 h1 k
    have hq : nA n k / aV.getD k 1 ≤ nA n k := Int.ediv_le_self _ hb.1
    have hl := repeatL_len [aL.getD k 0] (nA n k / aV.getD k 1).toNat
    simp only [sA, List.length_append]
    simp only [List.length_singleton, Nat.mul_one] at hl
    omega
theorem quo_wrap (m v : Int) (h0 : 0 ≤ m) (h1 : m ≤ 3999) (hv : 1 ≤ v) : IntKind.i64.wrap (m.tdiv v) = m / v := by
  rw [Int.tdiv_eq_ediv_of_nonneg h0]
  have h2 : 0 ≤ m / v := Int.ediv_nonneg h0 (by omega)
  have h3 : m / v ≤ m := Int.ediv_le_self _ h0
  generalize m / v = q at *
  simp [IntKind.wrap, IntKind.bits, IntKind.signed] <;> omega
theorem letters7_new (w : World) : ∃ w0, w0 = w.alloc (Obj.cells #[.string ⟨#[77]⟩, .string ⟨#[68]⟩, .string ⟨#[67]⟩, .string ⟨#[76]⟩, .string ⟨#[88]⟩, .string ⟨#[86]⟩, .string ⟨#[73]⟩] 9) ∧ Below w.heap.size w w0 ∧ w0.heap.size = w.heap.size + 1 ∧
    w0.cell? ⟨w.heap.size, 0, none⟩ = some (.string ⟨#[77]⟩) ∧ w0.cell? ⟨w.heap.size, 1, none⟩ = some (.string ⟨#[68]⟩) ∧ w0.cell? ⟨w.heap.size, 2, none⟩ = some (.string ⟨#[67]⟩) ∧ w0.cell? ⟨w.heap.size, 3, none⟩ = some (.string ⟨#[76]⟩) ∧ w0.cell? ⟨w.heap.size, 4, none⟩ = some (.string ⟨#[88]⟩) ∧ w0.cell? ⟨w.heap.size, 5, none⟩ = some (.string ⟨#[86]⟩) ∧ w0.cell? ⟨w.heap.size, 6, none⟩ = some (.string ⟨#[73]⟩) := by
  refine ⟨_, rfl, (Below.refl _ _).alloc (Nat.le_refl _) _, by simp, ?_, ?_, ?_, ?_, ?_, ?_, ?_⟩
  all_goals (rw [World.cell?_alloc_new]; rfl)
set_option maxHeartbeats 2000000 in
theorem sAdditiveRoman_any (n : Int) (w : World) :
    Calls Tryd.prog 12 #[.int .i64 n] w fun e w' => e = .returned (.string ⟨(addR n).toArray⟩) ∧ Below w.heap.size w w' := by
  cases hq : inB n 1 3999
  · have HF : Hid (addR n = []) := by show _ = _; simp [addR, hq]
    go_enter Tryd.func12, Tryd.ntmps12
    go_wp2_with (go_at_call 26; refine (l01In_any _ _ _ _).mono ?_; rintro e w' ⟨rfl, rfl⟩)
    go_ret
    exact ⟨by rw [HF.out] <;> rfl, Below.refl _ _⟩
  obtain ⟨hq1, hq2⟩ := inB_t.1 hq
  have HF : Hid (addR n = sA n 7) := by show _ = _; simp [addR, hq]
  have HN := Lib.hid (nA_bd n (by omega) hq2)
  have HSL := Lib.hid (sA_len n (by omega) hq2)
  have HT : Hid (∀ (W : World) (c : UInt8) (m v x : Int), 0 ≤ m → m ≤ 3999 → 1 ≤ v → m / v ≤ 9 → x = m / v → Calls Tryd.prog 27 #[.string ⟨#[c]⟩, .int .i64 x] W fun e w' => e = .returned (.string ⟨(Lib.repeatL [c] (m / v).toNat).toArray⟩) ∧ W = w') := fun W c m v x h0 h1 h2 h3 hx => by
    have hp : 0 ≤ m / v := Int.ediv_nonneg h0 (by omega)
    have := l27Times_any [c] (m / v).toNat W (by omega) (by simp)
    rw [show (((m / v).toNat : Nat) : Int) = x by omega] at this
    exact this
  obtain ⟨w0, e0, hb0, hs0, c0, c1, c2, c3, c4, c5, c6⟩ := letters7_new w
  have HC0 := Lib.hid c0
  have HC1 := Lib.hid c1
  have HC2 := Lib.hid c2
  have HC3 := Lib.hid c3
  have HC4 := Lib.hid c4
  have HC5 := Lib.hid c5
  have HC6 := Lib.hid c6
  clear c0 c1 c2 c3 c4 c5 c6
  go_enter Tryd.func12, Tryd.ntmps12
  go_wp2_with (go_at_call 26; refine (l01In_any _ _ _ _).mono ?_; rintro e w' ⟨rfl, rfl⟩)
  rw [← e0]
  have HB0 := Lib.hid hb0
  clear e0 hq hb0
  go_loop [0, 3, 12] (fun m s i => ∃ k : Nat, k ≤ 7 ∧ i = .int .i64 k ∧ s = .string ⟨(sA n k).toArray⟩ ∧ m = .int .i64 (nA n k)) (fun _ _ i => 7 - (intOf i).toNat)
  case atStart => exact ⟨0, by omega, rfl, rfl, rfl⟩
  case round =>
    obtain ⟨k, hk, rfl, rfl, rfl⟩ := hrel
    have hsl := HSL.out k
    obtain ⟨m1, m2⟩ := HN.out k
    rcases (show k = 0 ∨ k = 1 ∨ k = 2 ∨ k = 3 ∨ k = 4 ∨ k = 5 ∨ k = 6 ∨ k = 7 by omega) with rfl | rfl | rfl | rfl | rfl | rfl | rfl | rfl
    · have HSA : Hid (sA n 1 = sA n 0 ++ Lib.repeatL [77] (nA n 0 / 1000).toNat) := rfl
      have HNA : Hid (nA n 1 = nA n 0 % 1000) := rfl
      have hc := HC0.out
      have HV : Hid (∀ (W : World) (x : Int), x = 77 → Calls Tryd.prog 23 #[.int .i64 x] W fun e w' => e = .returned (.int .i64 1000) ∧ W = w') := fun W x hx => by rw [hx]; exact l27Value_any _ W
      have HTT := Lib.hid (fun W x hx => HT.out W 77 (nA n 0) 1000 x m1 m2 (by decide) (by omega) hx)
      have HLE : Hid ((Lib.repeatL [(77 : UInt8)] (nA n 0 / 1000).toNat).length ≤ 9) := by
        show _ ≤ _
        have := repeatL_len [(77 : UInt8)] (nA n 0 / 1000).toNat
        simp only [List.length_singleton, Nat.mul_one] at this
        omega
      have hle := HLE.out
      generalize nA n 0 = m at *
      generalize Lib.repeatL [(77 : UInt8)] (m / 1000).toNat = r at *
      generalize hs0 : sA n 0 = s0 at *
      clear hs0
      go_wp2_with fail
      refine (HV.out _ _ (by first | rfl | exact (wrap64_byte _).trans rfl)).mono ?_
      rintro e w1 ⟨rfl, rfl⟩
      go_wp2_with fail
      refine (HTT.out _ _ (by first | rfl | omega | simp)).mono ?_
      rintro e w1 ⟨rfl, rfl⟩
      go_wp2_with fail
      go_round
      case rel => exact ⟨1, by omega, rfl, by rw [HSA.out, ba_app], by first | (rw [HNA.out]; done) | (rw [HNA.out]; simp)⟩
      case measure => simp [intOf]
    · have HSA : Hid (sA n 2 = sA n 1 ++ Lib.repeatL [68] (nA n 1 / 500).toNat) := rfl
      have HNA : Hid (nA n 2 = nA n 1 % 500) := rfl
      have h9 : nA n 1 < 1000 := Int.emod_lt_of_pos _ (by decide)
      have hc := HC1.out
      have HV : Hid (∀ (W : World) (x : Int), x = 68 → Calls Tryd.prog 23 #[.int .i64 x] W fun e w' => e = .returned (.int .i64 500) ∧ W = w') := fun W x hx => by rw [hx]; exact l27Value_any _ W
      have HTT := Lib.hid (fun W x hx => HT.out W 68 (nA n 1) 500 x m1 m2 (by decide) (by omega) hx)
      have HLE : Hid ((Lib.repeatL [(68 : UInt8)] (nA n 1 / 500).toNat).length ≤ 9) := by
        show _ ≤ _
        have := repeatL_len [(68 : UInt8)] (nA n 1 / 500).toNat
        simp only [List.length_singleton, Nat.mul_one] at this
        omega
      have hle := HLE.out
      generalize nA n 1 = m at *
      generalize Lib.repeatL [(68 : UInt8)] (m / 500).toNat = r at *
      generalize hs0 : sA n 1 = s0 at *
      clear hs0
      go_wp2_with fail
      refine (HV.out _ _ (by first | rfl | exact (wrap64_byte _).trans rfl)).mono ?_
      rintro e w1 ⟨rfl, rfl⟩
      go_wp2_with fail
      refine (HTT.out _ _ (by first | rfl | omega | simp)).mono ?_
      rintro e w1 ⟨rfl, rfl⟩
      go_wp2_with fail
      go_round
      case rel => exact ⟨2, by omega, rfl, by rw [HSA.out, ba_app], by first | (rw [HNA.out]; done) | (rw [HNA.out]; simp)⟩
      case measure => simp [intOf]
    · have HSA : Hid (sA n 3 = sA n 2 ++ Lib.repeatL [67] (nA n 2 / 100).toNat) := rfl
      have HNA : Hid (nA n 3 = nA n 2 % 100) := rfl
      have h9 : nA n 2 < 500 := Int.emod_lt_of_pos _ (by decide)
      have hc := HC2.out
      have HV : Hid (∀ (W : World) (x : Int), x = 67 → Calls Tryd.prog 23 #[.int .i64 x] W fun e w' => e = .returned (.int .i64 100) ∧ W = w') := fun W x hx => by rw [hx]; exact l27Value_any _ W
      have HTT := Lib.hid (fun W x hx => HT.out W 67 (nA n 2) 100 x m1 m2 (by decide) (by omega) hx)
      have HLE : Hid ((Lib.repeatL [(67 : UInt8)] (nA n 2 / 100).toNat).length ≤ 9) := by
        show _ ≤ _
        have := repeatL_len [(67 : UInt8)] (nA n 2 / 100).toNat
        simp only [List.length_singleton, Nat.mul_one] at this
        omega
      have hle := HLE.out
      generalize nA n 2 = m at *
      generalize Lib.repeatL [(67 : UInt8)] (m / 100).toNat = r at *
      generalize hs0 : sA n 2 = s0 at *
      clear hs0
      go_wp2_with fail
      refine (HV.out _ _ (by first | rfl | exact (wrap64_byte _).trans rfl)).mono ?_
      rintro e w1 ⟨rfl, rfl⟩
      go_wp2_with fail
      refine (HTT.out _ _ (by first | rfl | omega | simp)).mono ?_
      rintro e w1 ⟨rfl, rfl⟩
      go_wp2_with fail
      go_round
      case rel => exact ⟨3, by omega, rfl, by rw [HSA.out, ba_app], by first | (rw [HNA.out]; done) | (rw [HNA.out]; simp)⟩
      case measure => simp [intOf]
    · have HSA : Hid (sA n 4 = sA n 3 ++ Lib.repeatL [76] (nA n 3 / 50).toNat) := rfl
      have HNA : Hid (nA n 4 = nA n 3 % 50) := rfl
      have h9 : nA n 3 < 100 := Int.emod_lt_of_pos _ (by decide)
      have hc := HC3.out
      have HV : Hid (∀ (W : World) (x : Int), x = 76 → Calls Tryd.prog 23 #[.int .i64 x] W fun e w' => e = .returned (.int .i64 50) ∧ W = w') := fun W x hx => by rw [hx]; exact l27Value_any _ W
      have HTT := Lib.hid (fun W x hx => HT.out W 76 (nA n 3) 50 x m1 m2 (by decide) (by omega) hx)
      have HLE : Hid ((Lib.repeatL [(76 : UInt8)] (nA n 3 / 50).toNat).length ≤ 9) := by
        show _ ≤ _
        have := repeatL_len [(76 : UInt8)] (nA n 3 / 50).toNat
        simp only [List.length_singleton, Nat.mul_one] at this
        omega
      have hle := HLE.out
      generalize nA n 3 = m at *
      generalize Lib.repeatL [(76 : UInt8)] (m / 50).toNat = r at *
      generalize hs0 : sA n 3 = s0 at *
      clear hs0
      go_wp2_with fail
      refine (HV.out _ _ (by first | rfl | exact (wrap64_byte _).trans rfl)).mono ?_
      rintro e w1 ⟨rfl, rfl⟩
      go_wp2_with fail
      refine (HTT.out _ _ (by first | rfl | omega | simp)).mono ?_
      rintro e w1 ⟨rfl, rfl⟩
      go_wp2_with fail
      go_round
      case rel => exact ⟨4, by omega, rfl, by rw [HSA.out, ba_app], by first | (rw [HNA.out]; done) | (rw [HNA.out]; simp)⟩
      case measure => simp [intOf]
    · have HSA : Hid (sA n 5 = sA n 4 ++ Lib.repeatL [88] (nA n 4 / 10).toNat) := rfl
      have HNA : Hid (nA n 5 = nA n 4 % 10) := rfl
      have h9 : nA n 4 < 50 := Int.emod_lt_of_pos _ (by decide)
      have hc := HC4.out
      have HV : Hid (∀ (W : World) (x : Int), x = 88 → Calls Tryd.prog 23 #[.int .i64 x] W fun e w' => e = .returned (.int .i64 10) ∧ W = w') := fun W x hx => by rw [hx]; exact l27Value_any _ W
      have HTT := Lib.hid (fun W x hx => HT.out W 88 (nA n 4) 10 x m1 m2 (by decide) (by omega) hx)
      have HLE : Hid ((Lib.repeatL [(88 : UInt8)] (nA n 4 / 10).toNat).length ≤ 9) := by
        show _ ≤ _
        have := repeatL_len [(88 : UInt8)] (nA n 4 / 10).toNat
        simp only [List.length_singleton, Nat.mul_one] at this
        omega
      have hle := HLE.out
      generalize nA n 4 = m at *
      generalize Lib.repeatL [(88 : UInt8)] (m / 10).toNat = r at *
      generalize hs0 : sA n 4 = s0 at *
      clear hs0
      go_wp2_with fail
      refine (HV.out _ _ (by first | rfl | exact (wrap64_byte _).trans rfl)).mono ?_
      rintro e w1 ⟨rfl, rfl⟩
      go_wp2_with fail
      refine (HTT.out _ _ (by first | rfl | omega | simp)).mono ?_
      rintro e w1 ⟨rfl, rfl⟩
      go_wp2_with fail
      go_round
      case rel => exact ⟨5, by omega, rfl, by rw [HSA.out, ba_app], by first | (rw [HNA.out]; done) | (rw [HNA.out]; simp)⟩
      case measure => simp [intOf]
    · have HSA : Hid (sA n 6 = sA n 5 ++ Lib.repeatL [86] (nA n 5 / 5).toNat) := rfl
      have HNA : Hid (nA n 6 = nA n 5 % 5) := rfl
      have h9 : nA n 5 < 10 := Int.emod_lt_of_pos _ (by decide)
      have hc := HC5.out
      have HV : Hid (∀ (W : World) (x : Int), x = 86 → Calls Tryd.prog 23 #[.int .i64 x] W fun e w' => e = .returned (.int .i64 5) ∧ W = w') := fun W x hx => by rw [hx]; exact l27Value_any _ W
      have HTT := Lib.hid (fun W x hx => HT.out W 86 (nA n 5) 5 x m1 m2 (by decide) (by omega) hx)
      have HLE : Hid ((Lib.repeatL [(86 : UInt8)] (nA n 5 / 5).toNat).length ≤ 9) := by
        show _ ≤ _
        have := repeatL_len [(86 : UInt8)] (nA n 5 / 5).toNat
        simp only [List.length_singleton, Nat.mul_one] at this
        omega
      have hle := HLE.out
      generalize nA n 5 = m at *
      generalize Lib.repeatL [(86 : UInt8)] (m / 5).toNat = r at *
      generalize hs0 : sA n 5 = s0 at *
      clear hs0
      go_wp2_with fail
      refine (HV.out _ _ (by first | rfl | exact (wrap64_byte _).trans rfl)).mono ?_
      rintro e w1 ⟨rfl, rfl⟩
      go_wp2_with fail
      refine (HTT.out _ _ (by first | rfl | omega | simp)).mono ?_
      rintro e w1 ⟨rfl, rfl⟩
      go_wp2_with fail
      go_round
      case rel => exact ⟨6, by omega, rfl, by rw [HSA.out, ba_app], by first | (rw [HNA.out]; done) | (rw [HNA.out]; simp)⟩
      case measure => simp [intOf]
    · have HSA : Hid (sA n 7 = sA n 6 ++ Lib.repeatL [73] (nA n 6 / 1).toNat) := rfl
      have HNA : Hid (nA n 7 = nA n 6 % 1) := rfl
      have h9 : nA n 6 < 5 := Int.emod_lt_of_pos _ (by decide)
      have hc := HC6.out
      have HV : Hid (∀ (W : World) (x : Int), x = 73 → Calls Tryd.prog 23 #[.int .i64 x] W fun e w' => e = .returned (.int .i64 1) ∧ W = w') := fun W x hx => by rw [hx]; exact l27Value_any _ W
      have HTT := Lib.hid (fun W x hx => HT.out W 73 (nA n 6) 1 x m1 m2 (by decide) (by omega) hx)
      have HLE : Hid ((Lib.repeatL [(73 : UInt8)] (nA n 6 / 1).toNat).length ≤ 9) := by
        show _ ≤ _
        have := repeatL_len [(73 : UInt8)] (nA n 6 / 1).toNat
        simp only [List.length_singleton, Nat.mul_one] at this
        omega
      have hle := HLE.out
      generalize nA n 6 = m at *
      generalize Lib.repeatL [(73 : UInt8)] (m / 1).toNat = r at *
      generalize hs0 : sA n 6 = s0 at *
      clear hs0
      go_wp2_with fail
      refine (HV.out _ _ (by first | rfl | exact (wrap64_byte _).trans rfl)).mono ?_
      rintro e w1 ⟨rfl, rfl⟩
      go_wp2_with fail
      refine (HTT.out _ _ (by first | rfl | omega | simp)).mono ?_
      rintro e w1 ⟨rfl, rfl⟩
      go_wp2_with fail
      go_round
      case rel => exact ⟨7, by omega, rfl, by rw [HSA.out, ba_app], by first | (rw [HNA.out]; done) | (rw [HNA.out]; simp)⟩
      case measure => simp [intOf]
    · go_wp2_with fail
      go_ret
      exact ⟨by rw [HF.out] <;> rfl, HB0.out⟩
set_option maxHeartbeats 2000000 in
theorem AdditiveRoman_any (n : Int) (w : World) (ht : Tab w) :
    Calls Tryd.prog 13 #[.int .i64 n] w fun e w' => e = .returned (.string ⟨(addR n).toArray⟩) ∧ Below w.heap.size w w' := by
  cases hq : inB n 1 3999
  · have HF : Hid (addR n = []) := by show _ = _; simp [addR, hq]
    go_enter Tryd.func13, Tryd.ntmps13
    go_wp2_with (go_at_call 28; refine (within_any _ _ _ _).mono ?_; rintro e w' ⟨rfl, rfl⟩)
    go_ret
    exact ⟨by rw [HF.out] <;> rfl, Below.refl _ _⟩
  obtain ⟨hq1, hq2⟩ := inB_t.1 hq
  have HF : Hid (addR n = sA n 7) := by show _ = _; simp [addR, hq]
  have HN := Lib.hid (nA_bd n (by omega) hq2)
  have HSL := Lib.hid (sA_len n (by omega) hq2)
  have HTB := Lib.hid ht
  have hpos := ht.pos
  have HT : Hid (∀ (W : World) (c : UInt8) (m v x : Int), 0 ≤ m → m ≤ 3999 → 1 ≤ v → m / v ≤ 9 → x = m / v → Calls Tryd.prog 29 #[.string ⟨#[c]⟩, .int .i64 x] W fun e w' => e = .returned (.string ⟨(Lib.repeatL [c] (m / v).toNat).toArray⟩) ∧ Below W.heap.size W w') := fun W c m v x h0 h1 h2 h3 hx => by
    have hp : 0 ≤ m / v := Int.ediv_nonneg h0 (by omega)
    have := rep_any [c] (m / v).toNat W (by simp) (by omega)
    rw [show (((m / v).toNat : Nat) : Int) = x by omega] at this
    exact this
  clear ht
  go_enter Tryd.func13, Tryd.ntmps13
  go_wp2_with (go_at_call 28; refine (within_any _ _ _ _).mono ?_; rintro e w' ⟨rfl, rfl⟩)
  clear hq
  go_loopw [0, 3, 4] (fun m s i wr => ∃ k : Nat, k ≤ 7 ∧ i = .int .i64 (6 - (k : Int)) ∧ s = .string ⟨(sA n k).toArray⟩ ∧ m = .int .i64 (nA n k) ∧ Below w.heap.size w wr) (fun _ _ i _ => (intOf i + 1).toNat)
  case atStart => exact ⟨0, by omega, rfl, rfl, rfl, Below.refl _ _⟩
  case round =>
    obtain ⟨k, hk, rfl, rfl, rfl, hb⟩ := hrel
    have hsl := HSL.out k
    have hsz := hb.size
    obtain ⟨m1, m2⟩ := HN.out k
    have HTW := Lib.hid (HTB.out.below hb hpos)
    have HB := Lib.hid hb
    clear hb
    rcases (show k = 0 ∨ k = 1 ∨ k = 2 ∨ k = 3 ∨ k = 4 ∨ k = 5 ∨ k = 6 ∨ k = 7 by omega) with rfl | rfl | rfl | rfl | rfl | rfl | rfl | rfl
    · have HSA : Hid (sA n 1 = sA n 0 ++ Lib.repeatL [77] (nA n 0 / 1000).toNat) := rfl
      have HNA : Hid (nA n 1 = nA n 0 % 1000) := rfl
      have hc := HTW.out 6 1000 rfl
      have HTT : Hid (∀ (W : World) (x : Int), x = nA n 0 / 1000 → Calls Tryd.prog 29 #[.string ((⟨#[73, 86, 88, 76, 67, 68, 77]⟩ : ByteArray).extract 6 7), .int .i64 x] W fun e w' => e = .returned (.string ⟨(Lib.repeatL [77] (nA n 0 / 1000).toNat).toArray⟩) ∧ Below W.heap.size W w') := fun W x hx => HT.out W 77 (nA n 0) 1000 x m1 m2 (by decide) (by omega) hx
      have HLE : Hid ((Lib.repeatL [(77 : UInt8)] (nA n 0 / 1000).toNat).length ≤ 9) := by
        show _ ≤ _
        have := repeatL_len [(77 : UInt8)] (nA n 0 / 1000).toNat
        simp only [List.length_singleton, Nat.mul_one] at this
        omega
      have hle := HLE.out
      have hq0 : 0 ≤ nA n 0 / 1000 := Int.ediv_nonneg m1 (by decide)
      have hq9 : nA n 0 / 1000 ≤ 9 := by omega
      have HQ := Lib.hid (quo_wrap (nA n 0) 1000 m1 m2 (by decide))
      generalize nA n 0 = m at *
      generalize Lib.repeatL [(77 : UInt8)] (m / 1000).toNat = r at *
      generalize hs0 : sA n 0 = s0 at *
      clear hs0
      go_wp2_with fail
      go_region_with (go_at_call 29; refine (HTT.out _ _ (by first | rfl | exact HQ.out | omega | (simpa using HQ.out))).mono ?_; rintro e w1 ⟨rfl, hb⟩)
      all_goals
        have hb2 : Below wr.heap.size wr w1 := (Below.refl wr.heap.size wr).drew.trans hb
        have hc1 := (HTW.out.upd hb2) 6 1000 rfl
        have HB2 := Lib.hid hb2
        clear hb hb2
      all_goals go_wp2_with fail
      all_goals go_roundw
      all_goals first | exact ⟨1, by omega, rfl, by rw [HSA.out, ba_app], by first | (rw [HNA.out]; done) | (rw [HNA.out]; simp), HB.out.trans (HB2.out.mono (by omega))⟩ | simp [intOf]
    · have HSA : Hid (sA n 2 = sA n 1 ++ Lib.repeatL [68] (nA n 1 / 500).toNat) := rfl
      have HNA : Hid (nA n 2 = nA n 1 % 500) := rfl
      have h9 : nA n 1 < 1000 := Int.emod_lt_of_pos _ (by decide)
      have hc := HTW.out 5 500 rfl
      have HTT : Hid (∀ (W : World) (x : Int), x = nA n 1 / 500 → Calls Tryd.prog 29 #[.string ((⟨#[73, 86, 88, 76, 67, 68, 77]⟩ : ByteArray).extract 5 6), .int .i64 x] W fun e w' => e = .returned (.string ⟨(Lib.repeatL [68] (nA n 1 / 500).toNat).toArray⟩) ∧ Below W.heap.size W w') := fun W x hx => HT.out W 68 (nA n 1) 500 x m1 m2 (by decide) (by omega) hx
      have HLE : Hid ((Lib.repeatL [(68 : UInt8)] (nA n 1 / 500).toNat).length ≤ 9) := by
        show _ ≤ _
        have := repeatL_len [(68 : UInt8)] (nA n 1 / 500).toNat
        simp only [List.length_singleton, Nat.mul_one] at this
        omega
      have hle := HLE.out
      have hq0 : 0 ≤ nA n 1 / 500 := Int.ediv_nonneg m1 (by decide)
      have hq9 : nA n 1 / 500 ≤ 9 := by omega
      have HQ := Lib.hid (quo_wrap (nA n 1) 500 m1 m2 (by decide))
      generalize nA n 1 = m at *
      generalize Lib.repeatL [(68 : UInt8)] (m / 500).toNat = r at *
      generalize hs0 : sA n 1 = s0 at *
      clear hs0
      go_wp2_with fail
      go_region_with (go_at_call 29; refine (HTT.out _ _ (by first | rfl | exact HQ.out | omega | (simpa using HQ.out))).mono ?_; rintro e w1 ⟨rfl, hb⟩)
      all_goals
        have hb2 : Below wr.heap.size wr w1 := (Below.refl wr.heap.size wr).drew.trans hb
        have hc1 := (HTW.out.upd hb2) 5 500 rfl
        have HB2 := Lib.hid hb2
        clear hb hb2
      all_goals go_wp2_with fail
      all_goals go_roundw
      all_goals first | exact ⟨2, by omega, rfl, by rw [HSA.out, ba_app], by first | (rw [HNA.out]; done) | (rw [HNA.out]; simp), HB.out.trans (HB2.out.mono (by omega))⟩ | simp [intOf]
    · have HSA : Hid (sA n 3 = sA n 2 ++ Lib.repeatL [67] (nA n 2 / 100).toNat) := rfl
      have HNA : Hid (nA n 3 = nA n 2 % 100) := rfl
      have h9 : nA n 2 < 500 := Int.emod_lt_of_pos _ (by decide)
      have hc := HTW.out 4 100 rfl
      have HTT : Hid (∀ (W : World) (x : Int), x = nA n 2 / 100 → Calls Tryd.prog 29 #[.string ((⟨#[73, 86, 88, 76, 67, 68, 77]⟩ : ByteArray).extract 4 5), .int .i64 x] W fun e w' => e = .returned (.string ⟨(Lib.repeatL [67] (nA n 2 / 100).toNat).toArray⟩) ∧ Below W.heap.size W w') := fun W x hx => HT.out W 67 (nA n 2) 100 x m1 m2 (by decide) (by omega) hx
      have HLE : Hid ((Lib.repeatL [(67 : UInt8)] (nA n 2 / 100).toNat).length ≤ 9) := by
        show _ ≤ _
        have := repeatL_len [(67 : UInt8)] (nA n 2 / 100).toNat
        simp only [List.length_singleton, Nat.mul_one] at this
        omega
      have hle := HLE.out
      have hq0 : 0 ≤ nA n 2 / 100 := Int.ediv_nonneg m1 (by decide)
      have hq9 : nA n 2 / 100 ≤ 9 := by omega
      have HQ := Lib.hid (quo_wrap (nA n 2) 100 m1 m2 (by decide))
      generalize nA n 2 = m at *
      generalize Lib.repeatL [(67 : UInt8)] (m / 100).toNat = r at *
      generalize hs0 : sA n 2 = s0 at *
      clear hs0
      go_wp2_with fail
      go_region_with (go_at_call 29; refine (HTT.out _ _ (by first | rfl | exact HQ.out | omega | (simpa using HQ.out))).mono ?_; rintro e w1 ⟨rfl, hb⟩)
      all_goals
        have hb2 : Below wr.heap.size wr w1 := (Below.refl wr.heap.size wr).drew.trans hb
        have hc1 := (HTW.out.upd hb2) 4 100 rfl
        have HB2 := Lib.hid hb2
        clear hb hb2
      all_goals go_wp2_with fail
      all_goals go_roundw
      all_goals first | exact ⟨3, by omega, rfl, by rw [HSA.out, ba_app], by first | (rw [HNA.out]; done) | (rw [HNA.out]; simp), HB.out.trans (HB2.out.mono (by omega))⟩ | simp [intOf]
    · have HSA : Hid (sA n 4 = sA n 3 ++ Lib.repeatL [76] (nA n 3 / 50).toNat) := rfl
      have HNA : Hid (nA n 4 = nA n 3 % 50) := rfl
      have h9 : nA n 3 < 100 := Int.emod_lt_of_pos _ (by decide)
      have hc := HTW.out 3 50 rfl
      have HTT : Hid (∀ (W : World) (x : Int), x = nA n 3 / 50 → Calls Tryd.prog 29 #[.string ((⟨#[73, 86, 88, 76, 67, 68, 77]⟩ : ByteArray).extract 3 4), .int .i64 x] W fun e w' => e = .returned (.string ⟨(Lib.repeatL [76] (nA n 3 / 50).toNat).toArray⟩) ∧ Below W.heap.size W w') := fun W x hx => HT.out W 76 (nA n 3) 50 x m1 m2 (by decide) (by omega) hx
      have HLE : Hid ((Lib.repeatL [(76 : UInt8)] (nA n 3 / 50).toNat).length ≤ 9) := by
        show _ ≤ _
        have := repeatL_len [(76 : UInt8)] (nA n 3 / 50).toNat
        simp only [List.length_singleton, Nat.mul_one] at this
        omega
      have hle := HLE.out
      have hq0 : 0 ≤ nA n 3 / 50 := Int.ediv_nonneg m1 (by decide)
      have hq9 : nA n 3 / 50 ≤ 9 := by omega
      have HQ := Lib.hid (quo_wrap (nA n 3) 50 m1 m2 (by decide))
      generalize nA n 3 = m at *
      generalize Lib.repeatL [(76 : UInt8)] (m / 50).toNat = r at *
      generalize hs0 : sA n 3 = s0 at *
      clear hs0
      go_wp2_with fail
      go_region_with (go_at_call 29; refine (HTT.out _ _ (by first | rfl | exact HQ.out | omega | (simpa using HQ.out))).mono ?_; rintro e w1 ⟨rfl, hb⟩)
      all_goals
        have hb2 : Below wr.heap.size wr w1 := (Below.refl wr.heap.size wr).drew.trans hb
        have hc1 := (HTW.out.upd hb2) 3 50 rfl
        have HB2 := Lib.hid hb2
        clear hb hb2
      all_goals go_wp2_with fail
      all_goals go_roundw
      all_goals first | exact ⟨4, by omega, rfl, by rw [HSA.out, ba_app], by first | (rw [HNA.out]; done) | (rw [HNA.out]; simp), HB.out.trans (HB2.out.mono (by omega))⟩ | simp [intOf]
    · have HSA : Hid (sA n 5 = sA n 4 ++ Lib.repeatL [88] (nA n 4 / 10).toNat) := rfl
      have HNA : Hid (nA n 5 = nA n 4 % 10) := rfl
      have h9 : nA n 4 < 50 := Int.emod_lt_of_pos _ (by decide)
      have hc := HTW.out 2 10 rfl
      have HTT : Hid (∀ (W : World) (x : Int), x = nA n 4 / 10 → Calls Tryd.prog 29 #[.string ((⟨#[73, 86, 88, 76, 67, 68, 77]⟩ : ByteArray).extract 2 3), .int .i64 x] W fun e w' => e = .returned (.string ⟨(Lib.repeatL [88] (nA n 4 / 10).toNat).toArray⟩) ∧ Below W.heap.size W w') := fun W x hx => HT.out W 88 (nA n 4) 10 x m1 m2 (by decide) (by omega) hx
      have HLE : Hid ((Lib.repeatL [(88 : UInt8)] (nA n 4 / 10).toNat).length ≤ 9) := by
        show _ ≤ _
        have := repeatL_len [(88 : UInt8)] (nA n 4 / 10).toNat
        simp only [List.length_singleton, Nat.mul_one] at this
        omega
      have hle := HLE.out
      have hq0 : 0 ≤ nA n 4 / 10 := Int.ediv_nonneg m1 (by decide)
      have hq9 : nA n 4 / 10 ≤ 9 := by omega
      have HQ := Lib.hid (quo_wrap (nA n 4) 10 m1 m2 (by decide))
      generalize nA n 4 = m at *
      generalize Lib.repeatL [(88 : UInt8)] (m / 10).toNat = r at *
      generalize hs0 : sA n 4 = s0 at *
      clear hs0
      go_wp2_with fail
      go_region_with (go_at_call 29; refine (HTT.out _ _ (by first | rfl | exact HQ.out | omega | (simpa using HQ.out))).mono ?_; rintro e w1 ⟨rfl, hb⟩)
      all_goals
        have hb2 : Below wr.heap.size wr w1 := (Below.refl wr.heap.size wr).drew.trans hb
        have hc1 := (HTW.out.upd hb2) 2 10 rfl
        have HB2 := Lib.hid hb2
        clear hb hb2
      all_goals go_wp2_with fail
      all_goals go_roundw
      all_goals first | exact ⟨5, by omega, rfl, by rw [HSA.out, ba_app], by first | (rw [HNA.out]; done) | (rw [HNA.out]; simp), HB.out.trans (HB2.out.mono (by omega))⟩ | simp [intOf]
    · have HSA : Hid (sA n 6 = sA n 5 ++ Lib.repeatL [86] (nA n 5 / 5).toNat) := rfl
      have HNA : Hid (nA n 6 = nA n 5 % 5) := rfl
      have h9 : nA n 5 < 10 := Int.emod_lt_of_pos _ (by decide)
      have hc := HTW.out 1 5 rfl
      have HTT : Hid (∀ (W : World) (x : Int), x = nA n 5 / 5 → Calls Tryd.prog 29 #[.string ((⟨#[73, 86, 88, 76, 67, 68, 77]⟩ : ByteArray).extract 1 2), .int .i64 x] W fun e w' => e = .returned (.string ⟨(Lib.repeatL [86] (nA n 5 / 5).toNat).toArray⟩) ∧ Below W.heap.size W w') := fun W x hx => HT.out W 86 (nA n 5) 5 x m1 m2 (by decide) (by omega) hx
      have HLE : Hid ((Lib.repeatL [(86 : UInt8)] (nA n 5 / 5).toNat).length ≤ 9) := by
        show _ ≤ _
        have := repeatL_len [(86 : UInt8)] (nA n 5 / 5).toNat
        simp only [List.length_singleton, Nat.mul_one] at this
        omega
      have hle := HLE.out
      have hq0 : 0 ≤ nA n 5 / 5 := Int.ediv_nonneg m1 (by decide)
      have hq9 : nA n 5 / 5 ≤ 9 := by omega
      have HQ := Lib.hid (quo_wrap (nA n 5) 5 m1 m2 (by decide))
      generalize nA n 5 = m at *
      generalize Lib.repeatL [(86 : UInt8)] (m / 5).toNat = r at *
      generalize hs0 : sA n 5 = s0 at *
      clear hs0
      go_wp2_with fail
      go_region_with (go_at_call 29; refine (HTT.out _ _ (by first | rfl | exact HQ.out | omega | (simpa using HQ.out))).mono ?_; rintro e w1 ⟨rfl, hb⟩)
      all_goals
        have hb2 : Below wr.heap.size wr w1 := (Below.refl wr.heap.size wr).drew.trans hb
        have hc1 := (HTW.out.upd hb2) 1 5 rfl
        have HB2 := Lib.hid hb2
        clear hb hb2
      all_goals go_wp2_with fail
      all_goals go_roundw
      all_goals first | exact ⟨6, by omega, rfl, by rw [HSA.out, ba_app], by first | (rw [HNA.out]; done) | (rw [HNA.out]; simp), HB.out.trans (HB2.out.mono (by omega))⟩ | simp [intOf]
    · have HSA : Hid (sA n 7 = sA n 6 ++ Lib.repeatL [73] (nA n 6 / 1).toNat) := rfl
      have HNA : Hid (nA n 7 = nA n 6 % 1) := rfl
      have h9 : nA n 6 < 5 := Int.emod_lt_of_pos _ (by decide)
      have hc := HTW.out 0 1 rfl
      have HTT : Hid (∀ (W : World) (x : Int), x = nA n 6 / 1 → Calls Tryd.prog 29 #[.string ((⟨#[73, 86, 88, 76, 67, 68, 77]⟩ : ByteArray).extract 0 1), .int .i64 x] W fun e w' => e = .returned (.string ⟨(Lib.repeatL [73] (nA n 6 / 1).toNat).toArray⟩) ∧ Below W.heap.size W w') := fun W x hx => HT.out W 73 (nA n 6) 1 x m1 m2 (by decide) (by omega) hx
      have HLE : Hid ((Lib.repeatL [(73 : UInt8)] (nA n 6 / 1).toNat).length ≤ 9) := by
        show _ ≤ _
        have := repeatL_len [(73 : UInt8)] (nA n 6 / 1).toNat
        simp only [List.length_singleton, Nat.mul_one] at this
        omega
      have hle := HLE.out
      have hq0 : 0 ≤ nA n 6 / 1 := Int.ediv_nonneg m1 (by decide)
      have hq9 : nA n 6 / 1 ≤ 9 := by omega
      have HQ := Lib.hid (quo_wrap (nA n 6) 1 m1 m2 (by decide))
      generalize nA n 6 = m at *
      generalize Lib.repeatL [(73 : UInt8)] (m / 1).toNat = r at *
      generalize hs0 : sA n 6 = s0 at *
      clear hs0
      go_wp2_with fail
      go_region_with (go_at_call 29; refine (HTT.out _ _ (by first | rfl | exact HQ.out | omega | (simpa using HQ.out))).mono ?_; rintro e w1 ⟨rfl, hb⟩)
      all_goals
        have hb2 : Below wr.heap.size wr w1 := (Below.refl wr.heap.size wr).drew.trans hb
        have hc1 := (HTW.out.upd hb2) 0 1 rfl
        have HB2 := Lib.hid hb2
        clear hb hb2
      all_goals go_wp2_with fail
      all_goals go_roundw
      all_goals first | exact ⟨7, by omega, rfl, by rw [HSA.out, ba_app], by first | (rw [HNA.out]; done) | (rw [HNA.out]; simp), HB.out.trans (HB2.out.mono (by omega))⟩ | simp [intOf]
    · go_wp2_with fail
      go_ret
      exact ⟨by rw [HF.out] <;> rfl, HB.out⟩
theorem law_FnExactAdditiveRoman (n : Int) (w : World) (fn : (Lit.int .i64 n).wf = true) (ht : Tab w) :
    Calls Tryd.prog 5 #[.int .i64 n] w fun e w' => e = .returned (.bool true) ∧ Below w.heap.size w w' := by
  go_enter Tryd.func5, Tryd.ntmps5
  go_wp2_with fail
  refine (sAdditiveRoman_any n _).mono ?_
  rintro e w1 ⟨rfl, hb1⟩
  have hs1 := hb1.size
  have ht1 := ht.upd hb1
  go_wp2_with fail
  refine (AdditiveRoman_any n _ ht1).mono ?_
  rintro e w2 ⟨rfl, hb⟩
  go_wp2_with fail
  go_ret
  exact ⟨rfl, hb1.trans (hb.mono hs1)⟩

end Go.Proofs.YthehhlamhkhlpaaDoor
