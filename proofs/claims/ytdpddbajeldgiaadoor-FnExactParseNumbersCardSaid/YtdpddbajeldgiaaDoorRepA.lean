/- Numbers as text: FormatInt and FormatNumbers. Conditions: those of each contract. -/
import Derived.Test.YtdpddbajeldgiaaDoorStrs
import Derived.Test.YtdpddbajeldgiaaDoorMem
import Derived.Test.YtdpddbajeldgiaaDoorLawKit
import Derived.Lib.AppendIntMem
import Derived.Lib.ItoaLen
import Derived.Laws.BytesArg
namespace Go.Proofs.YtdpddbajeldgiaaDoor
set_option linter.unusedVariables false
open Go.RowKit

/-- the library's table of powers of ten stands as it is laid -/
def Tab (w : World) : Prop := Lib.TabIs Tryd.prog w "internal/strconv.uint64pow10" .u64 Lib.pow10Tab
theorem Tab.upd {w w' : World} (h : Tab w) (hb : Below w.heap.size w w') : Tab w' := Lib.tabBelow_of_tabIs h w' hb
def itB (n : Int) : ByteArray := ⟨(Lib.itoa n).toArray⟩
def i64B (n : Int) : Prop := -9223372036854775808 ≤ n ∧ n ≤ 9223372036854775807
theorem itB_len (n : Int) (h : i64B n) : (itB n).data.toList.length ≤ 21 := by
  simpa [itB] using Lib.itoa_length_le n h.1 h.2
theorem itoa_small (n : Int) (h0 : 0 ≤ n) (h : n ≤ 9) : Lib.itoa n = [UInt8.ofNat (48 + n.toNat)] := by
  rw [Lib.itoa, if_neg (by omega), Lib.decDigits_one (by omega)]
theorem decDigits_big (u : Nat) (h : 10 ≤ u) : Lib.decDigits u = Lib.decDigits (u / 10) ++ [UInt8.ofNat (48 + u % 10)] := by
  rw [Lib.decDigits, dif_neg (by omega)]
theorem itoa_neg_one (n : Int) (h0 : -9 ≤ n) (h1 : n < 0) : Lib.itoa n = [45, UInt8.ofNat (48 + n.natAbs)] := by
  rw [Lib.itoa, if_pos h1, Lib.decDigits_one (by omega)]
theorem itoa_neg_big (m : Nat) (h : 10 ≤ m) : Lib.itoa (-(m : Int)) = Lib.itoa (-((m / 10 : Nat) : Int)) ++ [UInt8.ofNat (48 + m % 10)] := by
  rw [Lib.itoa_neg m (by omega), Lib.itoa_neg (m / 10) (by omega), decDigits_big m h]
  rfl
theorem tdiv_neg10 (m : Nat) : (-(m : Int)).tdiv 10 = -((m / 10 : Nat) : Int) := by rw [Int.neg_tdiv]; rfl
theorem tmod_neg10 (m : Nat) : (-(m : Int)).tmod 10 = -((m % 10 : Nat) : Int) := by rw [Int.neg_tmod]; rfl
theorem FormatInt_any (n : Int) (w : World) (hn : i64B n) (ht : Tab w) :
    Calls Tryd.prog 33 #[.int .i64 n] w fun e w' => e = .returned (.string (itB n)) ∧ Below w.heap.size w w' := by
  have HC : Hid (∀ W, W = w → Calls Tryd.prog 67 #[.int .i64 n] W fun e w' => e = .returned (.string (itB n)) ∧ Below W.heap.size W w') := by
    rintro W rfl
    refine (Tryd.strconv_Itoa n hn.1 hn.2 W ht).mono ?_
    rintro e w' ⟨rfl, k, os, rfl⟩
    exact ⟨rfl, Lib.below_grow _ _ (Nat.le_refl _) k os⟩
  clear ht hn
  go_enter Tryd.func33, Tryd.ntmps33
  go_wp2_with fail
  refine (HC.out _ rfl).mono ?_
  rintro e w1 ⟨rfl, hb⟩
  go_wp2_with fail
  go_ret
  exact ⟨rfl, hb⟩
theorem conv1 (W : World) (x : Int) : (convert 54 9 (.slice (some ⟨W.heap.size, 0, none⟩) 1 1)).run Tryd.prog (W.alloc (.cells #[.int .u8 x] 5)) = .ok (.string (strOfNums [x])) (W.alloc (.cells #[.int .u8 x] 5)) := by
  refine run_convert_bytes_arg _ 54 5 Tryd.underlying54 Tryd.underlying5 W.heap.size 0 1 1 [x] rfl ?_ _ Tryd.underlying9
  intro i hi
  obtain rfl : i = 0 := by omega
  rw [World.cell?_alloc_new]
  rfl
theorem conv2 (W : World) (b : Nat) (x : Int) (hc : W.cell? ⟨b, 0, none⟩ = some (.int .u8 x)) : (convert 54 9 (.slice (some ⟨b, 0, none⟩) 1 1)).run Tryd.prog W = .ok (.string (strOfNums [x])) W := by
  refine run_convert_bytes_arg _ 54 5 Tryd.underlying54 Tryd.underlying5 b 0 1 1 [x] rfl ?_ _ Tryd.underlying9
  intro i hi
  obtain rfl : i = 0 := by omega
  exact hc
theorem new_cell (w : World) (x : Int) (W w1 : World) (hb : Below W.heap.size W w1) (hW : W = w.drew.alloc (.cells #[.int .u8 x] 5)) : w1.cell? ⟨w.heap.size, 0, none⟩ = some (.int .u8 x) := by
  subst hW
  refine (hb.cell (p := ⟨w.heap.size, 0, none⟩) (by simp)).trans ?_
  show (w.drew.alloc _).cell? ⟨w.drew.heap.size, 0, none⟩ = _
  rw [World.cell?_alloc_new]
  rfl
theorem strOf1 (x : Int) (c : UInt8) (h : UInt8.ofNat x.toNat = c) : strOfNums [x] = ⟨[c].toArray⟩ := by subst h; rfl
theorem sFormatInt_pos (n : Nat) (w : World) (h1 : n ≤ 9223372036854775807) :
    Calls Tryd.prog 31 #[.int .i64 n] w fun e w' => e = .returned (.string (itB n)) ∧ Below w.heap.size w w' := by
  have HI : Hid (Lib.decDigits n = Lib.decDigits n ++ []) := by show _ = _; simp
  have HL : Hid ((Lib.decDigits n).length ≤ 21) := by
    show _ ≤ _
    have := Lib.itoa_length_le (n : Int) (by omega) (by omega)
    rwa [Lib.itoa_nonneg] at this
  have kcv := conv1
  go_enter Tryd.func31, Tryd.ntmps31
  go_wp2_with fail
  go_loopw [0, 3] (fun nv s wr => ∃ (m : Nat) (r : List UInt8), m ≤ n ∧ nv = .int .i64 m ∧ s = .string ⟨r.toArray⟩ ∧ Hid (Lib.decDigits n = Lib.decDigits m ++ r) ∧ Below w.heap.size w wr) (fun nv _ _ => (intOf nv).toNat)
  case atStart => exact ⟨n, [], Nat.le_refl _, rfl, rfl, HI.out, Below.refl _ _⟩
  case round =>
    obtain ⟨m, r, hm, rfl, rfl, hr, hb⟩ := hrel
    have hrl : r.length ≤ 21 := by
      have := HL.out
      rw [hr.out, List.length_append] at this
      omega
    have HB := Lib.hid hb
    clear hb
    have hbs := HB.out.size
    by_cases h9 : 9 < (m : Int)
    · have hs1 : (strOfNums [48 + (m : Int) % 10]).size = 1 := rfl
      have HS : Hid (strOfNums [48 + (m : Int) % 10] ++ (⟨r.toArray⟩ : ByteArray) = ⟨(UInt8.ofNat (48 + m % 10) :: r).toArray⟩) := by
        show _ = _
        rw [strOf1 _ (UInt8.ofNat (48 + m % 10)) (by congr 1), ba_app]
        rfl
      have HD : Hid (Lib.decDigits n = Lib.decDigits (m / 10) ++ (UInt8.ofNat (48 + m % 10) :: r)) := by
        show _ = _
        rw [hr.out, decDigits_big m (by omega)]
        simp
      go_wp2_with fail
      go_roundw
      case rel => exact ⟨m / 10, _, by omega, by first | rfl | go_num, by rw [HS.out], HD, HB.out.alloc (by omega) _⟩
      case measure => simp [intOf]; omega
    · have hs1 : (strOfNums [48 + (m : Int)]).size = 1 := rfl
      have HS : Hid (strOfNums [48 + (m : Int)] ++ (⟨r.toArray⟩ : ByteArray) = itB n) := by
        show _ = _
        rw [strOf1 _ (UInt8.ofNat (48 + m)) (by congr 1), ba_app, itB, Lib.itoa_nonneg, hr.out, Lib.decDigits_one (by omega)]
      go_wp2_with fail
      go_ret
      exact ⟨by rw [← HS.out] <;> rfl, HB.out.alloc (by omega) _⟩
set_option maxRecDepth 8000 in
theorem sFormatInt_neg : ∀ (f m : Nat) (w : World), m ≤ f → 1 ≤ m → m ≤ 9223372036854775808 →
    Calls Tryd.prog 31 #[.int .i64 (-(m : Int))] w fun e w' => e = .returned (.string (itB (-(m : Int)))) ∧ Below w.heap.size w w' := by
  intro f
  induction f with
  | zero => intro m w h0 h1 h2; omega
  | succ f ih =>
    intro m w h0 h1 h2
    have kcv := conv1
    have hq := tdiv_neg10 m
    have hr := tmod_neg10 m
    have hneg : -(m : Int) < 0 := by omega
    by_cases h9 : m ≤ 9
    · have hz : m / 10 = 0 := by omega
      have hs1 : (strOfNums [48 + (m : Int)]).size = 1 := rfl
      have HS : Hid ((⟨#[45]⟩ : ByteArray) ++ strOfNums [48 + (m : Int)] = itB (-(m : Int))) := by
        show _ = _
        rw [strOf1 _ (UInt8.ofNat (48 + m)) (by congr 1), itB, Lib.itoa_neg m h1, Lib.decDigits_one (by omega)]
        exact ba_app [45] _
      go_enter Tryd.func31, Tryd.ntmps31
      go_wp2_with fail
      go_ret
      exact ⟨by rw [← HS.out] <;> rfl, (Below.refl _ _).alloc (Nat.le_refl _) _⟩
    · have hs1 : (strOfNums [48 + (m : Int) % 10]).size = 1 := rfl
      have HCR : Hid (∀ (W : World) (x' : Int), x' = -((m / 10 : Nat) : Int) → Calls Tryd.prog 31 #[.int .i64 x'] W fun e w' => e = .returned (.string (itB (-((m / 10 : Nat) : Int)))) ∧ Below W.heap.size W w') := fun W x' hx => by rw [hx]; exact ih (m / 10) W (by omega) (by omega) (by omega)
      have kcv2 : ∀ (W : World) (x : Int), W.cell? ⟨w.heap.size, 0, none⟩ = some (.int .u8 x) → (convert 54 9 (.slice (some ⟨w.heap.size, 0, none⟩) 1 1)).run Tryd.prog W = .ok (.string (strOfNums [x])) W := fun W x hc => conv2 W _ x hc
      have HS : Hid (itB (-((m / 10 : Nat) : Int)) ++ strOfNums [48 + (m : Int) % 10] = itB (-(m : Int))) := by
        show _ = _
        rw [strOf1 _ (UInt8.ofNat (48 + m % 10)) (by congr 1), itB, itB, itoa_neg_big m (by omega), ba_app]
      have hil : (itB (-((m / 10 : Nat) : Int))).size ≤ 21 := by
        have := itB_len (-((m / 10 : Nat) : Int)) ⟨by omega, by omega⟩
        exact this
      generalize itB (-((m / 10 : Nat) : Int)) = s1 at *
      have hk1 : IntKind.i64.wrap (-((m : Int) / 10)) = -((m : Int) / 10) := by rw [IntKind.wrap_i64]; omega
      have hk2 : IntKind.i64.wrap (48 + (m : Int) % 10) = 48 + (m : Int) % 10 := by rw [IntKind.wrap_i64]; omega
      have hk3 : IntKind.u8.wrap (48 + (m : Int) % 10) = 48 + (m : Int) % 10 := by simp [IntKind.wrap, IntKind.bits, IntKind.signed] <;> omega
      have HK1 := Lib.hid hk1
      go_enter Tryd.func31, Tryd.ntmps31
      go_wp2_with fail
      go_region_with (go_at_call 31; refine (HCR.out _ _ (by first | rfl | omega | (rw [HK1.out]; omega))).mono ?_; rintro e w1 ⟨rfl, hb⟩; try have hcx := new_cell w _ _ _ hb rfl)
      all_goals go_wp2_with fail
      all_goals go_ret
      all_goals first
        | exact ⟨by rw [← HS.out] <;> rfl, ((Below.refl w.heap.size w).drew.trans hb).alloc hb.size _⟩
        | exact ⟨by rw [← HS.out] <;> rfl, ((Below.refl w.heap.size w).drew.alloc (Nat.le_refl _) _).trans (hb.mono (by simp))⟩
theorem sFormatInt_any (n : Int) (w : World) (hn : i64B n) :
    Calls Tryd.prog 31 #[.int .i64 n] w fun e w' => e = .returned (.string (itB n)) ∧ Below w.heap.size w w' := by
  obtain ⟨h0, h1⟩ := hn
  by_cases hs : 0 ≤ n
  · obtain ⟨m, rfl⟩ : ∃ m : Nat, n = m := ⟨n.toNat, by omega⟩
    exact sFormatInt_pos m w (by omega)
  · obtain ⟨m, rfl⟩ : ∃ m : Nat, n = -(m : Int) := ⟨n.natAbs, by omega⟩
    exact sFormatInt_neg m m w (Nat.le_refl _) (by omega) (by omega)

end Go.Proofs.YtdpddbajeldgiaaDoor
