/- The walks of the Roman numerals. Conditions: none. -/
import Derived.Test.YthehhlamhkhlpaaDoorBase
import Derived.Test.YthehhlamhkhlpaaDoorShelf
import Derived.Lib.Repeat
import Derived.Deep.RegionWith
namespace Go.Proofs.YthehhlamhkhlpaaDoor
set_option linter.unusedVariables false
open Go.RowKit

theorem ba_app (a b : List UInt8) : (⟨a.toArray⟩ : ByteArray) ++ ⟨b.toArray⟩ = ⟨(a ++ b).toArray⟩ := by
  apply ByteArray.ext
  show ByteArray.data (ByteArray.append _ _) = _
  simp [ByteArray.append]
/-- the digit d with the letters x, v, t for one, five and ten -/
def digT (x v t : List UInt8) (d : Int) : List UInt8 :=
  if d = 9 then x ++ t else if 5 ≤ d then v ++ Lib.repeatL x (d - 5).toNat else if d = 4 then x ++ v else Lib.repeatL x d.toNat
theorem repeatL_snoc (l : List UInt8) (k : Nat) : Lib.repeatL l (k + 1) = Lib.repeatL l k ++ l := by
  rw [Lib.repeatL_add, Lib.repeatL_one]
theorem repeatL_len (l : List UInt8) (k : Nat) : (Lib.repeatL l k).length = k * l.length := Lib.repeatL_length l k
theorem l27Times_any (l : List UInt8) (n : Nat) (w : World) (h : n ≤ 1000) (hl : l.length ≤ 1000) :
    Calls Tryd.prog 27 #[.string ⟨l.toArray⟩, .int .i64 n] w fun e w' => e = .returned (.string ⟨(Lib.repeatL l n).toArray⟩) ∧ w = w' := by
  go_enter Tryd.func27, Tryd.ntmps27
  go_wp2
  go_loop [5, 6] (fun s i => ∃ k : Nat, k ≤ n ∧ i = .int .i64 k ∧ s = .string ⟨(Lib.repeatL l k).toArray⟩) (fun _ i => n - (intOf i).toNat)
  case atStart => exact ⟨0, Nat.zero_le _, rfl, rfl⟩
  case round =>
    obtain ⟨k, hk, rfl, rfl⟩ := hrel
    have hrl := repeatL_len l k
    have hml : k * l.length ≤ 1000 * 1000 := Nat.mul_le_mul (by omega) hl
    by_cases hlt : k < n
    · go_wp2
      go_round
      case rel => exact ⟨k + 1, by omega, by go_num, by rw [repeatL_snoc, ← ba_app]⟩
      case measure => simp [intOf]; omega
    · go_wp2
      go_ret
      obtain rfl : k = n := by omega
      exact ⟨rfl, rfl⟩
theorem l27Digit_any (d : Int) (x v t : List UInt8) (w : World) (h0 : 0 ≤ d) (h9 : d ≤ 9) (hx : x.length ≤ 10) (hv : v.length ≤ 10) (ht : t.length ≤ 10) :
    Calls Tryd.prog 44 #[.int .i64 d, .string ⟨x.toArray⟩, .string ⟨v.toArray⟩, .string ⟨t.toArray⟩] w fun e w' => e = .returned (.string ⟨(digT x v t d).toArray⟩) ∧ w = w' := by
  by_cases h : d = 9
  · subst h
    go_enter Tryd.func44, Tryd.ntmps44
    go_wp2
    go_ret
    exact ⟨by rw [ba_app]; rfl, rfl⟩
  by_cases h5 : 5 ≤ d
  · obtain ⟨k, hk⟩ : ∃ k : Nat, d - 5 = k := ⟨(d - 5).toNat, by omega⟩
    have HD : Hid (digT x v t d = v ++ Lib.repeatL x k) := by show _ = _; simp only [digT, if_neg h, if_pos h5]; congr 2; omega
    obtain rfl : d = 5 + (k : Int) := by omega
    have hrl := repeatL_len x k
    have hml : k * x.length ≤ 10 * 10 := Nat.mul_le_mul (by omega) hx
    clear hk
    go_enter Tryd.func44, Tryd.ntmps44
    go_wp2_with fail
    rw [show (5 + (k : Int) - 5) = (k : Int) by omega]
    refine (l27Times_any x k w (by omega) (by omega)).mono ?_
    rintro e w1 ⟨rfl, rfl⟩
    go_wp2_with fail
    go_ret
    exact ⟨by rw [HD.out, ba_app] <;> rfl, rfl⟩
  by_cases h4 : d = 4
  · subst h4
    go_enter Tryd.func44, Tryd.ntmps44
    go_wp2
    go_ret
    exact ⟨by rw [ba_app]; rfl, rfl⟩
  · obtain ⟨k, rfl⟩ : ∃ k : Nat, d = k := ⟨d.toNat, by omega⟩
    have HD : Hid (digT x v t k = Lib.repeatL x k) := by show _ = _; simp only [digT, if_neg h, if_neg h5, if_neg h4]; congr 1
    go_enter Tryd.func44, Tryd.ntmps44
    go_wp2_with fail
    refine (l27Times_any x k w (by omega) (by omega)).mono ?_
    rintro e w1 ⟨rfl, rfl⟩
    go_wp2_with fail
    go_ret
    exact ⟨by rw [HD.out] <;> rfl, rfl⟩
theorem rep_any (l : List UInt8) (k : Nat) (w : World) (hl : l.length ≤ 1000) (hk : k ≤ 1000) :
    Calls Tryd.prog 29 #[.string ⟨l.toArray⟩, .int .i64 k] w fun e w' => e = .returned (.string ⟨(Lib.repeatL l k).toArray⟩) ∧ Below w.heap.size w w' := by
  have hs : (⟨l.toArray⟩ : ByteArray).size = l.length := by simp [ByteArray.size]
  have hml : l.length * k ≤ 1000 * 1000 := Nat.mul_le_mul hl hk
  exact Tryd.strings_Repeat ⟨l.toArray⟩ k w (by omega) (by rw [hs]; omega)
/-- three letters -/
theorem romanDigit_any (d : Int) (x v t : UInt8) (w : World) (h0 : 0 ≤ d) (h9 : d ≤ 9) :
    Calls Tryd.prog 33 #[.int .i64 d, .string ⟨#[x, v, t]⟩] w fun e w' => e = .returned (.string ⟨(digT [x] [v] [t] d).toArray⟩) ∧ Below w.heap.size w w' := by
  by_cases h : d ≤ 3
  · obtain ⟨k, rfl⟩ : ∃ k : Nat, d = k := ⟨d.toNat, by omega⟩
    have HD : Hid (digT [x] [v] [t] k = Lib.repeatL [x] k) := by show _ = _; rw [digT, if_neg (by omega), if_neg (by omega), if_neg (by omega)]; congr 1
    go_enter Tryd.func33, Tryd.ntmps33
    go_wp2_with fail
    rw [show (⟨#[x, v, t]⟩ : ByteArray).extract 0 1 = ⟨[x].toArray⟩ from rfl]
    refine (rep_any [x] k w (by simp) (by omega)).mono ?_
    rintro e w1 ⟨rfl, hb⟩
    have HB := Lib.hid hb; clear hb
    go_wp2_with fail
    go_ret
    exact ⟨by rw [HD.out] <;> rfl, HB.out⟩
  by_cases h4 : d = 4
  · subst h4
    go_enter Tryd.func33, Tryd.ntmps33
    go_wp2
    go_ret
    exact ⟨rfl, Below.refl _ _⟩
  by_cases h9 : d = 9
  · subst h9
    go_enter Tryd.func33, Tryd.ntmps33
    go_wp2
    go_quiet (fail)
    go_wp2
    go_ret
    exact ⟨rfl, below_drewN (Below.refl _ _) _⟩
  · obtain ⟨k, hk⟩ : ∃ k : Nat, d - 5 = k := ⟨(d - 5).toNat, by omega⟩
    have HD : Hid (digT [x] [v] [t] d = [v] ++ Lib.repeatL [x] k) := by show _ = _; rw [digT, if_neg (by omega), if_pos (by omega)]; congr 2; omega
    have hk' : d = 5 + (k : Int) := by omega
    subst hk'
    clear hk
    have hk5 : IntKind.i64.wrap (k : Int) = (k : Int) := by simp [IntKind.wrap, IntKind.bits, IntKind.signed] <;> omega
    have hk6 : IntKind.i64.wrap (5 + (k : Int) - 5) = (k : Int) := by rw [show (5 + (k : Int) - 5) = (k : Int) by omega, hk5]
    have HCR : Hid (∀ (W : World) (x' : Int), x' = k → Calls Tryd.prog 29 #[.string ((⟨#[x, v, t]⟩ : ByteArray).extract 0 1), .int .i64 x'] W fun e w' => e = .returned (.string ⟨(Lib.repeatL [x] k).toArray⟩) ∧ Below W.heap.size W w') := fun W x' hx' => by rw [hx']; exact rep_any [x] k W (by simp) (by omega)
    have HK5 := Lib.hid hk5; have HK6 := Lib.hid hk6
    clear hk5 hk6
    have hrl : (Lib.repeatL [x] k).length = k := by rw [repeatL_len]; simp
    have hk4 : k ≤ 4 := by omega
    go_enter Tryd.func33, Tryd.ntmps33
    go_wp2_with fail
    go_region_with (go_at_call 29; refine (HCR.out _ _ (by first | exact HK5.out | exact HK6.out | omega)).mono ?_; rintro e w1 ⟨rfl, hb⟩)
    all_goals go_wp2_with fail
    all_goals go_ret
    all_goals
      refine ⟨?_, (Below.refl w.heap.size w).drew.trans hb⟩
      rw [HD.out]
      exact congrArg (fun b => Ending.returned (.string b)) (ba_app [v] _)
theorem romanDigitM_any (d : Int) (x : UInt8) (w : World) (h0 : 0 ≤ d) (h : d ≤ 3) :
    Calls Tryd.prog 33 #[.int .i64 d, .string ⟨#[x]⟩] w fun e w' => e = .returned (.string ⟨(digT [x] [] [] d).toArray⟩) ∧ Below w.heap.size w w' := by
    obtain ⟨k, rfl⟩ : ∃ k : Nat, d = k := ⟨d.toNat, by omega⟩
    have HD : Hid (digT [x] [] [] k = Lib.repeatL [x] k) := by show _ = _; rw [digT, if_neg (by omega), if_neg (by omega), if_neg (by omega)]; congr 1
    go_enter Tryd.func33, Tryd.ntmps33
    go_wp2_with fail
    rw [show (⟨#[x]⟩ : ByteArray).extract 0 1 = ⟨[x].toArray⟩ from rfl]
    refine (rep_any [x] k w (by simp) (by omega)).mono ?_
    rintro e w1 ⟨rfl, hb⟩
    have HB := Lib.hid hb; clear hb
    go_wp2_with fail
    go_ret
    exact ⟨by rw [HD.out] <;> rfl, HB.out⟩
def dM (n : Int) : List UInt8 := digT [77] [] [] (n / 1000)
def dC (n : Int) : List UInt8 := digT [67] [68] [77] (n / 100 % 10)
def dX (n : Int) : List UInt8 := digT [88] [76] [67] (n / 10 % 10)
def dI (n : Int) : List UInt8 := digT [73] [86] [88] (n % 10)
def fmtR (n : Int) : List UInt8 := if inB n 1 3999 then dM n ++ dC n ++ dX n ++ dI n else []
theorem digT_len (x v t : List UInt8) (d : Int) (hx : x.length ≤ 1) (hv : v.length ≤ 1) (ht : t.length ≤ 1) (h : d ≤ 9) : (digT x v t d).length ≤ 10 := by
  unfold digT
  have h1 := repeatL_len x (d - 5).toNat
  have h2 := repeatL_len x d.toNat
  have m1 : (d - 5).toNat * x.length ≤ 4 * 1 := Nat.mul_le_mul (by omega) hx
  have m2 : d.toNat * x.length ≤ 9 * 1 := Nat.mul_le_mul (by omega) hx
  split
  · simp; omega
  split
  · simp; omega
  split
  · simp; omega
  · omega
theorem fmt_lens (n : Int) (h0 : 1 ≤ n) (h1 : n ≤ 3999) : (dM n).length ≤ 10 ∧ (dC n).length ≤ 10 ∧ (dX n).length ≤ 10 ∧ (dI n).length ≤ 10 := by
  refine ⟨digT_len _ _ _ _ (by simp) (by simp) (by simp) (by omega), digT_len _ _ _ _ (by simp) (by simp) (by simp) (by omega), digT_len _ _ _ _ (by simp) (by simp) (by simp) (by omega), digT_len _ _ _ _ (by simp) (by simp) (by simp) (by omega)⟩
theorem sFormatRoman_any (n : Int) (w : World) :
    Calls Tryd.prog 30 #[.int .i64 n] w fun e w' => e = .returned (.string ⟨(fmtR n).toArray⟩) ∧ w = w' := by
  cases hq : inB n 1 3999
  · have HF : Hid (fmtR n = []) := by show _ = _; simp [fmtR, hq]
    go_enter Tryd.func30, Tryd.ntmps30
    go_wp2_with (go_at_call 26; refine (l01In_any _ _ _ _).mono ?_; rintro e w' ⟨rfl, rfl⟩)
    go_ret
    exact ⟨by rw [HF.out] <;> rfl, rfl⟩
  obtain ⟨hq1, hq2⟩ := inB_t.1 hq
  have HF : Hid (fmtR n = dM n ++ dC n ++ dX n ++ dI n) := by show _ = _; simp [fmtR, hq]
  obtain ⟨l1, l2, l3, l4⟩ := fmt_lens n hq1 hq2
  have HL1 : Hid ((dM n).length ≤ 10) := l1
  have HM : Hid (∀ W : World, Calls Tryd.prog 44 #[.int .i64 (n / 1000), .string ⟨[(77 : UInt8)].toArray⟩, .string ⟨([] : List UInt8).toArray⟩, .string ⟨([] : List UInt8).toArray⟩] W fun e w' => e = .returned (.string ⟨(dM n).toArray⟩) ∧ W = w') := fun W => l27Digit_any (n / 1000) [77] [] [] W (by omega) (by omega) (by simp) (by simp) (by simp)
  have HC : Hid (∀ W : World, Calls Tryd.prog 44 #[.int .i64 (n / 100 % 10), .string ⟨[(67 : UInt8)].toArray⟩, .string ⟨[(68 : UInt8)].toArray⟩, .string ⟨[(77 : UInt8)].toArray⟩] W fun e w' => e = .returned (.string ⟨(dC n).toArray⟩) ∧ W = w') := fun W => l27Digit_any (n / 100 % 10) [67] [68] [77] W (by omega) (by omega) (by simp) (by simp) (by simp)
  have HX : Hid (∀ W : World, Calls Tryd.prog 44 #[.int .i64 (n / 10 % 10), .string ⟨[(88 : UInt8)].toArray⟩, .string ⟨[(76 : UInt8)].toArray⟩, .string ⟨[(67 : UInt8)].toArray⟩] W fun e w' => e = .returned (.string ⟨(dX n).toArray⟩) ∧ W = w') := fun W => l27Digit_any (n / 10 % 10) [88] [76] [67] W (by omega) (by omega) (by simp) (by simp) (by simp)
  have HI : Hid (∀ W : World, Calls Tryd.prog 44 #[.int .i64 (n % 10), .string ⟨[(73 : UInt8)].toArray⟩, .string ⟨[(86 : UInt8)].toArray⟩, .string ⟨[(88 : UInt8)].toArray⟩] W fun e w' => e = .returned (.string ⟨(dI n).toArray⟩) ∧ W = w') := fun W => l27Digit_any (n % 10) [73] [86] [88] W (by omega) (by omega) (by simp) (by simp) (by simp)
  generalize dM n = a1 at *
  generalize dC n = a2 at *
  generalize dX n = a3 at *
  generalize dI n = a4 at *
  go_enter Tryd.func30, Tryd.ntmps30
  go_wp2_with (go_at_call 26; refine (l01In_any _ _ _ _).mono ?_; rintro e w' ⟨rfl, rfl⟩)
  refine (HM.out _).mono ?_
  rintro e w1 ⟨rfl, rfl⟩
  go_wp2_with fail
  refine (HC.out _).mono ?_
  rintro e w1 ⟨rfl, rfl⟩
  go_wp2_with fail
  refine (HX.out _).mono ?_
  rintro e w1 ⟨rfl, rfl⟩
  go_wp2_with fail
  refine (HI.out _).mono ?_
  rintro e w1 ⟨rfl, rfl⟩
  go_wp2_with fail
  go_ret
  exact ⟨by rw [HF.out] <;> first | rfl | (simp only [ba_app]), rfl⟩

end Go.Proofs.YthehhlamhkhlpaaDoor
