/- Rods that a law draws: MakeRods. Conditions: those of each contract. -/
import Derived.Test.YtkcjjhdmklhepaaMakeA
namespace Go.Proofs.Ytkcjjhdmklhepaa
set_option linter.unusedVariables false
open Go.RowKit

theorem OwnV.upd {w w' : World} {L L' U' : Nat} {v : Value} {xs : List Int} (h : OwnV w L v xs) (hu : Upd L' U' w w') (hc : U' ≤ L) : OwnV w' L v xs := by
  rcases h.2 with ⟨hv, hn⟩ | ⟨g, cap', cur, hv, hg, hh, r⟩
  · exact ⟨h.1, Or.inl ⟨hv, hn⟩⟩
  · exact ⟨h.1, Or.inr ⟨g, cap', cur, hv, hg, by rw [hu.block g (lt_of_block hh) (by omega)]; exact hh, r⟩⟩
theorem CurAt.upd {w w' : World} {B L U : Nat} {a : Option Addr} {len cap : Nat} (h : CurAt w B a len cap) (hu : Below L w w') (hB : B < L) : CurAt w' B a len cap := by
  obtain ⟨i, h, hi0, hi1, k0, k1, k2, hf⟩ := h
  exact ⟨i, h, hi0, hi1, (hu.cell (p := ⟨B, 0, none⟩) hB).trans k0, (hu.cell (p := ⟨B, 1, none⟩) hB).trans k1, (hu.cell (p := ⟨B, 2, none⟩) hB).trans k2, fun j => (hu.frozen (p := ⟨B, j, none⟩) hB).trans (hf j)⟩
theorem l01Below_any (a : Option Addr) (cap : Nat) (xs : List Int) (B : Nat) (n : Int) (w : World) (hx : ByteS w B a cap xs) (hc : CurAt w B a xs.length cap) (hlen : xs.length ≤ 1048576) (hB : B < w.heap.size) (hn0 : 1 ≤ n) (hn1 : n ≤ 256) :
    Calls Try.prog 75 #[.pointer (some ⟨B, 0, none⟩), .int .i64 n] w fun e w' => (∃ x : Int, e = .returned (.int .i64 x) ∧ 0 ≤ x ∧ x < n) ∧ CurAt w' B a xs.length cap ∧ Upd B (B + 1) w w' := by
  have HX := Lib.hid hx
  have HC := Lib.hid hc
  clear hx hc
  go_enter Try.func75, Try.ntmps75
  go_wp2_with fail
  refine (l01Byte_any a cap xs B _ HX.out HC.out hlen hB).mono ?_
  rintro e w1 ⟨⟨x, rfl, x0, x1⟩, hc1, hu1⟩
  have HC1 := Lib.hid hc1
  have HU1 := Lib.hid hu1
  clear hc1 hu1
  obtain ⟨m0, m1⟩ := mod_bd x n hn0
  go_wp2_with fail
  go_ret
  exact ⟨⟨_, rfl, m0, m1⟩, HC1.out, HU1.out⟩
set_option maxHeartbeats 1000000 in
theorem l28Draw_any (a : Option Addr) (cap : Nat) (xs : List Int) (B : Nat) (k : Nat) (w : World) (hx : ByteS w B a cap xs) (hc : CurAt w B a xs.length cap) (hlen : xs.length ≤ 1048576) (hB : B < w.heap.size) (hk : k ≤ 100) :
    Calls Try.prog 62 #[.pointer (some ⟨B, 0, none⟩), .int .i64 k] w fun e w' => ∃ ds : List Int, ds.length = k ∧ (∀ d ∈ ds, 0 ≤ d ∧ d < 10) ∧ (∃ v, e = .returned v ∧ OwnV w' w.heap.size v ds) ∧ Below B w w' := by
  have HX := Lib.hid hx
  have HC := Lib.hid hc
  clear hx hc
  go_enter Try.func62, Try.ntmps62
  go_wp2_with fail
  go_loopw [5, 6] (fun v i wr => ∃ j : Nat, j ≤ k ∧ i = .int .i64 j ∧ CurAt wr B a xs.length cap ∧ Below B w wr ∧ w.heap.size ≤ wr.heap.size ∧ ∃ ds : List Int, ds.length = j ∧ (∀ d ∈ ds, 0 ≤ d ∧ d < 10) ∧ OwnV wr w.heap.size v ds) (fun _ i _ => k - (intOf i).toNat)
  case atStart => exact ⟨0, Nat.zero_le _, rfl, HC.out.upd (L := w.heap.size) (U := 0) ((Below.refl _ _).alloc (Nat.le_refl _) _) hB, (Below.refl _ _).alloc (by omega) _, by simp, [], rfl, by simp, OwnV.lit0 _ _ (Nat.le_refl _)⟩
  case round =>
    obtain ⟨j, hj, rfl, hc, hb, hsz, ds, hdl, hdm, hown⟩ := hrel
    have HB := Lib.hid hb
    have HD := Lib.hid hdm
    have HO := Lib.hid hown
    have HC1 := Lib.hid hc
    clear hb hdm hown hc
    by_cases hlt : j < k
    · have HX1 := Lib.hid (HX.out.below HB.out)
      go_wp2_with fail
      refine (l01Below_any a cap xs B 10 _ HX1.out HC1.out hlen (by omega) (by decide) (by decide)).mono ?_
      rintro e w2 ⟨⟨x, rfl, x0, x1⟩, hc2, hu2⟩
      have hs2 := hu2.size
      have hown2 := HO.out.upd hu2 (by omega)
      have HC2 := Lib.hid hc2
      have HB2 := Lib.hid (HB.out.trans (hu2.below (Nat.le_refl _) (by omega)))
      clear hc2 hu2
      go_wp2_with (at_builtin; refine wpList_append_int rfl _ _ rfl w.heap.size _ _ rfl hown2 x rfl (by omega) (by omega) ?_; intro v' w3 hown3 hbl3)
      have hs3 := hbl3.size
      have HC3 := Lib.hid (HC2.out.upd (U := 0) hbl3 hB)
      have HB3 := Lib.hid (HB2.out.trans (hbl3.mono (by omega)))
      clear hbl3
      go_roundw
      case rel => exact ⟨j + 1, by omega, by go_num, HC3.out, HB3.out, by omega, ds ++ [x], by simp [hdl], by
        intro d hd
        rcases List.mem_append.1 hd with h | h
        · exact HD.out d h
        · simp at h; omega, hown3⟩
      case measure => simp [intOf]; omega
    · go_wp2_with fail
      go_ret
      exact ⟨ds, by omega, HD.out, ⟨_, rfl, HO.out⟩, HB.out⟩
set_option maxHeartbeats 1000000 in
theorem MakeRods_any (a : Option Addr) (cap : Nat) (xs : List Int) (n k : Nat) (w : World) (hx : ByteS w w.heap.size a cap xs) (hlen : xs.length ≤ 1048576) (hn : n ≤ 1000) (hk0 : 2 ≤ k) (hk : k ≤ 10) :
    Calls Try.prog 31 #[.slice a xs.length cap, .int .i64 n, .int .i64 k] w fun e w' => ∃ ds : List Int, ds.length = k ∧ (∀ d ∈ ds, 0 ≤ d ∧ d < 10) ∧ RetI w ds e w' := by
  have HX := Lib.hid hx
  clear hx
  go_enter Try.func31, Try.ntmps31
  go_wp2_with fail
  refine (l31New_any a cap xs n _ HX.out hlen hn).mono ?_
  rintro e w1 ⟨rfl, hc1, hs1, hb1⟩
  have HC1 := Lib.hid hc1
  have HX1 := Lib.hid (HX.out.below hb1)
  have HB1 := Lib.hid hb1
  clear hc1 hb1
  have hm1 : min (k : Int) 10 = k := by omega
  have hm2 : max (1 : Int) (k : Int) = k := by omega
  have hm3 : (1 : Int) < (k : Int) := by omega
  have hm4 : (1 : Int) ≤ (k : Int) := by omega
  go_wp2_with fail
  refine (l28Draw_any a cap xs w.heap.size k _ HX1.out HC1.out hlen (by omega) (by omega)).mono ?_
  rintro e w2 ⟨ds, hdl, hdm, ⟨v, rfl, hown⟩, hb2⟩
  have HB2 := Lib.hid (HB1.out.trans hb2)
  have HD := Lib.hid hdm
  have HO := Lib.hid hown
  clear hb2 hdm hown
  go_wp2_with fail
  go_ret
  refine ⟨ds, hdl, HD.out, ?_⟩
  have ho : OwnV w2 w.heap.size v ds := by
    rcases HO.out.2 with ⟨hv, hn⟩ | ⟨g, cap', cur, hv, hg, hh, r⟩
    · exact ⟨HO.out.1, Or.inl ⟨hv, hn⟩⟩
    · exact ⟨HO.out.1, Or.inr ⟨g, cap', cur, hv, by omega, hh, r⟩⟩
  exact ho.ret HB2.out

end Go.Proofs.Ytkcjjhdmklhepaa
