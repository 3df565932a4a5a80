/- A number that a law draws: MakeNumber. Conditions: those of each contract. -/
import Derived.Test.YtkapbhlnjmfaaaaDoorDrawM
namespace Go.Proofs.YtkapbhlnjmfaaaaDoor
set_option linter.unusedVariables false
open Go.RowKit

set_option maxHeartbeats 1000000 in
theorem l01BelowL_any (a : Option Addr) (cap : Nat) (xs : List Int) (B : Nat) (n : Int) (w : World) (hx : ByteS w B a cap xs) (hc : CurAt w B a xs.length cap) (hlen : xs.length ≤ 1048576) (hB : B < w.heap.size) (hn0 : 257 ≤ n) (hn1 : n ≤ 100000) :
    Calls Tryd.prog 39 #[.pointer (some ⟨B, 0, none⟩), .int .i64 n] w fun e w' => (∃ x : Int, e = .returned (.int .i64 x) ∧ 0 ≤ x ∧ x < n) ∧ CurAt w' B a xs.length cap ∧ Upd B (B + 1) w w' := by
  have HX := Lib.hid hx
  have HC := Lib.hid hc
  clear hx hc
  go_enter Tryd.func39, Tryd.ntmps39
  go_wp2_with fail
  refine (l01Byte_any a cap xs B _ HX.out HC.out hlen hB).mono ?_
  rintro e w1 ⟨⟨x, rfl, x0, x1⟩, hc1, hu1⟩
  have hs1 := hu1.size
  have HC1 := Lib.hid hc1
  have HU1 := Lib.hid hu1
  have HX1 := Lib.hid (HX.out.below (hu1.below (Nat.le_refl _) (by omega)))
  clear hc1 hu1
  go_wp2_with fail
  refine (l01Byte_any a cap xs B _ HX1.out HC1.out hlen (by omega)).mono ?_
  rintro e w2 ⟨⟨y, rfl, y0, y1⟩, hc2, hu2⟩
  have hs2 := hu2.size
  have HC2 := Lib.hid hc2
  have HU2 := Lib.hid (HU1.out.trans hu2)
  have HX2 := Lib.hid (HX1.out.below (hu2.below (Nat.le_refl _) (by omega)))
  clear hc2 hu2
  go_wp2_with fail
  refine (l01Byte_any a cap xs B _ HX2.out HC2.out hlen (by omega)).mono ?_
  rintro e w3 ⟨⟨z, rfl, z0, z1⟩, hc3, hu3⟩
  have hs3 := hu3.size
  have HC3 := Lib.hid hc3
  have HU3 := Lib.hid (HU2.out.trans hu3)
  have HX3 := Lib.hid (HX2.out.below (hu3.below (Nat.le_refl _) (by omega)))
  clear hc3 hu3
  go_wp2_with fail
  refine (l01Byte_any a cap xs B _ HX3.out HC3.out hlen (by omega)).mono ?_
  rintro e w4 ⟨⟨u, rfl, u0, u1⟩, hc4, hu4⟩
  have HC4 := Lib.hid hc4
  have HU4 := Lib.hid (HU3.out.trans hu4)
  clear hc4 hu4
  obtain ⟨m0, m1⟩ := mod_bd (x * 16777216 + y * 65536 + z * 256 + u) n (by omega)
  go_wp2_with fail
  go_ret
  exact ⟨⟨_, rfl, m0, m1⟩, HC4.out, HU4.out⟩
set_option maxHeartbeats 2000000 in
theorem MakeNumber_any (a : Option Addr) (cap : Nat) (xs : List Int) (n : Nat) (w : World) (hx : ByteS w w.heap.size a cap xs) (hlen : xs.length ≤ 1048576) (hn : n ≤ 1000) :
    Calls Tryd.prog 18 #[.slice a xs.length cap, .int .i64 n] w fun e w' => (∃ x : Int, e = .returned (.int .i64 x) ∧ 0 ≤ x ∧ x ≤ 9999999999) ∧ Below w.heap.size w w' := by
  have HX := Lib.hid hx
  clear hx
  go_enter Tryd.func18, Tryd.ntmps18
  go_wp2_with fail
  refine (l31New_any a cap xs n _ HX.out hlen hn).mono ?_
  rintro e w1 ⟨rfl, hc1, hs1, hb1⟩
  have HC1 := Lib.hid hc1
  have HB1 := Lib.hid hb1
  have HX1 := Lib.hid (HX.out.below hb1)
  clear hc1 hb1
  go_wp2_with fail
  refine (l01Below_any a cap xs w.heap.size 100 _ HX1.out HC1.out hlen (by omega) (by decide) (by decide)).mono ?_
  rintro e w2 ⟨⟨x, rfl, x0, x1⟩, hc2, hu2⟩
  have hs2 := hu2.size
  have HC2 := Lib.hid hc2
  have HB2 := Lib.hid (HB1.out.trans (hu2.below (Nat.le_refl _) (by omega)))
  have HX2 := Lib.hid (HX.out.below HB2.out)
  clear hc2 hu2
  go_wp2_with fail
  refine (l01Once_any a cap xs w.heap.size 2 _ HX2.out HC2.out hlen (by omega) (by decide) (by decide)).mono ?_
  rintro e w3 ⟨⟨o, rfl⟩, hc3, hu3⟩
  have hs3 := hu3.size
  have HC3 := Lib.hid hc3
  have HB3 := Lib.hid (HB2.out.trans (hu3.below (Nat.le_refl _) (by omega)))
  have HX3 := Lib.hid (HX.out.below HB3.out)
  clear hc3 hu3
  have key : ∀ (W : World) (v : Int), 0 ≤ v → v ≤ 99999 → CurAt W w.heap.size a xs.length cap → Below w.heap.size w W → w.heap.size < W.heap.size →
      Calls Tryd.prog 40 #[.pointer (some ⟨w.heap.size, 0, none⟩), .int .i64 3] W fun e w' => (∃ o : Bool, e = .returned (.bool o)) ∧ CurAt w' w.heap.size a xs.length cap ∧ Below w.heap.size w w' ∧ w.heap.size < w'.heap.size := by
    intro W v v0 v1 hc hb hs
    refine (l01Once_any a cap xs w.heap.size 3 _ (HX.out.below hb) hc hlen hs (by decide) (by decide)).mono ?_
    rintro e w' ⟨h1, h2, h3⟩
    exact ⟨h1, h2, hb.trans (h3.below (Nat.le_refl _) (by omega)), by have := h3.size; omega⟩
  have last : ∀ (W : World), CurAt W w.heap.size a xs.length cap → Below w.heap.size w W → w.heap.size < W.heap.size →
      Calls Tryd.prog 39 #[.pointer (some ⟨w.heap.size, 0, none⟩), .int .i64 100000] W fun e w' => (∃ y : Int, e = .returned (.int .i64 y) ∧ 0 ≤ y ∧ y < 100000) ∧ Below w.heap.size w w' := by
    intro W hc hb hs
    refine (l01BelowL_any a cap xs w.heap.size 100000 _ (HX.out.below hb) hc hlen hs (by decide) (by decide)).mono ?_
    rintro e w' ⟨h1, h2, h3⟩
    exact ⟨h1, hb.trans (h3.below (Nat.le_refl _) (by omega))⟩
  have KEY := Lib.hid key
  have LAST := Lib.hid last
  clear key last
  cases o with
  | false =>
    go_wp2_with fail
    refine (KEY.out _ x x0 (by omega) HC3.out HB3.out (by omega)).mono ?_
    rintro e w5 ⟨⟨o, rfl⟩, hc5, hb5, hs5⟩
    have HB5 := Lib.hid hb5
    cases o with
    | false =>
      clear hc5 hb5
      go_wp2_with fail
      go_ret
      exact ⟨⟨x, rfl, x0, by omega⟩, HB5.out⟩
    | true =>
      have HC5 := Lib.hid hc5
      clear hc5 hb5
      go_wp2_with fail
      refine (LAST.out _ HC5.out HB5.out hs5).mono ?_
      rintro e w6 ⟨⟨y, rfl, y0, y1⟩, hb6⟩
      have HB6 := Lib.hid hb6
      clear hb6
      go_wp2_with fail
      go_ret
      exact ⟨⟨_, rfl, by omega, by omega⟩, HB6.out⟩
  | true =>
    go_wp2_with fail
    refine (l01BelowL_any a cap xs w.heap.size 1000 _ HX3.out HC3.out hlen (by omega) (by decide) (by decide)).mono ?_
    rintro e w4 ⟨⟨z, rfl, z0, z1⟩, hc4, hu4⟩
    have hs4 := hu4.size
    have HC4 := Lib.hid hc4
    have HB4 := Lib.hid (HB3.out.trans (hu4.below (Nat.le_refl _) (by omega)))
    clear hc4 hu4
    go_wp2_with fail
    refine (KEY.out _ (x * 1000 + z) (by omega) (by omega) HC4.out HB4.out (by omega)).mono ?_
    rintro e w5 ⟨⟨o, rfl⟩, hc5, hb5, hs5⟩
    have HB5 := Lib.hid hb5
    cases o with
    | false =>
      clear hc5 hb5
      go_wp2_with fail
      go_ret
      exact ⟨⟨_, rfl, by omega, by omega⟩, HB5.out⟩
    | true =>
      have HC5 := Lib.hid hc5
      clear hc5 hb5
      go_wp2_with fail
      refine (LAST.out _ HC5.out HB5.out hs5).mono ?_
      rintro e w6 ⟨⟨y, rfl, y0, y1⟩, hb6⟩
      have HB6 := Lib.hid hb6
      clear hb6
      go_wp2_with fail
      go_ret
      exact ⟨⟨_, rfl, by omega, by omega⟩, HB6.out⟩

end Go.Proofs.YtkapbhlnjmfaaaaDoor
