/- Rods that a law draws: MakeRods. Conditions: those of each contract. -/
import Derived.Test.YtkapbhlnjmfaaaaDoorMakeA
namespace Go.Proofs.YtkapbhlnjmfaaaaDoor
set_option linter.unusedVariables false
open Go.RowKit

theorem OwnV.upd {w w' : World} {L L' U' : Nat} {v : Value} {xs : List Int} (h : OwnV w L v xs) (hu : Upd L' U' w w') (hc : U' ≤ L) : OwnV w' L v xs := by
  rcases h.2 with ⟨hv, hn⟩ | ⟨g, cap', cur, hv, hg, hh, r⟩
  · exact ⟨h.1, Or.inl ⟨hv, hn⟩⟩
  · exact ⟨h.1, Or.inr ⟨g, cap', cur, hv, hg, by rw [hu.block g (lt_of_block hh) (by omega)]; exact hh, r⟩⟩
theorem CurAt.upd {w w' : World} {B L U : Nat} {a : Option Addr} {len cap : Nat} (h : CurAt w B a len cap) (hu : Below L w w') (hB : B < L) : CurAt w' B a len cap := by
  obtain ⟨i, h, hi0, hi1, k0, k1, k2, hf⟩ := h
  exact ⟨i, h, hi0, hi1, (hu.cell (p := ⟨B, 0, none⟩) hB).trans k0, (hu.cell (p := ⟨B, 1, none⟩) hB).trans k1, (hu.cell (p := ⟨B, 2, none⟩) hB).trans k2, fun j => (hu.frozen (p := ⟨B, j, none⟩) hB).trans (hf j)⟩
theorem l01Below_any (a : Option Addr) (cap : Nat) (xs : List Int) (B : Nat) (n : Int) (w : World) (hx : ByteS w B a cap xs) (hc : CurAt w B a xs.length cap) (hlen : xs.length ≤ 1048576) (hB : B < w.heap.size) (hn0 : 1 ≤ n) (hn1 : n ≤ 256) :
    Calls Tryd.prog 39 #[.pointer (some ⟨B, 0, none⟩), .int .i64 n] w fun e w' => (∃ x : Int, e = .returned (.int .i64 x) ∧ 0 ≤ x ∧ x < n) ∧ CurAt w' B a xs.length cap ∧ Upd B (B + 1) w w' := by
  have HX := Lib.hid hx
  have HC := Lib.hid hc
  clear hx hc
  go_enter Tryd.func39, Tryd.ntmps39
  go_wp2_with fail
  refine (l01Byte_any a cap xs B _ HX.out HC.out hlen hB).mono ?_
  rintro e w1 ⟨⟨x, rfl, x0, x1⟩, hc1, hu1⟩
  have HC1 := Lib.hid hc1
  have HU1 := Lib.hid hu1
  clear hc1 hu1
  obtain ⟨m0, m1⟩ := mod_bd x n hn0
  go_wp2_with fail
  go_ret
  exact ⟨⟨_, rfl, m0, m1⟩, HC1.out, HU1.out⟩

end Go.Proofs.YtkapbhlnjmfaaaaDoor
