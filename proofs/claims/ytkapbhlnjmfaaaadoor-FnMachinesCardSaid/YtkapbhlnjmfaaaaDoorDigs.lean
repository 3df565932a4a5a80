/- The contracts of the functions that make the digits of a number. Conditions: those of each contract. -/
import Derived.Test.YtkapbhlnjmfaaaaDoorMem
namespace Go.Proofs.YtkapbhlnjmfaaaaDoor
set_option linter.unusedVariables false
open Go.RowKit

set_option maxHeartbeats 400000 in
theorem digitsOf_any (n b : Int) (w : World) (hn1 : n ≤ 4611686018427387904) (hb1 : 2 ≤ b) (hb2 : b ≤ 16) :
    Calls Tryd.prog 37 #[.int .i64 n, .int .i64 b] w (RetI w (digs n b)) := by
  obtain ⟨i0, hi, hz0, hz1, hz2⟩ := info_parts info_int
  go_enter Tryd.func37, Tryd.ntmps37
  go_wp2
  go_loopw [0, 5] (fun m v wr => ∃ (x : Int) (xs : List Int), x ≤ n ∧ m = .int .i64 x ∧ xs ++ digs x b = digs n b ∧ wr.ownsRow w.heap.size 3 1 v xs.length (xs.map (Value.int .i64)) ∧ Below w.heap.size w wr) (fun m _ _ => (intOf m).toNat)
  case atStart => exact ⟨n, [], Int.le_refl _, rfl, by simp, World.ownsRow_nil _ _ _ _, Below.refl _ _⟩
  case round =>
    obtain ⟨x, xs, hxn, rfl, hxs, hown, hb⟩ := hrel
    by_cases h0 : 0 < x
    · have hd := div_half x b (by omega) hb1
      obtain ⟨hd1, hd2⟩ := hd
      have hp := digs_pos x b hb1 h0 (by omega)
      have hlen := digs_len n b
      have hxl : xs.length + 1 ≤ 64 := by rw [← hxs, hp] at hlen; simp at hlen; omega
      have HX : Hid ((xs ++ [x % b]) ++ digs (x / b) b = digs n b) := by show _ = _; rw [← hxs, hp]; simp
      have HB := Lib.hid hb
      have hsz := hb.size
      clear hxs hp hlen hb
      go_wp2_with (at_builtin; refine wpList_append_own _ rfl _ _ 24 rfl w.heap.size 3 i0 (.int .i64 0) 1 8 Tryd.underlying24 hi hz0 hz1 hz2 rfl (by decide) _ _ _ rfl (hown.alloc _) ⟨_, 0, none⟩ 1 1 [.int .i64 (x % b)] rfl rfl (cell_one_new _ _ _) ?c2 ?c3 ?c4 ?c5 ?_)
      case c2 => intro u hu; simp at hu; subst hu; rfl
      case c3 => unfold maxLen; omega
      case c4 => omega
      case c5 => simp; omega
      intro v' w1 hown' hgrow _
      have hlt := hown.lt
      have hb1 : Below w.heap.size w w1 := (HB.out.alloc hsz _).grown hgrow (by simp; omega) (fun k hk => (hlt k hk).1)
      have HO : Hid (w1.ownsRow w.heap.size 3 1 v' (xs ++ [x % b]).length ((xs ++ [x % b]).map (Value.int .i64))) := by
        show World.ownsRow _ _ _ _ _ _ _
        simpa using hown'
      have HB1 := Lib.hid hb1
      clear hown' hgrow hown hb1 hlt
      go_wp2
      go_roundw
      case rel => exact ⟨x / b, xs ++ [x % b], by omega, rfl, HX.out, HO.out, HB1.out⟩
      case measure => simp [intOf]; omega
    · have HX : Hid (xs = digs n b) := by show _ = _; rw [← hxs, digs_zero x b (by omega)]; simp
      have HB := Lib.hid hb
      have HO := Lib.hid hown
      clear hxs hb hown
      go_wp2
      go_ret
      have h := HX.out
      subst h
      exact RetI.of HO.out HB.out
set_option maxHeartbeats 400000 in
theorem l02Digits_any (n b : Int) (w : World) (hn1 : n ≤ 4611686018427387904) (hb1 : 2 ≤ b) (hb2 : b ≤ 16) :
    Calls Tryd.prog 61 #[.int .i64 n, .int .i64 b] w (RetI w (digs n b)) := by
  obtain ⟨i0, hi, hz0, hz1, hz2⟩ := info_parts info_int
  go_enter Tryd.func61, Tryd.ntmps61
  go_wp2
  go_loopw [0, 5] (fun m v wr => ∃ (x : Int) (xs : List Int), x ≤ n ∧ m = .int .i64 x ∧ xs ++ digs x b = digs n b ∧ wr.ownsRow w.heap.size 3 1 v xs.length (xs.map (Value.int .i64)) ∧ Below w.heap.size w wr) (fun m _ _ => (intOf m).toNat)
  case atStart => exact ⟨n, [], Int.le_refl _, rfl, by simp, World.ownsRow_lit _ #[] 0 (Nat.le_refl _) (by simp [maxLen]) rfl, (Below.refl _ _).alloc (Nat.le_refl _) _⟩
  case round =>
    obtain ⟨x, xs, hxn, rfl, hxs, hown, hb⟩ := hrel
    by_cases h0 : 0 < x
    · have hd := div_half x b (by omega) hb1
      obtain ⟨hd1, hd2⟩ := hd
      have hp := digs_pos x b hb1 h0 (by omega)
      have hlen := digs_len n b
      have hxl : xs.length + 1 ≤ 64 := by rw [← hxs, hp] at hlen; simp at hlen; omega
      have HX : Hid ((xs ++ [x % b]) ++ digs (x / b) b = digs n b) := by show _ = _; rw [← hxs, hp]; simp
      have HB := Lib.hid hb
      have hsz := hb.size
      clear hxs hp hlen hb
      go_wp2_with (at_builtin; refine wpList_append_own _ rfl _ _ 24 rfl w.heap.size 3 i0 (.int .i64 0) 1 8 Tryd.underlying24 hi hz0 hz1 hz2 rfl (by decide) _ _ _ rfl (hown.alloc _) ⟨_, 0, none⟩ 1 1 [.int .i64 (x % b)] rfl rfl (cell_one_new _ _ _) ?c2 ?c3 ?c4 ?c5 ?_)
      case c2 => intro u hu; simp at hu; subst hu; rfl
      case c3 => unfold maxLen; omega
      case c4 => omega
      case c5 => simp; omega
      intro v' w1 hown' hgrow _
      have hlt := hown.lt
      have hb1 : Below w.heap.size w w1 := (HB.out.alloc hsz _).grown hgrow (by simp; omega) (fun k hk => (hlt k hk).1)
      have HO : Hid (w1.ownsRow w.heap.size 3 1 v' (xs ++ [x % b]).length ((xs ++ [x % b]).map (Value.int .i64))) := by
        show World.ownsRow _ _ _ _ _ _ _
        simpa using hown'
      have HB1 := Lib.hid hb1
      clear hown' hgrow hown hb1 hlt
      go_wp2
      go_roundw
      case rel => exact ⟨x / b, xs ++ [x % b], by omega, rfl, HX.out, HO.out, HB1.out⟩
      case measure => simp [intOf]; omega
    · have HX : Hid (xs = digs n b) := by show _ = _; rw [← hxs, digs_zero x b (by omega)]; simp
      have HB := Lib.hid hb
      have HO := Lib.hid hown
      clear hxs hb hown
      go_wp2
      go_ret
      have h := HX.out
      subst h
      exact RetI.of HO.out HB.out

end Go.Proofs.YtkapbhlnjmfaaaaDoor
