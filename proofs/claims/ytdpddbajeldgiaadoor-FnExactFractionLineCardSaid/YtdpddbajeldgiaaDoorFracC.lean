/- Marks of digits as text: program and reference. Conditions: those of each contract. -/
import Derived.Test.YtdpddbajeldgiaaDoorFracP
import Derived.Test.YtdpddbajeldgiaaDoorRepB
import Derived.Laws.IdiomStrings
namespace Go.Proofs.YtdpddbajeldgiaaDoor
set_option linter.unusedVariables false
open Go.RowKit

def mk (d : Int) : UInt8 := if 9 < d then UInt8.ofNat (87 + d.toNat) else UInt8.ofNat (48 + d.toNat)
def marksT (xs : List Int) : List UInt8 := xs.map mk
theorem marksT_len (xs : List Int) : (marksT xs).length = xs.length := by simp [marksT]
theorem marksT_next (xs : List Int) (k : Nat) (h : k < xs.length) : marksT (xs.take (k + 1)) = marksT (xs.take k) ++ [mk xs[k]] := by
  unfold marksT; rw [take_next xs k h, List.map_append]; rfl
theorem l02Sign_any (d : Int) (w : World) (h0 : 0 ≤ d) (h1 : d < 16) :
    Calls Tryd.prog 73 #[.int .i64 d] w fun e w' => e = .returned (.string ⟨[mk d].toArray⟩) ∧ Below w.heap.size w w' := by
  have kcv := conv1
  by_cases h9 : 9 < d
  · have HS : Hid (strOfNums [97 + d - 10] = ⟨[mk d].toArray⟩) := by
      show _ = _
      refine strOf1 _ _ ?_
      rw [mk, if_pos h9]
      congr 1
      omega
    go_enter Tryd.func73, Tryd.ntmps73
    go_wp2
    go_ret
    exact ⟨by rw [← HS.out] <;> rfl, (Below.refl _ _).alloc (Nat.le_refl _) _⟩
  · have HS : Hid (strOfNums [48 + d] = ⟨[mk d].toArray⟩) := by
      show _ = _
      refine strOf1 _ _ ?_
      rw [mk, if_neg h9]
      congr 1
      omega
    go_enter Tryd.func73, Tryd.ntmps73
    go_wp2
    go_ret
    exact ⟨by rw [← HS.out] <;> rfl, (Below.refl _ _).alloc (Nat.le_refl _) _⟩
theorem info_u8 : (Tryd.prog.info? 5).map (fun i => (i.zero, i.size, i.bytes)) = some (some (.int .u8 0), 1, 1) := by kernel_rfl
/-- the bytes after k rounds -/
def mkP (xs : List Int) (k : Nat) : List UInt8 := marksT (xs.take k) ++ List.replicate (xs.length - k) 0
theorem mkP_len (xs : List Int) (k : Nat) (h : k ≤ xs.length) : (mkP xs k).length = xs.length := by simp [mkP, marksT]; omega
theorem mkP_set (xs : List Int) (k : Nat) (h : k < xs.length) : (mkP xs k).set k (mk xs[k]) = mkP xs (k + 1) := by
  unfold mkP
  rw [marksT_next xs k h, List.set_append_right _ _ (by rw [marksT_len, List.length_take]; omega), show xs.length - k = (xs.length - (k + 1)) + 1 from by omega, List.replicate_succ]
  simp only [marksT_len, List.length_take, Nat.min_eq_left (Nat.le_of_lt h), Nat.sub_self, List.set_cons_zero, List.append_assoc, List.singleton_append]
theorem mkP_all (xs : List Int) : mkP xs xs.length = marksT xs := by simp [mkP]
def byteV (c : UInt8) : Value := .int .u8 (c.toNat : Int)
def OwnB8 (w : World) (base g n : Nat) (bs : List UInt8) : Prop := w.ownsRow base 5 1 (.slice (some ⟨g, 0, none⟩) n n) n (bs.map byteV)
theorem idx_mk (d : Int) (h0 : 0 ≤ d) (h1 : d < 16) : ∀ h, ((⟨#[48, 49, 50, 51, 52, 53, 54, 55, 56, 57, 97, 98, 99, 100, 101, 102]⟩ : ByteArray)[d.toNat]'h) = mk d := by
  intro h
  obtain ⟨n, rfl⟩ : ∃ n : Nat, d = n := ⟨d.toNat, by omega⟩
  have hn : n < 16 := by omega
  have key : ∀ m : Fin 16, (⟨#[48, 49, 50, 51, 52, 53, 54, 55, 56, 57, 97, 98, 99, 100, 101, 102]⟩ : ByteArray)[((m.val : Nat) : Int).toNat]'(by simp [ByteArray.size]) = mk (m.val : Int) := by decide
  exact key ⟨n, hn⟩
set_option maxHeartbeats 1000000 in
theorem markText_any (a : Option Addr) (cap : Nat) (xs : List Int) (w : World) (hx : Ints w w.heap.size a cap xs) (hl : xs.length ≤ 1000) (hd : ∀ x ∈ xs, 0 ≤ x ∧ x < 16) :
    Calls Tryd.prog 78 #[.slice a xs.length cap] w fun e w' => e = .returned (.string ⟨(marksT xs).toArray⟩) ∧ Below w.heap.size w w' := by
  obtain ⟨-, -, b, off, ha, hc⟩ := hx
  have Ha := Lib.hid ha
  have Hc := Lib.hid hc
  have HD := Lib.hid hd
  clear ha hc hd
  obtain ⟨i0, hi, hz0, hz1, hz2⟩ := info_parts info_u8
  go_enter Tryd.func78, Tryd.ntmps78
  go_wp2_with (at_make; refine wpList_make_full _ rfl _ _ 54 rfl w.heap.size 5 i0 (.int .u8 0) 1 Tryd.underlying54 hi hz0 hz1 .i64 .i64 _ _ xs.length rfl rfl rfl rfl ?_ ?_ (Nat.le_refl _) ?_)
  · rw [hz2]; omega
  · unfold maxLen; omega
  intro w1 hown hgrow
  have hown0 : OwnB8 w1 w.heap.size w.heap.size xs.length (mkP xs 0) := by
    unfold OwnB8 mkP
    rw [List.take_zero, Nat.sub_zero]
    simp only [marksT, List.map_nil, List.nil_append, List.map_replicate]
    rw [show byteV 0 = Value.int .u8 0 from rfl, ← toList_madeCells_one]
    exact hown
  have hb0 : Below w.heap.size w w1 := (Below.refl _ _).grown hgrow (Nat.le_refl _) (fun k hk => by cases hk)
  have HO0 := Lib.hid hown0
  have HB0 := Lib.hid hb0
  clear hown hown0 hgrow hb0
  go_wp2
  go_loopw [11] (fun i wr => ∃ k : Nat, k ≤ xs.length ∧ i = .int .i64 k ∧ OwnB8 wr w.heap.size w.heap.size xs.length (mkP xs k) ∧ Below w.heap.size w wr) (fun i _ => xs.length - (intOf i).toNat)
  case atStart => exact ⟨0, Nat.zero_le _, rfl, HO0.out, HB0.out⟩
  case round =>
    obtain ⟨k, hk, rfl, ho, hb⟩ := hrel
    have HB := Lib.hid hb
    by_cases hlt : k < xs.length
    · obtain ⟨rfl, hbb⟩ := Ha.out (by omega)
      have hcx := (hb.cell (p := ⟨b, off + k, none⟩) hbb).trans (Hc.out k hlt)
      obtain ⟨d0, d1⟩ := HD.out _ (List.getElem_mem hlt)
      have hfx := World.ownsRow.frozenAt ho k
      have hst := (World.ownsRow.stored ho k (byteV (mk xs[k]))).1
      rw [← List.map_set, mkP_set xs k hlt] at hst
      obtain ⟨u, hcu⟩ : ∃ u : Value, wr.cell? ⟨w.heap.size, k, none⟩ = some u := by
        have hlm := mkP_len xs k hk
        have h := World.ownsRow.cellAt ho k (by omega)
        rw [List.getElem?_map, List.getElem?_eq_getElem (by omega)] at h
        exact ⟨_, h⟩
      have HST := Lib.hid hst
      clear hst hb ho
      generalize xs[k] = d at *
      have g1 : (0 : Int) ≤ (k : Int) := by omega
      have g2 : (k : Int) < (xs.length : Int) := by omega
      have HIM := Lib.hid (idx_mk d d0 d1)
      go_wp2
      go_roundw
      case rel =>
        rw [HIM.out _]
        exact ⟨k + 1, by omega, by go_num, HST.out, HB.out.setCell (Nat.le_refl _) _⟩
      case measure => simp [intOf]; omega
    · obtain rfl : k = xs.length := by omega
      rw [mkP_all] at ho
      have hconv : ∀ dst, Tryd.prog.underlying dst = some .string → (convert 54 dst (.slice (some ⟨w.heap.size, 0, none⟩) xs.length xs.length)).run Tryd.prog wr = .ok (.string ⟨(marksT xs).toArray⟩) wr := by
        intro dst hdst
        have h1 := run_convert_bytes_back (P := Tryd.prog) wr 54 dst 5 ⟨w.heap.size, 0, none⟩ xs.length (marksT xs) Tryd.underlying54 Tryd.underlying5 hdst (fun j hj => by
          have h2 := World.ownsRow.cellAt ho j (by rw [marksT_len] at hj; omega)
          rw [List.getElem?_map, List.getElem?_eq_getElem hj] at h2
          rw [show (⟨w.heap.size, 0, none⟩ : Addr).add j = ⟨w.heap.size, j, none⟩ from by unfold Addr.add; split <;> simp_all]
          exact h2)
        rwa [marksT_len] at h1
      have hcv := hconv 9 Tryd.underlying9
      clear hconv ho hb
      go_wp2
      go_ret
      exact ⟨rfl, HB.out⟩

end Go.Proofs.YtdpddbajeldgiaaDoor
