/- The numbers that a law draws out of its bytes: MakeNum. Conditions: those of each contract. -/
import Derived.Test.YtkapbhlnjmfaaaaDoorLawKit
import Derived.Laws.Bits128
import Derived.BigQuiet
import Derived.Deep.QuietTactic
namespace Go.Proofs.YtkapbhlnjmfaaaaDoor
set_option linter.unusedVariables false
open Go.RowKit

theorem i64_and255 (n : Int) : bits .and .i64 n 255 = n % 256 := by
  have h255 : (BitVec.ofInt 64 255).toNat = 2 ^ 8 - 1 := by decide
  have key : (BitVec.ofInt 64 n &&& BitVec.ofInt 64 255).toNat = (n % ((2 ^ 64 : Nat) : Int)).toNat % 2 ^ 8 := by
    rw [BitVec.toNat_and, BitVec.toNat_ofInt, h255, Nat.and_two_pow_sub_one_eq_mod]
  show IntKind.i64.wrap ((BitVec.ofInt 64 n &&& BitVec.ofInt 64 255).toNat : Nat) = n % 256
  rw [key, IntKind.wrap_i64]
  omega
theorem i64_and30 (n : Int) : bits .and .i64 n 1073741823 = n % 1073741824 := by
  have h255 : (BitVec.ofInt 64 1073741823).toNat = 2 ^ 30 - 1 := by decide
  have key : (BitVec.ofInt 64 n &&& BitVec.ofInt 64 1073741823).toNat = (n % ((2 ^ 64 : Nat) : Int)).toNat % 2 ^ 30 := by
    rw [BitVec.toNat_and, BitVec.toNat_ofInt, h255, Nat.and_two_pow_sub_one_eq_mod]
  show IntKind.i64.wrap ((BitVec.ofInt 64 n &&& BitVec.ofInt 64 1073741823).toNat : Nat) = n % 1073741824
  rw [key, IntKind.wrap_i64]
  omega

/-- a slice of bytes that lies below B -/
def ByteS (w : World) (B : Nat) (a : Option Addr) (cap : Nat) (xs : List Int) : Prop :=
  xs.length ≤ cap ∧ cap ≤ maxLen ∧ (∀ x ∈ xs, 0 ≤ x ∧ x ≤ 255) ∧ ∃ b off, (0 < xs.length → a = some ⟨b, off, none⟩ ∧ b < B) ∧ ∀ i (h : i < xs.length), w.cell? ⟨b, off + i, none⟩ = some (.int .u8 xs[i])
theorem ByteS.below {w w' : World} {B : Nat} {a : Option Addr} {cap : Nat} {xs : List Int} (h : ByteS w B a cap xs) (hb : Below B w w') : ByteS w' B a cap xs := by
  obtain ⟨h1, h2, h5, b, off, h3, h4⟩ := h
  refine ⟨h1, h2, h5, b, off, h3, fun i hi => ?_⟩
  rw [hb.cell (p := ⟨b, off + i, none⟩) (h3 (by omega)).2]
  exact h4 i hi
theorem ByteS.mono {w : World} {B B' : Nat} {a : Option Addr} {cap : Nat} {xs : List Int} (h : ByteS w B a cap xs) (hB : B ≤ B') : ByteS w B' a cap xs := by
  obtain ⟨h1, h2, h5, b, off, h3, h4⟩ := h
  exact ⟨h1, h2, h5, b, off, fun h => ⟨(h3 h).1, Nat.lt_of_lt_of_le (h3 h).2 hB⟩, h4⟩
theorem ByteS.len {w : World} {B : Nat} {a : Option Addr} {cap : Nat} {xs : List Int} (h : ByteS w B a cap xs) : xs.length ≤ 9223372036854775807 := by
  have h1 := h.1; have h2 := h.2.1; unfold maxLen at h2; omega
theorem IsRow.opB {w : World} {a : Option Addr} {len cap : Nat} {zs : List Int} (h : IsRow .u8 w a len cap zs) : ∃ xs : List Int, xs.length = len ∧ ByteS w w.heap.size a cap xs := by
  rcases h with ⟨rfl, rfl, rfl, rfl⟩ | ⟨x, rfl, hl, hc, hz, hcell, hwf⟩
  · exact ⟨[], rfl, by simp, by simp [maxLen], by simp, 0, 0, by simp, by simp⟩
  · refine ⟨zs.take len, by simp; omega, by simp; omega, hc, ?_, ?_⟩
    · intro n hn
      have := hwf n (List.mem_of_mem_take hn)
      simpa [Lit.wf, IntKind.min, IntKind.max, IntKind.signed, IntKind.bits] using this
    obtain ⟨b, off, spot⟩ := x
    by_cases hp : 0 < zs.length
    · have hspot : spot = none := by simpa [Addr.add] using World.cell?_spot (hcell 0 hp)
      subst hspot
      have hc0 : w.cell? (⟨b, off, none⟩ : Addr) = some (.int .u8 (zs.getD 0 0)) := by
        have := hcell 0 hp
        simpa [Addr.add] using this
      have hlt := World.block_lt_of_cell? w (⟨b, off, none⟩ : Addr) hc0
      refine ⟨b, off, fun _ => ⟨rfl, hlt⟩, fun i hi => ?_⟩
      · have hi' : i < zs.length := by simp at hi; omega
        have := hcell i hi'
        rw [show (⟨b, off, none⟩ : Addr).add i = ⟨b, off + i, none⟩ from by simp [Addr.add]] at this
        rw [this]
        simp [List.getD, hi']
    · exact ⟨b, off, fun h => by simp at h; omega, fun i hi => by simp at hi; omega⟩
theorem Upd.drew {L U : Nat} {w w' : World} (h : Upd L U w w') : Upd L U w w'.drew := ⟨h.os, h.tape, h.output, h.size, h.block⟩
theorem Upd.drewN {L U : Nat} {w w' : World} (h : Upd L U w w') (n : Nat) : Upd L U w (w'.drewN n) := ⟨h.os, h.tape, h.output, h.size, h.block⟩
theorem Upd.trans {L U : Nat} {w w' w'' : World} (h : Upd L U w w') (h' : Upd L U w' w'') : Upd L U w w'' :=
  ⟨h'.os.trans h.os, h'.tape.trans h.tape, h'.output.trans h.output, Nat.le_trans h.size h'.size, fun k hk hc => (h'.block k (Nat.lt_of_lt_of_le hk h.size) hc).trans (h.block k hk hc)⟩

/-- the reader in block B: its bytes, its place, its number -/
def CurAt (w : World) (B : Nat) (a : Option Addr) (len cap : Nat) : Prop :=
  ∃ i h : Int, 0 ≤ i ∧ i ≤ len ∧ w.cell? ⟨B, 0, none⟩ = some (.slice a len cap) ∧ w.cell? ⟨B, 1, none⟩ = some (.int .i64 i) ∧ w.cell? ⟨B, 2, none⟩ = some (.int .i64 h) ∧ ∀ j, w.frozen? ⟨B, j, none⟩ = false
set_option maxHeartbeats 1000000 in
theorem l01Byte_any (a : Option Addr) (cap : Nat) (xs : List Int) (B : Nat) (w : World) (hx : ByteS w B a cap xs) (hc : CurAt w B a xs.length cap) (hlen : xs.length ≤ 1048576) (hB : B < w.heap.size) :
    Calls Tryd.prog 28 #[.pointer (some ⟨B, 0, none⟩)] w fun e w' => (∃ x : Int, e = .returned (.int .i64 x) ∧ 0 ≤ x ∧ x ≤ 255) ∧ CurAt w' B a xs.length cap ∧ Upd B (B + 1) w w' := by
  obtain ⟨i, h, hi0, hi1, k0, k1, k2, hf⟩ := hc
  have hf1 := hf 1
  have hf2 := hf 2
  go_enter Tryd.func28, Tryd.ntmps28
  go_wp2
  have hu1 : Upd B (B + 1) w (w.setCell ⟨B, 2, none⟩ (.int .i64 (wrap64 (wrap64 (h * 6364136223846793005) + 1442695040888963407)))) := (Upd.refl _ _ _).setCell (p := ⟨B, 2, none⟩) (Nat.le_refl _) (Nat.lt_succ_self _) _
  have q0 := (World.cell?_setCell_other w ⟨B, 2, none⟩ ⟨B, 0, none⟩ (.int .i64 (wrap64 (wrap64 (h * 6364136223846793005) + 1442695040888963407))) (by simp)).trans k0
  have q1 := (World.cell?_setCell_other w ⟨B, 2, none⟩ ⟨B, 1, none⟩ (.int .i64 (wrap64 (wrap64 (h * 6364136223846793005) + 1442695040888963407))) (by simp)).trans k1
  have q2 := World.cell?_setCell_same w ⟨B, 2, none⟩ (.int .i64 (wrap64 (wrap64 (h * 6364136223846793005) + 1442695040888963407))) k2
  have qf : ∀ j, (w.setCell ⟨B, 2, none⟩ (.int .i64 (wrap64 (wrap64 (h * 6364136223846793005) + 1442695040888963407)))).frozen? ⟨B, j, none⟩ = false := fun j => by rw [World.frozen?_setCell]; exact hf j
  have HU := Lib.hid hu1
  have HX := Lib.hid hx
  clear hu1 k0 k1 k2 hf hf1 hf2 hx
  generalize wrap64 (wrap64 (h * 6364136223846793005) + 1442695040888963407) = h2 at *
  generalize w.setCell ⟨B, 2, none⟩ (.int .i64 h2) = w1 at *
  go_quiet (fail)
  go_wp2
  rw [i64_and255]
  obtain ⟨x0, x1⟩ := mod_bd (bits BinOp.xor IntKind.i64 (h2 / 8589934592) (h2 / 35184372088832)) 256 (by decide)
  generalize bits BinOp.xor IntKind.i64 (h2 / 8589934592) (h2 / 35184372088832) % 256 = x at *
  generalize bits BinOp.xor IntKind.i64 (h2 / 8589934592) (h2 / 35184372088832) = x' at *
  have HU2 := Lib.hid (HU.out.drewN nq)
  have p0 : (w1.drewN nq).cell? ⟨B, 0, none⟩ = some (.slice a xs.length cap) := q0
  have p1 : (w1.drewN nq).cell? ⟨B, 1, none⟩ = some (.int .i64 i) := q1
  have p2 : (w1.drewN nq).cell? ⟨B, 2, none⟩ = some (.int .i64 h2) := q2
  have pf : ∀ j, (w1.drewN nq).frozen? ⟨B, j, none⟩ = false := qf
  clear q0 q1 q2 qf HU
  generalize w1.drewN nq = w2 at *
  obtain ⟨k, rfl⟩ : ∃ k : Nat, i = k := ⟨i.toNat, by omega⟩
  by_cases hlt : k < xs.length
  · obtain ⟨-, -, hby, b, off, hab, hcb⟩ := HX.out
    obtain ⟨rfl, hbB⟩ := hab (by omega)
    obtain ⟨y0, y1⟩ := hby _ (List.getElem_mem hlt)
    have hcx := ((HU2.out.below (B := B) (Nat.le_refl _) (by omega)).cell (p := ⟨b, off + k, none⟩) hbB).trans (hcb k hlt)
    have g1 : (0 : Int) ≤ (k : Int) := by omega
    have g2 : (k : Int) < (xs.length : Int) := by omega
    have hd : decide ((k : Int) < (xs.length : Int)) = true := decide_eq_true g2
    have hf1 := pf 1
    clear hab hcb hby HX
    generalize xs[k] = y at *
    go_quiet (fail)
    go_wp2
    go_quiet (fail)
    go_wp2
    go_ret
    obtain ⟨z0, z1⟩ := mod_bd (x + y) 256 (by decide)
    refine ⟨⟨_, rfl, by rw [i64_and255]; exact z0, by rw [i64_and255]; omega⟩, ⟨(k : Int) + 1, h2, by omega, by omega, ?_, ?_, ?_, fun j => by rw [World.frozen?_setCell]; exact pf j⟩, (HU2.out.drewN _).setCell (p := ⟨B, 1, none⟩) (Nat.le_refl _) (Nat.lt_succ_self _) _⟩
    · exact (World.cell?_setCell_other _ ⟨B, 1, none⟩ ⟨B, 0, none⟩ _ (by simp)).trans p0
    · exact World.cell?_setCell_same _ _ _ (show _ = some (Value.int .i64 (k : Int)) from p1)
    · exact (World.cell?_setCell_other _ ⟨B, 1, none⟩ ⟨B, 2, none⟩ _ (by simp)).trans p2
  · have hd : decide ((k : Int) < (xs.length : Int)) = false := decide_eq_false (by omega)
    go_quiet (fail)
    go_wp2
    go_ret
    exact ⟨⟨x, rfl, x0, by omega⟩, ⟨(k : Int), h2, hi0, hi1, p0, p1, p2, pf⟩, HU2.out.drewN _⟩
set_option maxHeartbeats 1000000 in
/-- a new reader, in a new block -/
theorem l01New_any (a : Option Addr) (cap : Nat) (xs : List Int) (w : World) (hx : ByteS w w.heap.size a cap xs) (hlen : xs.length ≤ 1048576) :
    Calls Tryd.prog 53 #[.slice a xs.length cap] w fun e w' => e = .returned (.pointer (some ⟨w.heap.size, 0, none⟩)) ∧ CurAt w' w.heap.size a xs.length cap ∧ w'.heap.size = w.heap.size + 1 ∧ Below w.heap.size w w' := by
  obtain ⟨-, -, hby, b, off, hab, hcb⟩ := hx
  have HA := Lib.hid hab; clear hab
  have HC := Lib.hid hcb; clear hcb
  have HY := Lib.hid hby; clear hby
  go_enter Tryd.func53, Tryd.ntmps53
  go_wp2
  go_loop [3, 4] (fun h i => ∃ k : Nat, k ≤ xs.length ∧ k ≤ 4000 ∧ i = .int .i64 k ∧ ∃ hv : Int, 0 ≤ hv ∧ hv ≤ 1073741824 ∧ h = .int .i64 hv) (fun _ i => 4000 - (intOf i).toNat)
  case atStart => exact ⟨0, Nat.zero_le _, by omega, rfl, 2140 + (xs.length : Int), by omega, by omega, rfl⟩
  case round =>
    obtain ⟨k, hk, hk4, rfl, hv, hv0, hv1, rfl⟩ := hrel
    by_cases hlt : k < xs.length
    · have hd1 : decide ((k : Int) < (xs.length : Int)) = true := decide_eq_true (by omega)
      by_cases h4 : k < 4000
      · have hd2 : decide ((k : Int) < 4000) = true := decide_eq_true (by omega)
        obtain ⟨rfl, hbB⟩ := HA.out (by omega)
        obtain ⟨y0, y1⟩ := HY.out _ (List.getElem_mem hlt)
        have hcx := HC.out k hlt
        generalize xs[k] = y at *
        go_wp2
        go_round
        case rel =>
          obtain ⟨z0, z1⟩ := mod_bd (hv * 151 + y + 7) 1073741824 (by decide)
          exact ⟨k + 1, by omega, by omega, by go_num, _, by rw [← i64_and30] at z0; exact z0, by rw [← i64_and30] at z1; omega, rfl⟩
        case measure => simp [intOf]; omega
      · have hd2 : decide ((k : Int) < 4000) = false := decide_eq_false (by omega)
        go_wp2
        go_ret
        exact ⟨rfl, ⟨0, hv, by omega, by omega, by rw [World.cell?_alloc_new]; rfl, by rw [World.cell?_alloc_new]; rfl, by rw [World.cell?_alloc_new]; rfl, fun j => World.frozen?_alloc_new _ _ _ _⟩, by simp, (Below.refl _ _).alloc (Nat.le_refl _) _⟩
    · have hd1 : decide ((k : Int) < (xs.length : Int)) = false := decide_eq_false (by omega)
      go_wp2
      go_ret
      exact ⟨rfl, ⟨0, hv, by omega, by omega, by rw [World.cell?_alloc_new]; rfl, by rw [World.cell?_alloc_new]; rfl, by rw [World.cell?_alloc_new]; rfl, fun j => World.frozen?_alloc_new _ _ _ _⟩, by simp, (Below.refl _ _).alloc (Nat.le_refl _) _⟩
set_option maxHeartbeats 1000000 in
theorem l31New_any (a : Option Addr) (cap : Nat) (xs : List Int) (n : Nat) (w : World) (hx : ByteS w w.heap.size a cap xs) (hlen : xs.length ≤ 1048576) (hn : n ≤ 1000) :
    Calls Tryd.prog 27 #[.slice a xs.length cap, .int .i64 n] w fun e w' => e = .returned (.pointer (some ⟨w.heap.size, 0, none⟩)) ∧ CurAt w' w.heap.size a xs.length cap ∧ w.heap.size < w'.heap.size ∧ Below w.heap.size w w' := by
  have HX := Lib.hid hx; clear hx
  go_enter Tryd.func27, Tryd.ntmps27
  go_wp2_with fail
  refine (l01New_any a cap xs _ HX.out hlen).mono ?_
  rintro e w1 ⟨rfl, hc1, hs1, hb1⟩
  have HC1 := Lib.hid hc1
  have HB1 := Lib.hid hb1
  clear hc1 hb1
  go_wp2_with fail
  go_loopw [6] (fun i wr => ∃ k : Nat, k ≤ n ∧ i = .int .i64 k ∧ CurAt wr w.heap.size a xs.length cap ∧ Upd w.heap.size (w.heap.size + 1) w1 wr) (fun i _ => n - (intOf i).toNat)
  case atStart => exact ⟨0, Nat.zero_le _, rfl, HC1.out, Upd.refl _ _ _⟩
  case round =>
    obtain ⟨k, hk, rfl, hc, hu⟩ := hrel
    have hsz := hu.size
    have HU := Lib.hid hu
    have HC := Lib.hid hc
    clear hu hc
    by_cases hlt : k < n
    · have HXr : Hid (ByteS w1 w.heap.size a cap xs) := HX.out.below HB1.out
      have HXw := Lib.hid (HXr.out.below (HU.out.below (Nat.le_refl _) (by omega)))
      clear HXr
      go_wp2_with fail
      refine (l01Byte_any a cap xs w.heap.size _ HXw.out HC.out hlen (by omega)).mono ?_
      rintro e w2 ⟨⟨x, rfl, x0, x1⟩, hc2, hu2⟩
      have HC2 := Lib.hid hc2
      have HU2 := Lib.hid (HU.out.trans hu2)
      clear hc2 hu2
      go_wp2_with fail
      go_roundw
      case rel => exact ⟨k + 1, by omega, by go_num, HC2.out, HU2.out⟩
      case measure => simp [intOf]; omega
    · go_wp2_with fail
      go_ret
      exact ⟨rfl, HC.out, by omega, HB1.out.trans (HU.out.below (Nat.le_refl _) (by omega))⟩
set_option maxHeartbeats 1000000 in
theorem MakeNum_any (a : Option Addr) (cap : Nat) (xs : List Int) (n : Nat) (w : World) (hx : ByteS w w.heap.size a cap xs) (hlen : xs.length ≤ 1048576) (hn : n ≤ 1000) :
    Calls Tryd.prog 6 #[.slice a xs.length cap, .int .i64 n] w fun e w' => (∃ x : Int, e = .returned (.int .i64 x) ∧ 0 ≤ x ∧ x ≤ 65535) ∧ Below w.heap.size w w' := by
  have HX := Lib.hid hx; clear hx
  go_enter Tryd.func6, Tryd.ntmps6
  go_wp2_with fail
  refine (l31New_any a cap xs n _ HX.out hlen hn).mono ?_
  rintro e w1 ⟨rfl, hc1, hs1, hb1⟩
  have HC1 := Lib.hid hc1
  have HB1 := Lib.hid hb1
  have HX1 := Lib.hid (HX.out.below hb1)
  clear hc1 hb1
  go_wp2_with fail
  refine (l01Byte_any a cap xs w.heap.size _ HX1.out HC1.out hlen (by omega)).mono ?_
  rintro e w2 ⟨⟨x, rfl, x0, x1⟩, hc2, hu2⟩
  have hs2 := hu2.size
  have HC2 := Lib.hid hc2
  have HB2 := Lib.hid (HB1.out.trans (hu2.below (Nat.le_refl _) (by omega)))
  have HX2 := Lib.hid (HX.out.below HB2.out)
  clear hc2 hu2
  go_wp2_with fail
  refine (l01Byte_any a cap xs w.heap.size _ HX2.out HC2.out hlen (by omega)).mono ?_
  rintro e w3 ⟨⟨y, rfl, y0, y1⟩, hc3, hu3⟩
  have HB3 := Lib.hid (HB2.out.trans (hu3.below (Nat.le_refl _) (by omega)))
  clear hc3 hu3
  go_wp2_with fail
  go_ret
  exact ⟨⟨_, rfl, by omega, by omega⟩, HB3.out⟩

end Go.Proofs.YtkapbhlnjmfaaaaDoor
