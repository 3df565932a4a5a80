/- Machines that come in to a law; their copies and comparisons; the laws. Conditions: those of each contract. -/
import Derived.Test.YtkapbhlnjmfaaaaDoorMachC
import Derived.Deep.Grids
import Derived.Deep.Strs
import Derived.ProofKit
import Derived.OpenShut
namespace Go.Proofs.YtkapbhlnjmfaaaaDoor
set_option linter.unusedVariables false
open Go.RowKit

theorem cells_int : Tryd.prog.cellsOf 3 = 1 := by kernel_rfl
theorem cells_ints : Tryd.prog.cellsOf 24 = 1 := by kernel_rfl
theorem cells_bools : Tryd.prog.cellsOf 25 = 1 := by kernel_rfl
theorem cells_mach : Tryd.prog.cellsOf 42 = 3 := by kernel_rfl
open Go.ChangeShapes Go.WideShapes Go.ChangeAt in
/-- what a law is told of a machine that came in -/
theorem open_mach {H : Type} {enc : TypeId × Value → H} {W : World} {base : Nat} {v : Value} {d : DataW H} {ps : List MemPlace} (hv : Value.okWide Tryd.prog W .any base 42 v) (h : DataW.Trod enc Tryd.prog W 0 (fun _ => true) true 42 v d ps) :
    ∃ a1 c1 a2 c2 m, v = .agg #[.int .i64 m.base, .slice a1 m.next.length c1, .slice a2 m.final.length c2] ∧ Mach W W.heap.size a1 c1 a2 c2 m ∧ (Lit.int .i64 m.base).wf = true := by
  obtain ⟨cs, rfl, hs⟩ := Go.WideShapes.okWide_struct Tryd.underlying42 hv
  rw [cells_mach] at hs
  obtain ⟨fuel, hf⟩ := h
  obtain ⟨y0, y1, y2, n, -, -, h0, h1, h2⟩ := Go.Deep.trod_struct3 Tryd.underlying42 hf
  obtain ⟨l⟩ := cs
  match l, hs with
  | [x0, x1, x2], _ =>
    simp only [Value.cells, cells_int, cells_ints, cells_bools, List.drop, List.take] at h0 h1 h2
    obtain ⟨q, e0, -, hq⟩ := DataW.trod_int Tryd.underlying3 h0
    simp only [List.cons.injEq, and_true] at e0
    subst e0
    have hi : ∃ a1 c1 xs, x1 = .slice a1 (List.length xs) c1 ∧ Ints W W.heap.size a1 c1 xs := by
      rcases open_ints Tryd.underlying24 Tryd.underlying3 (by kernel_rfl) h1 with ⟨hcs, _⟩ | ⟨x, l, c, zs, hcs, _, hl, hm, hz, _, hcell, hwz⟩
      · simp only [List.cons.injEq, and_true] at hcs
        exact ⟨none, 0, [], hcs, by simp, by simp [maxLen], 0, 0, by simp, by simp⟩
      · simp only [List.cons.injEq, and_true] at hcs
        have hrow : IsRow .i64 W (some x) l c zs := .inr ⟨_, rfl, hl, hm, by simpa using hz, hcell, hwz⟩
        obtain ⟨xs, rfl, hx⟩ := hrow.op
        exact ⟨some x, c, xs, hcs, hx⟩
    have hb : ∃ a2 c2 bs, x2 = .slice a2 (List.length bs) c2 ∧ Bools W W.heap.size a2 c2 bs := by
      rcases Go.Deep.open_bools Tryd.underlying25 Tryd.underlying4 (by kernel_rfl) h2 with ⟨hcs, _⟩ | ⟨x, l, c, B, hcs, _, hl, hm, _, hcell⟩
      · simp only [List.cons.injEq, and_true] at hcs
        exact ⟨none, 0, [], hcs, by simp, by simp [maxLen], 0, 0, by simp, by simp⟩
      · simp only [List.cons.injEq, and_true] at hcs
        refine ⟨some x, c, (List.range l).map B, by rw [hcs]; simp, by simpa using hl, hm, ?_⟩
        obtain ⟨b, off, spot⟩ := x
        by_cases hp : 0 < l
        · have hspot : spot = none := by simpa [Addr.add] using World.cell?_spot (hcell 0 (by omega))
          subst hspot
          have hc0 : W.cell? (⟨b, off, none⟩ : Addr) = some (.bool (B 0)) := by simpa [Addr.add] using hcell 0 (by omega)
          refine ⟨b, off, fun _ => ⟨rfl, World.block_lt_of_cell? W (⟨b, off, none⟩ : Addr) hc0⟩, fun i hi => ?_⟩
          simp at hi
          have := hcell i (by omega)
          rw [show (⟨b, off, none⟩ : Addr).add i = ⟨b, off + i, none⟩ from by simp [Addr.add]] at this
          rw [this]
          simp
        · exact ⟨b, off, fun h => by simp at h; omega, fun i hi => by simp at hi; omega⟩
    obtain ⟨a1, c1, xs, rfl, hx⟩ := hi
    obtain ⟨a2, c2, bs, rfl, hbs⟩ := hb
    exact ⟨a1, c1, a2, c2, ⟨q, xs, bs⟩, rfl, ⟨hx, hbs⟩, hq⟩

theorem szIntS_any (a : Option Addr) (l c : Nat) (left : Int) (w : World) (h0 : 0 ≤ left) (h1 : left ≤ 1048576) (hl : l ≤ 9223372036854775807) :
    Calls Tryd.prog 43 #[.slice a l c, .int .i64 left] w fun e w' => e = .returned (.int .i64 (if left - l < 0 then -1 else left - l)) ∧ w = w' := by
  by_cases h : left - l < 0
  · rw [if_pos h]
    go_enter Tryd.func43, Tryd.ntmps43
    go_wp2
    go_ret
    exact ⟨rfl, rfl⟩
  · rw [if_neg h]
    go_enter Tryd.func43, Tryd.ntmps43
    go_wp2
    go_ret
    exact ⟨rfl, rfl⟩
theorem szBoolS_any (a : Option Addr) (l c : Nat) (left : Int) (w : World) (h0 : 0 ≤ left) (h1 : left ≤ 1048576) (hl : l ≤ 9223372036854775807) :
    Calls Tryd.prog 44 #[.slice a l c, .int .i64 left] w fun e w' => e = .returned (.int .i64 (if left - l < 0 then -1 else left - l)) ∧ w = w' := by
  by_cases h : left - l < 0
  · rw [if_pos h]
    go_enter Tryd.func44, Tryd.ntmps44
    go_wp2
    go_ret
    exact ⟨rfl, rfl⟩
  · rw [if_neg h]
    go_enter Tryd.func44, Tryd.ntmps44
    go_wp2
    go_ret
    exact ⟨rfl, rfl⟩
def szR (l1 l2 : Nat) : Int := if l1 + l2 ≤ 1048576 then 1048576 - l1 - l2 else -1
theorem boxL_new (q : Int) (a1 : Option Addr) (l1 c1 : Nat) (a2 : Option Addr) (l2 c2 : Nat) (w : World) : ∃ w0, w0 = w.alloc (.cells #[.int .i64 q, .slice a1 l1 c1, .slice a2 l2 c2] 42) ∧ Below w.heap.size w w0 ∧ w0.heap.size = w.heap.size + 1 ∧
    w0.cell? ⟨w.heap.size, 0, none⟩ = some (.int .i64 q) ∧ w0.cell? ⟨w.heap.size, 1, none⟩ = some (.slice a1 l1 c1) ∧ w0.cell? ⟨w.heap.size, 2, none⟩ = some (.slice a2 l2 c2) := by
  refine ⟨_, rfl, (Below.refl _ _).alloc (Nat.le_refl _) _, by simp, ?_, ?_, ?_⟩
  all_goals (rw [World.cell?_alloc_new]; rfl)
theorem szMachine_any (q : Int) (a1 : Option Addr) (l1 c1 : Nat) (a2 : Option Addr) (l2 c2 : Nat) (w : World) (h1 : l1 ≤ 9223372036854775807) (h2 : l2 ≤ 9223372036854775807) :
    Calls Tryd.prog 22 #[.agg #[.int .i64 q, .slice a1 l1 c1, .slice a2 l2 c2], .int .i64 1048576] w fun e w' => e = .returned (.int .i64 (szR l1 l2)) ∧ Below w.heap.size w w' := by
  obtain ⟨w0, e0, hb0, hs0, k0, k1, k2⟩ := boxL_new q a1 l1 c1 a2 l2 c2 w
  have HB0 := Lib.hid hb0; clear hb0
  by_cases h3 : (1048576 : Int) - l1 < 0
  · have HF : Hid (szR l1 l2 = -1) := by show _ = _; simp only [szR]; rw [if_neg (by omega)]
    go_enter Tryd.func22, Tryd.ntmps22
    go_wp2_with fail
    rw [← e0]
    clear e0
    refine (szIntS_any a1 l1 c1 1048576 _ (by decide) (by decide) h1).mono ?_
    rintro e w1 ⟨rfl, rfl⟩
    rw [if_pos h3]
    go_wp2_with fail
    go_ret
    exact ⟨by rw [HF.out] <;> rfl, HB0.out⟩
  by_cases h4 : (1048576 : Int) - l1 - l2 < 0
  · have HF : Hid (szR l1 l2 = -1) := by show _ = _; simp only [szR]; rw [if_neg (by omega)]
    have hlt : (l1 : Int) ≤ 1048576 := by omega
    go_enter Tryd.func22, Tryd.ntmps22
    go_wp2_with fail
    rw [← e0]
    clear e0
    refine (szIntS_any a1 l1 c1 1048576 _ (by decide) (by decide) h1).mono ?_
    rintro e w1 ⟨rfl, rfl⟩
    rw [if_neg (by omega)]
    go_wp2_with fail
    refine (szBoolS_any a2 l2 c2 _ _ (by omega) (by omega) h2).mono ?_
    rintro e w1 ⟨rfl, rfl⟩
    rw [if_pos h4]
    go_wp2_with fail
    go_ret
    exact ⟨by rw [HF.out] <;> rfl, HB0.out⟩
  · have HF : Hid (szR l1 l2 = 1048576 - l1 - l2) := by show _ = _; simp only [szR]; rw [if_pos (by omega)]
    have hlt : (l1 : Int) ≤ 1048576 := by omega
    have hlt2 : (l2 : Int) ≤ 1048576 - l1 := by omega
    go_enter Tryd.func22, Tryd.ntmps22
    go_wp2_with fail
    rw [← e0]
    clear e0
    refine (szIntS_any a1 l1 c1 1048576 _ (by decide) (by decide) h1).mono ?_
    rintro e w1 ⟨rfl, rfl⟩
    rw [if_neg (by omega)]
    go_wp2_with fail
    refine (szBoolS_any a2 l2 c2 _ _ (by omega) (by omega) h2).mono ?_
    rintro e w1 ⟨rfl, rfl⟩
    rw [if_neg (by omega)]
    go_wp2_with fail
    go_ret
    exact ⟨by rw [HF.out] <;> rfl, HB0.out⟩
theorem info_bool : (Tryd.prog.info? 4).map (fun i => (i.zero, i.size, i.bytes)) = some (some (.bool false), 1, 1) := by kernel_rfl
theorem binfo_parts {p : Program} {t : TypeId} {z : Value} {n b : Nat} (h : (p.info? t).map (fun i => (i.zero, i.size, i.bytes)) = some (some z, n, b)) : ∃ i, p.info? t = some i ∧ i.zero = some z ∧ i.size = n ∧ i.bytes = b := by
  cases hi : p.info? t with
  | none => rw [hi] at h; cases h
  | some i => rw [hi] at h; simp only [Option.map_some, Option.some.injEq, Prod.mk.injEq] at h; exact ⟨i, rfl, h.1, h.2.1, h.2.2⟩
def copiedB (xs : List Bool) (j : Nat) : List Bool := xs.take j ++ List.replicate (xs.length - j) false
theorem copiedB_len (xs : List Bool) (j : Nat) (h : j ≤ xs.length) : (copiedB xs j).length = xs.length := by simp [copiedB]; omega
theorem copiedB_set (xs : List Bool) (j : Nat) (h : j < xs.length) : (copiedB xs j).set j xs[j] = copiedB xs (j + 1) := by
  unfold copiedB
  rw [take_next xs j h, List.set_append_right _ _ (by simp; omega), show xs.length - j = (xs.length - (j + 1)) + 1 from by omega, List.replicate_succ]
  simp only [List.length_take, Nat.min_eq_left (Nat.le_of_lt h), Nat.sub_self, List.set_cons_zero, List.append_assoc, List.singleton_append]
theorem copiedB_all (xs : List Bool) : copiedB xs xs.length = xs := by simp [copiedB]
theorem copiedB_zero (xs : List Bool) : (copiedB xs 0).map Value.bool = List.replicate xs.length (.bool false) := by simp [copiedB]
/-- a slice of booleans in a block of the call's own -/
def OwnBo (w : World) (base : Nat) (a : Option Addr) (cap : Nat) (xs : List Bool) : Prop := w.ownsRow base 4 1 (.slice a xs.length cap) xs.length (xs.map Value.bool)
theorem OwnBo.bools {w : World} {base : Nat} {a : Option Addr} {cap : Nat} {xs : List Bool} (h : OwnBo w base a cap xs) : Bools w w.heap.size a cap xs := by
  have h0 := h
  rcases h.2 with ⟨h1, h2⟩ | ⟨g, cap', cur, hv, hg, hh, hnc, hcm, hcs, ht⟩
  · simp only [Value.slice.injEq] at h1
    obtain ⟨rfl, -, rfl⟩ := h1
    exact ⟨by omega, by unfold maxLen; omega, 0, 0, fun h => by omega, fun i hi => by omega⟩
  · simp only [Value.slice.injEq, true_and] at hv
    obtain ⟨rfl, rfl⟩ := hv
    refine ⟨hnc, hcm, g, 0, fun _ => ⟨rfl, lt_of_block hh⟩, fun i hi => ?_⟩
    rw [Nat.zero_add, World.ownsRow.cellAt h0 i (by omega)]
    simp [hi]
theorem OwnBo.upd {w w' : World} {L L' U' : Nat} {a : Option Addr} {cap : Nat} {xs : List Bool} (h : OwnBo w L a cap xs) (hu : Upd L' U' w w') (hc : U' ≤ L) : OwnBo w' L a cap xs := by
  rcases h.2 with ⟨hv, hn⟩ | ⟨g, cap', cur, hv, hg, hh, r⟩
  · exact ⟨h.1, Or.inl ⟨hv, hn⟩⟩
  · exact ⟨h.1, Or.inr ⟨g, cap', cur, hv, hg, by rw [hu.block g (lt_of_block hh) (by omega)]; exact hh, r⟩⟩
set_option maxHeartbeats 400000 in
theorem toBoolS_any (a : Option Addr) (cap : Nat) (xs : List Bool) (w : World) (hx : Bools w w.heap.size a cap xs) (h1 : xs.length ≤ 1048576) :
    Calls Tryd.prog 49 #[.slice a xs.length cap] w fun e w' => ∃ a' cap', e = .returned (.slice a' xs.length cap') ∧ OwnBo w' w.heap.size a' cap' xs ∧ Below w.heap.size w w' := by
  obtain ⟨-, -, b, off, ha, hc⟩ := hx
  have Ha := Lib.hid ha; clear ha
  have Hc := Lib.hid hc; clear hc
  obtain ⟨i0, hi, hz0, hz1, hz2⟩ := binfo_parts info_bool
  go_enter Tryd.func49, Tryd.ntmps49
  go_wp2_with (at_make; refine wpList_make_full _ rfl _ _ 25 rfl w.heap.size 4 i0 (.bool false) 1 Tryd.underlying25 hi hz0 hz1 .i64 .i64 _ _ xs.length rfl rfl rfl rfl ?_ ?_ (Nat.le_refl _) ?_)
  · rw [hz2]; omega
  · unfold maxLen; omega
  intro w1 hown hgrow
  have hown0 : w1.ownsRow w.heap.size 4 1 (.slice (some ⟨w.heap.size, 0, none⟩) xs.length xs.length) xs.length ((copiedB xs 0).map Value.bool) := by
    rw [copiedB_zero]
    rw [← toList_madeCells_one]; exact hown
  have hb0 : Below w.heap.size w w1 := (Below.refl _ _).grown hgrow (Nat.le_refl _) (fun k hk => by cases hk)
  have HO0 := Lib.hid hown0
  have HB0 := Lib.hid hb0
  clear hown hown0 hgrow hb0
  go_wp2
  go_loopw [4] (fun i wr => ∃ k : Nat, k ≤ xs.length ∧ i = .int .i64 k ∧ wr.ownsRow w.heap.size 4 1 (.slice (some ⟨w.heap.size, 0, none⟩) xs.length xs.length) xs.length ((copiedB xs k).map Value.bool) ∧ Below w.heap.size w wr) (fun i _ => xs.length - (intOf i).toNat)
  case atStart => exact ⟨0, Nat.zero_le _, rfl, HO0.out, HB0.out⟩
  case round =>
    obtain ⟨k, hk, rfl, ho, hb⟩ := hrel
    by_cases hlt : k < xs.length
    · obtain ⟨rfl, hbb⟩ := Ha.out (by omega)
      have hcx := (hb.cell (p := ⟨b, off + k, none⟩) hbb).trans (Hc.out k hlt)
      obtain ⟨u, hcu⟩ : ∃ u : Bool, wr.cell? ⟨w.heap.size, k, none⟩ = some (.bool u) := by
        have hlm := copiedB_len xs k hk
        have h := World.ownsRow.cellAt ho k (by omega)
        rw [List.getElem?_map, List.getElem?_eq_getElem (by omega)] at h
        exact ⟨_, h⟩
      have hfx := World.ownsRow.frozenAt ho k
      have hst := (World.ownsRow.stored ho k (.bool xs[k])).1
      rw [← List.map_set, copiedB_set xs k hlt] at hst
      have HS := Lib.hid hst
      have HB := Lib.hid hb
      have g1 : (0 : Int) ≤ (k : Int) := by omega
      have g2 : (k : Int) < (xs.length : Int) := by omega
      clear hst hb ho
      go_wp2
      go_roundw
      case rel => exact ⟨k + 1, by omega, by go_num, HS.out, HB.out.setCell (Nat.le_refl _) _⟩
      case measure => simp [intOf] <;> omega
    · have HO := Lib.hid ho
      have HB := Lib.hid hb
      clear ho hb
      go_wp2
      go_ret
      obtain rfl : k = xs.length := by omega
      have h := HO.out
      rw [copiedB_all] at h
      exact ⟨_, _, rfl, h, HB.out⟩
theorem eqBoolS_same (a a' : Option Addr) (cap cap' : Nat) (xs : List Bool) (w : World) (hx : Bools w w.heap.size a cap xs) (hy : Bools w w.heap.size a' cap' xs) :
    Calls Tryd.prog 52 #[.slice a xs.length cap, .slice a' xs.length cap'] w fun e w' => e = .returned (.bool true) ∧ Below w.heap.size w w' := by
  have hl := hx.len
  obtain ⟨hq1, -, b, off, ha, hc⟩ := hx
  obtain ⟨hq2, -, b', off', ha', hc'⟩ := hy
  have Ha := Lib.hid ha; clear ha
  have Hc := Lib.hid hc; clear hc
  have Ha' := Lib.hid ha'; clear ha'
  have Hc' := Lib.hid hc'; clear hc'
  go_enter Tryd.func52, Tryd.ntmps52
  go_wp2
  go_loopw [5] (fun i wr => ∃ k : Nat, k ≤ xs.length ∧ i = .int .i64 k ∧ Below w.heap.size w wr) (fun i _ => xs.length - (intOf i).toNat)
  case atStart => exact ⟨0, Nat.zero_le _, rfl, Below.refl _ _⟩
  case round =>
    obtain ⟨k, hk, rfl, hb⟩ := hrel
    by_cases hlt : k < xs.length
    · obtain ⟨rfl, hb1⟩ := Ha.out (by omega)
      obtain ⟨rfl, hb2⟩ := Ha'.out (by omega)
      have hcx := (hb.cell (p := ⟨b, off + k, none⟩) hb1).trans (Hc.out k hlt)
      have hcy := (hb.cell (p := ⟨b', off' + k, none⟩) hb2).trans (Hc'.out k hlt)
      have g1 : (0 : Int) ≤ (k : Int) := by omega
      have g2 : (k : Int) < (xs.length : Int) := by omega
      have HB := Lib.hid hb; clear hb
      generalize xs[k] = y at *
      go_wp2
      go_quiet (fail)
      go_wp2
      go_roundw
      case rel => exact ⟨k + 1, by omega, by go_num, below_drewN HB.out _⟩
      case measure => simp [intOf]; omega
    · have HB := Lib.hid hb; clear hb
      go_wp2
      go_ret
      exact ⟨rfl, HB.out⟩
theorem eqMachine_same (a1 : Option Addr) (c1 : Nat) (a2 : Option Addr) (c2 : Nat) (b1 : Option Addr) (d1 : Nat) (b2 : Option Addr) (d2 : Nat) (m : Ma) (w : World) (hm : Mach w w.heap.size a1 c1 a2 c2 m) (hn : Mach w w.heap.size b1 d1 b2 d2 m) :
    Calls Tryd.prog 26 #[.agg #[.int .i64 m.base, .slice a1 m.next.length c1, .slice a2 m.final.length c2], .agg #[.int .i64 m.base, .slice b1 m.next.length d1, .slice b2 m.final.length d2]] w fun e w' => e = .returned (.bool true) ∧ Below w.heap.size w w' := by
  obtain ⟨w0, e0, hb0, hs0, k0, k1, k2⟩ := box_new m.base a1 m.next.length c1 a2 m.final.length c2 w
  obtain ⟨w1, e1, hb1, hs1, j0, j1, j2⟩ := box_new m.base b1 m.next.length d1 b2 m.final.length d2 w0
  have hb01 : Below w.heap.size w w1 := hb0.trans (hb1.mono (by omega))
  have i0 := (hb1.cell (p := ⟨w.heap.size, 0, none⟩) (by show w.heap.size < _; omega)).trans k0
  have i1 := (hb1.cell (p := ⟨w.heap.size, 1, none⟩) (by show w.heap.size < _; omega)).trans k1
  have i2 := (hb1.cell (p := ⟨w.heap.size, 2, none⟩) (by show w.heap.size < _; omega)).trans k2
  rw [hs0] at j0 j1 j2
  have HM : Hid (∀ W : World, Below w1.heap.size w1 W → Mach W W.heap.size a1 c1 a2 c2 m) := fun W hW => hm.later (hb01.trans (hW.mono (by omega)))
  have HN : Hid (∀ W : World, Below w1.heap.size w1 W → Mach W W.heap.size b1 d1 b2 d2 m) := fun W hW => hn.later (hb01.trans (hW.mono (by omega)))
  have HB := Lib.hid hb01
  have HK : Hid (∀ W : World, Below w1.heap.size w1 W → W.cell? ⟨w.heap.size, 2, none⟩ = some (.slice a2 m.final.length c2) ∧ W.cell? ⟨w.heap.size + 1, 2, none⟩ = some (.slice b2 m.final.length d2)) := fun W hW =>
    ⟨(hW.cell (p := ⟨w.heap.size, 2, none⟩) (by show w.heap.size < _; omega)).trans i2, (hW.cell (p := ⟨w.heap.size + 1, 2, none⟩) (by show w.heap.size + 1 < _; omega)).trans j2⟩
  clear hb0 hb1 hb01 hm hn k0 k1 k2
  go_enter Tryd.func26, Tryd.ntmps26
  go_wp2_with fail
  simp only [← e0, ← e1]
  clear e0 e1
  refine (eqIntS_same a1 b1 c1 d1 m.next _ (HM.out _ (Below.refl _ _)).ints (HN.out _ (Below.refl _ _)).ints).mono ?_
  rintro e w2 ⟨rfl, hb2⟩
  obtain ⟨x1, x2⟩ := HK.out w2 hb2
  have HB2 := Lib.hid hb2
  clear hb2
  go_wp2_with fail
  refine (eqBoolS_same a2 b2 c2 d2 m.final _ (HM.out _ HB2.out).bools (HN.out _ HB2.out).bools).mono ?_
  rintro e w3 ⟨rfl, hb3⟩
  have hz2 := HB2.out.size
  have HB3 := Lib.hid hb3
  clear hb3
  go_wp2_with fail
  go_ret
  exact ⟨rfl, HB.out.trans ((HB2.out.trans (HB3.out.mono (by omega))).mono (by omega))⟩
/-- the three new blocks of the copy: the argument's box, the result, the copy under work -/
theorem three_new (q : Int) (a1 : Option Addr) (l1 c1 : Nat) (a2 : Option Addr) (l2 c2 : Nat) (w : World) : ∃ w3, w3 = (((w.alloc (.cells #[.int .i64 q, .slice a1 l1 c1, .slice a2 l2 c2] 42)).alloc (.cells #[.int .i64 0, .slice none 0 0, .slice none 0 0] 27)).alloc (.cells #[.int .i64 q, .slice none 0 0, .slice none 0 0] 27)) ∧ Below w.heap.size w w3 ∧ w3.heap.size = w.heap.size + 1 + 1 + 1 ∧
    (w3.cell? ⟨w.heap.size, 0, none⟩ = some (.int .i64 q) ∧ w3.cell? ⟨w.heap.size, 1, none⟩ = some (.slice a1 l1 c1) ∧ w3.cell? ⟨w.heap.size, 2, none⟩ = some (.slice a2 l2 c2)) ∧
    (w3.cell? ⟨w.heap.size + 1, 0, none⟩ = some (.int .i64 0) ∧ w3.cell? ⟨w.heap.size + 1, 1, none⟩ = some (.slice none 0 0) ∧ w3.cell? ⟨w.heap.size + 1, 2, none⟩ = some (.slice none 0 0)) ∧
    (w3.cell? ⟨w.heap.size + 1 + 1, 0, none⟩ = some (.int .i64 q) ∧ w3.cell? ⟨w.heap.size + 1 + 1, 1, none⟩ = some (.slice none 0 0) ∧ w3.cell? ⟨w.heap.size + 1 + 1, 2, none⟩ = some (.slice none 0 0)) ∧
    (∀ i, w3.frozen? ⟨w.heap.size + 1, i, none⟩ = false) ∧ (∀ i, w3.frozen? ⟨w.heap.size + 1 + 1, i, none⟩ = false) := by
  obtain ⟨wa, ea, hba, hsa, a0, a1', a2'⟩ := boxL_new q a1 l1 c1 a2 l2 c2 w
  obtain ⟨wb, eb, hbb, hsb, b0, b1, b2⟩ := box_new 0 none 0 0 none 0 0 wa
  obtain ⟨wc, ec, hbc, hsc, d0, d1, d2⟩ := box_new q none 0 0 none 0 0 wb
  have hab := hbb.trans (hbc.mono (by omega))
  refine ⟨wc, by rw [ec, eb, ea], hba.trans (hab.mono (by omega)), by omega, ⟨?_, ?_, ?_⟩, ⟨?_, ?_, ?_⟩, ⟨?_, ?_, ?_⟩, ?_, ?_⟩
  · exact (hab.cell (p := ⟨w.heap.size, 0, none⟩) (by show w.heap.size < _; omega)).trans a0
  · exact (hab.cell (p := ⟨w.heap.size, 1, none⟩) (by show w.heap.size < _; omega)).trans a1'
  · exact (hab.cell (p := ⟨w.heap.size, 2, none⟩) (by show w.heap.size < _; omega)).trans a2'
  · rw [← hsa]; exact (hbc.cell (p := ⟨wa.heap.size, 0, none⟩) (by show wa.heap.size < _; omega)).trans b0
  · rw [← hsa]; exact (hbc.cell (p := ⟨wa.heap.size, 1, none⟩) (by show wa.heap.size < _; omega)).trans b1
  · rw [← hsa]; exact (hbc.cell (p := ⟨wa.heap.size, 2, none⟩) (by show wa.heap.size < _; omega)).trans b2
  · rw [← hsa, ← hsb]; exact d0
  · rw [← hsa, ← hsb]; exact d1
  · rw [← hsa, ← hsb]; exact d2
  · intro i
    rw [hbc.frozen (p := ⟨w.heap.size + 1, i, none⟩) (by show w.heap.size + 1 < _; omega), eb, ← hsa]
    exact World.frozen?_alloc_new _ _ _ _
  · intro i
    rw [ec, ← hsa, ← hsb]
    exact World.frozen?_alloc_new _ _ _ _
set_option maxHeartbeats 1000000 in
/-- a copy of a machine, in new memory -/
theorem toMachine_any (a1 : Option Addr) (c1 : Nat) (a2 : Option Addr) (c2 : Nat) (m : Ma) (w : World) (hm : Mach w w.heap.size a1 c1 a2 c2 m) (h1 : m.next.length ≤ 1048576) (h2 : m.final.length ≤ 1048576) :
    Calls Tryd.prog 24 #[.agg #[.int .i64 m.base, .slice a1 m.next.length c1, .slice a2 m.final.length c2]] w fun e w' => ∃ b1 d1 b2 d2, e = .returned (.agg #[.int .i64 m.base, .slice b1 m.next.length d1, .slice b2 m.final.length d2]) ∧ Mach w' w'.heap.size b1 d1 b2 d2 m ∧ Below w.heap.size w w' := by
  obtain ⟨w3, e3, hb3, hs3, ⟨-, -, k2⟩, ⟨r0, r1, r2⟩, ⟨z0, z1, z2⟩, hf1, hf2⟩ := three_new m.base a1 m.next.length c1 a2 m.final.length c2 w
  have HM : Hid (∀ W : World, Below w.heap.size w W → Mach W W.heap.size a1 c1 a2 c2 m) := fun W hW => hm.later hW
  have HB3 := Lib.hid hb3
  clear hb3 hm
  go_enter Tryd.func24, Tryd.ntmps24
  go_wp2_with fail
  simp only [← e3]
  clear e3
  refine (toIntS_any a1 c1 m.next _ (HM.out _ HB3.out).ints h1).mono ?_
  rintro e w4 ⟨b1, d1, rfl, ho4, hb4⟩
  have hs4 := hb4.size
  have x2 := (hb4.cell (p := ⟨w.heap.size, 2, none⟩) (by show w.heap.size < _; omega)).trans k2
  have y0 := (hb4.cell (p := ⟨w.heap.size + 1, 0, none⟩) (by show w.heap.size + 1 < _; omega)).trans r0
  have y1 := (hb4.cell (p := ⟨w.heap.size + 1, 1, none⟩) (by show w.heap.size + 1 < _; omega)).trans r1
  have y2 := (hb4.cell (p := ⟨w.heap.size + 1, 2, none⟩) (by show w.heap.size + 1 < _; omega)).trans r2
  have v0 := (hb4.cell (p := ⟨w.heap.size + 1 + 1, 0, none⟩) (by show w.heap.size + 1 + 1 < _; omega)).trans z0
  have v1 := (hb4.cell (p := ⟨w.heap.size + 1 + 1, 1, none⟩) (by show w.heap.size + 1 + 1 < _; omega)).trans z1
  have v2 := (hb4.cell (p := ⟨w.heap.size + 1 + 1, 2, none⟩) (by show w.heap.size + 1 + 1 < _; omega)).trans z2
  have f1 : ∀ i, w4.frozen? ⟨w.heap.size + 1, i, none⟩ = false := fun i => (hb4.frozen (p := ⟨w.heap.size + 1, i, none⟩) (by show w.heap.size + 1 < _; omega)).trans (hf1 i)
  have f2 : ∀ i, w4.frozen? ⟨w.heap.size + 1 + 1, i, none⟩ = false := fun i => (hb4.frozen (p := ⟨w.heap.size + 1 + 1, i, none⟩) (by show w.heap.size + 1 + 1 < _; omega)).trans (hf2 i)
  have HO4 := Lib.hid ho4.ownR
  have HB4 := Lib.hid (HB3.out.trans (hb4.mono (by omega)))
  clear ho4 hb4 r0 r1 r2 z0 z1 z2 hf1 hf2 k2
  go_wp2_with fail
  have hu5 : Upd (w.heap.size + 1 + 1) (w.heap.size + 1 + 1 + 1) w4 (w4.setCell ⟨w.heap.size + 1 + 1, 1, none⟩ (.slice b1 m.next.length d1)) := (Upd.refl _ _ _).setCell (p := ⟨w.heap.size + 1 + 1, 1, none⟩) (Nat.le_refl _) (Nat.lt_succ_self _) _
  have p2 : (w4.setCell ⟨w.heap.size + 1 + 1, 1, none⟩ (.slice b1 m.next.length d1)).cell? ⟨w.heap.size, 2, none⟩ = some (.slice a2 m.final.length c2) := (World.cell?_setCell_other _ _ _ _ (by simp)).trans x2
  have q0 : (w4.setCell ⟨w.heap.size + 1 + 1, 1, none⟩ (.slice b1 m.next.length d1)).cell? ⟨w.heap.size + 1, 0, none⟩ = some (.int .i64 0) := (World.cell?_setCell_other _ _ _ _ (by simp)).trans y0
  have q1 : (w4.setCell ⟨w.heap.size + 1 + 1, 1, none⟩ (.slice b1 m.next.length d1)).cell? ⟨w.heap.size + 1, 1, none⟩ = some (.slice none 0 0) := (World.cell?_setCell_other _ _ _ _ (by simp)).trans y1
  have q2 : (w4.setCell ⟨w.heap.size + 1 + 1, 1, none⟩ (.slice b1 m.next.length d1)).cell? ⟨w.heap.size + 1, 2, none⟩ = some (.slice none 0 0) := (World.cell?_setCell_other _ _ _ _ (by simp)).trans y2
  have n0 : (w4.setCell ⟨w.heap.size + 1 + 1, 1, none⟩ (.slice b1 m.next.length d1)).cell? ⟨w.heap.size + 1 + 1, 0, none⟩ = some (.int .i64 m.base) := (World.cell?_setCell_other _ _ _ _ (by simp)).trans v0
  have n1 : (w4.setCell ⟨w.heap.size + 1 + 1, 1, none⟩ (.slice b1 m.next.length d1)).cell? ⟨w.heap.size + 1 + 1, 1, none⟩ = some (.slice b1 m.next.length d1) := World.cell?_setCell_same _ _ _ v1
  have n2 : (w4.setCell ⟨w.heap.size + 1 + 1, 1, none⟩ (.slice b1 m.next.length d1)).cell? ⟨w.heap.size + 1 + 1, 2, none⟩ = some (.slice none 0 0) := (World.cell?_setCell_other _ _ _ _ (by simp)).trans v2
  have g1 : ∀ i, (w4.setCell ⟨w.heap.size + 1 + 1, 1, none⟩ (.slice b1 m.next.length d1)).frozen? ⟨w.heap.size + 1, i, none⟩ = false := fun i => by rw [World.frozen?_setCell]; exact f1 i
  have g2 : ∀ i, (w4.setCell ⟨w.heap.size + 1 + 1, 1, none⟩ (.slice b1 m.next.length d1)).frozen? ⟨w.heap.size + 1 + 1, i, none⟩ = false := fun i => by rw [World.frozen?_setCell]; exact f2 i
  have HO5 := Lib.hid (HO4.out.upd hu5 (Or.inr (by omega)))
  have HB5 := Lib.hid (HB4.out.trans (hu5.below (B := w.heap.size) (by omega) (by omega)))
  have hs5 := hu5.size
  clear x2 y0 y1 y2 v0 v1 v2 f1 f2 hu5
  generalize w4.setCell ⟨w.heap.size + 1 + 1, 1, none⟩ (.slice b1 m.next.length d1) = w5 at *
  refine (toBoolS_any a2 c2 m.final _ (HM.out _ HB5.out).bools h2).mono ?_
  rintro e w6 ⟨b2, d2, rfl, ho6, hb6⟩
  have hs6 := hb6.size
  have y0 := (hb6.cell (p := ⟨w.heap.size + 1, 0, none⟩) (by show w.heap.size + 1 < _; omega)).trans q0
  have y1 := (hb6.cell (p := ⟨w.heap.size + 1, 1, none⟩) (by show w.heap.size + 1 < _; omega)).trans q1
  have y2 := (hb6.cell (p := ⟨w.heap.size + 1, 2, none⟩) (by show w.heap.size + 1 < _; omega)).trans q2
  have v0 := (hb6.cell (p := ⟨w.heap.size + 1 + 1, 0, none⟩) (by show w.heap.size + 1 + 1 < _; omega)).trans n0
  have v1 := (hb6.cell (p := ⟨w.heap.size + 1 + 1, 1, none⟩) (by show w.heap.size + 1 + 1 < _; omega)).trans n1
  have v2 := (hb6.cell (p := ⟨w.heap.size + 1 + 1, 2, none⟩) (by show w.heap.size + 1 + 1 < _; omega)).trans n2
  have f1 : ∀ i, w6.frozen? ⟨w.heap.size + 1, i, none⟩ = false := fun i => (hb6.frozen (p := ⟨w.heap.size + 1, i, none⟩) (by show w.heap.size + 1 < _; omega)).trans (g1 i)
  have f2 : ∀ i, w6.frozen? ⟨w.heap.size + 1 + 1, i, none⟩ = false := fun i => (hb6.frozen (p := ⟨w.heap.size + 1 + 1, i, none⟩) (by show w.heap.size + 1 + 1 < _; omega)).trans (g2 i)
  have HO6 := Lib.hid (HO5.out.upd (Below.upd hb6) (Or.inl (by omega)))
  have HP6 := Lib.hid ho6
  have HB6 := Lib.hid (HB5.out.trans (hb6.mono (by omega)))
  clear ho6 hb6 q0 q1 q2 n0 n1 n2 g1 g2 p2 HO4 HO5
  go_wp2_with fail
  have hu7 : Upd (w.heap.size + 1) (w.heap.size + 1 + 1 + 1) w6 ((((w6.setCell ⟨w.heap.size + 1 + 1, 2, none⟩ (.slice b2 m.final.length d2)).setCell ⟨w.heap.size + 1, 0, none⟩ (.int .i64 m.base)).setCell ⟨w.heap.size + 1, 1, none⟩ (.slice b1 m.next.length d1)).setCell ⟨w.heap.size + 1, 2, none⟩ (.slice b2 m.final.length d2)) :=
    ((((Upd.refl _ _ _).setCell (p := ⟨w.heap.size + 1 + 1, 2, none⟩) (Nat.le_succ _) (Nat.lt_succ_self _) _).setCell (p := ⟨w.heap.size + 1, 0, none⟩) (Nat.le_refl _) (Nat.lt_succ_of_lt (Nat.lt_succ_self _)) _).setCell (p := ⟨w.heap.size + 1, 1, none⟩) (Nat.le_refl _) (Nat.lt_succ_of_lt (Nat.lt_succ_self _)) _).setCell (p := ⟨w.heap.size + 1, 2, none⟩) (Nat.le_refl _) (Nat.lt_succ_of_lt (Nat.lt_succ_self _)) _
  have HM7 := Lib.hid (HO6.out.upd hu7 (Or.inr (by omega))).ints
  have HN7 := Lib.hid (HP6.out.upd hu7 (by omega)).bools
  have HB7 := Lib.hid (HB6.out.trans (hu7.below (B := w.heap.size) (by omega) (by omega)))
  clear hu7 HO6 HP6
  refine bodyPost_ret (v := .agg #[.int .i64 m.base, .slice b1 m.next.length d1, .slice b2 m.final.length d2]) (by simp [results, Tryd.results24, go_sem, *]) rfl ⟨b1, d1, b2, d2, rfl, ⟨HM7.out, HN7.out⟩, HB7.out⟩

end Go.Proofs.YtkapbhlnjmfaaaaDoor
