/- What the laws on lists need: rows of a call's own in a range of blocks, copies of arguments, marks. Conditions: those of each contract. -/
import Derived.Test.YtdpddbajeldgiaaDoorMem
namespace Go.Proofs.YtdpddbajeldgiaaDoor
set_option linter.unusedVariables false
open Go.RowKit

/-- what a law is told of a slice of integers that came in -/
def IsRow (k : IntKind) (w : World) (a : Option Addr) (len cap : Nat) (zs : List Int) : Prop :=
  (a = none ∧ len = 0 ∧ cap = 0 ∧ zs = []) ∨
  ∃ x, a = some x ∧ len ≤ cap ∧ cap ≤ maxLen ∧ zs.length = cap ∧ (∀ i, i < zs.length → w.cell? (x.add i) = some (.int k (zs.getD i 0))) ∧ ∀ n ∈ zs, (Lit.int k n).wf = true
theorem IsRow.op {w : World} {a : Option Addr} {len cap : Nat} {zs : List Int} (h : IsRow .i64 w a len cap zs) : ∃ xs : List Int, xs.length = len ∧ Ints w w.heap.size a cap xs := by
  rcases h with ⟨rfl, rfl, rfl, rfl⟩ | ⟨x, rfl, hl, hc, hz, hcell, -⟩
  · exact ⟨[], rfl, by simp, by simp [maxLen], 0, 0, by simp, by simp⟩
  · refine ⟨zs.take len, by simp; omega, by simp; omega, hc, ?_⟩
    obtain ⟨b, off, spot⟩ := x
    by_cases hp : 0 < zs.length
    · have hspot : spot = none := by simpa [Addr.add] using World.cell?_spot (hcell 0 hp)
      subst hspot
      have hc0 : w.cell? (⟨b, off, none⟩ : Addr) = some (.int .i64 (zs.getD 0 0)) := by
        have := hcell 0 hp
        simpa [Addr.add] using this
      have hlt := World.block_lt_of_cell? w (⟨b, off, none⟩ : Addr) hc0
      refine ⟨b, off, fun _ => ⟨rfl, hlt⟩, fun i hi => ?_⟩
      · have hi' : i < zs.length := by simp at hi; omega
        have := hcell i hi'
        rw [show (⟨b, off, none⟩ : Addr).add i = ⟨b, off + i, none⟩ from by simp [Addr.add]] at this
        rw [this]
        simp [List.getD, hi']
    · exact ⟨b, off, fun h => by simp at h; omega, fun i hi => by simp at hi; omega⟩

/-- w' is w but for blocks from L on that lie below U, and new blocks -/
structure Upd (L U : Nat) (w w' : World) : Prop where
  os : w'.os = w.os
  tape : w'.tape = w.tape
  output : w'.output = w.output
  size : w.heap.size ≤ w'.heap.size
  block : ∀ k, k < w.heap.size → (k < L ∨ U ≤ k) → w'.heap[k]? = w.heap[k]?
theorem Upd.refl (L U : Nat) (w : World) : Upd L U w w := ⟨rfl, rfl, rfl, Nat.le_refl _, fun _ _ _ => rfl⟩
theorem Upd.setCell {L U : Nat} {w w' : World} (h : Upd L U w w') {p : Addr} (h1 : L ≤ p.block) (h2 : p.block < U) (u : Value) : Upd L U w (w'.setCell p u) := by
  refine ⟨h.os, h.tape, h.output, by simp [World.setCell]; exact h.size, fun k hk hc => ?_⟩
  rw [Below.heap_setCell _ _ _ _ (by omega)]
  exact h.block k hk hc
theorem Upd.below {L U B : Nat} {w w' : World} (h : Upd L U w w') (h1 : B ≤ L) (h2 : B ≤ w.heap.size) : Below B w w' :=
  ⟨h.os, h.tape, h.output, h.size, fun k hk => h.block k (by omega) (Or.inl (by omega))⟩
theorem Below.upd {w w' : World} (h : Below w.heap.size w w') : Upd w.heap.size w.heap.size w w' :=
  ⟨h.os, h.tape, h.output, h.size, fun k hk _ => h.block k hk⟩

/-- a row of the call's own in a block from L on, below U -/
def OwnR (w : World) (L U : Nat) (a : Option Addr) (cap : Nat) (xs : List Int) : Prop := OwnI w L a cap xs ∧ ∀ g o s, a = some ⟨g, o, s⟩ → g < U
theorem OwnI.ownR {w : World} {base : Nat} {a : Option Addr} {cap : Nat} {xs : List Int} (h : OwnI w base a cap xs) : OwnR w base w.heap.size a cap xs := by
  refine ⟨h, fun g o s e => ?_⟩
  subst e
  exact (World.ownsRow.lt h g rfl).2
theorem OwnR.ints {w : World} {L U : Nat} {a : Option Addr} {cap : Nat} {xs : List Int} (h : OwnR w L U a cap xs) : Ints w w.heap.size a cap xs := h.1.ints
theorem OwnR.upd {w w' : World} {L U L' U' : Nat} {a : Option Addr} {cap : Nat} {xs : List Int} (h : OwnR w L U a cap xs) (hu : Upd L' U' w w') (hc : U ≤ L' ∨ U' ≤ L) : OwnR w' L U a cap xs := by
  refine ⟨?_, h.2⟩
  rcases h.1.2 with ⟨hv, hn⟩ | ⟨g, cap', cur, hv, hg, hh, r⟩
  · exact ⟨h.1.1, Or.inl ⟨hv, hn⟩⟩
  · have hgU : g < U := by
      simp only [Value.slice.injEq] at hv
      exact h.2 g 0 none hv.1
    exact ⟨h.1.1, Or.inr ⟨g, cap', cur, hv, hg, by rw [hu.block g (lt_of_block hh) (by omega)]; exact hh, r⟩⟩

theorem markR_any (L U : Nat) (a : Option Addr) (cap : Nat) (xs : List Int) (k0 : Int) (w : World) (hx : OwnR w L U a cap xs) (h0 : 0 ≤ k0) (h1 : k0 + xs.length ≤ 4611686018427387904) :
    Calls Tryd.prog 27 #[.slice a xs.length cap, .int .i64 k0] w
      fun e w' => e = .returned (.int .i64 (k0 + xs.length)) ∧ OwnR w' L U a cap (marks k0 xs.length) ∧ Upd L U w w' := by
  obtain ⟨hx, hU⟩ := hx
  have hl := hx.len
  rcases hx.2 with ⟨hv, hn⟩ | ⟨g, cap', cur, hv, hg, hh, hnc, hcm, hcs, ht⟩
  · simp only [Value.slice.injEq] at hv
    obtain ⟨rfl, -, rfl⟩ := hv
    obtain rfl : xs = [] := List.eq_nil_of_length_eq_zero hn
    have HX := Lib.hid hx
    clear hx hn hl hU
    go_enter Tryd.func27, Tryd.ntmps27
    go_wp2
    go_loop [1, 5] (fun q i => i = .int .i64 0 ∧ q = .int .i64 k0) (fun _ _ => 0)
    case atStart => exact ⟨rfl, rfl⟩
    case round =>
      obtain ⟨rfl, rfl⟩ := hrel
      go_wp2
      go_ret
      exact ⟨by simp, ⟨HX.out, fun g o s e => by cases e⟩, Upd.refl _ _ _⟩
  · simp only [Value.slice.injEq, true_and] at hv
    obtain ⟨rfl, rfl⟩ := hv
    have hgU := hU g 0 none rfl
    clear hh hcs ht
    have hx0 : w.ownsRow L 3 1 (.slice (some ⟨g, 0, none⟩) xs.length cap) xs.length ((markd k0 xs 0).map (Value.int .i64)) := by rw [markd_zero]; exact hx
    have HX := Lib.hid hx0; clear hx0 hx
    have HU := Lib.hid hU; clear hU
    go_enter Tryd.func27, Tryd.ntmps27
    go_wp2
    go_loopw [1, 5] (fun q i wr => ∃ k : Nat, k ≤ xs.length ∧ i = .int .i64 k ∧ q = .int .i64 (k0 + k) ∧ wr.ownsRow L 3 1 (.slice (some ⟨g, 0, none⟩) xs.length cap) xs.length ((markd k0 xs k).map (Value.int .i64)) ∧ Upd L U w wr) (fun _ i _ => xs.length - (intOf i).toNat)
    case atStart => exact ⟨0, Nat.zero_le _, rfl, by simp, HX.out, Upd.refl _ _ _⟩
    case round =>
      obtain ⟨k, hk, rfl, rfl, ho, hb⟩ := hrel
      by_cases hlt : k < xs.length
      · obtain ⟨u, hcx⟩ : ∃ u : Int, wr.cell? ⟨g, k, none⟩ = some (.int .i64 u) := by
          have hlm := markd_length k0 xs k hk
          have h := World.ownsRow.cellAt ho k (by omega)
          rw [List.getElem?_map, List.getElem?_eq_getElem (by omega)] at h
          exact ⟨_, h⟩
        have hfx := World.ownsRow.frozenAt ho k
        have hst := (World.ownsRow.stored ho k (.int .i64 (k0 + k))).1
        rw [← List.map_set, markd_set k0 xs k hlt] at hst
        have HS := Lib.hid hst
        have HB := Lib.hid hb
        clear hst hb ho
        go_wp2
        go_roundw
        case rel => exact ⟨k + 1, by omega, by go_num, by go_num, HS.out, HB.out.setCell hg hgU _⟩
        case measure => simp [intOf]; omega
      · have HO := Lib.hid ho
        have HB := Lib.hid hb
        clear ho hb
        go_wp2
        go_ret
        obtain rfl : k = xs.length := by omega
        refine ⟨rfl, ⟨?_, HU.out⟩, HB.out⟩
        have h := HO.out
        rw [markd_all] at h
        show OwnI wr L (some ⟨g, 0, none⟩) cap (marks k0 xs.length)
        unfold OwnI
        rw [marks_length]
        exact h
/-- the list after j rounds of the copy -/
def copied (xs : List Int) (j : Nat) : List Int := xs.take j ++ List.replicate (xs.length - j) 0
theorem copied_len (xs : List Int) (j : Nat) (h : j ≤ xs.length) : (copied xs j).length = xs.length := by simp [copied]; omega
theorem copied_set (xs : List Int) (j : Nat) (h : j < xs.length) : (copied xs j).set j xs[j] = copied xs (j + 1) := by
  unfold copied
  rw [take_next xs j h, List.set_append_right _ _ (by simp; omega), show xs.length - j = (xs.length - (j + 1)) + 1 from by omega, List.replicate_succ]
  simp only [List.length_take, Nat.min_eq_left (Nat.le_of_lt h), Nat.sub_self, List.set_cons_zero, List.append_assoc, List.singleton_append]
theorem copied_all (xs : List Int) : copied xs xs.length = xs := by simp [copied]
theorem copied_zero (xs : List Int) : (copied xs 0).map (Value.int .i64) = List.replicate xs.length (.int .i64 0) := by simp [copied]
set_option maxHeartbeats 400000 in
theorem toIntS_any (a : Option Addr) (cap : Nat) (xs : List Int) (w : World) (hx : Ints w w.heap.size a cap xs) (h1 : xs.length ≤ 1048576) :
    Calls Tryd.prog 12 #[.slice a xs.length cap] w (RetI w xs) := by
  obtain ⟨-, -, b, off, ha, hc⟩ := hx
  have Ha := Lib.hid ha; clear ha
  have Hc := Lib.hid hc; clear hc
  obtain ⟨i0, hi, hz0, hz1, hz2⟩ := info_parts info_int
  go_enter Tryd.func12, Tryd.ntmps12
  go_wp2_with (at_make; refine wpList_make_full _ rfl _ _ 22 rfl w.heap.size 3 i0 (.int .i64 0) 1 Tryd.underlying22 hi hz0 hz1 .i64 .i64 _ _ xs.length rfl rfl rfl rfl ?_ ?_ (Nat.le_refl _) ?_)
  · rw [hz2]; omega
  · unfold maxLen; omega
  intro w1 hown hgrow
  have hown0 : w1.ownsRow w.heap.size 3 1 (.slice (some ⟨w.heap.size, 0, none⟩) xs.length xs.length) xs.length ((copied xs 0).map (Value.int .i64)) := by
    rw [copied_zero]
    rw [← toList_madeCells_one]; exact hown
  have hb0 : Below w.heap.size w w1 := (Below.refl _ _).grown hgrow (Nat.le_refl _) (fun k hk => by cases hk)
  have HO0 := Lib.hid hown0
  have HB0 := Lib.hid hb0
  clear hown hown0 hgrow hb0
  go_wp2
  go_loopw [4] (fun i wr => ∃ k : Nat, k ≤ xs.length ∧ i = .int .i64 k ∧ wr.ownsRow w.heap.size 3 1 (.slice (some ⟨w.heap.size, 0, none⟩) xs.length xs.length) xs.length ((copied xs k).map (Value.int .i64)) ∧ Below w.heap.size w wr) (fun i _ => xs.length - (intOf i).toNat)
  case atStart => exact ⟨0, Nat.zero_le _, rfl, HO0.out, HB0.out⟩
  case round =>
    obtain ⟨k, hk, rfl, ho, hb⟩ := hrel
    by_cases hlt : k < xs.length
    · obtain ⟨rfl, hbb⟩ := Ha.out (by omega)
      have hcx := (hb.cell (p := ⟨b, off + k, none⟩) hbb).trans (Hc.out k hlt)
      obtain ⟨u, hcu⟩ : ∃ u : Int, wr.cell? ⟨w.heap.size, k, none⟩ = some (.int .i64 u) := by
        have hlm := copied_len xs k hk
        have h := World.ownsRow.cellAt ho k (by omega)
        rw [List.getElem?_map, List.getElem?_eq_getElem (by omega)] at h
        exact ⟨_, h⟩
      have hfx := World.ownsRow.frozenAt ho k
      have hst := (World.ownsRow.stored ho k (.int .i64 xs[k])).1
      rw [← List.map_set, copied_set xs k hlt] at hst
      have HS := Lib.hid hst
      have HB := Lib.hid hb
      have g1 : (0 : Int) ≤ (k : Int) := by omega
      have g2 : (k : Int) < (xs.length : Int) := by omega
      clear hst hb ho
      go_wp2
      go_roundw
      case rel => exact ⟨k + 1, by omega, by go_num, HS.out, HB.out.setCell (Nat.le_refl _) _⟩
      case measure => simp [intOf] <;> omega
    · have HO := Lib.hid ho
      have HB := Lib.hid hb
      clear ho hb
      go_wp2
      go_ret
      obtain rfl : k = xs.length := by omega
      have h := HO.out
      rw [copied_all] at h
      exact RetI.of h HB.out

end Go.Proofs.YtdpddbajeldgiaaDoor
