/- Slices of integers in memory, and the contracts of the functions that read, mark and compare them. Conditions: those of each contract. -/
import Derived.Test.YtdpddbajeldgiaaDoorBase
import Derived.Test.YtdpddbajeldgiaaDoorLists
import Derived.BigQuiet
import Derived.Deep.QuietTactic
import Derived.Outline
namespace Go.Proofs.YtdpddbajeldgiaaDoor
set_option linter.unusedVariables false
open Go.RowKit

/-- A slice (address a, capacity cap) of the integers xs that lies in a block below B. -/
def Ints (w : World) (B : Nat) (a : Option Addr) (cap : Nat) (xs : List Int) : Prop :=
  xs.length ≤ cap ∧ cap ≤ maxLen ∧ ∃ b off, (0 < xs.length → a = some ⟨b, off, none⟩ ∧ b < B) ∧ ∀ i (h : i < xs.length), w.cell? ⟨b, off + i, none⟩ = some (.int .i64 xs[i])

theorem Ints.below {w w' : World} {B : Nat} {a : Option Addr} {cap : Nat} {xs : List Int} (h : Ints w B a cap xs) (hb : Below B w w') : Ints w' B a cap xs := by
  obtain ⟨h1, h2, b, off, h3, h4⟩ := h
  refine ⟨h1, h2, b, off, h3, fun i hi => ?_⟩
  rw [hb.cell (p := ⟨b, off + i, none⟩) (h3 (by omega)).2]
  exact h4 i hi
theorem Ints.mono {w : World} {B B' : Nat} {a : Option Addr} {cap : Nat} {xs : List Int} (h : Ints w B a cap xs) (hB : B ≤ B') : Ints w B' a cap xs := by
  obtain ⟨h1, h2, b, off, h3, h4⟩ := h
  exact ⟨h1, h2, b, off, fun h => ⟨(h3 h).1, Nat.lt_of_lt_of_le (h3 h).2 hB⟩, h4⟩
theorem Ints.len {w : World} {B : Nat} {a : Option Addr} {cap : Nat} {xs : List Int} (h : Ints w B a cap xs) : xs.length ≤ 9223372036854775807 := by
  have h1 := h.1; have h2 := h.2.1; unfold maxLen at h2; omega

/-- A slice of the integers xs in a block of the call's own, from base on. -/
def OwnI (w : World) (base : Nat) (a : Option Addr) (cap : Nat) (xs : List Int) : Prop :=
  w.ownsRow base 3 1 (.slice a xs.length cap) xs.length (xs.map (Value.int .i64))

theorem OwnI.ints {w : World} {base : Nat} {a : Option Addr} {cap : Nat} {xs : List Int} (h : OwnI w base a cap xs) : Ints w w.heap.size a cap xs := by
  have h0 := h
  rcases h.2 with ⟨h1, h2⟩ | ⟨g, cap', cur, hv, hg, hh, hnc, hcm, hcs, ht⟩
  · simp only [Value.slice.injEq] at h1
    obtain ⟨rfl, -, rfl⟩ := h1
    exact ⟨by omega, by unfold maxLen; omega, 0, 0, fun h => by omega, fun i hi => by omega⟩
  · simp only [Value.slice.injEq, true_and] at hv
    obtain ⟨rfl, rfl⟩ := hv
    refine ⟨hnc, hcm, g, 0, fun _ => ⟨rfl, lt_of_block hh⟩, fun i hi => ?_⟩
    rw [Nat.zero_add, World.ownsRow.cellAt h0 i (by omega)]
    simp [hi]
theorem OwnI.kept {w w' : World} {base : Nat} {a : Option Addr} {cap : Nat} {xs : List Int} (h : OwnI w base a cap xs) (hb : Below w.heap.size w w') : OwnI w' base a cap xs := by
  refine World.ownsRow.kept (row := none) h ⟨hb.os, hb.tape, hb.output, hb.size, fun k hk _ => hb.block k hk⟩ ?_
  cases hv : (Value.slice a xs.length cap).ownBlock <;> simp
theorem OwnI.len {w : World} {base : Nat} {a : Option Addr} {cap : Nat} {xs : List Int} (h : OwnI w base a cap xs) : xs.length ≤ 9223372036854775807 := h.ints.len
theorem OwnI.of {w : World} {base : Nat} {v : Value} {xs : List Int} (h : w.ownsRow base 3 1 v xs.length (xs.map (Value.int .i64))) : ∃ a cap, v = .slice a xs.length cap ∧ OwnI w base a cap xs := by
  rcases h.2 with ⟨h1, h2⟩ | ⟨g, cap', cur, hv, hg, hh, hnc, hcm, hcs, ht⟩
  · exact ⟨none, 0, by rw [h2]; exact h1, by unfold OwnI; rw [h2, ← h1]; rw [h2] at h; exact h⟩
  · exact ⟨_, _, hv, by unfold OwnI; rw [← hv]; exact h⟩

/-- A call returns a new slice of the integers xs. -/
def RetI (w : World) (xs : List Int) (e : Ending) (w' : World) : Prop := ∃ a cap, e = .returned (.slice a xs.length cap) ∧ OwnI w' w.heap.size a cap xs ∧ Below w.heap.size w w'

theorem RetI.of {w w' : World} {v : Value} {xs : List Int} (h : w'.ownsRow w.heap.size 3 1 v xs.length (xs.map (Value.int .i64))) (hb : Below w.heap.size w w') : RetI w xs (.returned v) w' := by
  obtain ⟨a, cap, rfl, ho⟩ := OwnI.of h
  exact ⟨a, cap, rfl, ho, hb⟩

theorem info_int : (Tryd.prog.info? 3).map (fun i => (i.zero, i.size, i.bytes)) = some (some (.int .i64 0), 1, 8) := by kernel_rfl

/-- A slice value of the integers xs in a block of the call's own, from base on: for a loop that appends. -/
def OwnV (w : World) (base : Nat) (v : Value) (xs : List Int) : Prop := w.ownsRow base 3 1 v xs.length (xs.map (Value.int .i64))
theorem OwnV.nil (w : World) (base : Nat) : OwnV w base (.slice none 0 0) [] := World.ownsRow_nil _ _ _ _
theorem OwnV.lit0 (w : World) (base : Nat) (h : base ≤ w.heap.size) : OwnV (w.alloc (.cells #[] 3)) base (.slice (some ⟨w.heap.size, 0, none⟩) 0 0) [] := World.ownsRow_lit _ #[] 0 h (by simp [maxLen]) rfl
theorem OwnV.kept {w w' : World} {base : Nat} {v : Value} {xs : List Int} (h : OwnV w base v xs) (hb : Below w.heap.size w w') : OwnV w' base v xs := by
  refine World.ownsRow.kept (row := none) h ⟨hb.os, hb.tape, hb.output, hb.size, fun k hk _ => hb.block k hk⟩ ?_
  cases hv : v.ownBlock <;> simp
theorem OwnV.ret {w w' : World} {v : Value} {xs : List Int} (h : OwnV w' w.heap.size v xs) (hb : Below w.heap.size w w') : RetI w xs (.returned v) w' := RetI.of h hb
theorem OwnV.own {w : World} {base : Nat} {v : Value} {xs : List Int} (h : OwnV w base v xs) : ∃ a cap, v = .slice a xs.length cap ∧ OwnI w base a cap xs := OwnI.of h
theorem OwnI.ownV {w : World} {base : Nat} {a : Option Addr} {cap : Nat} {xs : List Int} (h : OwnI w base a cap xs) : OwnV w base (.slice a xs.length cap) xs := h

/-- 'append(out, y)' onto a slice of the call's own -/
theorem wpList_append_int {ops : Array Oper} {rest : List Oper} {o : Oper} {a : Act} {Q : Exit → Act → World → Prop} {wr : World} (hgd : o.guard = none) (s x : Operand)
    (ho : o.op = .call { callee := .builtin .append, args := #[s, x], argTypes := #[22, 22] }) (base : Nat) (v : Value) (xs : List Int) (hs : a.eval s = v) (hown : OwnV wr base v xs)
    (y : Int) (hx : a.eval x = .slice (some ⟨wr.heap.size, 0, none⟩) 1 1) (hl : xs.length ≤ 4398046511104) (hb : base ≤ wr.heap.size)
    (h : ∀ v' w', OwnV w' base v' (xs ++ [y]) → Below base wr w' → wpList Tryd.prog ops Q rest (a.put o.dst v') w') :
    wpList Tryd.prog ops Q (o :: rest) a (wr.alloc (.cells #[.int .i64 y] 3)) := by
  obtain ⟨i0, hi, hz0, hz1, hz2⟩ := info_parts info_int
  refine wpList_append_own _ hgd s x 22 ho base 3 i0 (.int .i64 0) 1 8 Tryd.underlying22 hi hz0 hz1 hz2 rfl (by decide) v xs.length _ hs (World.ownsRow.alloc hown _) ⟨wr.heap.size, 0, none⟩ 1 1 [.int .i64 y] hx rfl (cell_one_new _ _ _) ?c2 ?c3 ?c4 ?c5 ?_
  case c2 => intro u hu; simp at hu; subst hu; rfl
  case c3 => unfold maxLen; omega
  case c4 => omega
  case c5 => simp; omega
  intro v' w1 hown' hgrow _
  refine h v' w1 (by unfold OwnV; simpa using hown') ?_
  exact ((Below.refl _ _).alloc hb _).grown hgrow (by simp; omega) (fun k hk => (World.ownsRow.lt hown k hk).1)

theorem eqIntS_same (a a' : Option Addr) (cap cap' : Nat) (xs : List Int) (w : World) (hx : Ints w w.heap.size a cap xs) (hy : Ints w w.heap.size a' cap' xs) :
    Calls Tryd.prog 14 #[.slice a xs.length cap, .slice a' xs.length cap'] w fun e w' => e = .returned (.bool true) ∧ Below w.heap.size w w' := by
  have hl := hx.len
  obtain ⟨hq1, -, b, off, ha, hc⟩ := hx
  obtain ⟨hq2, -, b', off', ha', hc'⟩ := hy
  have Ha := Lib.hid ha; clear ha
  have Hc := Lib.hid hc; clear hc
  have Ha' := Lib.hid ha'; clear ha'
  have Hc' := Lib.hid hc'; clear hc'
  go_enter Tryd.func14, Tryd.ntmps14
  go_wp2
  go_loopw [5] (fun i wr => ∃ k : Nat, k ≤ xs.length ∧ i = .int .i64 k ∧ Below w.heap.size w wr) (fun i _ => xs.length - (intOf i).toNat)
  case atStart => exact ⟨0, Nat.zero_le _, rfl, Below.refl _ _⟩
  case round =>
    obtain ⟨k, hk, rfl, hb⟩ := hrel
    by_cases hlt : k < xs.length
    · obtain ⟨rfl, hb1⟩ := Ha.out (by omega)
      obtain ⟨rfl, hb2⟩ := Ha'.out (by omega)
      have hcx := (hb.cell (p := ⟨b, off + k, none⟩) hb1).trans (Hc.out k hlt)
      have hcy := (hb.cell (p := ⟨b', off' + k, none⟩) hb2).trans (Hc'.out k hlt)
      have g1 : (0 : Int) ≤ (k : Int) := by omega
      have g2 : (k : Int) < (xs.length : Int) := by omega
      have HB := Lib.hid hb; clear hb
      go_wp2
      go_quiet (fail)
      go_wp2
      go_roundw
      case rel => exact ⟨k + 1, by omega, by go_num, below_drewN HB.out _⟩
      case measure => simp [intOf]; omega
    · have HB := Lib.hid hb; clear hb
      go_wp2
      go_ret
      exact ⟨rfl, HB.out⟩
theorem heldIntS_any (a : Option Addr) (cap : Nat) (k0 : Int) (n : Nat) (w : World) (hx : Ints w w.heap.size a cap (marks k0 n)) (h0 : 0 ≤ k0) (h1 : k0 + n ≤ 4611686018427387904) :
    Calls Tryd.prog 28 #[.slice a n cap, .int .i64 k0] w fun e w' => e = .returned (.int .i64 (k0 + n)) ∧ w = w' := by
  have hl := hx.len
  obtain ⟨-, -, b, off, ha, hc⟩ := hx
  rw [marks_length] at ha hl
  have Ha := Lib.hid ha; clear ha
  have Hc := Lib.hid hc; clear hc
  go_enter Tryd.func28, Tryd.ntmps28
  go_wp2
  go_loop [1, 5] (fun q i => ∃ k : Nat, k ≤ n ∧ i = .int .i64 k ∧ q = .int .i64 (k0 + k)) (fun _ i => n - (intOf i).toNat)
  case atStart => exact ⟨0, Nat.zero_le _, rfl, by simp⟩
  case round =>
    obtain ⟨k, hk, rfl, rfl⟩ := hrel
    by_cases hlt : k < n
    · obtain ⟨rfl, -⟩ := Ha.out (by omega)
      have hcx := Hc.out k (by rw [marks_length]; exact hlt)
      rw [marks_get] at hcx
      go_wp2
      go_round
      case rel => exact ⟨k + 1, by omega, by go_num, by go_num⟩
      case measure => simp [intOf]; omega
    · go_wp2
      go_ret
      obtain rfl : k = n := by omega
      exact ⟨rfl, rfl⟩
/-- marking the places of a slice of the call's own -/
theorem markIntS_any (base : Nat) (a : Option Addr) (cap : Nat) (xs : List Int) (k0 : Int) (w : World) (hx : OwnI w base a cap xs) (h0 : 0 ≤ k0) (h1 : k0 + xs.length ≤ 4611686018427387904) :
    Calls Tryd.prog 27 #[.slice a xs.length cap, .int .i64 k0] w
      fun e w' => e = .returned (.int .i64 (k0 + xs.length)) ∧ Ints w' w'.heap.size a cap (marks k0 xs.length) ∧ Below base w w' := by
  have hl := hx.len
  rcases hx.2 with ⟨hv, hn⟩ | ⟨g, cap', cur, hv, hg, hh, hnc, hcm, hcs, ht⟩
  · simp only [Value.slice.injEq] at hv
    obtain ⟨rfl, -, rfl⟩ := hv
    obtain rfl : xs = [] := List.eq_nil_of_length_eq_zero hn
    clear hx hn hl
    go_enter Tryd.func27, Tryd.ntmps27
    go_wp2
    go_loop [1, 5] (fun q i => i = .int .i64 0 ∧ q = .int .i64 k0) (fun _ _ => 0)
    case atStart => exact ⟨rfl, rfl⟩
    case round =>
      obtain ⟨rfl, rfl⟩ := hrel
      go_wp2
      go_ret
      exact ⟨by simp, ⟨by simp [marks], by simp [maxLen], 0, 0, by simp [marks], by simp [marks]⟩, Below.refl _ _⟩
  · simp only [Value.slice.injEq, true_and] at hv
    obtain ⟨rfl, rfl⟩ := hv
    clear hh hcs ht
    have hx0 : w.ownsRow base 3 1 (.slice (some ⟨g, 0, none⟩) xs.length cap) xs.length ((markd k0 xs 0).map (Value.int .i64)) := by rw [markd_zero]; exact hx
    have HX := Lib.hid hx0; clear hx0 hx
    go_enter Tryd.func27, Tryd.ntmps27
    go_wp2
    go_loopw [1, 5] (fun q i wr => ∃ k : Nat, k ≤ xs.length ∧ i = .int .i64 k ∧ q = .int .i64 (k0 + k) ∧ wr.ownsRow base 3 1 (.slice (some ⟨g, 0, none⟩) xs.length cap) xs.length ((markd k0 xs k).map (Value.int .i64)) ∧ Below base w wr) (fun _ i _ => xs.length - (intOf i).toNat)
    case atStart => exact ⟨0, Nat.zero_le _, rfl, by simp, HX.out, Below.refl _ _⟩
    case round =>
      obtain ⟨k, hk, rfl, rfl, ho, hb⟩ := hrel
      by_cases hlt : k < xs.length
      · obtain ⟨u, hcx⟩ : ∃ u : Int, wr.cell? ⟨g, k, none⟩ = some (.int .i64 u) := by
          have hlm := markd_length k0 xs k hk
          have h := World.ownsRow.cellAt ho k (by omega)
          rw [List.getElem?_map, List.getElem?_eq_getElem (by omega)] at h
          exact ⟨_, h⟩
        have hfx := World.ownsRow.frozenAt ho k
        have hst := (World.ownsRow.stored ho k (.int .i64 (k0 + k))).1
        rw [← List.map_set, markd_set k0 xs k hlt] at hst
        have HS := Lib.hid hst
        have HB := Lib.hid hb
        clear hst hb ho
        go_wp2
        go_roundw
        case rel => exact ⟨k + 1, by omega, by go_num, by go_num, HS.out, HB.out.setCell hg _⟩
        case measure => simp [intOf]; omega
      · have HO := Lib.hid ho
        have HB := Lib.hid hb
        clear ho hb
        go_wp2
        go_ret
        obtain rfl : k = xs.length := by omega
        refine ⟨rfl, ?_, HB.out⟩
        have h := HO.out
        rw [markd_all] at h
        have h2 : OwnI wr base (some ⟨g, 0, none⟩) cap (marks k0 xs.length) := by unfold OwnI; rw [marks_length]; exact h
        exact h2.ints

end Go.Proofs.YtdpddbajeldgiaaDoor
