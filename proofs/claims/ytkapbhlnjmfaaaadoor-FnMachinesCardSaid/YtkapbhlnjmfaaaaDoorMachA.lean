/- Machines in memory, and the contracts of the functions that read them. Conditions: those of each contract. -/
import Derived.Test.YtkapbhlnjmfaaaaDoorLawKit
import Derived.Test.YtkapbhlnjmfaaaaDoorDigs
import Derived.Test.YtkapbhlnjmfaaaaDoorRange
import Derived.Deep.RegionWith
namespace Go.Proofs.YtkapbhlnjmfaaaaDoor
set_option linter.unusedVariables false
open Go.RowKit

/-! the plain part -/
structure Ma where
  base : Int
  next : List Int
  final : List Bool
def maOk (m : Ma) : Bool := inB m.base 2 10 && inB m.final.length 1 144 && decide ((m.next.length : Int) = m.base * m.final.length) && allIn m.next 0 ((m.final.length : Int) - 1)
def stepM (m : Ma) (s d : Int) : Int := m.next.getD (s * m.base + d).toNat 0
def runM (m : Ma) (ds : List Int) : Int := ds.foldr (fun d s => stepM m s d) 0
theorem maOk_t {m : Ma} (h : maOk m = true) : 2 ≤ m.base ∧ m.base ≤ 10 ∧ 1 ≤ m.final.length ∧ m.final.length ≤ 144 ∧ (m.next.length : Int) = m.base * m.final.length ∧ ∀ x ∈ m.next, 0 ≤ x ∧ x ≤ (m.final.length : Int) - 1 := by
  simp only [maOk, Bool.and_eq_true, inB_t, decide_eq_true_eq, allIn_t] at h
  obtain ⟨⟨⟨⟨h1, h2⟩, h3, h4⟩, h5⟩, h6⟩ := h
  exact ⟨h1, h2, by omega, by omega, h5, h6⟩
theorem step_ix {m : Ma} (h : maOk m = true) (s d : Int) (h0 : 0 ≤ s) (h1 : s < m.final.length) (h2 : 0 ≤ d) (h3 : d < m.base) :
    0 ≤ s * m.base + d ∧ s * m.base + d < m.next.length ∧ s * m.base ≤ 1440 ∧ 0 ≤ s * m.base ∧ m.next.length ≤ 1440 := by
  obtain ⟨b1, b2, b3, b4, b5, b6⟩ := maOk_t h
  have e1 : 0 ≤ s * m.base := Int.mul_nonneg h0 (by omega)
  have e2 : (s + 1) * m.base ≤ (m.final.length : Int) * m.base := Int.mul_le_mul_of_nonneg_right (by omega) (by omega)
  have e3 : (m.final.length : Int) * m.base ≤ 144 * 10 := Int.mul_le_mul (by omega) b2 (by omega) (by omega)
  have e4 : (s + 1) * m.base = s * m.base + m.base := by rw [Int.add_mul, Int.one_mul]
  have e5 : (m.final.length : Int) * m.base = m.base * m.final.length := Int.mul_comm _ _
  omega
theorem step_get {m : Ma} (h : maOk m = true) (s d : Int) (h0 : 0 ≤ s) (h1 : s < m.final.length) (h2 : 0 ≤ d) (h3 : d < m.base) :
    ∃ i : Nat, s * m.base + d = (i : Int) ∧ ∃ hi : i < m.next.length, stepM m s d = m.next[i] ∧ 0 ≤ stepM m s d ∧ stepM m s d < m.final.length := by
  obtain ⟨e1, e2, -⟩ := step_ix h s d h0 h1 h2 h3
  have hi : (s * m.base + d).toNat < m.next.length := by omega
  have e : stepM m s d = m.next[(s * m.base + d).toNat] := by simp [stepM, List.getD, hi]
  obtain ⟨-, -, -, -, -, b6⟩ := maOk_t h
  have := b6 _ (List.getElem_mem hi)
  exact ⟨(s * m.base + d).toNat, by omega, hi, e, by rw [e]; omega, by rw [e]; omega⟩
theorem runM_bd {m : Ma} (h : maOk m = true) (ds : List Int) (hd : ∀ d ∈ ds, 0 ≤ d ∧ d < m.base) : 0 ≤ runM m ds ∧ runM m ds < m.final.length := by
  induction ds with
  | nil =>
    obtain ⟨-, -, b3, -⟩ := maOk_t h
    simp only [runM, List.foldr_nil]
    omega
  | cons d r ih =>
    obtain ⟨i1, i2⟩ := ih (fun x hx => hd x (List.mem_cons_of_mem _ hx))
    obtain ⟨d1, d2⟩ := hd d (List.mem_cons_self ..)
    obtain ⟨i, -, -, -, h5, h6⟩ := step_get h (runM m r) d i1 i2 d1 d2
    exact ⟨h5, h6⟩
theorem runM_drop (m : Ma) (ds : List Int) (k : Nat) (h : k < ds.length) : runM m (ds.drop k) = stepM m (runM m (ds.drop (k + 1))) ds[k] := by
  rw [List.drop_eq_getElem_cons h]
  rfl

/-! in memory -/
def Bools (w : World) (B : Nat) (a : Option Addr) (cap : Nat) (bs : List Bool) : Prop :=
  bs.length ≤ cap ∧ cap ≤ maxLen ∧ ∃ b off, (0 < bs.length → a = some ⟨b, off, none⟩ ∧ b < B) ∧ ∀ i (h : i < bs.length), w.cell? ⟨b, off + i, none⟩ = some (.bool bs[i])
theorem Bools.below {w w' : World} {B : Nat} {a : Option Addr} {cap : Nat} {xs : List Bool} (h : Bools w B a cap xs) (hb : Below B w w') : Bools w' B a cap xs := by
  obtain ⟨h1, h2, b, off, h3, h4⟩ := h
  refine ⟨h1, h2, b, off, h3, fun i hi => ?_⟩
  rw [hb.cell (p := ⟨b, off + i, none⟩) (h3 (by omega)).2]
  exact h4 i hi
theorem Bools.mono {w : World} {B B' : Nat} {a : Option Addr} {cap : Nat} {xs : List Bool} (h : Bools w B a cap xs) (hB : B ≤ B') : Bools w B' a cap xs := by
  obtain ⟨h1, h2, b, off, h3, h4⟩ := h
  exact ⟨h1, h2, b, off, fun h => ⟨(h3 h).1, Nat.lt_of_lt_of_le (h3 h).2 hB⟩, h4⟩
theorem Bools.len {w : World} {B : Nat} {a : Option Addr} {cap : Nat} {xs : List Bool} (h : Bools w B a cap xs) : xs.length ≤ 9223372036854775807 := by
  have h1 := h.1; have h2 := h.2.1; unfold maxLen at h2; omega

/-- the parts of a machine's value -/
structure Mach (w : World) (B : Nat) (a1 : Option Addr) (c1 : Nat) (a2 : Option Addr) (c2 : Nat) (m : Ma) : Prop where
  ints : Ints w B a1 c1 m.next
  bools : Bools w B a2 c2 m.final
theorem Mach.below {w w' : World} {B : Nat} {a1 : Option Addr} {c1 : Nat} {a2 : Option Addr} {c2 : Nat} {m : Ma} (h : Mach w B a1 c1 a2 c2 m) (hb : Below B w w') : Mach w' B a1 c1 a2 c2 m :=
  ⟨h.ints.below hb, h.bools.below hb⟩
theorem Mach.mono {w : World} {B B' : Nat} {a1 : Option Addr} {c1 : Nat} {a2 : Option Addr} {c2 : Nat} {m : Ma} (h : Mach w B a1 c1 a2 c2 m) (hB : B ≤ B') : Mach w B' a1 c1 a2 c2 m :=
  ⟨h.ints.mono hB, h.bools.mono hB⟩
/-- in a later world of the call's own -/
theorem Mach.later {w w' : World} {a1 : Option Addr} {c1 : Nat} {a2 : Option Addr} {c2 : Nat} {m : Ma} (h : Mach w w.heap.size a1 c1 a2 c2 m) (hb : Below w.heap.size w w') : Mach w' w'.heap.size a1 c1 a2 c2 m :=
  (h.below hb).mono hb.size

theorem box_new (q : Int) (a1 : Option Addr) (l1 c1 : Nat) (a2 : Option Addr) (l2 c2 : Nat) (w : World) : ∃ w0, w0 = w.alloc (.cells #[.int .i64 q, .slice a1 l1 c1, .slice a2 l2 c2] 27) ∧ Below w.heap.size w w0 ∧ w0.heap.size = w.heap.size + 1 ∧
    w0.cell? ⟨w.heap.size, 0, none⟩ = some (.int .i64 q) ∧ w0.cell? ⟨w.heap.size, 1, none⟩ = some (.slice a1 l1 c1) ∧ w0.cell? ⟨w.heap.size, 2, none⟩ = some (.slice a2 l2 c2) := by
  refine ⟨_, rfl, (Below.refl _ _).alloc (Nat.le_refl _) _, by simp, ?_, ?_, ?_⟩
  all_goals (rw [World.cell?_alloc_new]; rfl)
theorem step_any (a1 : Option Addr) (c1 : Nat) (a2 : Option Addr) (c2 : Nat) (m : Ma) (s d : Int) (w : World) (hm : Mach w w.heap.size a1 c1 a2 c2 m) (hok : maOk m = true) (h0 : 0 ≤ s) (h1 : s < m.final.length) (h2 : 0 ≤ d) (h3 : d < m.base) :
    Calls Tryd.prog 30 #[.agg #[.int .i64 m.base, .slice a1 m.next.length c1, .slice a2 m.final.length c2], .int .i64 s, .int .i64 d] w fun e w' => e = .returned (.int .i64 (stepM m s d)) ∧ Below w.heap.size w w' := by
  obtain ⟨i, hi, hlt, hs, -, -⟩ := step_get hok s d h0 h1 h2 h3
  obtain ⟨j1, j2, j3, j4, j5⟩ := step_ix hok s d h0 h1 h2 h3
  obtain ⟨-, -, b, off, ha, hc⟩ := hm.ints
  obtain ⟨rfl, hb⟩ := ha (by omega)
  have hcx := hc i hlt
  have HC : Hid ((w.alloc (.cells #[.int .i64 m.base, .slice (some ⟨b, off, none⟩) m.next.length c1, .slice a2 m.final.length c2] 27)).cell? ⟨b, off + i, none⟩ = some (.int .i64 (stepM m s d))) := by
    show _ = _
    rw [hs, ← hcx]
    exact ((Below.refl w.heap.size w).alloc (Nat.le_refl _) _).cell (p := ⟨b, off + i, none⟩) hb
  obtain ⟨b1, b2, -⟩ := maOk_t hok
  clear hc ha hcx hm hok hs
  generalize stepM m s d = r at *
  generalize m.base = q at *
  generalize m.next.length = ln at *
  have hcx := HC.out
  go_enter Tryd.func30, Tryd.ntmps30
  go_wp2_with fail
  go_ret
  exact ⟨rfl, (Below.refl _ _).alloc (Nat.le_refl _) _⟩
set_option maxHeartbeats 1000000 in
/-- the run of a machine -/
theorem run_any (a1 : Option Addr) (c1 : Nat) (a2 : Option Addr) (c2 : Nat) (m : Ma) (a : Option Addr) (cap : Nat) (ds : List Int) (w : World) (hm : Mach w w.heap.size a1 c1 a2 c2 m) (hok : maOk m = true) (hx : Ints w w.heap.size a cap ds) (hd : ∀ d ∈ ds, 0 ≤ d ∧ d < m.base) :
    Calls Tryd.prog 36 #[.agg #[.int .i64 m.base, .slice a1 m.next.length c1, .slice a2 m.final.length c2], .slice a ds.length cap] w fun e w' => e = .returned (.int .i64 (runM m ds)) ∧ Below w.heap.size w w' := by
  have hl := hx.len
  obtain ⟨-, -, b, off, ha, hc⟩ := hx
  have Ha := Lib.hid ha; clear ha
  have Hc := Lib.hid hc; clear hc
  have HM := Lib.hid hm; clear hm
  have HD := Lib.hid hd; clear hd
  have HOK := Lib.hid hok; clear hok
  have HR : Hid (∀ k, 0 ≤ runM m (ds.drop k) ∧ runM m (ds.drop k) < m.final.length) := fun k => runM_bd HOK.out _ (fun d hd => HD.out d (List.mem_of_mem_drop hd))
  have h144 := (maOk_t HOK.out).2.2.2.1
  obtain ⟨w0, e0, hb0, hs0, k0, k1, k2⟩ := box_new m.base a1 m.next.length c1 a2 m.final.length c2 w
  have HK0 := Lib.hid k0; have HK1 := Lib.hid k1; have HK2 := Lib.hid k2; have HB0 := Lib.hid hb0
  clear k0 k1 k2 hb0
  go_enter Tryd.func36, Tryd.ntmps36
  go_wp2_with fail
  rw [← e0]
  clear e0
  go_loopw [5, 6] (fun s i wr => ∃ k : Nat, k ≤ ds.length ∧ i = .int .i64 ((k : Int) - 1) ∧ s = .int .i64 (runM m (ds.drop k)) ∧ Below w0.heap.size w0 wr) (fun _ i _ => (intOf i + 1).toNat)
  case atStart => exact ⟨ds.length, Nat.le_refl _, rfl, by simp [runM], Below.refl _ _⟩
  case round =>
    obtain ⟨k, hk, rfl, rfl, hb⟩ := hrel
    have hsz := hb.size
    match k, hk with
    | 0, hk =>
      have HB := Lib.hid hb; clear hb
      go_wp2_with fail
      go_ret
      exact ⟨by simp, HB0.out.trans (HB.out.mono (by omega))⟩
    | k + 1, hk =>
      have hlt : k < ds.length := by omega
      obtain ⟨rfl, hbb⟩ := Ha.out (by omega)
      have hbw := HB0.out.trans (hb.mono (by omega))
      have hcx := (hbw.cell (p := ⟨b, off + k, none⟩) hbb).trans (Hc.out k hlt)
      have h0 := (hb.cell (p := ⟨w.heap.size, 0, none⟩) (by show w.heap.size < _; omega)).trans HK0.out
      have h1 := (hb.cell (p := ⟨w.heap.size, 1, none⟩) (by show w.heap.size < _; omega)).trans HK1.out
      have h2 := (hb.cell (p := ⟨w.heap.size, 2, none⟩) (by show w.heap.size < _; omega)).trans HK2.out
      obtain ⟨r1, r2⟩ := HR.out (k + 1)
      obtain ⟨d1, d2⟩ := HD.out _ (List.getElem_mem hlt)
      have HS := Lib.hid (runM_drop m ds k hlt)
      have HST : Hid (∀ W : World, Below w.heap.size w W → Calls Tryd.prog 30 #[.agg #[.int .i64 m.base, .slice a1 m.next.length c1, .slice a2 m.final.length c2], .int .i64 (runM m (ds.drop (k + 1))), .int .i64 ds[k]] W fun e w' => e = .returned (.int .i64 (stepM m (runM m (ds.drop (k + 1))) ds[k])) ∧ Below W.heap.size W w') := fun W hW => by
        exact step_any a1 c1 a2 c2 m _ _ W (HM.out.later hW) HOK.out r1 r2 d1 d2
      have HBW := Lib.hid hbw
      have HB := Lib.hid hb
      clear hbw hb
      go_wp2_with fail
      go_region_with (go_at_call 30; refine (HST.out _ ?_).mono ?_; (first | exact HBW.out.drew | exact HBW.out); rintro e w1 ⟨rfl, hb1⟩)
      all_goals
        have hb2 : Below wr.heap.size wr w1 := (Below.refl wr.heap.size wr).drew.trans hb1
        have HB2 := Lib.hid hb2
        clear hb2 hb1
      all_goals go_wp2_with fail
      all_goals go_roundw
      all_goals first | exact ⟨k, by omega, by go_num, by rw [HS.out], HB.out.trans (HB2.out.mono (by omega))⟩ | (simp [intOf]; done) | (simp [intOf]; omega)

end Go.Proofs.YtkapbhlnjmfaaaaDoor
