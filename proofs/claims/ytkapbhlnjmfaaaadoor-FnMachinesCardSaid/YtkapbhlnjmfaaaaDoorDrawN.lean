/- Machines that a law draws: MakeMachine. Conditions: those of each contract. -/
import Derived.Test.YtkapbhlnjmfaaaaDoorDrawM
namespace Go.Proofs.YtkapbhlnjmfaaaaDoor
set_option linter.unusedVariables false
open Go.RowKit

/-- a machine does not lie in a block of another machine's three cells -/
theorem mach_other {w W : World} {B S : Nat} {a1 : Option Addr} {c1 : Nat} {a2 : Option Addr} {c2 : Nat} {m : Ma} {q : Int} {x1 x2 : Option Addr} {l1 d1 l2 d2 : Nat} {T : TypeId} {fr : Nat × Nat} (h : Mach w B a1 c1 a2 c2 m)
    (hr : w.heap[S]? = some (.cells #[.int .i64 q, .slice x1 l1 d1, .slice x2 l2 d2] T fr)) (h2 : 2 ≤ m.next.length) (h1 : 1 ≤ m.final.length) (hW : ∀ k, k ≠ S → W.heap[k]? = w.heap[k]?) : Mach W B a1 c1 a2 c2 m := by
  have hcell : ∀ i, w.cell? ⟨S, i, none⟩ = (#[.int .i64 q, .slice x1 l1 d1, .slice x2 l2 d2] : Array Value)[i]? := fun i => by simp [World.cell?, hr]
  obtain ⟨⟨i1, i2, b, off, ha, hc⟩, ⟨j1, j2, b', off', ha', hc'⟩⟩ := h
  have hb : b ≠ S := by
    intro e
    subst e
    have e0 := hc 0 (by omega)
    have e1 := hc 1 (by omega)
    rw [hcell] at e0 e1
    match off, e0, e1 with
    | 0, e0, e1 => simp at e1
    | 1, e0, e1 => simp at e0
    | 2, e0, e1 => simp at e0
    | k + 3, e0, e1 => simp at e0
  have hb' : b' ≠ S := by
    intro e
    subst e
    have e0 := hc' 0 (by omega)
    rw [hcell] at e0
    match off', e0 with
    | 0, e0 => simp at e0
    | 1, e0 => simp at e0
    | 2, e0 => simp at e0
    | k + 3, e0 => simp at e0
  refine ⟨⟨i1, i2, b, off, ha, fun i hi => ?_⟩, ⟨j1, j2, b', off', ha', fun i hi => ?_⟩⟩
  · rw [← hc i hi]
    exact World.cell?_of_block (hW b hb)
  · rw [← hc' i hi]
    exact World.cell?_of_block (hW b' hb')
theorem two_next {m : Ma} (hok : maOk m = true) : 2 ≤ m.next.length ∧ 1 ≤ m.final.length := by
  obtain ⟨q2, q10, n1, n144, h, -⟩ := maOk_t hok
  refine ⟨?_, n1⟩
  have : 2 * 1 ≤ m.base * (m.final.length : Int) := Int.mul_le_mul q2 (by omega) (by omega) (by omega)
  omega
set_option maxRecDepth 8000 in
set_option maxHeartbeats 400000 in
theorem MakeMachine_any (a : Option Addr) (cap : Nat) (xs : List Int) (n b : Nat) (w : World) (hx : ByteS w w.heap.size a cap xs) (hlen : xs.length ≤ 1048576) (hn : n ≤ 1000) (hb2 : 2 ≤ b) (hb10 : b ≤ 10) :
    Calls Tryd.prog 7 #[.slice a xs.length cap, .int .i64 n, .int .i64 b] w (RetD w w.heap.size b) := by
  obtain ⟨w1, e1⟩ : ∃ w1, w1 = w.alloc (.cells #[.int .i64 0, .slice none 0 0, .slice none 0 0] 27) := ⟨_, rfl⟩
  have hs1 : w1.heap.size = w.heap.size + 1 := by rw [e1]; simp
  have hb1 : Below w.heap.size w w1 := by rw [e1]; exact (Below.refl _ _).alloc (Nat.le_refl _) _
  have hR : w1.heap[w.heap.size]? = some (.cells #[.int .i64 0, .slice none 0 0, .slice none 0 0] 27 (0, 0)) := by
    rw [e1]
    exact heap_alloc_new _ _
  have hx1 : ByteS w1 w1.heap.size a cap xs := (hx.below hb1).mono (by omega)
  have HX0 : Hid (ByteS w1 (w.heap.size + 1) a cap xs) := (hx.below hb1).mono (by omega)
  have HX1 := Lib.hid hx1
  have HB1 := Lib.hid hb1
  have HR := Lib.hid hR
  have hm1 : min (b : Int) 10 = b := by omega
  have hm2 : max (2 : Int) (b : Int) = b := by omega
  have hm3 : (b : Int) ≤ 10 := by omega
  have hm4 : (2 : Int) ≤ (b : Int) := by omega
  clear hx hb1 hR hx1
  go_enter Tryd.func7, Tryd.ntmps7
  go_wp2_with fail
  rw [← e1]
  clear e1
  refine (l31New_any a cap xs n _ HX1.out hlen hn).mono ?_
  rintro e w2 ⟨rfl, hc2, hs2, hb2'⟩
  rw [hs1] at hc2 hs2
  have HC2 := Lib.hid hc2
  have HX2 := Lib.hid (HX0.out.below (hb2'.mono (by omega)))
  have HB2 := Lib.hid hb2'
  clear hc2 hb2'
  go_wp2_with fail
  try rw [hm1]
  try rw [hm2]
  refine (l17Draw_any a cap xs (w.heap.size + 1) b _ HX2.out HC2.out hlen hs2 hb2 hb10).mono ?_
  rintro e w3 ⟨a1, c1, a2, c2, m, rfl, hok, hmb, hml, hmm, hb3⟩
  have hbR : Below w1.heap.size w1 w3 := HB2.out.trans (by rw [hs1]; exact hb3)
  have hr3 := (hbR.block w.heap.size (by omega)).trans HR.out
  have hb03 := HB1.out.trans (hbR.mono (by omega))
  have HMM := Lib.hid hmm
  have HOK := Lib.hid hok
  have HMB := Lib.hid hmb
  have HML := Lib.hid hml
  have HB03 := Lib.hid hb03
  have HR3 := Lib.hid hr3
  have y0 : w3.cell? ⟨w.heap.size, 0, none⟩ = some (.int .i64 0) := by simp [World.cell?, hr3]
  have y1 : w3.cell? ⟨w.heap.size, 1, none⟩ = some (.slice none 0 0) := by simp [World.cell?, hr3]
  have y2 : w3.cell? ⟨w.heap.size, 2, none⟩ = some (.slice none 0 0) := by simp [World.cell?, hr3]
  have z0 : w3.frozen? ⟨w.heap.size, 0, none⟩ = false := by simp [World.frozen?, hr3]
  have z1 : w3.frozen? ⟨w.heap.size, 1, none⟩ = false := by simp [World.frozen?, hr3]
  have z2 : w3.frozen? ⟨w.heap.size, 2, none⟩ = false := by simp [World.frozen?, hr3]
  clear hok hmb hml hmm hb3 hbR hr3 hb03
  go_wp2_with fail
  refine bodyPost_ret (results_mach1 rfl _ _ w.heap.size _ _ _ _ rfl (set_three HR3.out)) rfl ?_
  refine ⟨a1, c1, a2, c2, m, rfl, HOK.out, HMB.out, HML.out, ?_, ((HB03.out.setCell (p := ⟨w.heap.size, 0, none⟩) (Nat.le_refl _) _).setCell (p := ⟨w.heap.size, 1, none⟩) (Nat.le_refl _) _).setCell (p := ⟨w.heap.size, 2, none⟩) (Nat.le_refl _) _⟩
  obtain ⟨n2, f1⟩ := two_next HOK.out
  have h := mach_other (W := ((w3.setCell ⟨w.heap.size, 0, none⟩ (.int .i64 m.base)).setCell ⟨w.heap.size, 1, none⟩ (.slice a1 m.next.length c1)).setCell ⟨w.heap.size, 2, none⟩ (.slice a2 m.final.length c2)) HMM.out HR3.out n2 f1 (fun k hk => by
    rw [Below.heap_setCell _ _ _ _ (by exact hk), Below.heap_setCell _ _ _ _ (by exact hk), Below.heap_setCell _ _ _ _ (by exact hk)])
  exact h.mono (by simp [World.setCell])

end Go.Proofs.YtkapbhlnjmfaaaaDoor
