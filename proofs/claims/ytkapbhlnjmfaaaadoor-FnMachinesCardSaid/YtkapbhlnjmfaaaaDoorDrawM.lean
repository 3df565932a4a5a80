/- Machines that a law draws: MakeMachine. Conditions: those of each contract. -/
import Derived.Test.YtkapbhlnjmfaaaaDoorMakeB
import Derived.Test.YtkapbhlnjmfaaaaDoorRedX
namespace Go.Proofs.YtkapbhlnjmfaaaaDoor
set_option linter.unusedVariables false
open Go.RowKit

/-- these two only look at the operation: which of the two calls of a region that draws is it? -/
theorem at_app {P : Program} {ops : Array Oper} {o : Oper} {a : Act} {K : Act → World → Prop} {Q : Exit → Act → World → Prop} {E : Prop} {W : World} (s x : Operand) (t : TypeId)
    (ho : o.op = .call { callee := .builtin .append, args := #[s, x], argTypes := #[t, t] }) (h : if Region.wanted o (yielded ops a.tmps) = true then Oper.wp P o a W K Q else E) : if Region.wanted o (yielded ops a.tmps) = true then Oper.wp P o a W K Q else E := h
theorem at_fun {P : Program} {ops : Array Oper} {o : Oper} {a : Act} {K : Act → World → Prop} {Q : Exit → Act → World → Prop} {E : Prop} {W : World} (f : FuncId) (xs : Array Operand) (ts : Array TypeId)
    (ho : o.op = .call { callee := .value (.func f), args := xs, argTypes := ts }) (h : if Region.wanted o (yielded ops a.tmps) = true then Oper.wp P o a W K Q else E) : if Region.wanted o (yielded ops a.tmps) = true then Oper.wp P o a W K Q else E := h
theorem Upd.turn1 {B : Nat} {w w' : World} (h : Upd B (B + 1) w w') : w.grownBy w' (some B) :=
  ⟨h.os, h.tape, h.output, h.size, fun k hk hne => h.block k hk (by rcases Nat.lt_trichotomy k B with h1 | h1 | h1; exact Or.inl h1; exact absurd (by rw [h1]) hne; exact Or.inr (by omega))⟩
theorem RedSt.begin0 {w : World} {E : Nat} (q : Int) (hs : E + 2 ≤ w.heap.size) :
    RedSt (w.alloc (.cells #[.int .i64 q, .slice none 0 0, .slice none 0 0] 27)) E w.heap.size q (.slice none 0 0) (.slice none 0 0) (.slice none 0 0) (.slice none 0 0) [] [] [] [] :=
  ⟨World.ownsRow_nil _ _ _ _, World.ownsRow_nil _ _ _ _, World.ownsRow_nil _ _ _ _, World.ownsRow_nil _ _ _ _, heap_alloc_new _ _, ap_nil _ _ _, ap_nil _ _ _, ap_nil _ _ _, ap_nil _ _ _, ap_nil _ _ _, ap_nil _ _ _, by intro g hg; simp [Value.ownBlock] at hg, by intro g hg; simp [Value.ownBlock] at hg, hs⟩
/-- another block has changed -/
theorem RedSt.other {w w' : World} {E O B : Nat} {q : Int} {v2 v3 : Value} {N : List Int} {F : List Bool} (h : RedSt w E O q (.slice none 0 0) v2 v3 (.slice none 0 0) [] N F []) (hg : w.grownBy w' (some B)) (hB : B < O) : RedSt w' E O q (.slice none 0 0) v2 v3 (.slice none 0 0) [] N F [] := by
  refine h.grown hg (Or.inl rfl) ?_ ?_ (Or.inl rfl) (by simp; omega)
  · right; intro e; have := (World.ownsRow.lt h.nx _ e).1; omega
  · right; intro e; have := (World.ownsRow.lt h.fi _ e).1; omega
theorem results_mach1 {fn : Func} {t : Tmp} (h : fn.results = #[.cell t 27]) (tmps : Array Value) (w : World) (g : Nat) (x y z : Value) (fr : Nat × Nat) (hp : tmps.getD t undef = .pointer (some ⟨g, 0, none⟩))
    (hg : w.heap[g]? = some (.cells #[x, y, z] 27 fr)) : (results fn tmps).run Tryd.prog w = .ok (.agg #[x, y, z]) w := by
  have hl := run_loadVar_row (P := Tryd.prog) w g 27 27 #[x, y, z] fr _ hg Tryd.underlying27 rfl info_mach
  have hp2 : tmps[t]?.getD undef = .pointer (some ⟨g, 0, none⟩) := by simpa using hp
  simp [results, h, hp2, asAddr, hl]
theorem draw_after {w5 w6 : World} {S0 : Nat} {v : Value} (hg : w5.grownBy w6 v.ownBlock) (hv : ∀ j, v.ownBlock = some j → S0 + 1 + 1 ≤ j) (hsz : S0 + 1 < w5.heap.size) (i : Nat) (x : Value) :
    Below S0 w5 (w6.setCell ⟨S0 + 1, i, none⟩ x) ∧ (w6.setCell ⟨S0 + 1, i, none⟩ x).heap[S0]? = w5.heap[S0]? := by
  refine ⟨((Below.refl _ _).grown hg (by omega) (fun j hj => by have := hv j hj; omega)).setCell (p := ⟨S0 + 1, i, none⟩) (by show S0 ≤ S0 + 1; omega) _, ?_⟩
  rw [Below.heap_setCell _ _ _ _ (by show S0 ≠ S0 + 1; omega)]
  exact hg.block _ (by omega) (fun e => by have := hv _ e.symm; omega)
/-- a call returns a machine of base b with at most five states -/
def RetD (w : World) (B : Nat) (b : Int) (e : Ending) (w' : World) : Prop :=
  ∃ a1 c1 a2 c2 m, e = .returned (.agg #[.int .i64 m.base, .slice a1 m.next.length c1, .slice a2 m.final.length c2]) ∧ maOk m = true ∧ m.base = b ∧ m.final.length ≤ 5 ∧ Mach w' w'.heap.size a1 c1 a2 c2 m ∧ Below B w w'
theorem l01Once_any (a : Option Addr) (cap : Nat) (xs : List Int) (B : Nat) (n : Int) (w : World) (hx : ByteS w B a cap xs) (hc : CurAt w B a xs.length cap) (hlen : xs.length ≤ 1048576) (hB : B < w.heap.size) (hn0 : 1 ≤ n) (hn1 : n ≤ 256) :
    Calls Tryd.prog 40 #[.pointer (some ⟨B, 0, none⟩), .int .i64 n] w fun e w' => (∃ x : Bool, e = .returned (.bool x)) ∧ CurAt w' B a xs.length cap ∧ Upd B (B + 1) w w' := by
  have HL := Lib.hid (l01Below_any a cap xs B n w hx hc hlen hB hn0 hn1)
  clear hx hc
  go_enter Tryd.func40, Tryd.ntmps40
  go_wp2_with fail
  refine HL.out.mono ?_
  rintro e w1 ⟨⟨x, rfl, x0, x1⟩, hc1, hu1⟩
  have HC1 := Lib.hid hc1
  have HU1 := Lib.hid hu1
  clear hc1 hu1
  go_wp2_with fail
  go_ret
  exact ⟨⟨_, rfl⟩, HC1.out, HU1.out⟩
set_option maxRecDepth 8000 in
set_option maxHeartbeats 2000000 in
theorem l17Draw_any (a : Option Addr) (cap : Nat) (xs : List Int) (B : Nat) (b : Nat) (w : World) (hx : ByteS w B a cap xs) (hc : CurAt w B a xs.length cap) (hlen : xs.length ≤ 1048576) (hB : B < w.heap.size) (hb2 : 2 ≤ b) (hb10 : b ≤ 10) :
    Calls Tryd.prog 29 #[.pointer (some ⟨B, 0, none⟩), .int .i64 b] w (RetD w B b) := by
  obtain ⟨E, hE⟩ : ∃ E, E + 1 = w.heap.size := ⟨w.heap.size - 1, by omega⟩
  obtain ⟨w1, e1⟩ : ∃ w1, w1 = w.alloc (.cells #[.int .i64 0, .slice none 0 0, .slice none 0 0] 27) := ⟨_, rfl⟩
  have hs1 : w1.heap.size = w.heap.size + 1 := by rw [e1]; simp
  have hb1 : Below w.heap.size w w1 := by rw [e1]; exact (Below.refl _ _).alloc (Nat.le_refl _) _
  have hst0 := RedSt.begin0 (w := w1) (E := E) (b : Int) (by omega)
  rw [hs1] at hst0
  obtain ⟨w2, e2⟩ : ∃ w2, w2 = w1.alloc (.cells #[.int .i64 (b : Int), .slice none 0 0, .slice none 0 0] 27) := ⟨_, rfl⟩
  rw [← e2] at hst0
  have hb12 : Below w.heap.size w w2 := by rw [e2]; exact hb1.alloc (by omega) _
  have hR : w2.heap[w.heap.size]? = some (.cells #[.int .i64 0, .slice none 0 0, .slice none 0 0] 27 (0, 0)) := by
    rw [e2, Below.heap_alloc _ _ _ (by omega), e1]
    exact heap_alloc_new _ _
  have HXB : Hid (∀ W : World, Below B w W → ByteS W B a cap xs) := fun W hW => hx.below hW
  have HBL : Hid (∀ (n : Int) (W : World), Below B w W → B < W.heap.size → CurAt W B a xs.length cap → 1 ≤ n → n ≤ 256 → Calls Tryd.prog 39 #[.pointer (some ⟨B, 0, none⟩), .int .i64 n] W fun e w' => (∃ x : Int, e = .returned (.int .i64 x) ∧ 0 ≤ x ∧ x < n) ∧ CurAt w' B a xs.length cap ∧ Upd B (B + 1) W w') := fun n W hW hBW hc h0 h1 => l01Below_any a cap xs B n W (HXB.out W hW) hc hlen hBW h0 h1
  have HON : Hid (∀ (W : World), Below B w W → B < W.heap.size → CurAt W B a xs.length cap → Calls Tryd.prog 40 #[.pointer (some ⟨B, 0, none⟩), .int .i64 2] W fun e w' => (∃ x : Bool, e = .returned (.bool x)) ∧ CurAt w' B a xs.length cap ∧ Upd B (B + 1) W w') := fun W hW hBW hc => l01Once_any a cap xs B 2 W (HXB.out W hW) hc hlen hBW (by decide) (by decide)
  have HC2 : Hid (CurAt w2 B a xs.length cap) := hc.upd (L := w.heap.size) (U := 0) hb12 hB
  have HST0 := Lib.hid hst0
  have HB12 : Hid (Below B w w2) := hb12.mono (by omega)
  have HR := Lib.hid hR
  have hs2 : w2.heap.size = w.heap.size + 2 := by rw [e2]; simp [hs1]
  rw [e1] at e2
  clear hx hc hst0 hb12 hR hb1 e1
  go_enter Tryd.func29, Tryd.ntmps29
  go_wp2_with fail
  rw [← e2]
  clear e2
  refine (HBL.out 5 w2 HB12.out (by omega) HC2.out (by decide) (by decide)).mono ?_
  rintro e w3 ⟨⟨x, rfl, x0, x1⟩, hc3, hu3⟩
  obtain ⟨n, hn⟩ : ∃ n : Nat, (n : Int) = 1 + x := ⟨(1 + x).toNat, by omega⟩
  have HC3 := Lib.hid hc3
  have HST3 := Lib.hid (HST0.out.other hu3.turn1 (by omega))
  have HB3 := Lib.hid (HB12.out.trans (hu3.below (Nat.le_refl _) (by omega)))
  have HR3 : Hid (w3.heap[w.heap.size]? = some (.cells #[.int .i64 0, .slice none 0 0, .slice none 0 0] 27 (0, 0))) := (hu3.turn1.block _ (by omega) (by simp; omega)).trans HR.out
  have hs3 := hu3.size
  clear hc3 hu3
  have hn1 : 1 ≤ n := by omega
  have hn5 : n ≤ 5 := by omega
  go_wp2_with fail
  rw [← hn]
  clear hn x0 x1
  have hO : Hid (E + 2 ≤ w.heap.size + 1) := by show _ ≤ _; omega
  go_loopw [7] (fun iv wr => ∃ (s : Nat) (v2 v3 : Value) (N : List Int) (F : List Bool), iv = .int .i64 s ∧ s ≤ n ∧ N.length = s * b ∧ F.length = s ∧ (∀ x ∈ N, 0 ≤ x ∧ x < (n : Int)) ∧ RedSt wr E (w.heap.size + 1) (b : Int) (.slice none 0 0) v2 v3 (.slice none 0 0) [] N F [] ∧ CurAt wr B a xs.length cap ∧ Below B w wr ∧
    wr.heap[w.heap.size]? = some (.cells #[.int .i64 0, .slice none 0 0, .slice none 0 0] 27 (0, 0))) (fun iv _ => n - (intOf iv).toNat)
  case atStart => exact ⟨0, _, _, [], [], rfl, Nat.zero_le _, by simp, rfl, by simp, HST3.out, HC3.out, HB3.out, HR3.out⟩
  case round =>
    clear HST3 HC3 HB3 HR3 hs3 hs2
    obtain ⟨s, v2, v3, N, F, rfl, hs, hNl, hFl, hNm, hst, hcu, hbl, hrr⟩ := hrel
    have HST := Lib.hid hst
    have HCU := Lib.hid hcu
    have HBL2 := Lib.hid hbl
    have HRR := Lib.hid hrr
    have HNM := Lib.hid hNm
    have HNL := Lib.hid hNl
    have hblk := hst.blk
    clear hst hcu hbl hrr hNm hNl
    by_cases hlt : s < n
    · have hlt2 : (s : Int) < (n : Int) := by omega
      have HFL := Lib.hid hFl
      clear hFl
      go_wp2_with fail
      go_loopw [8] (fun dv wr => ∃ (d : Nat) (v2 : Value) (N : List Int), dv = .int .i64 d ∧ d ≤ b ∧ N.length = s * b + d ∧ (∀ x ∈ N, 0 ≤ x ∧ x < (n : Int)) ∧ RedSt wr E (w.heap.size + 1) (b : Int) (.slice none 0 0) v2 v3 (.slice none 0 0) [] N F [] ∧ CurAt wr B a xs.length cap ∧ Below B w wr ∧
        wr.heap[w.heap.size]? = some (.cells #[.int .i64 0, .slice none 0 0, .slice none 0 0] 27 (0, 0))) (fun dv _ => b - (intOf dv).toNat)
      case atStart => exact ⟨0, v2, N, rfl, Nat.zero_le _, HNL.out, HNM.out, HST.out, HCU.out, HBL2.out, HRR.out⟩
      case round =>
        clear HST HCU HBL2 HRR HNM HNL hblk v2 N
        obtain ⟨d, v2, N, rfl, hd, hNl, hNm, hst, hcu, hbl, hrr⟩ := hrel
        have hblk := hst.blk
        have hNb : N.length ≤ 1000000 := by
          have : s * b ≤ 5 * 10 := Nat.mul_le_mul (by omega) (by omega)
          omega
        have HNM := Lib.hid hNm
        have HNL := Lib.hid hNl
        by_cases hdl : d < b
        · have hdl2 : (d : Int) < (b : Int) := by omega
          have HQ : Hid (∀ W : World, (W = wr.drew ∨ W = wr) → Calls Tryd.prog 39 #[.pointer (some ⟨B, 0, none⟩), .int .i64 n] W fun e w' => (∃ x : Int, e = .returned (.int .i64 x) ∧ 0 ≤ x ∧ x < (n : Int)) ∧ CurAt w' B a xs.length cap ∧ RedSt w' E (w.heap.size + 1) (b : Int) (.slice none 0 0) v2 v3 (.slice none 0 0) [] N F [] ∧ Below B w w' ∧
              w'.heap[w.heap.size]? = some (.cells #[.int .i64 0, .slice none 0 0, .slice none 0 0] 27 (0, 0))) := by
            intro W hW
            have hbd : Below B w W := by rcases hW with rfl | rfl; exact hbl.drew; exact hbl
            have hsW : W.heap = wr.heap := by rcases hW with rfl | rfl <;> rfl
            have hcW : CurAt W B a xs.length cap := by rcases hW with rfl | rfl; exact hcu; exact hcu
            have hstW : RedSt W E (w.heap.size + 1) (b : Int) (.slice none 0 0) v2 v3 (.slice none 0 0) [] N F [] := by rcases hW with rfl | rfl; exact hst.drew; exact hst
            have hkW : w.heap.size + 1 < W.heap.size := by rw [hsW]; exact hblk
            refine (HBL.out n W hbd (by omega) hcW (by omega) (by omega)).mono ?_
            rintro e w' ⟨h1, h2, h3⟩
            exact ⟨h1, h2, hstW.other h3.turn1 (by omega), hbd.trans (h3.below (Nat.le_refl _) (by omega)), (h3.turn1.block _ (by omega) (by simp; omega)).trans (by rw [hsW]; exact hrr)⟩
          have ho5 := hst.out
          have p1 : wr.cell? ⟨w.heap.size + 1, 1, none⟩ = some v2 := by simp [World.cell?, ho5]
          clear hst hcu hbl hrr hNm hNl ho5
          go_wp2_with fail
          go_region_law (first
            | (refine at_app _ _ _ rfl ?_; refine step_append_one rfl (.tmp 25) (.tmp 29) 24 3 (.int .i64 0) 8 Tryd.underlying24 info_int rfl (Nat.le_refl _) rfl (w.heap.size + 1 + 1) v2 N.length _ rfl hnx (.int .i64 y) rfl rfl hNb hOb ?_; intro g6 cap6 w6 ho6 hg6 hat6 hlt6; obtain ⟨z1, z2, z3⟩ := HST5.out.addN ho6 hg6 hat6)
            | (refine at_fun 39 _ _ rfl ?_; go_simp; go_wp2_with (go_at_call 39; refine (HQ.out _ ?_).mono ?_; (first | exact Or.inl rfl | exact Or.inr rfl); rintro e w5 ⟨⟨y, rfl, y0, y1⟩, hcu5, hst5, hbl5, hrr5⟩; have hnx := hst5.nx; have hOb := hst5.blk; have ho5 := hst5.out; have p5 : w5.cell? ⟨w.heap.size + 1, 1, none⟩ = some v2 := (by simp [World.cell?, ho5]); have p5b : (w5.alloc (.cells #[.int .i64 y] 3)).cell? ⟨w.heap.size + 1, 1, none⟩ = some v2 := (by rw [World.cell?_alloc_past _ _ _ (by show w.heap.size + 1 < w5.heap.size; exact hOb)]; exact p5); have HST5 := Lib.hid hst5; have HCU5 := Lib.hid hcu5; have HBL5 := Lib.hid hbl5; have HRR5 := Lib.hid hrr5; clear hst5 hcu5 hbl5 hrr5 ho5)))
          all_goals
            have HY := Lib.hid z3
            have hda := draw_after (S0 := w.heap.size) hg6 (fun j hj => by have := (World.ownsRow.lt hnx j hj).1; omega) (by omega) 1 (.slice (some ⟨g6, 0, none⟩) (N.length + 1) cap6)
            have HDA := Lib.hid hda
            have HNM2 : Hid (∀ x ∈ N ++ [y], 0 ≤ x ∧ x < (n : Int)) := fun x hx => by
              rcases List.mem_append.1 hx with h | h
              · exact HNM.out x h
              · rw [List.mem_singleton] at h; subst h; exact ⟨y0, y1⟩
            clear ho6 hg6 hat6 hlt6 z1 z2 z3 hda
            go_wp2_with fail
            go_roundw
            case rel => exact ⟨d + 1, _, N ++ [y], by go_num, by omega, by rw [List.length_append, HNL.out]; rfl, HNM2.out, HY.out, HCU5.out.upd (U := 0) HDA.out.1 hB, HBL5.out.trans (HDA.out.1.mono (by omega)), HDA.out.2.trans HRR5.out⟩
            case measure => simp [intOf]; omega
        · obtain rfl : d = b := by omega
          have HQ : Hid (∀ W : World, (W = wr.drew ∨ W = wr) → Calls Tryd.prog 40 #[.pointer (some ⟨B, 0, none⟩), .int .i64 2] W fun e w' => (∃ x : Bool, e = .returned (.bool x)) ∧ CurAt w' B a xs.length cap ∧ RedSt w' E (w.heap.size + 1) (d : Int) (.slice none 0 0) v2 v3 (.slice none 0 0) [] N F [] ∧ Below B w w' ∧
              w'.heap[w.heap.size]? = some (.cells #[.int .i64 0, .slice none 0 0, .slice none 0 0] 27 (0, 0))) := by
            intro W hW
            have hbd : Below B w W := by rcases hW with rfl | rfl; exact hbl.drew; exact hbl
            have hsW : W.heap = wr.heap := by rcases hW with rfl | rfl <;> rfl
            have hcW : CurAt W B a xs.length cap := by rcases hW with rfl | rfl; exact hcu; exact hcu
            have hstW : RedSt W E (w.heap.size + 1) (d : Int) (.slice none 0 0) v2 v3 (.slice none 0 0) [] N F [] := by rcases hW with rfl | rfl; exact hst.drew; exact hst
            have hkW : w.heap.size + 1 < W.heap.size := by rw [hsW]; exact hblk
            refine (HON.out W hbd (by omega) hcW).mono ?_
            rintro e w' ⟨h1, h2, h3⟩
            exact ⟨h1, h2, hstW.other h3.turn1 (by omega), hbd.trans (h3.below (Nat.le_refl _) (by omega)), (h3.turn1.block _ (by omega) (by simp; omega)).trans (by rw [hsW]; exact hrr)⟩
          have ho5 := hst.out
          have p1 : wr.cell? ⟨w.heap.size + 1, 2, none⟩ = some v3 := by simp [World.cell?, ho5]
          have hFb : F.length ≤ 1000000 := by have := HFL.out; omega
          clear hst hcu hbl hrr hNm hNl ho5
          go_wp2_with fail
          go_region_law (first
            | (refine at_app _ _ _ rfl ?_; refine step_append_one rfl (.tmp 33) (.tmp 36) 25 4 (.bool false) 1 Tryd.underlying25 info_bool1 rfl (by decide) rfl (w.heap.size + 1 + 1) v3 F.length _ rfl hnx (.bool y) rfl rfl hFb hOb ?_; intro g6 cap6 w6 ho6 hg6 hat6 hlt6; obtain ⟨z1, z2, z3⟩ := HST5.out.addF ho6 hg6 hat6)
            | (refine at_fun 40 _ _ rfl ?_; go_simp; go_wp2_with (go_at_call 40; refine (HQ.out _ ?_).mono ?_; (first | exact Or.inl rfl | exact Or.inr rfl); rintro e w5 ⟨⟨y, rfl⟩, hcu5, hst5, hbl5, hrr5⟩; have hnx := hst5.fi; have hOb := hst5.blk; have ho5 := hst5.out; have p5 : w5.cell? ⟨w.heap.size + 1, 2, none⟩ = some v3 := (by simp [World.cell?, ho5]); have p5b : (w5.alloc (.cells #[.bool y] 4)).cell? ⟨w.heap.size + 1, 2, none⟩ = some v3 := (by rw [World.cell?_alloc_past _ _ _ (by show w.heap.size + 1 < w5.heap.size; exact hOb)]; exact p5); have HST5 := Lib.hid hst5; have HCU5 := Lib.hid hcu5; have HBL5 := Lib.hid hbl5; have HRR5 := Lib.hid hrr5; clear hst5 hcu5 hbl5 hrr5 ho5)))
          all_goals
            have HY := Lib.hid z3
            have hda := draw_after (S0 := w.heap.size) hg6 (fun j hj => by have := (World.ownsRow.lt hnx j hj).1; omega) (by omega) 2 (.slice (some ⟨g6, 0, none⟩) (F.length + 1) cap6)
            have HDA := Lib.hid hda
            clear ho6 hg6 hat6 hlt6 z1 z2 z3 hda
            go_wp2_with fail
            go_roundw
            case rel => exact ⟨s + 1, _, _, N, F ++ [y], by go_num, by omega, by rw [HNL.out, Nat.add_mul, Nat.one_mul], by rw [List.length_append, HFL.out]; rfl, HNM.out, HY.out, HCU5.out.upd (U := 0) HDA.out.1 hB, HBL5.out.trans (HDA.out.1.mono (by omega)), HDA.out.2.trans HRR5.out⟩
            case measure => simp [intOf]; omega
    · obtain rfl : s = n := by omega
      have hok : maOk ⟨(b : Int), N, F⟩ = true := by
        simp only [maOk, Bool.and_eq_true, inB_t, decide_eq_true_eq, allIn_t]
        refine ⟨⟨⟨by omega, by omega⟩, ?_⟩, fun x hx => ?_⟩
        · rw [HNL.out, hFl, Int.natCast_mul, Int.mul_comm]
        · have := HNM.out x hx
          rw [hFl]
          omega
      obtain ⟨b1, d1, b2, d2, e1, e2, -⟩ := HST.out.mach
      have hout := HST.out.out
      subst e1 e2
      have hr3 := HRR.out
      have y0 : wr.cell? ⟨w.heap.size, 0, none⟩ = some (.int .i64 0) := by simp [World.cell?, hr3]
      have y1 : wr.cell? ⟨w.heap.size, 1, none⟩ = some (.slice none 0 0) := by simp [World.cell?, hr3]
      have y2 : wr.cell? ⟨w.heap.size, 2, none⟩ = some (.slice none 0 0) := by simp [World.cell?, hr3]
      have z0 : wr.frozen? ⟨w.heap.size, 0, none⟩ = false := by simp [World.frozen?, hr3]
      have z1 : wr.frozen? ⟨w.heap.size, 1, none⟩ = false := by simp [World.frozen?, hr3]
      have z2 : wr.frozen? ⟨w.heap.size, 2, none⟩ = false := by simp [World.frozen?, hr3]
      have p0 : wr.cell? ⟨w.heap.size + 1, 0, none⟩ = some (.int .i64 (b : Int)) := by simp [World.cell?, hout]
      have p1 : wr.cell? ⟨w.heap.size + 1, 1, none⟩ = some (.slice b1 N.length d1) := by simp [World.cell?, hout]
      have p2 : wr.cell? ⟨w.heap.size + 1, 2, none⟩ = some (.slice b2 F.length d2) := by simp [World.cell?, hout]
      have HOKF := Lib.hid hok
      have HFL := Lib.hid hFl
      clear hout hok hFl hr3
      go_wp2_with fail
      refine bodyPost_ret (results_mach1 rfl _ _ w.heap.size _ _ _ _ rfl (set_three HRR.out)) rfl ?_
      have hst4 := ((HST.out.other (set_other _ w.heap.size 0 (.int .i64 (b : Int))) (by omega)).other (set_other _ w.heap.size 1 (.slice b1 N.length d1)) (by omega)).other (set_other _ w.heap.size 2 (.slice b2 F.length d2)) (by omega)
      obtain ⟨b1', d1', b2', d2', e1', e2', hmach⟩ := hst4.mach
      simp only [Value.slice.injEq, true_and] at e1' e2'
      obtain ⟨rfl, rfl⟩ := e1'
      obtain ⟨rfl, rfl⟩ := e2'
      refine ⟨b1, d1, b2, d2, ⟨(b : Int), N, F⟩, rfl, HOKF.out, rfl, ?_, hmach, ?_⟩
      · show F.length ≤ 5
        have := HFL.out
        omega
      · exact ((HBL2.out.setCell (p := ⟨w.heap.size, 0, none⟩) (by show B ≤ w.heap.size; omega) _).setCell (p := ⟨w.heap.size, 1, none⟩) (by show B ≤ w.heap.size; omega) _).setCell (p := ⟨w.heap.size, 2, none⟩) (by show B ≤ w.heap.size; omega) _

end Go.Proofs.YtkapbhlnjmfaaaaDoor
