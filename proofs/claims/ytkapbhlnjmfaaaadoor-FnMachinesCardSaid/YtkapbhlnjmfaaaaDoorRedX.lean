/- The program's reduced machine. Conditions: those of each contract. -/
import Derived.Test.YtkapbhlnjmfaaaaDoorRedW
import Derived.Test.YtkapbhlnjmfaaaaDoorClsX
import Derived.Test.YtkapbhlnjmfaaaaDoorMachB
namespace Go.Proofs.YtkapbhlnjmfaaaaDoor
set_option linter.unusedVariables false
open Go.RowKit

/-- a call returns a machine and a word on it -/
def RetM (w : World) (x : Ma) (ok : Bool) (e : Ending) (w' : World) : Prop :=
  ∃ a1 c1 a2 c2, e = .returned (.tuple #[.agg #[.int .i64 x.base, .slice a1 x.next.length c1, .slice a2 x.final.length c2], .bool ok]) ∧ Mach w' w'.heap.size a1 c1 a2 c2 x ∧ Below w.heap.size w w'
def noM : Ma := ⟨0, [], []⟩
theorem noM_at (w : World) (B : Nat) : Mach w B none 0 none 0 noM := ⟨⟨by simp [noM], by simp [maxLen], 0, 0, by simp [noM], by simp [noM]⟩, ⟨by simp [noM], by simp [maxLen], 0, 0, by simp [noM], by simp [noM]⟩⟩
theorem bools_of {w : World} {base n : Nat} {v : Value} {bs : List Bool} (h : w.ownsRow base 4 1 v bs.length (bs.map Value.bool)) : ∃ a cap, v = .slice a bs.length cap ∧ Bools w w.heap.size a cap bs := by
  have h0 := h
  rcases h.2 with ⟨h1, h2⟩ | ⟨g, cap', cur, hv, hg, hh, hnc, hcm, hcs, ht⟩
  · exact ⟨none, 0, by rw [h2]; exact h1, by omega, by unfold maxLen; omega, 0, 0, fun h => by omega, fun i hi => by omega⟩
  · refine ⟨_, _, hv, hnc, hcm, g, 0, fun _ => ⟨rfl, lt_of_block hh⟩, fun i hi => ?_⟩
    subst hv
    rw [Nat.zero_add, World.ownsRow.cellAt h0 i (by omega), List.getElem?_map, List.getElem?_eq_getElem hi]
    rfl
theorem RedSt.mach {w : World} {E O : Nat} {q : Int} {v1 v2 v3 v4 : Value} {S : List Nat} {N : List Int} {F : List Bool} {L : List Int} (h : RedSt w E O q v1 v2 v3 v4 S N F L) :
    ∃ a1 c1 a2 c2, v2 = .slice a1 N.length c1 ∧ v3 = .slice a2 F.length c2 ∧ Mach w w.heap.size a1 c1 a2 c2 ⟨q, N, F⟩ := by
  obtain ⟨a1, c1, e1, h1⟩ := OwnI.of h.nx
  obtain ⟨a2, c2, e2, h2⟩ := bools_of h.fi (n := 0)
  exact ⟨a1, c1, a2, c2, e1, e2, h1.ints, h2⟩
theorem RedSt.state {w : World} {E O : Nat} {q : Int} {v1 v2 v3 v4 : Value} {S : List Nat} {N : List Int} {F : List Bool} {L : List Int} (h : RedSt w E O q v1 v2 v3 v4 S N F L) (h0 : 0 < S.length) :
    ∃ g cap, v1 = .slice (some ⟨g, 0, none⟩) S.length cap ∧ ∀ i (hi : i < S.length), w.cell? ⟨g, i, none⟩ = some (.int .i64 (S[i] : Nat)) := by
  obtain ⟨g, cap, rfl, -, -⟩ := World.ownsRow.form h.st h0
  refine ⟨g, cap, rfl, fun i hi => ?_⟩
  have := World.ownsRow.cellAt h.st i (by omega)
  rw [this, List.getElem?_map, List.getElem?_eq_getElem hi]
  rfl
open Go.Maps in
/-- 'm[k]' of a key that is there, as an equation -/
theorem MapI.run_at {w : World} {b n : Nat} {f : Int → Option Int} (h : MapI w b n f) (y v : Int) (hw : i64W y) (hv : f y = some v) : Sem.run Tryd.prog (Instr.lookup 52 (.map (some b)) (.int .i64 y) false) w = .ok (.int .i64 v) w := by
  obtain ⟨D, h1, h2, h3⟩ := h
  obtain ⟨c, hrun, hat, hwc⟩ := h1.lookup_int klaw Tryd.underlying52 Tryd.underlying3 (kzero w) (keyOf_int_mk Tryd.underlying3 hw)
  have := (h3 y).2 v hv
  rw [hat] at this
  have e : c = v := by simpa using this
  rw [e] at hrun
  exact hrun
theorem MapI.turnT {w w' : World} {b n k : Nat} {f : Int → Option Int} (h : MapI w b n f) (hg : w.grownBy w' (some k)) (hk : b ≠ k) : MapI w' b n f := h.same (hg.block b h.blk (fun e => hk (by cases e; rfl)))
open Go.Maps in
/-- 'm[k] = v' of a map's literal -/
theorem wpList_mapI_insert {ops : Array Oper} {rest : List Oper} {o : Oper} {a : Act} {Q : Exit → Act → World → Prop} {wr : World} (hgd : o.guard = none) (m x v : Operand) (hop : o.op = Op.insert 52 m x v)
    (b : Nat) (hm : a.eval m = .map (some b)) (hown : MapI wr b 0 (fun _ => none)) (y u : Int) (hx : a.eval x = .int .i64 y) (hv : a.eval v = .int .i64 u) (hw : i64W y) (hu : i64W u)
    (h : ∀ w', MapI w' b 1 (fun z => if z = y then some u else none) → wr.grownBy w' (some b) → wpList Tryd.prog ops Q rest (a.put o.dst undef) w') :
    wpList Tryd.prog ops Q (o :: rest) a wr := by
  obtain ⟨D, h1, h2, h3⟩ := hown
  refine wpList_plain hgd fun K' hK' => ?_
  obtain ⟨w', hrun, r1, r2⟩ := h1.update klaw Tryd.underlying52 (by decide) (keyOf_int_mk Tryd.underlying3 hw) (plainElem_int Tryd.underlying3 hu)
  unfold Oper.wp
  simp [execOp, hop, hm, hx, hv, hrun, Result.andThen]
  refine hK' _ _ (h w' ⟨_, r1, h2.put _ _, fun z => ?_⟩ r2)
  dsimp only
  by_cases hz : z = y
  · subst hz
    rw [if_pos rfl]
    refine ⟨by rw [has_put_same h2 (show WideAt.IsKeyLit (Lit.int .i64 z) from trivial)]; rfl, fun v' hv' => ?_⟩
    rw [atKey_put_same h2 (show WideAt.IsKeyLit (Lit.int .i64 z) from trivial), Option.some.inj hv']
  · have hne : (Lit.int .i64 z) ≠ (Lit.int .i64 y) := fun e => hz (by simpa using e)
    rw [if_neg hz]
    refine ⟨by rw [has_put_other hne]; exact (h3 z).1, fun v' hv' => by cases hv'⟩
theorem set_three {w : World} {g : Nat} {x y z x' y' z' : Value} {T : TypeId} (hg : w.heap[g]? = some (.cells #[x, y, z] T (0, 0))) :
    (((w.setCell ⟨g, 0, none⟩ x').setCell ⟨g, 1, none⟩ y').setCell ⟨g, 2, none⟩ z').heap[g]? = some (.cells #[x', y', z'] T (0, 0)) := by
  simp [World.setCell, Array.getElem?_modify, hg]
/-- the machine that has just been begun -/
theorem RedSt.begin {w : World} {E : Nat} (q : Int) {v4 : Value} {L : List Int} (hs : E + 2 ≤ w.heap.size) (h1 : w.ownsRow E 3 1 (.slice (some ⟨E, 0, none⟩) 1 1) 1 [.int .i64 0])
    (h4 : w.ownsRow E 3 1 v4 L.length (L.map (Value.int .i64))) (m4 : ∀ g, v4.ownBlock = some g → g = E + 1) :
    RedSt (w.alloc (.cells #[.int .i64 q, .slice none 0 0, .slice none 0 0] 27)) E w.heap.size q (.slice (some ⟨E, 0, none⟩) 1 1) (.slice none 0 0) (.slice none 0 0) v4 [0] [] [] L := by
  have g1 := World.grownBy_alloc w (.cells #[.int .i64 q, .slice none 0 0, .slice none 0 0] 27) none
  have hk : ∀ v : Value, ∀ n xs, w.ownsRow E 3 1 v n xs → (w.alloc (.cells #[.int .i64 q, .slice none 0 0, .slice none 0 0] 27)).ownsRow E 3 1 v n xs := by
    intro v n xs hv
    exact hv.kept g1 (by cases v.ownBlock <;> simp)
  refine ⟨hk _ _ _ h1, World.ownsRow_nil _ _ _ _, World.ownsRow_nil _ _ _ _, hk _ _ _ h4, heap_alloc_new _ _, ap_nil' _ _ _, ap_nil' _ _ _, ?_, ap_nil _ _ _, ap_nil _ _ _, ap_nil _ _ _, ?_, ?_, ?_⟩
  · intro g e1 e2
    have := m4 _ e2
    simp [Value.ownBlock] at e1
    omega
  · intro g hg; simp [Value.ownBlock] at hg; omega
  · intro g hg; exact Or.inl (m4 g hg)
  · exact hs
theorem info_mach : (Tryd.prog.info? 27).map (·.size) = some 3 := by kernel_rfl
theorem results_mach {fn : Func} {t u : Tmp} (h : fn.results = #[.cell t 27, .tmp u]) (tmps : Array Value) (w : World) (g : Nat) (x y z : Value) (fr : Nat × Nat) (hp : tmps.getD t undef = .pointer (some ⟨g, 0, none⟩))
    (hg : w.heap[g]? = some (.cells #[x, y, z] 27 fr)) : (results fn tmps).run Tryd.prog w = .ok (.tuple #[.agg #[x, y, z], tmps.getD u undef]) w := by
  have hl := run_loadVar_row (P := Tryd.prog) w g 27 27 #[x, y, z] fr _ hg Tryd.underlying27 rfl info_mach
  have hp2 : tmps[t]?.getD undef = .pointer (some ⟨g, 0, none⟩) := by simpa using hp
  simp [results, h, hp2, asAddr, hl]
set_option maxRecDepth 8000 in
set_option maxHeartbeats 4000000 in
theorem ReduceMachine_any (a1 : Option Addr) (c1 : Nat) (a2 : Option Addr) (c2 : Nat) (m : Ma) (w : World) (hm : Mach w w.heap.size a1 c1 a2 c2 m) (ht : Tab w) :
    Calls Tryd.prog 9 #[.agg #[.int .i64 m.base, .slice a1 m.next.length c1, .slice a2 m.final.length c2]] w (RetM w (if maOk m = true then redM m else noM) (maOk m)) := by
  obtain ⟨w0, e0, hb0, hs0, k0, k1, k2⟩ := box_new m.base a1 m.next.length c1 a2 m.final.length c2 w
  have hbA : Below w.heap.size w (w0.alloc (.cells #[.int .i64 0, .slice none 0 0, .slice none 0 0] 27)) := hb0.alloc (by omega) _
  have HBA := Lib.hid hbA
  have HOKC : Hid (∀ W : World, Below w.heap.size w W → Calls Tryd.prog 19 #[.agg #[.int .i64 m.base, .slice a1 m.next.length c1, .slice a2 m.final.length c2]] W fun e w' => e = .returned (.bool (maOk m)) ∧ Below W.heap.size W w') := fun W hW => MachineOk_any a1 c1 a2 c2 m W (hm.later hW)
  have HK : Hid (∀ W : World, Below w0.heap.size w0 W → W.cell? ⟨w.heap.size, 0, none⟩ = some (.int .i64 m.base) ∧ W.cell? ⟨w.heap.size, 1, none⟩ = some (.slice a1 m.next.length c1) ∧ W.cell? ⟨w.heap.size, 2, none⟩ = some (.slice a2 m.final.length c2)) := fun W hW =>
    ⟨(hW.cell (p := ⟨w.heap.size, 0, none⟩) (by show w.heap.size < _; omega)).trans k0, (hW.cell (p := ⟨w.heap.size, 1, none⟩) (by show w.heap.size < _; omega)).trans k1, (hW.cell (p := ⟨w.heap.size, 2, none⟩) (by show w.heap.size < _; omega)).trans k2⟩
  have HBW : Hid (∀ W : World, Below w0.heap.size w0 W → Below w.heap.size w W) := fun W hW => hb0.trans (hW.mono (by omega))
  have HBZ : Hid (Below w0.heap.size w0 (w0.alloc (.cells #[.int .i64 0, .slice none 0 0, .slice none 0 0] 27))) := (Below.refl _ _).alloc (Nat.le_refl _) _
  have HR : Hid ((w0.alloc (.cells #[.int .i64 0, .slice none 0 0, .slice none 0 0] 27)).heap[w.heap.size + 1]? = some (.cells #[.int .i64 0, .slice none 0 0, .slice none 0 0] 27 (0, 0))) := by
    show _ = _
    rw [show w.heap.size + 1 = w0.heap.size from hs0.symm]
    exact heap_alloc_new _ _
  obtain ⟨wA, eA⟩ : ∃ wA, wA = w0.alloc (.cells #[.int .i64 0, .slice none 0 0, .slice none 0 0] 27) := ⟨_, rfl⟩
  rw [← eA] at HBA HBZ HR
  obtain ⟨j0, j1, j2⟩ := HK.out wA HBZ.out
  cases hok : maOk m
  · rw [hok] at HOKC
    clear hok hm ht k0 k1 k2 hb0 hbA
    go_enter Tryd.func9, Tryd.ntmps9
    go_wp2_with fail
    rw [← e0, ← eA]
    refine (HOKC.out wA HBA.out).mono ?_
    rintro e w1 ⟨rfl, hb1⟩
    have hr1 := (hb1.block (w.heap.size + 1) (by rw [eA]; simp; omega)).trans HR.out
    have x0 : w1.cell? ⟨w.heap.size + 1, 0, none⟩ = some (.int .i64 0) := by simp [World.cell?, hr1]
    have x1 : w1.cell? ⟨w.heap.size + 1, 1, none⟩ = some (.slice none 0 0) := by simp [World.cell?, hr1]
    have x2 : w1.cell? ⟨w.heap.size + 1, 2, none⟩ = some (.slice none 0 0) := by simp [World.cell?, hr1]
    have f0 : w1.frozen? ⟨w.heap.size + 1, 0, none⟩ = false := by simp [World.frozen?, hr1]
    have f1 : w1.frozen? ⟨w.heap.size + 1, 1, none⟩ = false := by simp [World.frozen?, hr1]
    have f2 : w1.frozen? ⟨w.heap.size + 1, 2, none⟩ = false := by simp [World.frozen?, hr1]
    have HB1 := Lib.hid (HBA.out.trans (hb1.mono HBA.out.size))
    clear hb1 e0 eA
    go_wp2_with fail
    refine bodyPost_ret (results_mach rfl _ _ (w.heap.size + 1) _ _ _ _ rfl (set_three hr1)) rfl ?_
    exact ⟨none, 0, none, 0, rfl, noM_at _ _, ((HB1.out.setCell (p := ⟨w.heap.size + 1, 0, none⟩) (Nat.le_succ _) _).setCell (p := ⟨w.heap.size + 1, 1, none⟩) (Nat.le_succ _) _).setCell (p := ⟨w.heap.size + 1, 2, none⟩) (Nat.le_succ _) _⟩
  · obtain ⟨q2, q10, n1, n144, -, -⟩ := maOk_t hok
    have HCL : Hid (∀ W : World, Below w0.heap.size w0 W → Calls Tryd.prog 31 #[.agg #[.int .i64 m.base, .slice a1 m.next.length c1, .slice a2 m.final.length c2]] W
      fun e w' => ∃ g, e = .returned (.slice (some ⟨g, 0, none⟩) m.final.length m.final.length) ∧ RowN w' g m.final.length (clL m m.final.length) ∧ W.heap.size ≤ g ∧ Below W.heap.size W w') := fun W hW =>
      classes_any a1 c1 a2 c2 m W (hm.later (HBW.out W hW)) hok (ht.upd (HBW.out W hW))
    have HST : Hid (∀ (W : World) (s d : Nat), Below w0.heap.size w0 W → s < m.final.length → d < m.base.toNat → Calls Tryd.prog 30 #[.agg #[.int .i64 m.base, .slice a1 m.next.length c1, .slice a2 m.final.length c2], .int .i64 s, .int .i64 d] W fun e w' => e = .returned (.int .i64 (nxM m s d)) ∧ Below W.heap.size W w') := fun W s d hW hs hd => by
      rw [← (nxM_eq hok s d hs hd).1]
      exact step_any a1 c1 a2 c2 m _ _ W (hm.later (HBW.out W hW)) hok (by omega) (by omega) (by omega) (by omega)
    obtain ⟨-, -, bf, offf, haf, hcf⟩ := hm.bools
    obtain ⟨rfl, hbf⟩ := haf (by omega)
    have HFB : Hid (∀ W : World, Below w0.heap.size w0 W → ∀ s, s < m.final.length → W.cell? ⟨bf, offf + s, none⟩ = some (.bool (finN m s))) := fun W hW s hs => by
      rw [(HBW.out W hW).cell (p := ⟨bf, offf + s, none⟩) hbf, hcf s hs]
      simp [finN, List.getD, hs]
    have HOKM := Lib.hid hok
    have HRM : Hid (redM m = ⟨m.base, (redS m).2, (redS m).1.map (finN m)⟩) := rfl
    have HBN : Hid (((m.base.toNat : Nat) : Int) = m.base) := by show _ = _; omega
    rw [hok] at HOKC
    clear hok hm ht k0 k1 k2 hb0 hbA haf hcf hbf
    have hmm := @run_makeMap Tryd.prog
    have hw0 : i64W 0 := i64W_ok 0 (by omega) (by omega)
    go_enter Tryd.func9, Tryd.ntmps9
    go_wp2_with fail
    rw [← e0, ← eA]
    refine (HOKC.out wA HBA.out).mono ?_
    rintro e w1 ⟨rfl, hb1⟩
    have hr1 := (hb1.block (w.heap.size + 1) (by rw [eA]; simp; omega)).trans HR.out
    have HB1 := Lib.hid (HBZ.out.trans (hb1.mono HBZ.out.size))
    obtain ⟨x0, x1, x2⟩ := HK.out w1 HB1.out
    have hs1 : w.heap.size + 1 < w1.heap.size := by have := hb1.size; rw [eA] at this; simp at this; omega
    clear hb1 e0 eA HR HBA HBZ HOKC j0 j1 j2
    go_wp2_with fail
    refine (HCL.out w1 HB1.out).mono ?_
    rintro e w2 ⟨g, rfl, hrow, hg, hb2⟩
    have hr2 := (hb2.block (w.heap.size + 1) hs1).trans hr1
    have HB2 := Lib.hid (HB1.out.trans (hb2.mono HB1.out.size))
    have hs2 := hb2.size
    obtain ⟨x3, -, -⟩ := HK.out w2 HB2.out
    have HROW := Lib.hid hrow
    have hgl := hrow.blk (by omega)
    clear hb2 hrow hr1 HCL x0 x1 x2
    have hc0 := ((HROW.out.kept ((Below.refl w2.heap.size w2).alloc (Nat.le_refl _) (.cells #[.int .i64 0] 3)) hgl).kept ((Below.refl _ _).alloc (Nat.le_refl _) (.map #[] 0)) (by simp; omega)).cell 0 (by rw [clL_len]; omega)
    rw [clL_get] at hc0
    have hcl0 := clM_lt HOKM.out m.final.length 0 (by omega)
    have hwc : i64W (clM m m.final.length 0 : Int) := i64W_ok _ (by omega) (by omega)
    have hmp0 := MapI.made (w2.alloc (.cells #[.int .i64 0] 3))
    have HLIT : Hid (w2.alloc (.cells #[.int .i64 0] 3) |>.ownsRow w2.heap.size 3 1 (.slice (some ⟨w2.heap.size, 0, none⟩) 1 1) 1 [.int .i64 0]) := World.ownsRow_lit _ #[.int .i64 0] 1 (Nat.le_refl _) (by simp [maxLen]) rfl
    rw [show (w2.alloc (.cells #[.int .i64 0] 3)).heap.size = w2.heap.size + 1 from by simp] at hmp0
    go_wp2_with (refine wpList_mapI_insert rfl _ _ _ rfl _ rfl hmp0 _ 0 rfl rfl hwc hw0 ?_; intro w3 hmp3 hgr3; refine Hid.out ?_)
    refine Lib.hid ?_
    have h1 : w3.ownsRow w2.heap.size 3 1 (.slice (some ⟨w2.heap.size, 0, none⟩) 1 1) 1 [.int .i64 0] := (HLIT.out.alloc (.map #[] 0)).kept hgr3 (Or.inr (by simp [Value.ownBlock]))
    have hs3 : w2.heap.size + 2 ≤ w3.heap.size := by have := hgr3.size; simpa using this
    have HST0 := Lib.hid (RedSt.begin m.base (v4 := .slice none 0 0) (L := []) hs3 h1 (World.ownsRow_nil _ _ _ _) (by intro g hg; simp [Value.ownBlock] at hg))
    have hb3 : Below w2.heap.size w2 w3 := (((Below.refl _ _).alloc (Nat.le_refl _) _).alloc (by simp) _).grown hgr3 (by simp; omega) (fun j hj => by cases hj; omega)
    have HB3 := Lib.hid hb3
    have hmp4 : MapI w3 (w2.heap.size + 1) 1 (numF (clM m m.final.length) [0]) := hmp3.congr (fun x => by
      unfold numF clsOf
      by_cases hx : x = (clM m m.final.length 0 : Int)
      · subst hx; simp
      · simp [hx])
    have HM4 := Lib.hid hmp4
    have hB0 := HB2.out.size
    obtain ⟨x4, -, -⟩ := HK.out w3 (HB2.out.trans (hb3.mono hB0))
    clear hmp3 hgr3 hc0 hmp0 HLIT h1 hmp4 hwc hcl0 hb3 x3
    have HM5 : Hid (MapI (w3.alloc (.cells #[.int .i64 m.base, .slice none 0 0, .slice none 0 0] 27)) (w2.heap.size + 1) 1 (numF (clM m m.final.length) [0])) := HM4.out.kept ((Below.refl _ _).alloc (Nat.le_refl _) _) (by omega)
    have HB5 : Hid (Below w2.heap.size w2 (w3.alloc (.cells #[.int .i64 m.base, .slice none 0 0, .slice none 0 0] 27))) := HB3.out.alloc (by omega) _
    clear HM4 HB3
    have hGO : Hid (GoodS m.final.length (clM m m.final.length) [0]) := GoodS.start (by omega)
    have hNX := nxM_lt HOKM.out
    have HNX := Lib.hid hNX
    have HRS : Hid (bfs m.base.toNat (clM m m.final.length) (nxM m) (m.final.length + 1) 0 ([0], []) = redS m) := rfl
    have HBE : Hid (∀ W : World, Below w2.heap.size w2 W → Below w0.heap.size w0 W) := fun W hW => HB2.out.trans (hW.mono hB0)
    have HRW : Hid (∀ W : World, Below w2.heap.size w2 W → RowN W g m.final.length (clL m m.final.length)) := fun W hW => HROW.out.kept hW hgl
    have HR2 := Lib.hid hr2
    have hs22 : w.heap.size + 1 < w2.heap.size := by omega
    clear hNX hr2 HROW
    go_wp2_with fail
    go_loopw [5, 8] (fun v1 iv wr => ∃ (i f nn : Nat) (Q : List Nat × List Int) (v2 v3 : Value), iv = .int .i64 i ∧ i ≤ Q.1.length ∧ bfs m.base.toNat (clM m m.final.length) (nxM m) f i Q = redS m ∧ m.final.length < f + i ∧ GoodS m.final.length (clM m m.final.length) Q.1 ∧ Q.2.length = i * m.base.toNat ∧ nn ≤ Q.1.length ∧
      RedSt wr w2.heap.size w3.heap.size m.base v1 v2 v3 (.slice none 0 0) Q.1 Q.2 ((Q.1.take i).map (finN m)) [] ∧ MapI wr (w2.heap.size + 1) nn (numF (clM m m.final.length) Q.1) ∧ Below w2.heap.size w2 wr ∧ 0 < Q.1.length) (fun _ iv _ => (m.final.length + 1 - (intOf iv).toNat))
    case atStart => exact ⟨0, m.final.length + 1, 1, ([0], []), .slice none 0 0, .slice none 0 0, rfl, Nat.zero_le _, HRS.out, by omega, hGO.out, by simp, by simp, HST0.out, HM5.out, HB5.out, by simp⟩
    case round =>
      clear HST0 HM5 HB5 hGO HRS x4
      obtain ⟨i, f, nn, Q, v2, v3, rfl, hi, hbf, hfi, hgo, hNl, hnn, hst, hmp, hb, hpos⟩ := hrel
      have hSl := hgo.len
      have HGO := Lib.hid hgo
      have HBF := Lib.hid hbf
      have HNL := Lib.hid hNl
      have HST1 := Lib.hid hst
      have HMP := Lib.hid hmp
      have HB := Lib.hid hb
      obtain ⟨g1, cap1, rfl, hcs⟩ := hst.state hpos
      have HCS := Lib.hid hcs
      clear hgo hbf hst hmp hb hcs hNl
      by_cases hlt : i < Q.1.length
      · obtain ⟨s0, hs0e⟩ : ∃ s0, s0 = Q.1[i] := ⟨_, rfl⟩
        have hs0n : s0 < m.final.length := by rw [hs0e]; exact HGO.out.lt _ (List.getElem_mem hlt)
        have hgd : Q.1.getD i 0 = s0 := by rw [hs0e]; simp [List.getD, hlt]
        obtain ⟨f, rfl⟩ : ∃ f', f = f' + 1 := ⟨f - 1, by omega⟩
        have HBF2 : Hid (bfs m.base.toNat (clM m m.final.length) (nxM m) f (i + 1) (rowQ (clM m m.final.length) (nxM m) s0 Q m.base.toNat) = redS m) := by
          show _ = _
          rw [← HBF.out, bfs, if_pos hlt, hgd]
        have HPRE : Hid (∀ d, ∃ t, (rowQ (clM m m.final.length) (nxM m) s0 Q d).1 = Q.1 ++ t) := fun d => rowQ_pre _ _ _ _ d
        have HGD : Hid (∀ d, d ≤ m.base.toNat → GoodS m.final.length (clM m m.final.length) (rowQ (clM m m.final.length) (nxM m) s0 Q d).1) := rowQ_good HNX.out hs0n HGO.out
        have HLN : Hid (∀ d, (rowQ (clM m m.final.length) (nxM m) s0 Q d).2.length = Q.2.length + d) := fun d => rowQ_len _ _ _ _ d
        have HSI : Hid (∀ d, ∃ h : i < (rowQ (clM m m.final.length) (nxM m) s0 Q d).1.length, (rowQ (clM m m.final.length) (nxM m) s0 Q d).1[i] = s0) := fun d => by
          obtain ⟨t, ht⟩ := HPRE.out d
          have hl : i < (rowQ (clM m m.final.length) (nxM m) s0 Q d).1.length := by rw [ht, List.length_append]; omega
          refine ⟨hl, ?_⟩
          have h2 : (rowQ (clM m m.final.length) (nxM m) s0 Q d).1[i] = Q.1[i] := by
            simp only [ht]
            exact List.getElem_append_left hlt
          exact h2.trans hs0e.symm
        have HTK : Hid (∀ d, ((rowQ (clM m m.final.length) (nxM m) s0 Q d).1.take (i + 1)).map (finN m) = (Q.1.take i).map (finN m) ++ [finN m s0]) := fun d => by
          obtain ⟨t, ht⟩ := HPRE.out d
          rw [ht, List.take_append_of_le_length (by omega), List.take_succ_eq_append_getElem hlt, List.map_append, ← hs0e]
          rfl
        have hFl : ((Q.1.take i).map (finN m)).length = i := by simp; omega
        obtain ⟨x5, -, -⟩ := HK.out wr (HBE.out _ HB.out)
        have hNl2 : Q.2.length ≤ 1440 := by
          rw [HNL.out]
          have : i * m.base.toNat ≤ 144 * 10 := Nat.mul_le_mul (by omega) (by omega)
          omega
        have hlt2 : (i : Int) < (Q.1.length : Int) := by omega
        clear hs0e hgd HBF hi
        generalize hF : (Q.1.take i).map (finN m) = F at *
        go_wp2_with fail
        go_loopw [5, 36] (fun v1 dv wr => ∃ (d nn : Nat) (v2 v3 : Value), dv = .int .i64 d ∧ d ≤ m.base.toNat ∧ nn ≤ (rowQ (clM m m.final.length) (nxM m) s0 Q d).1.length ∧
          RedSt wr w2.heap.size w3.heap.size m.base v1 v2 v3 (.slice none 0 0) (rowQ (clM m m.final.length) (nxM m) s0 Q d).1 (rowQ (clM m m.final.length) (nxM m) s0 Q d).2 F [] ∧ MapI wr (w2.heap.size + 1) nn (numF (clM m m.final.length) (rowQ (clM m m.final.length) (nxM m) s0 Q d).1) ∧ Below w2.heap.size w2 wr) (fun _ dv _ => (m.base.toNat - (intOf dv).toNat))
        case atStart => exact ⟨0, nn, v2, v3, rfl, Nat.zero_le _, hnn, HST1.out, HMP.out, HB.out⟩
        case round =>
          clear HST1 HMP HB HCS x5 hnn v2 v3
          obtain ⟨d, nn, v2, v3, rfl, hd, hnn, hst, hmp, hb⟩ := hrel
          have hgoo := HGD.out d hd
          have hSl2 := hgoo.len
          have hln := HLN.out d
          obtain ⟨hil, hie⟩ := HSI.out d
          have HNEXT : Hid (rowQ (clM m m.final.length) (nxM m) s0 Q (d + 1) = stepQ (clM m m.final.length) (rowQ (clM m m.final.length) (nxM m) s0 Q d) (nxM m s0 d)) := rfl
          have HTD := Lib.hid (HTK.out d)
          have hEq : d = m.base.toNat → rowQ (clM m m.final.length) (nxM m) s0 Q m.base.toNat = rowQ (clM m m.final.length) (nxM m) s0 Q d := fun e => by rw [e]
          generalize hQd : rowQ (clM m m.final.length) (nxM m) s0 Q d = Qd at *
          have hHEQ := Lib.hid hEq
          have hNl3 : Qd.2.length ≤ 1450 := by omega
          have HLN3 := Lib.hid hln
          obtain ⟨g2, cap2, rfl, hcs⟩ := hst.state (by omega)
          have hci := hcs i hil
          rw [hie] at hci
          have HST2 := Lib.hid hst
          have HMP2 := Lib.hid hmp
          have HB2' := Lib.hid hb
          clear hst hmp hb hgoo hcs hEq hln
          by_cases hdl : d < m.base.toNat
          · obtain ⟨x5, x6, x7⟩ := HK.out wr (HBE.out _ HB2'.out)
            have hdi : (d : Int) < m.base := by have := HBN.out; omega
            have hi1 : (0 : Int) ≤ (i : Int) := by omega
            have hi2 : (i : Int) < (Qd.1.length : Int) := by omega
            have HBWr := Lib.hid (HBE.out _ HB2'.out)
            go_wp2_with fail
            go_region_with (go_at_call 30; refine (HST.out _ s0 d ?_ hs0n hdl).mono ?_; (first | exact HBWr.out.drew | exact HBWr.out); rintro e w5 ⟨rfl, hb5⟩)
            all_goals
              have hb5' : Below wr.heap.size wr w5 := (Below.refl _ _).drew.trans hb5
              have hn5 := HNX.out s0 d hs0n hdl
              have hst5 := HST2.out.kept hb5'
              have hmp5 := HMP2.out.kept hb5' HMP2.out.blk
              have hb25 := HB2'.out.trans (hb5'.mono HB2'.out.size)
              have hc5 := (HRW.out w5 hb25).cell (nxM m s0 d) (by rw [clL_len]; exact hn5)
              rw [clL_get] at hc5
              have hck5 := clM_lt HOKM.out m.final.length _ hn5
              have HB25 := Lib.hid hb25
              clear hb5 hb5' hb25 HST2 HMP2 HB2' x5 x6 x7 hci HBWr
              generalize nxM m s0 d = s5 at *
              have hw5 : i64W (clM m m.final.length s5 : Int) := i64W_ok _ (by omega) (by omega)
              have hs51 : (0 : Int) ≤ (s5 : Int) := by omega
              have hs52 : (s5 : Int) < (m.final.length : Int) := by omega
            all_goals
              by_cases hmem : (clM m m.final.length s5 : Int) ∈ clsOf (clM m m.final.length) Qd.1
              · have hsome : (numF (clM m m.final.length) Qd.1 (clM m m.final.length s5 : Int)).isSome = true := by rw [numF_known]; simp [hmem]
                have hat : numF (clM m m.final.length) Qd.1 (clM m m.final.length s5 : Int) = some (((clsOf (clM m m.final.length) Qd.1).idxOf (clM m m.final.length s5 : Int) : Nat) : Int) := numF_at hmem
                have HNX1 : Hid (stepQ (clM m m.final.length) Qd s5 = (Qd.1, Qd.2 ++ [(((clsOf (clM m m.final.length) Qd.1).idxOf (clM m m.final.length s5 : Int) : Nat) : Int)])) := by
                  show _ = _
                  rw [stepQ, grow_old hmem]
                generalize (clsOf (clM m m.final.length) Qd.1).idxOf (clM m m.final.length s5 : Int) = ix at *
                clear hmem
                have hlk : Sem.run Tryd.prog (Instr.lookup 52 (.map (some (w2.heap.size + 1))) (.int .i64 (clM m m.final.length s5 : Int)) false) w5.drew = .ok (.int .i64 (ix : Int)) w5.drew :=
                  (hmp5.same (w' := w5.drew) rfl).run_at _ _ hw5 hat
                have hstd := hst5.drew
                have HADD : Hid (∀ (g cap : Nat) (w' : World), w'.ownsRow (w3.heap.size + 1) 3 1 (.slice (some ⟨g, 0, none⟩) (Qd.2.length + 1) cap) (Qd.2.length + 1) (Qd.2.map (Value.int .i64) ++ [.int .i64 (ix : Int)]) → w5.drew.grownBy w' v2.ownBlock → (v2.ownBlock = some g ∨ w5.drew.heap.size < g) →
                  w'.cell? ⟨w3.heap.size, 1, none⟩ = some v2 ∧ w'.frozen? ⟨w3.heap.size, 1, none⟩ = false ∧ RedSt (w'.setCell ⟨w3.heap.size, 1, none⟩ (.slice (some ⟨g, 0, none⟩) (Qd.2.length + 1) cap)) w2.heap.size w3.heap.size m.base (.slice (some ⟨g2, 0, none⟩) Qd.1.length cap2) (.slice (some ⟨g, 0, none⟩) (Qd.2.length + 1) cap) v3 (.slice none 0 0) Qd.1 (Qd.2 ++ [(ix : Int)]) F []) := fun g cap w' h1 h2 h3 => hstd.addN h1 h2 h3
                have hnx := hstd.nx
                have ho5 := hst5.out
                have p1 : w5.cell? ⟨w3.heap.size, 1, none⟩ = some v2 := by simp [World.cell?, ho5]
                have hOb : w3.heap.size + 1 ≤ w5.drew.heap.size := hstd.blk
                have p1b : (w5.alloc (.cells #[.int .i64 (ix : Int)] 3)).cell? ⟨w3.heap.size, 1, none⟩ = some v2 := by rw [World.cell?_alloc_past _ _ _ (by show w3.heap.size < w5.heap.size; exact hst5.blk)]; exact p1
                have HMPd : Hid (∀ w', w5.drew.grownBy w' v2.ownBlock → MapI w' (w2.heap.size + 1) nn (numF (clM m m.final.length) Qd.1)) := fun w' h => hmp5.same ((h.block _ hmp5.blk (fun e => by have := (World.ownsRow.lt hnx _ e.symm).1; omega)).trans rfl)
                have hNb : Qd.2.length ≤ 1000000 := by omega
                have HOB : Hid (w2.heap.size ≤ w5.drew.heap.size) := by show _ ≤ _; omega
                have HNG : Hid (∀ j, v2.ownBlock = some j → w2.heap.size ≤ j) := fun j hj => by have := (World.ownsRow.lt hnx _ hj).1; omega
                clear hat hstd hst5 ho5
                go_wp2_with (at_lookup; refine wpList_mapI_ok rfl _ _ rfl _ _ _ rfl hmp5 _ rfl hw5 ?_; intro cc hcc; clear hcc)
                go_region_law (refine step_append_one rfl (.tmp 69) (.tmp 76) 24 3 (.int .i64 0) 8 Tryd.underlying24 info_int rfl (Nat.le_refl _) rfl (w3.heap.size + 1) v2 Qd.2.length _ rfl hnx (.int .i64 (ix : Int)) rfl rfl hNb hOb ?_; intro g6 cap6 w6 ho6 hg6 hat6 hlt6; obtain ⟨y1, y2, y3⟩ := HADD.out g6 cap6 w6 ho6 hg6 hat6)
                all_goals
                  have HY3 := Lib.hid y3
                  have HM6 : Hid (MapI (w6.setCell ⟨w3.heap.size, 1, none⟩ (.slice (some ⟨g6, 0, none⟩) (Qd.2.length + 1) cap6)) (w2.heap.size + 1) nn (numF (clM m m.final.length) Qd.1)) := (HMPd.out w6 hg6).turnT (set_other _ _ _ _) (by omega)
                  have HB6 : Hid (Below w2.heap.size w2 (w6.setCell ⟨w3.heap.size, 1, none⟩ (.slice (some ⟨g6, 0, none⟩) (Qd.2.length + 1) cap6))) := (HB25.out.drew.grown hg6 HOB.out HNG.out).setCell (by show w2.heap.size ≤ w3.heap.size; omega) _
                  clear ho6 hg6 hat6 hlt6 y1 y2 y3
                  go_wp2_with fail
                  go_roundw
                  case rel =>
                    refine ⟨d + 1, nn, .slice (some ⟨g6, 0, none⟩) (Qd.2.length + 1) cap6, v3, by go_num, by omega, ?_, ?_, ?_, HB6.out⟩
                    · rw [HNEXT.out, HNX1.out]; exact hnn
                    · rw [HNEXT.out, HNX1.out]; exact HY3.out
                    · rw [HNEXT.out, HNX1.out]; exact HM6.out
                  case measure => simp [intOf]; omega
              · have hsome : (numF (clM m m.final.length) Qd.1 (clM m m.final.length s5 : Int)).isSome = false := by rw [numF_known]; simp [hmem]
                have HNX1 := Lib.hid (stepQ_new hmem)
                have HNW : Hid (∀ x, numF (clM m m.final.length) (Qd.1 ++ [s5]) x = if x = (clM m m.final.length s5 : Int) then some (Qd.1.length : Int) else numF (clM m m.final.length) Qd.1 x) := numF_new hmem
                have hat : numF (clM m m.final.length) (Qd.1 ++ [s5]) (clM m m.final.length s5 : Int) = some (Qd.1.length : Int) := by rw [HNW.out, if_pos rfl]
                have HAT := Lib.hid hat
                clear hmem hat
                have hwl : i64W (Qd.1.length : Int) := i64W_ok _ (by omega) (by omega)
                have hnm : nn < maxLen := by unfold maxLen; omega
                have HST5 := Lib.hid hst5
                clear hst5
                go_wp2_with (first
                  | (at_lookup; refine wpList_mapI_ok rfl _ _ rfl _ _ _ rfl hmp5 _ rfl hw5 ?_; intro cc hcc; clear hcc)
                  | (at_mapUpdate; refine wpList_mapI_set rfl _ _ _ rfl _ _ _ rfl hmp5 hnm _ (Qd.1.length : Int) rfl rfl hw5 hwl ?_; intro w6 hmp6 hgr6; refine Hid.out ?_))
                refine Lib.hid ?_
                have hst6 := HST5.out.turn hgr6 rfl
                have hmp7 := hmp6.congr HNW.out
                have hb6 := HB25.out.grown hgr6 HB25.out.size (fun j hj => by cases hj; exact Nat.le_succ _)
                have hS6 := hst6.st
                have HST6 := Lib.hid hst6
                have HMP7 := Lib.hid hmp7
                have HB6 := Lib.hid hb6
                have hB6 := hb6.size
                have hSb : Qd.1.length ≤ 1000000 := by omega
                clear hmp5 hmp6 hgr6 hmp7 hb6 hst6 HST5 HB25 hsome
                go_wp2_with (at_builtin; refine wpList_append_one rfl (.tmp 64) (.tmp 66) 24 3 (.int .i64 0) 8 Tryd.underlying24 info_int rfl (Nat.le_refl _) rfl w2.heap.size _ Qd.1.length _ rfl hS6 (.int .i64 (s5 : Int)) rfl rfl hSb hB6 ?_; intro g7 cap7 w7 ho7 hg7 hat7 hlt7; refine Hid.out ?_)
                refine Lib.hid ?_
                have hst7 := HST6.out.addS ho7 hg7 hat7
                have hmp7 : MapI w7 (w2.heap.size + 1) (nn + 1) (numF (clM m m.final.length) (Qd.1 ++ [s5])) := HMP7.out.same (hg7.block _ HMP7.out.blk (fun e => by have := HST6.out.m1 _ e.symm; omega))
                have hb7 := HB6.out.grown hg7 HB6.out.size (fun j hj => (World.ownsRow.lt HST6.out.st j hj).1)
                have hc7 := (HRW.out w7 hb7).cell s5 (by rw [clL_len]; omega)
                rw [clL_get] at hc7
                have hlk : Sem.run Tryd.prog (Instr.lookup 52 (.map (some (w2.heap.size + 1))) (.int .i64 (clM m m.final.length s5 : Int)) false) w7.drew = .ok (.int .i64 (Qd.1.length : Int)) w7.drew :=
                  (hmp7.same (w' := w7.drew) rfl).run_at _ _ hw5 HAT.out
                have hstd := hst7.drew
                have HADD : Hid (∀ (g cap : Nat) (w' : World), w'.ownsRow (w3.heap.size + 1) 3 1 (.slice (some ⟨g, 0, none⟩) (Qd.2.length + 1) cap) (Qd.2.length + 1) (Qd.2.map (Value.int .i64) ++ [.int .i64 (Qd.1.length : Int)]) → w7.drew.grownBy w' v2.ownBlock → (v2.ownBlock = some g ∨ w7.drew.heap.size < g) →
                  w'.cell? ⟨w3.heap.size, 1, none⟩ = some v2 ∧ w'.frozen? ⟨w3.heap.size, 1, none⟩ = false ∧ RedSt (w'.setCell ⟨w3.heap.size, 1, none⟩ (.slice (some ⟨g, 0, none⟩) (Qd.2.length + 1) cap)) w2.heap.size w3.heap.size m.base (.slice (some ⟨g7, 0, none⟩) (Qd.1.length + 1) cap7) (.slice (some ⟨g, 0, none⟩) (Qd.2.length + 1) cap) v3 (.slice none 0 0) (Qd.1 ++ [s5]) (Qd.2 ++ [((Qd.1.length : Nat) : Int)]) F []) := fun g cap w' h1 h2 h3 => hstd.addN h1 h2 h3
                have hnx := hstd.nx
                have ho8 := hst7.out
                have p1 : w7.cell? ⟨w3.heap.size, 1, none⟩ = some v2 := by simp [World.cell?, ho8]
                have hOb : w3.heap.size + 1 ≤ w7.drew.heap.size := hstd.blk
                have p1b : (w7.alloc (.cells #[.int .i64 (Qd.1.length : Int)] 3)).cell? ⟨w3.heap.size, 1, none⟩ = some v2 := by rw [World.cell?_alloc_past _ _ _ (by show w3.heap.size < w7.heap.size; exact hst7.blk)]; exact p1
                have HMPd : Hid (∀ w', w7.drew.grownBy w' v2.ownBlock → MapI w' (w2.heap.size + 1) (nn + 1) (numF (clM m m.final.length) (Qd.1 ++ [s5]))) := fun w' h => hmp7.same ((h.block _ hmp7.blk (fun e => by have := (World.ownsRow.lt hnx _ e.symm).1; omega)).trans rfl)
                have hNb : Qd.2.length ≤ 1000000 := by omega
                have HOB : Hid (w2.heap.size ≤ w7.drew.heap.size) := by show _ ≤ _; omega
                have HNG : Hid (∀ j, v2.ownBlock = some j → w2.heap.size ≤ j) := fun j hj => by have := (World.ownsRow.lt hnx _ hj).1; omega
                have HB7 := Lib.hid hb7
                clear hstd hst7 ho8 ho7 hg7 hat7 hlt7 hb7 hmp7 HST6 HMP7 HB6 hS6 hc5
                go_wp2_with fail
                go_region_law (refine step_append_one rfl (.tmp 69) (.tmp 76) 24 3 (.int .i64 0) 8 Tryd.underlying24 info_int rfl (Nat.le_refl _) rfl (w3.heap.size + 1) v2 Qd.2.length _ rfl hnx (.int .i64 (Qd.1.length : Int)) rfl rfl hNb hOb ?_; intro g6 cap6 w6' ho6 hg6 hat6 hlt6; obtain ⟨y1, y2, y3⟩ := HADD.out g6 cap6 w6' ho6 hg6 hat6)
                all_goals
                  have HY3 := Lib.hid y3
                  have HM6 : Hid (MapI (w6'.setCell ⟨w3.heap.size, 1, none⟩ (.slice (some ⟨g6, 0, none⟩) (Qd.2.length + 1) cap6)) (w2.heap.size + 1) (nn + 1) (numF (clM m m.final.length) (Qd.1 ++ [s5]))) := (HMPd.out w6' hg6).turnT (set_other _ _ _ _) (by omega)
                  have HB8 : Hid (Below w2.heap.size w2 (w6'.setCell ⟨w3.heap.size, 1, none⟩ (.slice (some ⟨g6, 0, none⟩) (Qd.2.length + 1) cap6))) := (HB7.out.drew.grown hg6 HOB.out HNG.out).setCell (by show w2.heap.size ≤ w3.heap.size; omega) _
                  clear ho6 hg6 hat6 hlt6 y1 y2 y3
                  go_wp2_with fail
                  go_roundw
                  case rel =>
                    refine ⟨d + 1, nn + 1, .slice (some ⟨g6, 0, none⟩) (Qd.2.length + 1) cap6, v3, by go_num, by omega, ?_, ?_, ?_, HB8.out⟩
                    · rw [HNEXT.out, HNX1.out]; simp; exact hnn
                    · rw [HNEXT.out, HNX1.out]; exact HY3.out
                    · rw [HNEXT.out, HNX1.out]; exact HM6.out
                  case measure => simp [intOf]; omega
          · obtain rfl : d = m.base.toNat := by omega
            have HBF3 : Hid (bfs m.base.toNat (clM m m.final.length) (nxM m) f (i + 1) Qd = redS m) := by
              show _ = _
              rw [← hHEQ.out rfl]
              exact HBF2.out
            have HGO3 : Hid (GoodS m.final.length (clM m m.final.length) Qd.1) := by
              have := HGD.out m.base.toNat (Nat.le_refl _)
              rwa [hHEQ.out rfl] at this
            have HNL3 : Hid (Qd.2.length = (i + 1) * m.base.toNat) := by
              show _ = _
              rw [HLN3.out, HNL.out, Nat.add_mul, Nat.one_mul]
            have hdi : ¬ ((m.base.toNat : Nat) : Int) < m.base := by have := HBN.out; omega
            obtain ⟨-, -, x7⟩ := HK.out wr (HBE.out _ HB2'.out)
            have hfb := HFB.out wr (HBE.out _ HB2'.out) s0 hs0n
            have hstd := HST2.out.drew
            have HADD : Hid (∀ (g cap : Nat) (w' : World), w'.ownsRow (w3.heap.size + 1) 4 1 (.slice (some ⟨g, 0, none⟩) (F.length + 1) cap) (F.length + 1) (F.map Value.bool ++ [.bool (finN m s0)]) → wr.drew.grownBy w' v3.ownBlock → (v3.ownBlock = some g ∨ wr.drew.heap.size < g) →
              w'.cell? ⟨w3.heap.size, 2, none⟩ = some v3 ∧ w'.frozen? ⟨w3.heap.size, 2, none⟩ = false ∧ RedSt (w'.setCell ⟨w3.heap.size, 2, none⟩ (.slice (some ⟨g, 0, none⟩) (F.length + 1) cap)) w2.heap.size w3.heap.size m.base (.slice (some ⟨g2, 0, none⟩) Qd.1.length cap2) v2 (.slice (some ⟨g, 0, none⟩) (F.length + 1) cap) (.slice none 0 0) Qd.1 Qd.2 (F ++ [finN m s0]) []) := fun g cap w' h1 h2 h3 => hstd.addF h1 h2 h3
            have hfx := hstd.fi
            have ho5 := HST2.out.out
            have p2 : wr.cell? ⟨w3.heap.size, 2, none⟩ = some v3 := by simp [World.cell?, ho5]
            have p2b : (wr.alloc (.cells #[.bool (finN m s0)] 4)).cell? ⟨w3.heap.size, 2, none⟩ = some v3 := by rw [World.cell?_alloc_past _ _ _ (by show w3.heap.size < wr.heap.size; exact HST2.out.blk)]; exact p2
            have hOb : w3.heap.size + 1 ≤ wr.drew.heap.size := hstd.blk
            have HMPd : Hid (∀ w', wr.drew.grownBy w' v3.ownBlock → MapI w' (w2.heap.size + 1) nn (numF (clM m m.final.length) Qd.1)) := fun w' h => HMP2.out.same ((h.block _ HMP2.out.blk (fun e => by have := (World.ownsRow.lt hfx _ e.symm).1; omega)).trans rfl)
            have hFb : F.length ≤ 1000000 := by omega
            have HOB : Hid (w2.heap.size ≤ wr.drew.heap.size) := by show _ ≤ _; omega
            have HNG : Hid (∀ j, v3.ownBlock = some j → w2.heap.size ≤ j) := fun j hj => by have := (World.ownsRow.lt hfx _ hj).1; omega
            have hi1 : (0 : Int) ≤ (i : Int) := by omega
            have hi2 : (i : Int) < (Qd.1.length : Int) := by omega
            have hs01 : (0 : Int) ≤ (s0 : Int) := by omega
            have hs02 : (s0 : Int) < (m.final.length : Int) := by omega
            have HFL := Lib.hid hFl
            generalize hfn : finN m s0 = fb at *
            clear hFl hstd ho5 HMP2
            go_wp2_with fail
            go_region_law (refine step_append_one rfl (.tmp 81) (.tmp 90) 25 4 (.bool false) 1 Tryd.underlying25 info_bool1 rfl (by omega) rfl (w3.heap.size + 1) v3 F.length _ rfl hfx (.bool fb) rfl rfl hFb hOb ?_; intro g6 cap6 w6 ho6 hg6 hat6 hlt6; obtain ⟨y1, y2, y3⟩ := HADD.out g6 cap6 w6 ho6 hg6 hat6)
            all_goals
              have HY3 := Lib.hid y3
              have HM6 : Hid (MapI (w6.setCell ⟨w3.heap.size, 2, none⟩ (.slice (some ⟨g6, 0, none⟩) (F.length + 1) cap6)) (w2.heap.size + 1) nn (numF (clM m m.final.length) Qd.1)) := (HMPd.out w6 hg6).turnT (set_other _ _ _ _) (by omega)
              have HB6 : Hid (Below w2.heap.size w2 (w6.setCell ⟨w3.heap.size, 2, none⟩ (.slice (some ⟨g6, 0, none⟩) (F.length + 1) cap6))) := (HB2'.out.drew.grown hg6 HOB.out HNG.out).setCell (by show w2.heap.size ≤ w3.heap.size; omega) _
              clear ho6 hg6 hat6 hlt6 y1 y2 y3
              go_wp2_with fail
              go_roundw
              case rel =>
                refine ⟨i + 1, f, nn, Qd, v2, .slice (some ⟨g6, 0, none⟩) (F.length + 1) cap6, by go_num, by omega, HBF3.out, by omega, HGO3.out, HNL3.out, hnn, ?_, HM6.out, HB6.out, by omega⟩
                rw [HTD.out]
                exact HY3.out
              case measure => simp [intOf]; omega
      · obtain rfl : i = Q.1.length := by omega
        have HE : Hid (redS m = Q) := by
          show _ = _
          rw [← HBF.out]
          cases f with
          | zero => rfl
          | succ f => rw [bfs, if_neg (by omega)]
        obtain ⟨b1, d1, b2, d2, e1, e2, hmach⟩ := HST1.out.mach
        have hout := HST1.out.out
        subst e1 e2
        rw [List.take_length] at hmach
        have hQ : (⟨m.base, Q.2, Q.1.map (finN m)⟩ : Ma) = redM m := by rw [HRM.out, HE.out]
        have hr3 := (HB.out.block (w.heap.size + 1) hs22).trans HR2.out
        have y0 : wr.cell? ⟨w.heap.size + 1, 0, none⟩ = some (.int .i64 0) := by simp [World.cell?, hr3]
        have y1 : wr.cell? ⟨w.heap.size + 1, 1, none⟩ = some (.slice none 0 0) := by simp [World.cell?, hr3]
        have y2 : wr.cell? ⟨w.heap.size + 1, 2, none⟩ = some (.slice none 0 0) := by simp [World.cell?, hr3]
        have z0 : wr.frozen? ⟨w.heap.size + 1, 0, none⟩ = false := by simp [World.frozen?, hr3]
        have z1 : wr.frozen? ⟨w.heap.size + 1, 1, none⟩ = false := by simp [World.frozen?, hr3]
        have z2 : wr.frozen? ⟨w.heap.size + 1, 2, none⟩ = false := by simp [World.frozen?, hr3]
        have p0 : wr.cell? ⟨w3.heap.size, 0, none⟩ = some (.int .i64 m.base) := by simp [World.cell?, hout]
        have p1 : wr.cell? ⟨w3.heap.size, 1, none⟩ = some (.slice b1 Q.2.length d1) := by simp [World.cell?, hout]
        have p2 : wr.cell? ⟨w3.heap.size, 2, none⟩ = some (.slice b2 ((Q.1.take Q.1.length).map (finN m)).length d2) := by simp [World.cell?, hout]
        have hlm : ((Q.1.take Q.1.length).map (finN m)).length = Q.1.length := by simp
        rw [hlm] at p2
        have HR3 := Lib.hid hr3
        clear hout hmach HMP HCS HBF hr3
        go_wp2_with fail
        refine bodyPost_ret (results_mach rfl _ _ (w.heap.size + 1) _ _ _ _ rfl (set_three HR3.out)) rfl ?_
        have hst4 := ((HST1.out.setLow (w.heap.size + 1) 0 (.int .i64 m.base) hs22).setLow (w.heap.size + 1) 1 (.slice b1 (Q.2.length) d1) hs22).setLow (w.heap.size + 1) 2 (.slice b2 Q.1.length d2) hs22
        obtain ⟨b1', d1', b2', d2', e1', e2', hmach⟩ := hst4.mach
        simp only [Value.slice.injEq, true_and] at e1' e2'
        obtain ⟨rfl, rfl⟩ := e1'
        obtain ⟨rfl, rfl⟩ := e2'
        rw [List.take_length] at hmach
        refine ⟨b1, d1, b2, d2, ?_, ?_, ?_⟩
        · rw [← hQ]
          simp only [List.length_map]
          rfl
        · rw [← hQ]
          exact hmach
        · exact HBW.out _ (((HBE.out _ HB.out).setCell (p := ⟨w.heap.size + 1, 0, none⟩) (by show w0.heap.size ≤ w.heap.size + 1; omega) _).setCell (p := ⟨w.heap.size + 1, 1, none⟩) (by show w0.heap.size ≤ w.heap.size + 1; omega) _ |>.setCell (p := ⟨w.heap.size + 1, 2, none⟩) (by show w0.heap.size ≤ w.heap.size + 1; omega) _)

end Go.Proofs.YtkapbhlnjmfaaaaDoor
