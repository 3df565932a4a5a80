/- The library's iterator over the pieces between commas: it keeps the rest of the text in a box of its own. Conditions: those of each lemma. -/
import Derived.Test.YtdpddbajeldgiaaDoorParD
import Derived.RangeFuncNested
import Derived.RangeFuncCalls
import Derived.RangeFuncLeaves
import Derived.Shelf.Abstract
import Derived.Shelf.RegionOpen
import Derived.OwnWalkIn
import Derived.TacticsInMore
import Derived.LoopNIn
import Derived.LoopIn
import Derived.Lib.IndexLaws
namespace Go.Proofs.YtdpddbajeldgiaaDoor
set_option linter.unusedVariables false
open Go.RowKit Go.Shelf
attribute [local go_sem] Oper.semAt_some

/-- the three boxes of the iterator lie as they lay -/
def K3 (Bs Bp Bv : Nat) (W W' : World) : Prop := W'.heap[Bs]? = W.heap[Bs]? ∧ W'.heap[Bp]? = W.heap[Bp]? ∧ W'.heap[Bv]? = W.heap[Bv]?
theorem K3.refl (Bs Bp Bv : Nat) (W : World) : K3 Bs Bp Bv W W := ⟨rfl, rfl, rfl⟩
theorem K3.trans {Bs Bp Bv : Nat} {A B C : World} (h : K3 Bs Bp Bv A B) (k : K3 Bs Bp Bv B C) : K3 Bs Bp Bv A C := ⟨k.1.trans h.1, k.2.1.trans h.2.1, k.2.2.trans h.2.2⟩
def boxLen (B : Nat) (W : World) : Nat := match W.cell? ⟨B, 0, none⟩ with
  | some (.string x) => x.size
  | _ => 0
theorem boxLen_eq {B : Nat} {W : World} {x : ByteArray} (h : W.cell? ⟨B, 0, none⟩ = some (.string x)) : boxLen B W = x.size := by simp [boxLen, h]
theorem idx_none {s : ByteArray} (h : Lib.indexByte s.data.toList 44 < 0) : splitL s.data.toList = [s.data.toList] := by
  have h1 := Lib.indexByte_ge s.data.toList 44
  have h2 := Lib.indexByte_none (show Lib.indexByte s.data.toList 44 = -1 by omega)
  refine splitL_none _ (fun c hc e => ?_)
  obtain ⟨k, hk, hkc⟩ := List.mem_iff_getElem.1 hc
  exact h2 k (by rw [List.getElem?_eq_getElem hk, hkc, e])
theorem idx_some {s : ByteArray} (h : ¬ Lib.indexByte s.data.toList 44 < 0) : ∃ k : Nat, Lib.indexByte s.data.toList 44 = (k : Int) ∧ k < s.size ∧
    splitL s.data.toList = (s.extract 0 k).data.toList :: splitL (s.extract (k + 1) s.size).data.toList := by
  obtain ⟨k, hk⟩ : ∃ k : Nat, Lib.indexByte s.data.toList 44 = (k : Int) := ⟨(Lib.indexByte s.data.toList 44).toNat, by omega⟩
  obtain ⟨h1, h2⟩ := Lib.indexByte_some hk
  have hlt : k < s.data.toList.length := by
    rcases Nat.lt_or_ge k s.data.toList.length with h3 | h3
    · exact h3
    · rw [List.getElem?_eq_none h3] at h1; cases h1
  have hl : s.data.toList.length = s.size := by simp
  rw [hl] at hlt
  have hno : noC s 0 k := fun j hj h3 h4 e => h2 j h4 (by
    rw [List.getElem?_eq_getElem (by omega)]
    congr 1
    apply UInt8.toNat_inj.1
    exact e)
  have h44 : s[k].toNat = 44 := by
    rw [List.getElem?_eq_getElem (by omega)] at h1
    have := Option.some.inj h1
    have e : s[k] = 44 := this
    rw [e]; rfl
  refine ⟨k, hk, hlt, ?_⟩
  have := split_at (Nat.zero_le k) hlt hno h44
  rw [List.drop_zero] at this
  rw [this, Lib.extract_to_end]
set_option maxRecDepth 100000 in
set_option maxHeartbeats 2000000 in
theorem split_in (n l Bs Bp Bv : Nat) (s : ByteArray) (hn : 1 ≤ n) (hs : s.size ≤ 1048576) (hsp : Bs ≠ Bp) (hsv : Bs ≠ Bv) (J Jx : List ByteArray → World → Prop)
    (hJs : ∀ pre W v, J pre W → J pre (W.setCell ⟨Bs, 0, none⟩ v))
    (hY : ∀ pre x W, J pre W → x.size ≤ 1048576 → YieldAt Fence.wide (n - 1) Tryd.prog l #[.string x] W fun e W' =>
      (e = .returned (.bool true) ∧ J (pre ++ [x]) W' ∧ K3 Bs Bp Bv W W') ∨ (e = .returned (.bool false) ∧ Jx (pre ++ [x]) W'))
    (W : World) (b1 : Boxed W Bs 9 (.string s)) (b2 : Boxed W Bp 9 (.string ⟨#[44]⟩)) (b3 : Boxed W Bv 3 (.int .i64 0)) (h0 : J [] W) :
    CallsIn Fence.wide n Tryd.prog 124 #[.func (.yield l) #[] #[], .pointer (some ⟨Bp, 0, none⟩), .pointer (some ⟨Bs, 0, none⟩), .pointer (some ⟨Bv, 0, none⟩)] W fun e W' => (∃ v, e = .returned v) ∧
      ((∃ xs, lst xs = splitL s.data.toList ∧ J xs W') ∨ (∃ pre, (∃ r, splitL s.data.toList = lst pre ++ r) ∧ Jx pre W')) := by
  refine callsIn_of_wp Tryd.func124 rfl trivial ?_ rfl
  simp only [Tryd.ntmps124, List.size_toArray, List.length_cons, List.length_nil, Nat.reduceAdd, Nat.reduceSub, Array.replicate_succ, Array.replicate_zero, List.push_toArray, List.append_toArray, List.nil_append, List.cons_append]
  have c1 := b1.cell
  have c2 := b2.cell
  have c3 := b3.cell
  gi_wp2
  gi_loopw [7] (fun i wr => ∃ (pre : List ByteArray) (r : ByteArray), Boxed wr Bs 9 (.string r) ∧ Boxed wr Bp 9 (.string ⟨#[44]⟩) ∧ Boxed wr Bv 3 (.int .i64 0) ∧ r.size ≤ s.size ∧ Hid (splitL s.data.toList = lst pre ++ splitL r.data.toList) ∧ Hid (J pre wr)) (fun i wr => boxLen Bs wr)
  case atStart => exact ⟨[], s, b1, b2, b3, Nat.le_refl _, rfl, h0⟩
  case round =>
    clear c1 c2 c3 b1 b2 b3 h0
    obtain ⟨pre, r, b1, b2, b3, hr, hsl, hJ⟩ := hrel
    have c1 := b1.cell
    have c2 := b2.cell
    have c3 := b3.cell
    have HB1 := Lib.hid b1
    have HB2 := Lib.hid b2
    have HB3 := Lib.hid b3
    clear b1 b2 b3
    by_cases hi : Lib.indexByte r.data.toList 44 < 0
    · have HI := Lib.hid (idx_none hi)
      obtain ⟨fn, tmps, assign, body, hy, hR⟩ := hY pre r wr hJ.out (by omega)
      gi_wp2_with (refine ⟨trivial, ?_⟩; gi_at_call 126; refine (callsIn_wide.2 (Tryd.strings_Index_one r 44 _)).mono ?_; rintro e w' ⟨rfl, rfl⟩)
      refine hR.mono ?_
      rintro e W2 (⟨rfl, hJ2, hk2⟩ | ⟨rfl, hJ2⟩)
      · gi_wp2
        go_end0
        exact ⟨⟨_, rfl⟩, .inl ⟨pre ++ [r], by rw [lst_app, hsl.out, HI.out], hJ2⟩⟩
      · gi_wp2
        go_end0
        exact ⟨⟨_, rfl⟩, .inr ⟨pre ++ [r], ⟨[], by rw [lst_app, hsl.out, HI.out]; simp⟩, hJ2⟩⟩
    · obtain ⟨k, hk, hkr, hsplit⟩ := idx_some hi
      have HI := Lib.hid hsplit
      rw [hk] at hi
      have HC : Hid (∀ W, W = wr → CallsIn Fence.wide (n - 1) Tryd.prog 126 #[.string r, .string ⟨#[44]⟩] W fun e w' => e = .returned (.int .i64 (k : Int)) ∧ w' = W) := by
        rintro W rfl
        refine (callsIn_wide.2 (Tryd.strings_Index_one r 44 _)).mono ?_
        rintro e w' ⟨rfl, rfl⟩
        exact ⟨by rw [hk], rfl⟩
      clear hk hsplit
      obtain ⟨fn, tmps, assign, body, hy, hR⟩ := hY pre (r.extract 0 k) wr hJ.out (by simp; omega)
      gi_wp2_with (refine ⟨trivial, ?_⟩; gi_at_call 126; refine (HC.out _ rfl).mono ?_; rintro e w' ⟨rfl, rfl⟩)
      refine hR.mono ?_
      rintro e W2 (⟨rfl, hJ2, hk2⟩ | ⟨rfl, hJ2⟩)
      · have d1 : Boxed W2 Bs 9 (.string r) := hk2.1.trans HB1.out
        have d2 : Boxed W2 Bp 9 (.string ⟨#[44]⟩) := hk2.2.1.trans HB2.out
        have d3 : Boxed W2 Bv 3 (.int .i64 0) := hk2.2.2.trans HB3.out
        have e1 := d1.cell
        have e2 := d2.cell
        have e3 := d3.cell
        have ef := d1.frozen
        have D1 := Lib.hid d1
        have D2 := Lib.hid d2
        have D3 := Lib.hid d3
        have HJ2 := Lib.hid hJ2
        clear d1 d2 d3 hk2 hJ2 c1 c2 c3 hy hR
        gi_wp2
        go_roundw
        case rel => exact ⟨pre ++ [r.extract 0 k], r.extract (k + 1) r.size, D1.out.set _, D2.out.other (fun e => hsp e.symm) _, D3.out.other (fun e => hsv e.symm) _, by simp; omega, by show _ = _; rw [lst_app, hsl.out, HI.out]; simp, hJs _ _ _ HJ2.out⟩
        case measure =>
          rw [boxLen_eq (D1.out.set _).cell, boxLen_eq HB1.out.cell]
          simp; omega
      · gi_wp2
        refine bodyPost_ret (results_none rfl _ _ _) rfl ?_
        exact ⟨⟨_, rfl⟩, .inr ⟨pre ++ [r.extract 0 k], ⟨_, by rw [lst_app, hsl.out, HI.out, List.append_assoc]; rfl⟩, hJ2⟩⟩

end Go.Proofs.YtdpddbajeldgiaaDoor
