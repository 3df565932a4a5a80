/- Slices of strings of the call's own, and Join. Conditions: those of each contract. -/
import Derived.Test.YtdpddbajeldgiaaDoorBase
import Derived.Test.YtdpddbajeldgiaaDoorShelf
import Derived.Lib.Join
import Derived.BigQuiet
import Derived.Deep.QuietTactic
import Derived.Deep.RegionWith
import Derived.Outline
namespace Go.Proofs.YtdpddbajeldgiaaDoor
set_option linter.unusedVariables false
open Go.RowKit

theorem ba_app (a b : List UInt8) : (⟨a.toArray⟩ : ByteArray) ++ ⟨b.toArray⟩ = ⟨(a ++ b).toArray⟩ := by
  apply ByteArray.ext
  show ByteArray.data (ByteArray.append _ _) = _
  simp [ByteArray.append]
theorem info_str : (Tryd.prog.info? 9).map (fun i => (i.zero, i.size, i.bytes)) = some (some (.string ⟨#[]⟩), 1, 16) := by kernel_rfl
def OwnS (w : World) (base : Nat) (v : Value) (xs : List ByteArray) : Prop := w.ownsRow base 9 1 v xs.length (xs.map Value.string)
theorem OwnS.nil (w : World) (base : Nat) : OwnS w base (.slice none 0 0) [] := World.ownsRow_nil _ _ _ _
theorem OwnS.lit0 (w : World) (base : Nat) (h : base ≤ w.heap.size) : OwnS (w.alloc (.cells #[] 9)) base (.slice (some ⟨w.heap.size, 0, none⟩) 0 0) [] := World.ownsRow_lit _ #[] 0 h (by simp [maxLen]) rfl
theorem OwnS.kept {w w' : World} {base : Nat} {v : Value} {xs : List ByteArray} (h : OwnS w base v xs) (hb : Below w.heap.size w w') : OwnS w' base v xs := by
  refine World.ownsRow.kept (row := none) h ⟨hb.os, hb.tape, hb.output, hb.size, fun k hk _ => hb.block k hk⟩ ?_
  cases hv : v.ownBlock <;> simp
theorem sinfo_parts {p : Program} {t : TypeId} {z : Value} {n b : Nat} (h : (p.info? t).map (fun i => (i.zero, i.size, i.bytes)) = some (some z, n, b)) : ∃ i, p.info? t = some i ∧ i.zero = some z ∧ i.size = n ∧ i.bytes = b := by
  cases hi : p.info? t with
  | none => rw [hi] at h; cases h
  | some i => rw [hi] at h; simp only [Option.map_some, Option.some.injEq, Prod.mk.injEq] at h; exact ⟨i, rfl, h.1, h.2.1, h.2.2⟩
theorem cell_one_str (w : World) (v : Value) (t : TypeId) : ∀ j u, [v][j]? = some u → (w.alloc (.cells #[v] t)).cell? ((⟨w.heap.size, 0, none⟩ : Addr).add j) = some u := by
  intro j u hu
  cases j with
  | zero =>
    simp at hu; subst hu
    show (w.alloc (.cells #[v] t)).cell? ⟨w.heap.size, 0, none⟩ = some v
    rw [World.cell?_alloc_new]; rfl
  | succ j => simp at hu
/-- 'append(out, y)' onto a slice of the call's own -/
theorem wpList_append_str {ops : Array Oper} {rest : List Oper} {o : Oper} {a : Act} {Q : Exit → Act → World → Prop} {wr : World} (hgd : o.guard = none) (s x : Operand)
    (ho : o.op = .call { callee := .builtin .append, args := #[s, x], argTypes := #[35, 35] }) (base : Nat) (v : Value) (xs : List ByteArray) (hs : a.eval s = v) (hown : OwnS wr base v xs)
    (y : ByteArray) (hx : a.eval x = .slice (some ⟨wr.heap.size, 0, none⟩) 1 1) (hl : xs.length ≤ 200000000) (hb : base ≤ wr.heap.size)
    (h : ∀ v' w', OwnS w' base v' (xs ++ [y]) → Below base wr w' → wpList Tryd.prog ops Q rest (a.put o.dst v') w') :
    wpList Tryd.prog ops Q (o :: rest) a (wr.alloc (.cells #[.string y] 9)) := by
  obtain ⟨i0, hi, hz0, hz1, hz2⟩ := sinfo_parts info_str
  refine wpList_append_own _ hgd s x 35 ho base 9 i0 (.string ⟨#[]⟩) 1 16 Tryd.underlying35 hi hz0 hz1 hz2 rfl (by decide) v xs.length _ hs (World.ownsRow.alloc hown _) ⟨wr.heap.size, 0, none⟩ 1 1 [.string y] hx rfl (cell_one_str _ _ _) ?c2 ?c3 ?c4 ?c5 ?_
  case c2 => intro u hu; simp at hu; subst hu; rfl
  case c3 => unfold maxLen; omega
  case c4 => omega
  case c5 => simp; omega
  intro v' w1 hown' hgrow _
  refine h v' w1 (by unfold OwnS; simpa using hown') ?_
  exact ((Below.refl _ _).alloc hb _).grown hgrow (by simp; omega) (fun k hk => (World.ownsRow.lt hown k hk).1)

def joinB (xs : List ByteArray) (sep : ByteArray) : ByteArray := ⟨(Lib.join (xs.map (·.data.toList)) sep.data.toList).toArray⟩
theorem OwnS.open' {w : World} {base : Nat} {v : Value} {xs : List ByteArray} (h : OwnS w base v xs) :
    (xs = [] ∧ v = .slice none 0 0) ∨ ∃ b cap, v = .slice (some ⟨b, 0, none⟩) xs.length cap ∧ xs.length ≤ cap ∧ b < w.heap.size ∧ ∀ (j : Nat) x, xs[j]? = some x → w.cell? ⟨b, 0 + j, none⟩ = some (.string x) := by
  have h0 := h
  rcases h.2 with ⟨h1, h2⟩ | ⟨g, cap', cur, hv, hg, hh, hnc, hcm, hcs, ht⟩
  · exact Or.inl ⟨List.eq_nil_of_length_eq_zero h2, by rw [h1]⟩
  · refine Or.inr ⟨g, cap', hv, hnc, lt_of_block hh, fun j x hx => ?_⟩
    have hj : j < xs.length := by
      rcases Nat.lt_or_ge j xs.length with h | h
      · exact h
      · rw [List.getElem?_eq_none h] at hx; cases hx
    subst hv
    rw [Nat.zero_add, World.ownsRow.cellAt h0 j (by omega), List.getElem?_map, hx]
    rfl
theorem joinTail_le (sep : List UInt8) (hs : sep.length ≤ 1) (m : Nat) (r : List (List UInt8)) (h : ∀ x ∈ r, x.length ≤ m) : (Lib.joinTail sep r).length ≤ (m + 1) * r.length := by
  induction r with
  | nil => simp [Lib.joinTail]
  | cons x r ih =>
    have h1 := ih (fun y hy => h y (List.mem_cons_of_mem _ hy))
    have h2 := h x List.mem_cons_self
    simp [Lib.joinTail, Nat.mul_add] at h1 ⊢
    omega
theorem join_le (xs : List (List UInt8)) (sep : List UInt8) (hs : sep.length ≤ 1) (m : Nat) (h : ∀ x ∈ xs, x.length ≤ m) : (Lib.join xs sep).length ≤ (m + 1) * xs.length := by
  cases xs with
  | nil => simp [Lib.join_nil]
  | cons x r =>
    rw [Lib.join_cons]
    have h1 := joinTail_le sep hs m r (fun y hy => h y (List.mem_cons_of_mem _ hy))
    have h2 := h x List.mem_cons_self
    simp [Nat.mul_add] at h1 ⊢
    omega
theorem joinB_le (xs : List ByteArray) (sep : ByteArray) (hs : sep.data.toList.length ≤ 1) (m : Nat) (h : ∀ x ∈ xs, x.data.toList.length ≤ m) : (joinB xs sep).size ≤ (m + 1) * xs.length := by
  have := join_le (xs.map (·.data.toList)) sep.data.toList hs m (by intro y hy; obtain ⟨x, hx, rfl⟩ := List.mem_map.1 hy; exact h x hx)
  rw [List.length_map] at this
  simpa [joinB, ByteArray.size] using this
theorem Join_any (base : Nat) (v : Value) (xs : List ByteArray) (sep : ByteArray) (w : World) (hx : OwnS w base v xs) (hs : sep.data.toList.length ≤ 1) (hl : xs.length ≤ 100000000) (h : ∀ x ∈ xs, x.data.toList.length ≤ 30000) :
    Calls Tryd.prog 34 #[v, .string sep] w fun e w' => e = .returned (.string (joinB xs sep)) ∧ Below w.heap.size w w' := by
  have hj := join_le (xs.map (·.data.toList)) sep.data.toList hs 30000 (by intro y hy; obtain ⟨x, hx, rfl⟩ := List.mem_map.1 hy; exact h x hx)
  rw [List.length_map] at hj
  have HC : Hid (∀ W, W = w → Calls Tryd.prog 68 #[v, .string sep] W fun e w' => e = .returned (.string (joinB xs sep)) ∧ Below W.heap.size W w') := by
    rintro W rfl
    rcases hx.open' with ⟨rfl, rfl⟩ | ⟨b, cap, rfl, h1, h2, h3⟩
    · exact (Tryd.strings_Join_none none 0 sep W).mono fun e w' ⟨h1, h2⟩ => ⟨h1, by rw [h2]; exact Below.refl _ _⟩
    · exact Tryd.strings_Join b 0 cap xs sep W h3 h2 (by omega) h1 (by omega)
  clear hj hx
  go_enter Tryd.func34, Tryd.ntmps34
  go_wp2_with fail
  refine (HC.out _ rfl).mono ?_
  rintro e w1 ⟨rfl, hb⟩
  go_wp2_with fail
  go_ret
  exact ⟨rfl, hb⟩
theorem ba_app2 (a : List UInt8) (b : ByteArray) : (⟨a.toArray⟩ : ByteArray) ++ b = ⟨(a ++ b.data.toList).toArray⟩ := by
  have := ba_app a b.data.toList
  rw [show (⟨b.data.toList.toArray⟩ : ByteArray) = b from rfl] at this
  exact this
/-- the first k texts joined by the byte c -/
def jp (c : UInt8) (xs : List ByteArray) : Nat → List UInt8
  | 0 => []
  | k + 1 => (if k = 0 then jp c xs k else jp c xs k ++ [c]) ++ (xs.getD k ⟨#[]⟩).data.toList
theorem jp_cons (c : UInt8) (x : ByteArray) (r : List ByteArray) (k : Nat) (hk : k ≤ r.length) : jp c (x :: r) (k + 1) = x.data.toList ++ Lib.joinTail [c] ((r.take k).map (·.data.toList)) := by
  induction k with
  | zero => simp [jp, Lib.joinTail]
  | succ k ih =>
    have h1 := ih (by omega)
    have hlt : k < r.length := by omega
    have e : r.take (k + 1) = r.take k ++ [r[k]] := by rw [List.take_add_one, List.getElem?_eq_getElem hlt]; rfl
    have e2 : (x :: r).getD (k + 1) ⟨#[]⟩ = r[k] := by simp [List.getD, hlt]
    rw [jp, if_neg (by omega), h1, e, e2]
    generalize r.take k = rk
    simp [Lib.joinTail]
theorem jp_all (c : UInt8) (xs : List ByteArray) : (⟨(jp c xs xs.length).toArray⟩ : ByteArray) = joinB xs ⟨#[c]⟩ := by
  cases xs with
  | nil => rfl
  | cons x r =>
    unfold joinB
    rw [List.map_cons, Lib.join_cons, List.length_cons, jp_cons c x r r.length (Nat.le_refl _), List.take_length]
theorem jp_len (c : UInt8) (xs : List ByteArray) (m : Nat) (h : ∀ x ∈ xs, x.data.toList.length ≤ m) (k : Nat) : (jp c xs k).length ≤ (m + 1) * k := by
  induction k with
  | zero => simp [jp]
  | succ k ih =>
    have h2 : (xs.getD k ⟨#[]⟩).data.toList.length ≤ m := by
      rcases Nat.lt_or_ge k xs.length with hlt | hge
      · have e : xs.getD k ⟨#[]⟩ = xs[k] := by simp [List.getD, hlt]
        rw [e]; exact h _ (List.getElem_mem hlt)
      · have e : xs.getD k ⟨#[]⟩ = ⟨#[]⟩ := by simp [List.getD, hge]
        rw [e]; simp
    rw [jp, Nat.mul_add]
    split
    · simp at h2 ⊢; omega
    · simp at h2 ⊢; omega
theorem sJoin_any (base : Nat) (v : Value) (xs : List ByteArray) (c : UInt8) (w : World) (hx : OwnS w base v xs) (hl : xs.length ≤ 100000000) (h : ∀ x ∈ xs, x.data.toList.length ≤ 30000) :
    Calls Tryd.prog 32 #[v, .string ⟨#[c]⟩] w fun e w' => e = .returned (.string (joinB xs ⟨#[c]⟩)) ∧ w = w' := by
  rw [← jp_all]
  have HJ : Hid (∀ k, (jp c xs k).length ≤ 30001 * k) := jp_len c xs 30000 h
  have HX : Hid (∀ k (hk : k < xs.length), xs[k].size ≤ 30000) := fun k hk => h _ (List.getElem_mem hk)
  rcases hx.open' with ⟨rfl, rfl⟩ | ⟨b, cap, rfl, h1, h2, h3⟩
  · go_enter Tryd.func32, Tryd.ntmps32
    go_wp2
    go_loop [5, 10] (fun s i => i = .int .i64 0 ∧ s = .string ⟨#[]⟩) (fun _ _ => 0)
    case atStart => exact ⟨rfl, rfl⟩
    case round =>
      obtain ⟨rfl, rfl⟩ := hrel
      go_wp2
      go_ret
      exact ⟨rfl, rfl⟩
  have H3 := Lib.hid h3; clear h3 hx h
  go_enter Tryd.func32, Tryd.ntmps32
  go_wp2
  go_loop [5, 10] (fun s i => ∃ k : Nat, k ≤ xs.length ∧ i = .int .i64 k ∧ s = .string ⟨(jp c xs k).toArray⟩) (fun _ i => xs.length - (intOf i).toNat)
  case atStart => exact ⟨0, Nat.zero_le _, rfl, rfl⟩
  case round =>
    obtain ⟨k, hk, rfl, rfl⟩ := hrel
    by_cases hlt : k < xs.length
    · have hcx := H3.out k xs[k] (List.getElem?_eq_getElem hlt)
      rw [Nat.zero_add] at hcx
      have hsz := HX.out k hlt
      have hjl := HJ.out k
      have HG : Hid (xs.getD k ⟨#[]⟩ = xs[k]) := by show _ = _; simp [List.getD, hlt]
      by_cases hk0 : k = 0
      · subst hk0
        have HS : Hid ((⟨(jp c xs 0).toArray⟩ : ByteArray) ++ xs[0] = ⟨(jp c xs 1).toArray⟩) := by show _ = _; rw [ba_app2, ← HG.out]; rfl
        generalize jp c xs 0 = j0 at *
        go_wp2
        go_round
        case rel => exact ⟨1, by omega, by go_num, by rw [← HS.out]⟩
        case measure => simp [intOf]; omega
      · have HS : Hid ((⟨(jp c xs k ++ [c]).toArray⟩ : ByteArray) ++ xs[k] = ⟨(jp c xs (k + 1)).toArray⟩) := by show _ = _; rw [ba_app2, jp, if_neg hk0, HG.out]
        have HS2 : Hid ((⟨(jp c xs k).toArray⟩ : ByteArray) ++ ⟨#[c]⟩ = ⟨(jp c xs k ++ [c]).toArray⟩) := ba_app (jp c xs k) [c]
        go_wp2
        go_round
        case rel => exact ⟨k + 1, by omega, by go_num, by rw [← HS.out, ← HS2.out]⟩
        case measure => simp [intOf]; omega
    · go_wp2
      go_ret
      obtain rfl : k = xs.length := by omega
      exact ⟨rfl, rfl⟩

end Go.Proofs.YtdpddbajeldgiaaDoor
