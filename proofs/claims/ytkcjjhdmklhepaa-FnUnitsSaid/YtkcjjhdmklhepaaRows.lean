/-
  No cell of these rows narrows 'for every input' (looked for: loops, veiled, ifaces, maps, wideKeys, modest, calm, conditions, laid).
  DERIVED. THE GIVEN ROWS OF THIS SEAT. 3 by the template 'for every input the law returns true; each argument reads behind the call as it read before'; 0 by the template 'total and deterministic' (their statements: YtkcjjhdmklhepaaTotals.lean).
  GIVEN WITH THE SEED: the statements are not yours to turn. If you find one false, say at which input.
  Laid BY PROGRAM, IN A SANDBOX (cutbox-rows.mjs): the forced cells as the released guide's own fill.sh prints them over the translation b26bba81143bf099… (all of the seat's roots in one cut). By AI agents, Wed Nov 11 2026. No macro, syntax, notation, axiom, sorry.
-/
import Derived.Test.YtkcjjhdmklhepaaChecked
import GoSem.Claim
import GoSem.ClaimJoined
import GoSem.ClaimMapViews
import Derived.JoinedTies
import Derived.KernelRfl
namespace Go.Proofs.Ytkcjjhdmklhepaa
/- THE CELL 'sum', in the pinned program and in every row, IS THE sha256 OF THE DUMP (.gsa) THAT YtkcjjhdmklhepaaProg.lean LOADS. Nothing in Lean hashes anything: it is a label: what it is worth is what the hold of that sum in a sandbox is worth. -/
noncomputable def Try.pinned : Pinned := { name := "ytkcjjhdmklhepaa", sum := "b26bba81143bf099bc98361e38f85538336cdfcc281626524748e6d9d2b7fa48", checked := Try.checked }
namespace Rows
def none {H : Type} : Left H := { results := [], args := [] }

/-- 'laws.FnSelves': WHATEVER THE INPUT: true; the input reads as it did. -/
def fnSelvesSpec : ChangeSpec := { name := "fnSelves", fn := fun _ => fun
  | [d] => { results := [.lit (.bool true)], args := [d] }
  | _ => none }
def fnSelvesRow : OpenClaim := { program := "ytkcjjhdmklhepaa", sum := "b26bba81143bf099bc98361e38f85538336cdfcc281626524748e6d9d2b7fa48", func := "loop.example/g03203/laws.FnSelves", spec := "fnSelves", unfollowed := true, recurses := true, apart := false }
def FnSelvesSaid : Prop := fnSelvesRow.holds Try.pinned (OpenSpec.ofChange fnSelvesSpec)

/-- ITS FALSE NEIGHBOUR: 'it returns false'. Refute it at one input. -/
def fnSelvesWrong : ChangeSpec := { name := "fnSelves", fn := fun _ => fun
  | [d] => { results := [.lit (.bool false)], args := [d] }
  | _ => none }
def FnSelvesWrongFalsely : Prop := fnSelvesRow.holds Try.pinned (OpenSpec.ofChange fnSelvesWrong)

/-- 'laws.FnUnits': WHATEVER THE INPUT: true; the input reads as it did. -/
def fnUnitsSpec : ChangeSpec := { name := "fnUnits", fn := fun _ => fun
  | [d] => { results := [.lit (.bool true)], args := [d] }
  | _ => none }
def fnUnitsRow : OpenClaim := { program := "ytkcjjhdmklhepaa", sum := "b26bba81143bf099bc98361e38f85538336cdfcc281626524748e6d9d2b7fa48", func := "loop.example/g03203/laws.FnUnits", spec := "fnUnits", unfollowed := true, recurses := true, apart := false }
def FnUnitsSaid : Prop := fnUnitsRow.holds Try.pinned (OpenSpec.ofChange fnUnitsSpec)

/-- ITS FALSE NEIGHBOUR: 'it returns false'. Refute it at one input. -/
def fnUnitsWrong : ChangeSpec := { name := "fnUnits", fn := fun _ => fun
  | [d] => { results := [.lit (.bool false)], args := [d] }
  | _ => none }
def FnUnitsWrongFalsely : Prop := fnUnitsRow.holds Try.pinned (OpenSpec.ofChange fnUnitsWrong)

/-- 'laws.FnAbacus': WHATEVER THE INPUT: true; the input reads as it did. -/
def fnAbacusSpec : ChangeSpec := { name := "fnAbacus", fn := fun _ => fun
  | [d] => { results := [.lit (.bool true)], args := [d] }
  | _ => none }
def fnAbacusRow : OpenClaim := { program := "ytkcjjhdmklhepaa", sum := "b26bba81143bf099bc98361e38f85538336cdfcc281626524748e6d9d2b7fa48", func := "loop.example/g03203/laws.FnAbacus", spec := "fnAbacus", unfollowed := true, recurses := true, apart := false }
def FnAbacusSaid : Prop := fnAbacusRow.holds Try.pinned (OpenSpec.ofChange fnAbacusSpec)

/-- ITS FALSE NEIGHBOUR: 'it returns false'. Refute it at one input. -/
def fnAbacusWrong : ChangeSpec := { name := "fnAbacus", fn := fun _ => fun
  | [d] => { results := [.lit (.bool false)], args := [d] }
  | _ => none }
def FnAbacusWrongFalsely : Prop := fnAbacusRow.holds Try.pinned (OpenSpec.ofChange fnAbacusWrong)

/- THE SECOND FORM. 'bulk': how many values and letters a reading holds, each counted each time it is reached (what is shared counts as often as it is met; a slice's spare places count too). A statement '..UptoSaid' is the law's where the arguments, and the package variables that the reading takes, are together of bulk at most 1048576: NARROWER than '..Said'. Prove '..Said' where nothing that the law and all that it calls make is longer than what came in: it says more and counts as full. Else prove '..UptoSaid'. A law counts once. -/
mutual
def uptoBulk {H : Type} : DataW H → Nat
  | .lit (.string bytes) => bytes.length + 1
  | .lit _ => 1
  | .nil => 1
  | .ptr d => uptoBulk d + 1
  | .slice elems spare => uptoBulkAll elems + uptoBulkAll spare + 1
  | .agg parts => uptoBulkAll parts + 1
  | .iface _ d => uptoBulk d + 1
  | .map entries => uptoBulkEntries entries + 1
  | .held _ => 1
def uptoBulkAll {H : Type} : List (DataW H) → Nat
  | [] => 0
  | d :: r => uptoBulk d + uptoBulkAll r
def uptoBulkEntries {H : Type} : List (Lit × DataW H) → Nat
  | [] => 0
  | x :: r => uptoBulkEntry x + uptoBulkEntries r
def uptoBulkEntry {H : Type} : Lit × DataW H → Nat
  | (.string bytes, d) => bytes.length + uptoBulk d + 1
  | (_, d) => uptoBulk d + 1
 end
def uptoSmall : (H : Type) → List (DataW H) → Bool := fun _ ds => decide (uptoBulkAll ds ≤ 1048576)
def OpenSpec.upto (s : _root_.Go.ChangeSpec) : _root_.Go.OpenSpec := { _root_.Go.OpenSpec.ofChange s with cond := some uptoSmall }

/-- 'laws.FnSelves', WHERE WHAT IT READS IS OF BULK AT MOST 1048576: true; the input reads as it did. -/
def fnSelvesUptoRow : OpenClaim := { program := "ytkcjjhdmklhepaa", sum := "b26bba81143bf099bc98361e38f85538336cdfcc281626524748e6d9d2b7fa48", func := "loop.example/g03203/laws.FnSelves", spec := "fnSelves", unfollowed := true, recurses := true, apart := false, narrowed := true }
def FnSelvesUptoSaid : Prop := fnSelvesUptoRow.holds Try.pinned (OpenSpec.upto fnSelvesSpec)

/-- 'laws.FnUnits', WHERE WHAT IT READS IS OF BULK AT MOST 1048576: true; the input reads as it did. -/
def fnUnitsUptoRow : OpenClaim := { program := "ytkcjjhdmklhepaa", sum := "b26bba81143bf099bc98361e38f85538336cdfcc281626524748e6d9d2b7fa48", func := "loop.example/g03203/laws.FnUnits", spec := "fnUnits", unfollowed := true, recurses := true, apart := false, narrowed := true }
def FnUnitsUptoSaid : Prop := fnUnitsUptoRow.holds Try.pinned (OpenSpec.upto fnUnitsSpec)

/-- 'laws.FnAbacus', WHERE WHAT IT READS IS OF BULK AT MOST 1048576: true; the input reads as it did. -/
def fnAbacusUptoRow : OpenClaim := { program := "ytkcjjhdmklhepaa", sum := "b26bba81143bf099bc98361e38f85538336cdfcc281626524748e6d9d2b7fa48", func := "loop.example/g03203/laws.FnAbacus", spec := "fnAbacus", unfollowed := true, recurses := true, apart := false, narrowed := true }
def FnAbacusUptoSaid : Prop := fnAbacusUptoRow.holds Try.pinned (OpenSpec.upto fnAbacusSpec)

end Rows
end Go.Proofs.Ytkcjjhdmklhepaa
