/-
  No cell of these rows narrows 'for every input' (looked for: loops, veiled, ifaces, maps, wideKeys, modest, calm, conditions, laid).
  DERIVED. THE GIVEN ROWS OF THIS SEAT. 9 by the template 'for every input the law returns true; each argument reads behind the call as it read before'; 0 by the template 'total and deterministic' (their statements: YtmdnmcbpcjfgmaaTotals.lean).
  GIVEN WITH THE SEED: the statements are not yours to turn. If you find one false, say at which input.
  Laid BY PROGRAM, IN A SANDBOX (cutbox-rows.mjs): the forced cells as the released guide's own fill.sh prints them over the translation c95c31e87d23aa37… (all of the seat's roots in one cut). By AI agents, Wed Nov 11 2026. No macro, syntax, notation, axiom, sorry.
-/
import Derived.Test.YtmdnmcbpcjfgmaaChecked
import GoSem.Claim
import GoSem.ClaimJoined
import GoSem.ClaimMapViews
import Derived.JoinedTies
import Derived.KernelRfl
namespace Go.Proofs.Ytmdnmcbpcjfgmaa
/- THE CELL 'sum', in the pinned program and in every row, IS THE sha256 OF THE DUMP (.gsa) THAT YtmdnmcbpcjfgmaaProg.lean LOADS. Nothing in Lean hashes anything: it is a label: what it is worth is what the hold of that sum in a sandbox is worth. -/
noncomputable def Try.pinned : Pinned := { name := "ytmdnmcbpcjfgmaa", sum := "c95c31e87d23aa378448b1b48a9626958f240b2e366d47dfdaf84e4e3894f364", checked := Try.checked }
namespace Rows
def none {H : Type} : Left H := { results := [], args := [] }

/-- 'laws.FnExactCountPairs': WHATEVER THE INPUT: true; the input reads as it did. -/
def fnExactCountPairsSpec : ChangeSpec := { name := "fnExactCountPairs", fn := fun _ => fun
  | [d] => { results := [.lit (.bool true)], args := [d] }
  | _ => none }
def fnExactCountPairsRow : OpenClaim := { program := "ytmdnmcbpcjfgmaa", sum := "c95c31e87d23aa378448b1b48a9626958f240b2e366d47dfdaf84e4e3894f364", func := "loop.example/g03203/laws.FnExactCountPairs", spec := "fnExactCountPairs", apart := false }
def FnExactCountPairsSaid : Prop := fnExactCountPairsRow.holds Try.pinned (OpenSpec.ofChange fnExactCountPairsSpec)

/-- ITS FALSE NEIGHBOUR: 'it returns false'. Refute it at one input. -/
def fnExactCountPairsWrong : ChangeSpec := { name := "fnExactCountPairs", fn := fun _ => fun
  | [d] => { results := [.lit (.bool false)], args := [d] }
  | _ => none }
def FnExactCountPairsWrongFalsely : Prop := fnExactCountPairsRow.holds Try.pinned (OpenSpec.ofChange fnExactCountPairsWrong)

/-- 'laws.FnExactFewestUnits': WHATEVER THE INPUT: true; the input reads as it did. -/
def fnExactFewestUnitsSpec : ChangeSpec := { name := "fnExactFewestUnits", fn := fun _ => fun
  | [d1, d2, d3] => { results := [.lit (.bool true)], args := [d1, d2, d3] }
  | _ => none }
def fnExactFewestUnitsRow : OpenClaim := { program := "ytmdnmcbpcjfgmaa", sum := "c95c31e87d23aa378448b1b48a9626958f240b2e366d47dfdaf84e4e3894f364", func := "loop.example/g03203/laws.FnExactFewestUnits", spec := "fnExactFewestUnits", recurses := true, apart := false }
def FnExactFewestUnitsSaid : Prop := fnExactFewestUnitsRow.holds Try.pinned (OpenSpec.ofChange fnExactFewestUnitsSpec)

/-- ITS FALSE NEIGHBOUR: 'it returns false'. Refute it at one input. -/
def fnExactFewestUnitsWrong : ChangeSpec := { name := "fnExactFewestUnits", fn := fun _ => fun
  | [d1, d2, d3] => { results := [.lit (.bool false)], args := [d1, d2, d3] }
  | _ => none }
def FnExactFewestUnitsWrongFalsely : Prop := fnExactFewestUnitsRow.holds Try.pinned (OpenSpec.ofChange fnExactFewestUnitsWrong)

/-- 'laws.FnExactEngelOf': WHATEVER THE INPUT: true; the input reads as it did. -/
def fnExactEngelOfSpec : ChangeSpec := { name := "fnExactEngelOf", fn := fun _ => fun
  | [d1, d2] => { results := [.lit (.bool true)], args := [d1, d2] }
  | _ => none }
def fnExactEngelOfRow : OpenClaim := { program := "ytmdnmcbpcjfgmaa", sum := "c95c31e87d23aa378448b1b48a9626958f240b2e366d47dfdaf84e4e3894f364", func := "loop.example/g03203/laws.FnExactEngelOf", spec := "fnExactEngelOf", apart := false }
def FnExactEngelOfSaid : Prop := fnExactEngelOfRow.holds Try.pinned (OpenSpec.ofChange fnExactEngelOfSpec)

/-- ITS FALSE NEIGHBOUR: 'it returns false'. Refute it at one input. -/
def fnExactEngelOfWrong : ChangeSpec := { name := "fnExactEngelOf", fn := fun _ => fun
  | [d1, d2] => { results := [.lit (.bool false)], args := [d1, d2] }
  | _ => none }
def FnExactEngelOfWrongFalsely : Prop := fnExactEngelOfRow.holds Try.pinned (OpenSpec.ofChange fnExactEngelOfWrong)

/-- 'laws.FnExactSylvesterPlaces': WHATEVER THE INPUT: true; the input reads as it did. -/
def fnExactSylvesterPlacesSpec : ChangeSpec := { name := "fnExactSylvesterPlaces", fn := fun _ => fun
  | [d] => { results := [.lit (.bool true)], args := [d] }
  | _ => none }
def fnExactSylvesterPlacesRow : OpenClaim := { program := "ytmdnmcbpcjfgmaa", sum := "c95c31e87d23aa378448b1b48a9626958f240b2e366d47dfdaf84e4e3894f364", func := "loop.example/g03203/laws.FnExactSylvesterPlaces", spec := "fnExactSylvesterPlaces", apart := false }
def FnExactSylvesterPlacesSaid : Prop := fnExactSylvesterPlacesRow.holds Try.pinned (OpenSpec.ofChange fnExactSylvesterPlacesSpec)

/-- ITS FALSE NEIGHBOUR: 'it returns false'. Refute it at one input. -/
def fnExactSylvesterPlacesWrong : ChangeSpec := { name := "fnExactSylvesterPlaces", fn := fun _ => fun
  | [d] => { results := [.lit (.bool false)], args := [d] }
  | _ => none }
def FnExactSylvesterPlacesWrongFalsely : Prop := fnExactSylvesterPlacesRow.holds Try.pinned (OpenSpec.ofChange fnExactSylvesterPlacesWrong)

/-- 'laws.FnExactUnitSum': WHATEVER THE INPUT: true; the input reads as it did. -/
def fnExactUnitSumSpec : ChangeSpec := { name := "fnExactUnitSum", fn := fun _ => fun
  | [d] => { results := [.lit (.bool true)], args := [d] }
  | _ => none }
def fnExactUnitSumRow : OpenClaim := { program := "ytmdnmcbpcjfgmaa", sum := "c95c31e87d23aa378448b1b48a9626958f240b2e366d47dfdaf84e4e3894f364", func := "loop.example/g03203/laws.FnExactUnitSum", spec := "fnExactUnitSum", apart := false }
def FnExactUnitSumSaid : Prop := fnExactUnitSumRow.holds Try.pinned (OpenSpec.ofChange fnExactUnitSumSpec)

/-- ITS FALSE NEIGHBOUR: 'it returns false'. Refute it at one input. -/
def fnExactUnitSumWrong : ChangeSpec := { name := "fnExactUnitSum", fn := fun _ => fun
  | [d] => { results := [.lit (.bool false)], args := [d] }
  | _ => none }
def FnExactUnitSumWrongFalsely : Prop := fnExactUnitSumRow.holds Try.pinned (OpenSpec.ofChange fnExactUnitSumWrong)

/-- 'laws.FnExactPairsFor': WHATEVER THE INPUT: true; the input reads as it did. -/
def fnExactPairsForSpec : ChangeSpec := { name := "fnExactPairsFor", fn := fun _ => fun
  | [d] => { results := [.lit (.bool true)], args := [d] }
  | _ => none }
def fnExactPairsForRow : OpenClaim := { program := "ytmdnmcbpcjfgmaa", sum := "c95c31e87d23aa378448b1b48a9626958f240b2e366d47dfdaf84e4e3894f364", func := "loop.example/g03203/laws.FnExactPairsFor", spec := "fnExactPairsFor", apart := false }
def FnExactPairsForSaid : Prop := fnExactPairsForRow.holds Try.pinned (OpenSpec.ofChange fnExactPairsForSpec)

/-- ITS FALSE NEIGHBOUR: 'it returns false'. Refute it at one input. -/
def fnExactPairsForWrong : ChangeSpec := { name := "fnExactPairsFor", fn := fun _ => fun
  | [d] => { results := [.lit (.bool false)], args := [d] }
  | _ => none }
def FnExactPairsForWrongFalsely : Prop := fnExactPairsForRow.holds Try.pinned (OpenSpec.ofChange fnExactPairsForWrong)

/-- 'laws.FnExactEngelValue': WHATEVER THE INPUT: true; the input reads as it did. -/
def fnExactEngelValueSpec : ChangeSpec := { name := "fnExactEngelValue", fn := fun _ => fun
  | [d] => { results := [.lit (.bool true)], args := [d] }
  | _ => none }
def fnExactEngelValueRow : OpenClaim := { program := "ytmdnmcbpcjfgmaa", sum := "c95c31e87d23aa378448b1b48a9626958f240b2e366d47dfdaf84e4e3894f364", func := "loop.example/g03203/laws.FnExactEngelValue", spec := "fnExactEngelValue", unfollowed := true, recurses := true, apart := false }
def FnExactEngelValueSaid : Prop := fnExactEngelValueRow.holds Try.pinned (OpenSpec.ofChange fnExactEngelValueSpec)

/-- ITS FALSE NEIGHBOUR: 'it returns false'. Refute it at one input. -/
def fnExactEngelValueWrong : ChangeSpec := { name := "fnExactEngelValue", fn := fun _ => fun
  | [d] => { results := [.lit (.bool false)], args := [d] }
  | _ => none }
def FnExactEngelValueWrongFalsely : Prop := fnExactEngelValueRow.holds Try.pinned (OpenSpec.ofChange fnExactEngelValueWrong)

/-- 'laws.FnExactGreedyUnits': WHATEVER THE INPUT: true; the input reads as it did. -/
def fnExactGreedyUnitsSpec : ChangeSpec := { name := "fnExactGreedyUnits", fn := fun _ => fun
  | [d1, d2] => { results := [.lit (.bool true)], args := [d1, d2] }
  | _ => none }
def fnExactGreedyUnitsRow : OpenClaim := { program := "ytmdnmcbpcjfgmaa", sum := "c95c31e87d23aa378448b1b48a9626958f240b2e366d47dfdaf84e4e3894f364", func := "loop.example/g03203/laws.FnExactGreedyUnits", spec := "fnExactGreedyUnits", apart := false }
def FnExactGreedyUnitsSaid : Prop := fnExactGreedyUnitsRow.holds Try.pinned (OpenSpec.ofChange fnExactGreedyUnitsSpec)

/-- ITS FALSE NEIGHBOUR: 'it returns false'. Refute it at one input. -/
def fnExactGreedyUnitsWrong : ChangeSpec := { name := "fnExactGreedyUnits", fn := fun _ => fun
  | [d1, d2] => { results := [.lit (.bool false)], args := [d1, d2] }
  | _ => none }
def FnExactGreedyUnitsWrongFalsely : Prop := fnExactGreedyUnitsRow.holds Try.pinned (OpenSpec.ofChange fnExactGreedyUnitsWrong)

/-- 'laws.FnUnits': WHATEVER THE INPUT: true; the input reads as it did. -/
def fnUnitsSpec : ChangeSpec := { name := "fnUnits", fn := fun _ => fun
  | [d] => { results := [.lit (.bool true)], args := [d] }
  | _ => none }
def fnUnitsRow : OpenClaim := { program := "ytmdnmcbpcjfgmaa", sum := "c95c31e87d23aa378448b1b48a9626958f240b2e366d47dfdaf84e4e3894f364", func := "loop.example/g03203/laws.FnUnits", spec := "fnUnits", unfollowed := true, recurses := true, apart := false }
def FnUnitsSaid : Prop := fnUnitsRow.holds Try.pinned (OpenSpec.ofChange fnUnitsSpec)

/-- ITS FALSE NEIGHBOUR: 'it returns false'. Refute it at one input. -/
def fnUnitsWrong : ChangeSpec := { name := "fnUnits", fn := fun _ => fun
  | [d] => { results := [.lit (.bool false)], args := [d] }
  | _ => none }
def FnUnitsWrongFalsely : Prop := fnUnitsRow.holds Try.pinned (OpenSpec.ofChange fnUnitsWrong)

/- THE SECOND FORM. 'bulk': how many values and letters a reading holds, each counted each time it is reached (what is shared counts as often as it is met; a slice's spare places count too). A statement '..UptoSaid' is the law's where the arguments, and the package variables that the reading takes, are together of bulk at most 1048576: NARROWER than '..Said'. Prove '..Said' where nothing that the law and all that it calls make is longer than what came in: it says more and counts as full. Else prove '..UptoSaid'. A law counts once. -/
mutual
def uptoBulk {H : Type} : DataW H → Nat
  | .lit (.string bytes) => bytes.length + 1
  | .lit _ => 1
  | .nil => 1
  | .ptr d => uptoBulk d + 1
  | .slice elems spare => uptoBulkAll elems + uptoBulkAll spare + 1
  | .agg parts => uptoBulkAll parts + 1
  | .iface _ d => uptoBulk d + 1
  | .map entries => uptoBulkEntries entries + 1
  | .held _ => 1
def uptoBulkAll {H : Type} : List (DataW H) → Nat
  | [] => 0
  | d :: r => uptoBulk d + uptoBulkAll r
def uptoBulkEntries {H : Type} : List (Lit × DataW H) → Nat
  | [] => 0
  | x :: r => uptoBulkEntry x + uptoBulkEntries r
def uptoBulkEntry {H : Type} : Lit × DataW H → Nat
  | (.string bytes, d) => bytes.length + uptoBulk d + 1
  | (_, d) => uptoBulk d + 1
 end
def uptoSmall : (H : Type) → List (DataW H) → Bool := fun _ ds => decide (uptoBulkAll ds ≤ 1048576)
def OpenSpec.upto (s : _root_.Go.ChangeSpec) : _root_.Go.OpenSpec := { _root_.Go.OpenSpec.ofChange s with cond := some uptoSmall }

/-- 'laws.FnExactCountPairs', WHERE WHAT IT READS IS OF BULK AT MOST 1048576: true; the input reads as it did. -/
def fnExactCountPairsUptoRow : OpenClaim := { program := "ytmdnmcbpcjfgmaa", sum := "c95c31e87d23aa378448b1b48a9626958f240b2e366d47dfdaf84e4e3894f364", func := "loop.example/g03203/laws.FnExactCountPairs", spec := "fnExactCountPairs", apart := false, narrowed := true }
def FnExactCountPairsUptoSaid : Prop := fnExactCountPairsUptoRow.holds Try.pinned (OpenSpec.upto fnExactCountPairsSpec)

/-- 'laws.FnExactFewestUnits', WHERE WHAT IT READS IS OF BULK AT MOST 1048576: true; the input reads as it did. -/
def fnExactFewestUnitsUptoRow : OpenClaim := { program := "ytmdnmcbpcjfgmaa", sum := "c95c31e87d23aa378448b1b48a9626958f240b2e366d47dfdaf84e4e3894f364", func := "loop.example/g03203/laws.FnExactFewestUnits", spec := "fnExactFewestUnits", recurses := true, apart := false, narrowed := true }
def FnExactFewestUnitsUptoSaid : Prop := fnExactFewestUnitsUptoRow.holds Try.pinned (OpenSpec.upto fnExactFewestUnitsSpec)

/-- 'laws.FnExactEngelOf', WHERE WHAT IT READS IS OF BULK AT MOST 1048576: true; the input reads as it did. -/
def fnExactEngelOfUptoRow : OpenClaim := { program := "ytmdnmcbpcjfgmaa", sum := "c95c31e87d23aa378448b1b48a9626958f240b2e366d47dfdaf84e4e3894f364", func := "loop.example/g03203/laws.FnExactEngelOf", spec := "fnExactEngelOf", apart := false, narrowed := true }
def FnExactEngelOfUptoSaid : Prop := fnExactEngelOfUptoRow.holds Try.pinned (OpenSpec.upto fnExactEngelOfSpec)

/-- 'laws.FnExactSylvesterPlaces', WHERE WHAT IT READS IS OF BULK AT MOST 1048576: true; the input reads as it did. -/
def fnExactSylvesterPlacesUptoRow : OpenClaim := { program := "ytmdnmcbpcjfgmaa", sum := "c95c31e87d23aa378448b1b48a9626958f240b2e366d47dfdaf84e4e3894f364", func := "loop.example/g03203/laws.FnExactSylvesterPlaces", spec := "fnExactSylvesterPlaces", apart := false, narrowed := true }
def FnExactSylvesterPlacesUptoSaid : Prop := fnExactSylvesterPlacesUptoRow.holds Try.pinned (OpenSpec.upto fnExactSylvesterPlacesSpec)

/-- 'laws.FnExactUnitSum', WHERE WHAT IT READS IS OF BULK AT MOST 1048576: true; the input reads as it did. -/
def fnExactUnitSumUptoRow : OpenClaim := { program := "ytmdnmcbpcjfgmaa", sum := "c95c31e87d23aa378448b1b48a9626958f240b2e366d47dfdaf84e4e3894f364", func := "loop.example/g03203/laws.FnExactUnitSum", spec := "fnExactUnitSum", apart := false, narrowed := true }
def FnExactUnitSumUptoSaid : Prop := fnExactUnitSumUptoRow.holds Try.pinned (OpenSpec.upto fnExactUnitSumSpec)

/-- 'laws.FnExactPairsFor', WHERE WHAT IT READS IS OF BULK AT MOST 1048576: true; the input reads as it did. -/
def fnExactPairsForUptoRow : OpenClaim := { program := "ytmdnmcbpcjfgmaa", sum := "c95c31e87d23aa378448b1b48a9626958f240b2e366d47dfdaf84e4e3894f364", func := "loop.example/g03203/laws.FnExactPairsFor", spec := "fnExactPairsFor", apart := false, narrowed := true }
def FnExactPairsForUptoSaid : Prop := fnExactPairsForUptoRow.holds Try.pinned (OpenSpec.upto fnExactPairsForSpec)

/-- 'laws.FnExactEngelValue', WHERE WHAT IT READS IS OF BULK AT MOST 1048576: true; the input reads as it did. -/
def fnExactEngelValueUptoRow : OpenClaim := { program := "ytmdnmcbpcjfgmaa", sum := "c95c31e87d23aa378448b1b48a9626958f240b2e366d47dfdaf84e4e3894f364", func := "loop.example/g03203/laws.FnExactEngelValue", spec := "fnExactEngelValue", unfollowed := true, recurses := true, apart := false, narrowed := true }
def FnExactEngelValueUptoSaid : Prop := fnExactEngelValueUptoRow.holds Try.pinned (OpenSpec.upto fnExactEngelValueSpec)

/-- 'laws.FnExactGreedyUnits', WHERE WHAT IT READS IS OF BULK AT MOST 1048576: true; the input reads as it did. -/
def fnExactGreedyUnitsUptoRow : OpenClaim := { program := "ytmdnmcbpcjfgmaa", sum := "c95c31e87d23aa378448b1b48a9626958f240b2e366d47dfdaf84e4e3894f364", func := "loop.example/g03203/laws.FnExactGreedyUnits", spec := "fnExactGreedyUnits", apart := false, narrowed := true }
def FnExactGreedyUnitsUptoSaid : Prop := fnExactGreedyUnitsUptoRow.holds Try.pinned (OpenSpec.upto fnExactGreedyUnitsSpec)

/-- 'laws.FnUnits', WHERE WHAT IT READS IS OF BULK AT MOST 1048576: true; the input reads as it did. -/
def fnUnitsUptoRow : OpenClaim := { program := "ytmdnmcbpcjfgmaa", sum := "c95c31e87d23aa378448b1b48a9626958f240b2e366d47dfdaf84e4e3894f364", func := "loop.example/g03203/laws.FnUnits", spec := "fnUnits", unfollowed := true, recurses := true, apart := false, narrowed := true }
def FnUnitsUptoSaid : Prop := fnUnitsUptoRow.holds Try.pinned (OpenSpec.upto fnUnitsSpec)

end Rows
end Go.Proofs.Ytmdnmcbpcjfgmaa
