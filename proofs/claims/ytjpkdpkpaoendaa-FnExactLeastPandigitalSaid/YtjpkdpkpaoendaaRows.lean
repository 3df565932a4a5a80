/-
  No cell of these rows narrows 'for every input' (looked for: loops, veiled, ifaces, maps, wideKeys, modest, calm, conditions, laid).
  DERIVED. THE GIVEN ROWS OF THIS SEAT. 12 by the template 'for every input the law returns true; each argument reads behind the call as it read before'; 0 by the template 'total and deterministic' (their statements: YtjpkdpkpaoendaaTotals.lean).
  GIVEN WITH THE SEED: the statements are not yours to turn. If you find one false, say at which input.
  Laid BY PROGRAM, IN A SANDBOX (cutbox-rows.mjs): the forced cells as the released guide's own fill.sh prints them over the translation 80952b22b2cd8906… (all of the seat's roots in one cut). By AI agents, Wed Nov 11 2026. No macro, syntax, notation, axiom, sorry.
-/
import Derived.Test.YtjpkdpkpaoendaaChecked
import GoSem.Claim
import GoSem.ClaimJoined
import GoSem.ClaimMapViews
import Derived.JoinedTies
import Derived.KernelRfl
namespace Go.Proofs.Ytjpkdpkpaoendaa
/- THE CELL 'sum', in the pinned program and in every row, IS THE sha256 OF THE DUMP (.gsa) THAT YtjpkdpkpaoendaaProg.lean LOADS. Nothing in Lean hashes anything: it is a label: what it is worth is what the hold of that sum in a sandbox is worth. -/
noncomputable def Try.pinned : Pinned := { name := "ytjpkdpkpaoendaa", sum := "80952b22b2cd8906d9649309b7dab12edcb10e9bb9ec3ec1746737b76e5d3237", checked := Try.checked }
namespace Rows
def none {H : Type} : Left H := { results := [], args := [] }

/-- 'laws.FnExactIsAutomorphic': WHATEVER THE INPUT: true; the input reads as it did. -/
def fnExactIsAutomorphicSpec : ChangeSpec := { name := "fnExactIsAutomorphic", fn := fun _ => fun
  | [d1, d2, d3] => { results := [.lit (.bool true)], args := [d1, d2, d3] }
  | _ => none }
def fnExactIsAutomorphicRow : OpenClaim := { program := "ytjpkdpkpaoendaa", sum := "80952b22b2cd8906d9649309b7dab12edcb10e9bb9ec3ec1746737b76e5d3237", func := "loop.example/g03203/laws.FnExactIsAutomorphic", spec := "fnExactIsAutomorphic", apart := false }
def FnExactIsAutomorphicSaid : Prop := fnExactIsAutomorphicRow.holds Try.pinned (OpenSpec.ofChange fnExactIsAutomorphicSpec)

/-- ITS FALSE NEIGHBOUR: 'it returns false'. Refute it at one input. -/
def fnExactIsAutomorphicWrong : ChangeSpec := { name := "fnExactIsAutomorphic", fn := fun _ => fun
  | [d1, d2, d3] => { results := [.lit (.bool false)], args := [d1, d2, d3] }
  | _ => none }
def FnExactIsAutomorphicWrongFalsely : Prop := fnExactIsAutomorphicRow.holds Try.pinned (OpenSpec.ofChange fnExactIsAutomorphicWrong)

/-- 'laws.FnExactIsHarshad': WHATEVER THE INPUT: true; the input reads as it did. -/
def fnExactIsHarshadSpec : ChangeSpec := { name := "fnExactIsHarshad", fn := fun _ => fun
  | [d1, d2] => { results := [.lit (.bool true)], args := [d1, d2] }
  | _ => none }
def fnExactIsHarshadRow : OpenClaim := { program := "ytjpkdpkpaoendaa", sum := "80952b22b2cd8906d9649309b7dab12edcb10e9bb9ec3ec1746737b76e5d3237", func := "loop.example/g03203/laws.FnExactIsHarshad", spec := "fnExactIsHarshad", apart := false }
def FnExactIsHarshadSaid : Prop := fnExactIsHarshadRow.holds Try.pinned (OpenSpec.ofChange fnExactIsHarshadSpec)

/-- ITS FALSE NEIGHBOUR: 'it returns false'. Refute it at one input. -/
def fnExactIsHarshadWrong : ChangeSpec := { name := "fnExactIsHarshad", fn := fun _ => fun
  | [d1, d2] => { results := [.lit (.bool false)], args := [d1, d2] }
  | _ => none }
def FnExactIsHarshadWrongFalsely : Prop := fnExactIsHarshadRow.holds Try.pinned (OpenSpec.ofChange fnExactIsHarshadWrong)

/-- 'laws.FnSelves': WHATEVER THE INPUT: true; the input reads as it did. -/
def fnSelvesSpec : ChangeSpec := { name := "fnSelves", fn := fun _ => fun
  | [d] => { results := [.lit (.bool true)], args := [d] }
  | _ => none }
def fnSelvesRow : OpenClaim := { program := "ytjpkdpkpaoendaa", sum := "80952b22b2cd8906d9649309b7dab12edcb10e9bb9ec3ec1746737b76e5d3237", func := "loop.example/g03203/laws.FnSelves", spec := "fnSelves", unfollowed := true, recurses := true, apart := false }
def FnSelvesSaid : Prop := fnSelvesRow.holds Try.pinned (OpenSpec.ofChange fnSelvesSpec)

/-- ITS FALSE NEIGHBOUR: 'it returns false'. Refute it at one input. -/
def fnSelvesWrong : ChangeSpec := { name := "fnSelves", fn := fun _ => fun
  | [d] => { results := [.lit (.bool false)], args := [d] }
  | _ => none }
def FnSelvesWrongFalsely : Prop := fnSelvesRow.holds Try.pinned (OpenSpec.ofChange fnSelvesWrong)

/-- 'laws.FnExactIsSplitSquare': WHATEVER THE INPUT: true; the input reads as it did. -/
def fnExactIsSplitSquareSpec : ChangeSpec := { name := "fnExactIsSplitSquare", fn := fun _ => fun
  | [d1, d2] => { results := [.lit (.bool true)], args := [d1, d2] }
  | _ => none }
def fnExactIsSplitSquareRow : OpenClaim := { program := "ytjpkdpkpaoendaa", sum := "80952b22b2cd8906d9649309b7dab12edcb10e9bb9ec3ec1746737b76e5d3237", func := "loop.example/g03203/laws.FnExactIsSplitSquare", spec := "fnExactIsSplitSquare", apart := false }
def FnExactIsSplitSquareSaid : Prop := fnExactIsSplitSquareRow.holds Try.pinned (OpenSpec.ofChange fnExactIsSplitSquareSpec)

/-- ITS FALSE NEIGHBOUR: 'it returns false'. Refute it at one input. -/
def fnExactIsSplitSquareWrong : ChangeSpec := { name := "fnExactIsSplitSquare", fn := fun _ => fun
  | [d1, d2] => { results := [.lit (.bool false)], args := [d1, d2] }
  | _ => none }
def FnExactIsSplitSquareWrongFalsely : Prop := fnExactIsSplitSquareRow.holds Try.pinned (OpenSpec.ofChange fnExactIsSplitSquareWrong)

/-- 'laws.FnExactAddDigitSum': WHATEVER THE INPUT: true; the input reads as it did. -/
def fnExactAddDigitSumSpec : ChangeSpec := { name := "fnExactAddDigitSum", fn := fun _ => fun
  | [d1, d2] => { results := [.lit (.bool true)], args := [d1, d2] }
  | _ => none }
def fnExactAddDigitSumRow : OpenClaim := { program := "ytjpkdpkpaoendaa", sum := "80952b22b2cd8906d9649309b7dab12edcb10e9bb9ec3ec1746737b76e5d3237", func := "loop.example/g03203/laws.FnExactAddDigitSum", spec := "fnExactAddDigitSum", apart := false }
def FnExactAddDigitSumSaid : Prop := fnExactAddDigitSumRow.holds Try.pinned (OpenSpec.ofChange fnExactAddDigitSumSpec)

/-- ITS FALSE NEIGHBOUR: 'it returns false'. Refute it at one input. -/
def fnExactAddDigitSumWrong : ChangeSpec := { name := "fnExactAddDigitSum", fn := fun _ => fun
  | [d1, d2] => { results := [.lit (.bool false)], args := [d1, d2] }
  | _ => none }
def FnExactAddDigitSumWrongFalsely : Prop := fnExactAddDigitSumRow.holds Try.pinned (OpenSpec.ofChange fnExactAddDigitSumWrong)

/-- 'laws.FnExactIsPandigital': WHATEVER THE INPUT: true; the input reads as it did. -/
def fnExactIsPandigitalSpec : ChangeSpec := { name := "fnExactIsPandigital", fn := fun _ => fun
  | [d1, d2] => { results := [.lit (.bool true)], args := [d1, d2] }
  | _ => none }
def fnExactIsPandigitalRow : OpenClaim := { program := "ytjpkdpkpaoendaa", sum := "80952b22b2cd8906d9649309b7dab12edcb10e9bb9ec3ec1746737b76e5d3237", func := "loop.example/g03203/laws.FnExactIsPandigital", spec := "fnExactIsPandigital", apart := false }
def FnExactIsPandigitalSaid : Prop := fnExactIsPandigitalRow.holds Try.pinned (OpenSpec.ofChange fnExactIsPandigitalSpec)

/-- ITS FALSE NEIGHBOUR: 'it returns false'. Refute it at one input. -/
def fnExactIsPandigitalWrong : ChangeSpec := { name := "fnExactIsPandigital", fn := fun _ => fun
  | [d1, d2] => { results := [.lit (.bool false)], args := [d1, d2] }
  | _ => none }
def FnExactIsPandigitalWrongFalsely : Prop := fnExactIsPandigitalRow.holds Try.pinned (OpenSpec.ofChange fnExactIsPandigitalWrong)

/-- 'laws.FnExactCountHarshad': WHATEVER THE INPUT: true; the input reads as it did. -/
def fnExactCountHarshadSpec : ChangeSpec := { name := "fnExactCountHarshad", fn := fun _ => fun
  | [d1, d2] => { results := [.lit (.bool true)], args := [d1, d2] }
  | _ => none }
def fnExactCountHarshadRow : OpenClaim := { program := "ytjpkdpkpaoendaa", sum := "80952b22b2cd8906d9649309b7dab12edcb10e9bb9ec3ec1746737b76e5d3237", func := "loop.example/g03203/laws.FnExactCountHarshad", spec := "fnExactCountHarshad", apart := false }
def FnExactCountHarshadSaid : Prop := fnExactCountHarshadRow.holds Try.pinned (OpenSpec.ofChange fnExactCountHarshadSpec)

/-- ITS FALSE NEIGHBOUR: 'it returns false'. Refute it at one input. -/
def fnExactCountHarshadWrong : ChangeSpec := { name := "fnExactCountHarshad", fn := fun _ => fun
  | [d1, d2] => { results := [.lit (.bool false)], args := [d1, d2] }
  | _ => none }
def FnExactCountHarshadWrongFalsely : Prop := fnExactCountHarshadRow.holds Try.pinned (OpenSpec.ofChange fnExactCountHarshadWrong)

/-- 'laws.FnExactIsSelfNumber': WHATEVER THE INPUT: true; the input reads as it did. -/
def fnExactIsSelfNumberSpec : ChangeSpec := { name := "fnExactIsSelfNumber", fn := fun _ => fun
  | [d1, d2] => { results := [.lit (.bool true)], args := [d1, d2] }
  | _ => none }
def fnExactIsSelfNumberRow : OpenClaim := { program := "ytjpkdpkpaoendaa", sum := "80952b22b2cd8906d9649309b7dab12edcb10e9bb9ec3ec1746737b76e5d3237", func := "loop.example/g03203/laws.FnExactIsSelfNumber", spec := "fnExactIsSelfNumber", apart := false }
def FnExactIsSelfNumberSaid : Prop := fnExactIsSelfNumberRow.holds Try.pinned (OpenSpec.ofChange fnExactIsSelfNumberSpec)

/-- ITS FALSE NEIGHBOUR: 'it returns false'. Refute it at one input. -/
def fnExactIsSelfNumberWrong : ChangeSpec := { name := "fnExactIsSelfNumber", fn := fun _ => fun
  | [d1, d2] => { results := [.lit (.bool false)], args := [d1, d2] }
  | _ => none }
def FnExactIsSelfNumberWrongFalsely : Prop := fnExactIsSelfNumberRow.holds Try.pinned (OpenSpec.ofChange fnExactIsSelfNumberWrong)

/-- 'laws.FnExactAutomorphicOf': WHATEVER THE INPUT: true; the input reads as it did. -/
def fnExactAutomorphicOfSpec : ChangeSpec := { name := "fnExactAutomorphicOf", fn := fun _ => fun
  | [d1, d2] => { results := [.lit (.bool true)], args := [d1, d2] }
  | _ => none }
def fnExactAutomorphicOfRow : OpenClaim := { program := "ytjpkdpkpaoendaa", sum := "80952b22b2cd8906d9649309b7dab12edcb10e9bb9ec3ec1746737b76e5d3237", func := "loop.example/g03203/laws.FnExactAutomorphicOf", spec := "fnExactAutomorphicOf", apart := false }
def FnExactAutomorphicOfSaid : Prop := fnExactAutomorphicOfRow.holds Try.pinned (OpenSpec.ofChange fnExactAutomorphicOfSpec)

/-- ITS FALSE NEIGHBOUR: 'it returns false'. Refute it at one input. -/
def fnExactAutomorphicOfWrong : ChangeSpec := { name := "fnExactAutomorphicOf", fn := fun _ => fun
  | [d1, d2] => { results := [.lit (.bool false)], args := [d1, d2] }
  | _ => none }
def FnExactAutomorphicOfWrongFalsely : Prop := fnExactAutomorphicOfRow.holds Try.pinned (OpenSpec.ofChange fnExactAutomorphicOfWrong)

/-- 'laws.FnExactLeastPandigital': WHATEVER THE INPUT: true; the input reads as it did. -/
def fnExactLeastPandigitalSpec : ChangeSpec := { name := "fnExactLeastPandigital", fn := fun _ => fun
  | [d] => { results := [.lit (.bool true)], args := [d] }
  | _ => none }
def fnExactLeastPandigitalRow : OpenClaim := { program := "ytjpkdpkpaoendaa", sum := "80952b22b2cd8906d9649309b7dab12edcb10e9bb9ec3ec1746737b76e5d3237", func := "loop.example/g03203/laws.FnExactLeastPandigital", spec := "fnExactLeastPandigital", unfollowed := true, recurses := true, apart := false }
def FnExactLeastPandigitalSaid : Prop := fnExactLeastPandigitalRow.holds Try.pinned (OpenSpec.ofChange fnExactLeastPandigitalSpec)

/-- ITS FALSE NEIGHBOUR: 'it returns false'. Refute it at one input. -/
def fnExactLeastPandigitalWrong : ChangeSpec := { name := "fnExactLeastPandigital", fn := fun _ => fun
  | [d] => { results := [.lit (.bool false)], args := [d] }
  | _ => none }
def FnExactLeastPandigitalWrongFalsely : Prop := fnExactLeastPandigitalRow.holds Try.pinned (OpenSpec.ofChange fnExactLeastPandigitalWrong)

/-- 'laws.FnExactMeetingOf': WHATEVER THE INPUT: true; the input reads as it did. -/
def fnExactMeetingOfSpec : ChangeSpec := { name := "fnExactMeetingOf", fn := fun _ => fun
  | [d1, d2, d3, d4] => { results := [.lit (.bool true)], args := [d1, d2, d3, d4] }
  | _ => none }
def fnExactMeetingOfRow : OpenClaim := { program := "ytjpkdpkpaoendaa", sum := "80952b22b2cd8906d9649309b7dab12edcb10e9bb9ec3ec1746737b76e5d3237", func := "loop.example/g03203/laws.FnExactMeetingOf", spec := "fnExactMeetingOf", apart := false }
def FnExactMeetingOfSaid : Prop := fnExactMeetingOfRow.holds Try.pinned (OpenSpec.ofChange fnExactMeetingOfSpec)

/-- ITS FALSE NEIGHBOUR: 'it returns false'. Refute it at one input. -/
def fnExactMeetingOfWrong : ChangeSpec := { name := "fnExactMeetingOf", fn := fun _ => fun
  | [d1, d2, d3, d4] => { results := [.lit (.bool false)], args := [d1, d2, d3, d4] }
  | _ => none }
def FnExactMeetingOfWrongFalsely : Prop := fnExactMeetingOfRow.holds Try.pinned (OpenSpec.ofChange fnExactMeetingOfWrong)

/-- 'laws.FnExactSourcesOf': WHATEVER THE INPUT: true; the input reads as it did. -/
def fnExactSourcesOfSpec : ChangeSpec := { name := "fnExactSourcesOf", fn := fun _ => fun
  | [d1, d2] => { results := [.lit (.bool true)], args := [d1, d2] }
  | _ => none }
def fnExactSourcesOfRow : OpenClaim := { program := "ytjpkdpkpaoendaa", sum := "80952b22b2cd8906d9649309b7dab12edcb10e9bb9ec3ec1746737b76e5d3237", func := "loop.example/g03203/laws.FnExactSourcesOf", spec := "fnExactSourcesOf", apart := false }
def FnExactSourcesOfSaid : Prop := fnExactSourcesOfRow.holds Try.pinned (OpenSpec.ofChange fnExactSourcesOfSpec)

/-- ITS FALSE NEIGHBOUR: 'it returns false'. Refute it at one input. -/
def fnExactSourcesOfWrong : ChangeSpec := { name := "fnExactSourcesOf", fn := fun _ => fun
  | [d1, d2] => { results := [.lit (.bool false)], args := [d1, d2] }
  | _ => none }
def FnExactSourcesOfWrongFalsely : Prop := fnExactSourcesOfRow.holds Try.pinned (OpenSpec.ofChange fnExactSourcesOfWrong)

/- THE SECOND FORM. 'bulk': how many values and letters a reading holds, each counted each time it is reached (what is shared counts as often as it is met; a slice's spare places count too). A statement '..UptoSaid' is the law's where the arguments, and the package variables that the reading takes, are together of bulk at most 1048576: NARROWER than '..Said'. Prove '..Said' where nothing that the law and all that it calls make is longer than what came in: it says more and counts as full. Else prove '..UptoSaid'. A law counts once. -/
mutual
def uptoBulk {H : Type} : DataW H → Nat
  | .lit (.string bytes) => bytes.length + 1
  | .lit _ => 1
  | .nil => 1
  | .ptr d => uptoBulk d + 1
  | .slice elems spare => uptoBulkAll elems + uptoBulkAll spare + 1
  | .agg parts => uptoBulkAll parts + 1
  | .iface _ d => uptoBulk d + 1
  | .map entries => uptoBulkEntries entries + 1
  | .held _ => 1
def uptoBulkAll {H : Type} : List (DataW H) → Nat
  | [] => 0
  | d :: r => uptoBulk d + uptoBulkAll r
def uptoBulkEntries {H : Type} : List (Lit × DataW H) → Nat
  | [] => 0
  | x :: r => uptoBulkEntry x + uptoBulkEntries r
def uptoBulkEntry {H : Type} : Lit × DataW H → Nat
  | (.string bytes, d) => bytes.length + uptoBulk d + 1
  | (_, d) => uptoBulk d + 1
 end
def uptoSmall : (H : Type) → List (DataW H) → Bool := fun _ ds => decide (uptoBulkAll ds ≤ 1048576)
def OpenSpec.upto (s : _root_.Go.ChangeSpec) : _root_.Go.OpenSpec := { _root_.Go.OpenSpec.ofChange s with cond := some uptoSmall }

/-- 'laws.FnExactIsAutomorphic', WHERE WHAT IT READS IS OF BULK AT MOST 1048576: true; the input reads as it did. -/
def fnExactIsAutomorphicUptoRow : OpenClaim := { program := "ytjpkdpkpaoendaa", sum := "80952b22b2cd8906d9649309b7dab12edcb10e9bb9ec3ec1746737b76e5d3237", func := "loop.example/g03203/laws.FnExactIsAutomorphic", spec := "fnExactIsAutomorphic", apart := false, narrowed := true }
def FnExactIsAutomorphicUptoSaid : Prop := fnExactIsAutomorphicUptoRow.holds Try.pinned (OpenSpec.upto fnExactIsAutomorphicSpec)

/-- 'laws.FnExactIsHarshad', WHERE WHAT IT READS IS OF BULK AT MOST 1048576: true; the input reads as it did. -/
def fnExactIsHarshadUptoRow : OpenClaim := { program := "ytjpkdpkpaoendaa", sum := "80952b22b2cd8906d9649309b7dab12edcb10e9bb9ec3ec1746737b76e5d3237", func := "loop.example/g03203/laws.FnExactIsHarshad", spec := "fnExactIsHarshad", apart := false, narrowed := true }
def FnExactIsHarshadUptoSaid : Prop := fnExactIsHarshadUptoRow.holds Try.pinned (OpenSpec.upto fnExactIsHarshadSpec)

/-- 'laws.FnSelves', WHERE WHAT IT READS IS OF BULK AT MOST 1048576: true; the input reads as it did. -/
def fnSelvesUptoRow : OpenClaim := { program := "ytjpkdpkpaoendaa", sum := "80952b22b2cd8906d9649309b7dab12edcb10e9bb9ec3ec1746737b76e5d3237", func := "loop.example/g03203/laws.FnSelves", spec := "fnSelves", unfollowed := true, recurses := true, apart := false, narrowed := true }
def FnSelvesUptoSaid : Prop := fnSelvesUptoRow.holds Try.pinned (OpenSpec.upto fnSelvesSpec)

/-- 'laws.FnExactIsSplitSquare', WHERE WHAT IT READS IS OF BULK AT MOST 1048576: true; the input reads as it did. -/
def fnExactIsSplitSquareUptoRow : OpenClaim := { program := "ytjpkdpkpaoendaa", sum := "80952b22b2cd8906d9649309b7dab12edcb10e9bb9ec3ec1746737b76e5d3237", func := "loop.example/g03203/laws.FnExactIsSplitSquare", spec := "fnExactIsSplitSquare", apart := false, narrowed := true }
def FnExactIsSplitSquareUptoSaid : Prop := fnExactIsSplitSquareUptoRow.holds Try.pinned (OpenSpec.upto fnExactIsSplitSquareSpec)

/-- 'laws.FnExactAddDigitSum', WHERE WHAT IT READS IS OF BULK AT MOST 1048576: true; the input reads as it did. -/
def fnExactAddDigitSumUptoRow : OpenClaim := { program := "ytjpkdpkpaoendaa", sum := "80952b22b2cd8906d9649309b7dab12edcb10e9bb9ec3ec1746737b76e5d3237", func := "loop.example/g03203/laws.FnExactAddDigitSum", spec := "fnExactAddDigitSum", apart := false, narrowed := true }
def FnExactAddDigitSumUptoSaid : Prop := fnExactAddDigitSumUptoRow.holds Try.pinned (OpenSpec.upto fnExactAddDigitSumSpec)

/-- 'laws.FnExactIsPandigital', WHERE WHAT IT READS IS OF BULK AT MOST 1048576: true; the input reads as it did. -/
def fnExactIsPandigitalUptoRow : OpenClaim := { program := "ytjpkdpkpaoendaa", sum := "80952b22b2cd8906d9649309b7dab12edcb10e9bb9ec3ec1746737b76e5d3237", func := "loop.example/g03203/laws.FnExactIsPandigital", spec := "fnExactIsPandigital", apart := false, narrowed := true }
def FnExactIsPandigitalUptoSaid : Prop := fnExactIsPandigitalUptoRow.holds Try.pinned (OpenSpec.upto fnExactIsPandigitalSpec)

/-- 'laws.FnExactCountHarshad', WHERE WHAT IT READS IS OF BULK AT MOST 1048576: true; the input reads as it did. -/
def fnExactCountHarshadUptoRow : OpenClaim := { program := "ytjpkdpkpaoendaa", sum := "80952b22b2cd8906d9649309b7dab12edcb10e9bb9ec3ec1746737b76e5d3237", func := "loop.example/g03203/laws.FnExactCountHarshad", spec := "fnExactCountHarshad", apart := false, narrowed := true }
def FnExactCountHarshadUptoSaid : Prop := fnExactCountHarshadUptoRow.holds Try.pinned (OpenSpec.upto fnExactCountHarshadSpec)

/-- 'laws.FnExactIsSelfNumber', WHERE WHAT IT READS IS OF BULK AT MOST 1048576: true; the input reads as it did. -/
def fnExactIsSelfNumberUptoRow : OpenClaim := { program := "ytjpkdpkpaoendaa", sum := "80952b22b2cd8906d9649309b7dab12edcb10e9bb9ec3ec1746737b76e5d3237", func := "loop.example/g03203/laws.FnExactIsSelfNumber", spec := "fnExactIsSelfNumber", apart := false, narrowed := true }
def FnExactIsSelfNumberUptoSaid : Prop := fnExactIsSelfNumberUptoRow.holds Try.pinned (OpenSpec.upto fnExactIsSelfNumberSpec)

/-- 'laws.FnExactAutomorphicOf', WHERE WHAT IT READS IS OF BULK AT MOST 1048576: true; the input reads as it did. -/
def fnExactAutomorphicOfUptoRow : OpenClaim := { program := "ytjpkdpkpaoendaa", sum := "80952b22b2cd8906d9649309b7dab12edcb10e9bb9ec3ec1746737b76e5d3237", func := "loop.example/g03203/laws.FnExactAutomorphicOf", spec := "fnExactAutomorphicOf", apart := false, narrowed := true }
def FnExactAutomorphicOfUptoSaid : Prop := fnExactAutomorphicOfUptoRow.holds Try.pinned (OpenSpec.upto fnExactAutomorphicOfSpec)

/-- 'laws.FnExactLeastPandigital', WHERE WHAT IT READS IS OF BULK AT MOST 1048576: true; the input reads as it did. -/
def fnExactLeastPandigitalUptoRow : OpenClaim := { program := "ytjpkdpkpaoendaa", sum := "80952b22b2cd8906d9649309b7dab12edcb10e9bb9ec3ec1746737b76e5d3237", func := "loop.example/g03203/laws.FnExactLeastPandigital", spec := "fnExactLeastPandigital", unfollowed := true, recurses := true, apart := false, narrowed := true }
def FnExactLeastPandigitalUptoSaid : Prop := fnExactLeastPandigitalUptoRow.holds Try.pinned (OpenSpec.upto fnExactLeastPandigitalSpec)

/-- 'laws.FnExactMeetingOf', WHERE WHAT IT READS IS OF BULK AT MOST 1048576: true; the input reads as it did. -/
def fnExactMeetingOfUptoRow : OpenClaim := { program := "ytjpkdpkpaoendaa", sum := "80952b22b2cd8906d9649309b7dab12edcb10e9bb9ec3ec1746737b76e5d3237", func := "loop.example/g03203/laws.FnExactMeetingOf", spec := "fnExactMeetingOf", apart := false, narrowed := true }
def FnExactMeetingOfUptoSaid : Prop := fnExactMeetingOfUptoRow.holds Try.pinned (OpenSpec.upto fnExactMeetingOfSpec)

/-- 'laws.FnExactSourcesOf', WHERE WHAT IT READS IS OF BULK AT MOST 1048576: true; the input reads as it did. -/
def fnExactSourcesOfUptoRow : OpenClaim := { program := "ytjpkdpkpaoendaa", sum := "80952b22b2cd8906d9649309b7dab12edcb10e9bb9ec3ec1746737b76e5d3237", func := "loop.example/g03203/laws.FnExactSourcesOf", spec := "fnExactSourcesOf", apart := false, narrowed := true }
def FnExactSourcesOfUptoSaid : Prop := fnExactSourcesOfUptoRow.holds Try.pinned (OpenSpec.upto fnExactSourcesOfSpec)

end Rows
end Go.Proofs.Ytjpkdpkpaoendaa
