/-
  NARROWER THAN 'FOR EVERY INPUT', by the rows' own cells (each row's printed sentence says how): FnExactLetterSum: laid · FnExactLooseValue: laid · FnExactAdditiveRoman: laid · FnExactParseRoman: laid · FnNotations: laid.
  DERIVED. THE GIVEN ROWS OF THIS SEAT. 5 by the template 'for every input the law returns true; each argument reads behind the call as it read before'; 0 by the template 'total and deterministic' (their statements: YthehhlamhkhlpaaDoorTotals.lean).
  GIVEN WITH THE SEED: the statements are not yours to turn. If you find one false, say at which input.
  Laid BY PROGRAM, IN A SANDBOX (cutbox-rows.mjs): the forced cells as the released guide's own fill.sh prints them over the translation 1707ed01f8f18542… (all of the seat's roots in one cut). By AI agents, Wed Nov 11 2026. No macro, syntax, notation, axiom, sorry.
-/
import Derived.Test.YthehhlamhkhlpaaDoorChecked
import GoSem.Claim
import GoSem.ClaimJoined
import GoSem.ClaimMapViews
import Derived.JoinedTies
import Derived.KernelRfl
namespace Go.Proofs.YthehhlamhkhlpaaDoor
/- THE CELL 'sum', in the pinned program and in every row, IS THE sha256 OF THE DUMP (.gsa) THAT YthehhlamhkhlpaaDoorProg.lean LOADS. Nothing in Lean hashes anything: it is a label: what it is worth is what the hold of that sum in a sandbox is worth. -/
noncomputable def Tryd.pinned : Pinned := { name := "ythehhlamhkhlpaadoor", sum := "1707ed01f8f18542f2ea3fbf139f1c9d2f61ff7b5c813bcb3c1918e39c99ac18", checked := Tryd.checked }
namespace Rows
def none {H : Type} : Left H := { results := [], args := [] }

/- WHAT THE LISTED PACKAGE-LEVEL VARIABLES READ AS WHEN THE CALL BEGINS. Each datum BY PROGRAM (the guide's laid-datum.mjs) off the statement by which the dump's own 'gosem.cut.vars' lays the variable. In a bare row this is a premise. The card (YthehhlamhkhlpaaDoorCards.lean) ties it to the program's text. -/
def laid_loop_example_g03203_impl_romanValues {H : Type} : DataW H := .agg [.lit (.int .i64 1), .lit (.int .i64 5), .lit (.int .i64 10), .lit (.int .i64 50), .lit (.int .i64 100), .lit (.int .i64 500), .lit (.int .i64 1000)]

/-- 'laws.FnExactLetterSum': WHATEVER THE INPUT: true; the input reads as it did. -/
def fnExactLetterSumSpec : ChangeSpec := { name := "fnExactLetterSum", vars := ["loop.example/g03203/impl.romanValues"], fn := fun _ => fun
  | [d, g1] => { results := [.lit (.bool true)], args := [d], vars := [g1] }
  | _ => none }
def fnExactLetterSumRow : OpenClaim := { program := "ythehhlamhkhlpaadoor", sum := "1707ed01f8f18542f2ea3fbf139f1c9d2f61ff7b5c813bcb3c1918e39c99ac18", func := "loop.example/g03203/laws.FnExactLetterSum", spec := "fnExactLetterSum", inPlace := ["internal/bytealg.IndexByteString"], named := ["loop.example/g03203/impl.romanValues"], apart := false, laid := [("loop.example/g03203/impl.romanValues", laid_loop_example_g03203_impl_romanValues)] }
def FnExactLetterSumSaid : Prop := fnExactLetterSumRow.holds Tryd.pinned (OpenSpec.ofChange fnExactLetterSumSpec)

/-- ITS FALSE NEIGHBOUR: 'it returns false'. Refute it at one input. -/
def fnExactLetterSumWrong : ChangeSpec := { name := "fnExactLetterSum", vars := ["loop.example/g03203/impl.romanValues"], fn := fun _ => fun
  | [d, g1] => { results := [.lit (.bool false)], args := [d], vars := [g1] }
  | _ => none }
def FnExactLetterSumWrongFalsely : Prop := fnExactLetterSumRow.holds Tryd.pinned (OpenSpec.ofChange fnExactLetterSumWrong)

/-- 'laws.FnExactLooseValue': WHATEVER THE INPUT: true; the input reads as it did. -/
def fnExactLooseValueSpec : ChangeSpec := { name := "fnExactLooseValue", vars := ["loop.example/g03203/impl.romanValues"], fn := fun _ => fun
  | [d, g1] => { results := [.lit (.bool true)], args := [d], vars := [g1] }
  | _ => none }
def fnExactLooseValueRow : OpenClaim := { program := "ythehhlamhkhlpaadoor", sum := "1707ed01f8f18542f2ea3fbf139f1c9d2f61ff7b5c813bcb3c1918e39c99ac18", func := "loop.example/g03203/laws.FnExactLooseValue", spec := "fnExactLooseValue", inPlace := ["internal/bytealg.IndexByteString"], named := ["loop.example/g03203/impl.romanValues"], apart := false, laid := [("loop.example/g03203/impl.romanValues", laid_loop_example_g03203_impl_romanValues)] }
def FnExactLooseValueSaid : Prop := fnExactLooseValueRow.holds Tryd.pinned (OpenSpec.ofChange fnExactLooseValueSpec)

/-- ITS FALSE NEIGHBOUR: 'it returns false'. Refute it at one input. -/
def fnExactLooseValueWrong : ChangeSpec := { name := "fnExactLooseValue", vars := ["loop.example/g03203/impl.romanValues"], fn := fun _ => fun
  | [d, g1] => { results := [.lit (.bool false)], args := [d], vars := [g1] }
  | _ => none }
def FnExactLooseValueWrongFalsely : Prop := fnExactLooseValueRow.holds Tryd.pinned (OpenSpec.ofChange fnExactLooseValueWrong)

/-- 'laws.FnExactAdditiveRoman': WHATEVER THE INPUT: true; the input reads as it did. -/
def fnExactAdditiveRomanSpec : ChangeSpec := { name := "fnExactAdditiveRoman", vars := ["loop.example/g03203/impl.romanValues"], fn := fun _ => fun
  | [d, g1] => { results := [.lit (.bool true)], args := [d], vars := [g1] }
  | _ => none }
def fnExactAdditiveRomanRow : OpenClaim := { program := "ythehhlamhkhlpaadoor", sum := "1707ed01f8f18542f2ea3fbf139f1c9d2f61ff7b5c813bcb3c1918e39c99ac18", func := "loop.example/g03203/laws.FnExactAdditiveRoman", spec := "fnExactAdditiveRoman", inPlace := ["internal/abi.NoEscape", "internal/bytealg.MakeNoZero"], named := ["loop.example/g03203/impl.romanValues"], apart := false, laid := [("loop.example/g03203/impl.romanValues", laid_loop_example_g03203_impl_romanValues)] }
def FnExactAdditiveRomanSaid : Prop := fnExactAdditiveRomanRow.holds Tryd.pinned (OpenSpec.ofChange fnExactAdditiveRomanSpec)

/-- ITS FALSE NEIGHBOUR: 'it returns false'. Refute it at one input. -/
def fnExactAdditiveRomanWrong : ChangeSpec := { name := "fnExactAdditiveRoman", vars := ["loop.example/g03203/impl.romanValues"], fn := fun _ => fun
  | [d, g1] => { results := [.lit (.bool false)], args := [d], vars := [g1] }
  | _ => none }
def FnExactAdditiveRomanWrongFalsely : Prop := fnExactAdditiveRomanRow.holds Tryd.pinned (OpenSpec.ofChange fnExactAdditiveRomanWrong)

/-- 'laws.FnExactParseRoman': WHATEVER THE INPUT: true; the input reads as it did. -/
def fnExactParseRomanSpec : ChangeSpec := { name := "fnExactParseRoman", vars := ["loop.example/g03203/impl.romanValues"], fn := fun _ => fun
  | [d, g1] => { results := [.lit (.bool true)], args := [d], vars := [g1] }
  | _ => none }
def fnExactParseRomanRow : OpenClaim := { program := "ythehhlamhkhlpaadoor", sum := "1707ed01f8f18542f2ea3fbf139f1c9d2f61ff7b5c813bcb3c1918e39c99ac18", func := "loop.example/g03203/laws.FnExactParseRoman", spec := "fnExactParseRoman", inPlace := ["internal/bytealg.IndexByteString", "internal/abi.NoEscape", "internal/bytealg.MakeNoZero"], named := ["loop.example/g03203/impl.romanValues"], apart := false, laid := [("loop.example/g03203/impl.romanValues", laid_loop_example_g03203_impl_romanValues)] }
def FnExactParseRomanSaid : Prop := fnExactParseRomanRow.holds Tryd.pinned (OpenSpec.ofChange fnExactParseRomanSpec)

/-- ITS FALSE NEIGHBOUR: 'it returns false'. Refute it at one input. -/
def fnExactParseRomanWrong : ChangeSpec := { name := "fnExactParseRoman", vars := ["loop.example/g03203/impl.romanValues"], fn := fun _ => fun
  | [d, g1] => { results := [.lit (.bool false)], args := [d], vars := [g1] }
  | _ => none }
def FnExactParseRomanWrongFalsely : Prop := fnExactParseRomanRow.holds Tryd.pinned (OpenSpec.ofChange fnExactParseRomanWrong)

/-- 'laws.FnNotations': WHATEVER THE INPUT: true; the input reads as it did. -/
def fnNotationsSpec : ChangeSpec := { name := "fnNotations", vars := ["loop.example/g03203/impl.romanValues"], fn := fun _ => fun
  | [d, g1] => { results := [.lit (.bool true)], args := [d], vars := [g1] }
  | _ => none }
def fnNotationsRow : OpenClaim := { program := "ythehhlamhkhlpaadoor", sum := "1707ed01f8f18542f2ea3fbf139f1c9d2f61ff7b5c813bcb3c1918e39c99ac18", func := "loop.example/g03203/laws.FnNotations", spec := "fnNotations", inPlace := ["internal/abi.NoEscape", "internal/bytealg.MakeNoZero", "internal/bytealg.IndexByteString", "internal/bytealg.CountString", "internal/bytealg.IndexString"], named := ["loop.example/g03203/impl.romanValues", "internal/bytealg.MaxLen"], apart := false, laid := [("loop.example/g03203/impl.romanValues", laid_loop_example_g03203_impl_romanValues)] }
def FnNotationsSaid : Prop := fnNotationsRow.holds Tryd.pinned (OpenSpec.ofChange fnNotationsSpec)

/-- ITS FALSE NEIGHBOUR: 'it returns false'. Refute it at one input. -/
def fnNotationsWrong : ChangeSpec := { name := "fnNotations", vars := ["loop.example/g03203/impl.romanValues"], fn := fun _ => fun
  | [d, g1] => { results := [.lit (.bool false)], args := [d], vars := [g1] }
  | _ => none }
def FnNotationsWrongFalsely : Prop := fnNotationsRow.holds Tryd.pinned (OpenSpec.ofChange fnNotationsWrong)

/- THE SECOND FORM. 'bulk': how many values and letters a reading holds, each counted each time it is reached (what is shared counts as often as it is met; a slice's spare places count too). A statement '..UptoSaid' is the law's where the arguments, and the package variables that the reading takes, are together of bulk at most 1048576: NARROWER than '..Said'. Prove '..Said' where nothing that the law and all that it calls make is longer than what came in: it says more and counts as full. Else prove '..UptoSaid'. A law counts once. -/
mutual
def uptoBulk {H : Type} : DataW H → Nat
  | .lit (.string bytes) => bytes.length + 1
  | .lit _ => 1
  | .nil => 1
  | .ptr d => uptoBulk d + 1
  | .slice elems spare => uptoBulkAll elems + uptoBulkAll spare + 1
  | .agg parts => uptoBulkAll parts + 1
  | .iface _ d => uptoBulk d + 1
  | .map entries => uptoBulkEntries entries + 1
  | .held _ => 1
def uptoBulkAll {H : Type} : List (DataW H) → Nat
  | [] => 0
  | d :: r => uptoBulk d + uptoBulkAll r
def uptoBulkEntries {H : Type} : List (Lit × DataW H) → Nat
  | [] => 0
  | x :: r => uptoBulkEntry x + uptoBulkEntries r
def uptoBulkEntry {H : Type} : Lit × DataW H → Nat
  | (.string bytes, d) => bytes.length + uptoBulk d + 1
  | (_, d) => uptoBulk d + 1
 end
def uptoSmall : (H : Type) → List (DataW H) → Bool := fun _ ds => decide (uptoBulkAll ds ≤ 1048576)
def OpenSpec.upto (s : _root_.Go.ChangeSpec) : _root_.Go.OpenSpec := { _root_.Go.OpenSpec.ofChange s with cond := some uptoSmall }

/-- 'laws.FnExactLetterSum', WHERE WHAT IT READS IS OF BULK AT MOST 1048576: true; the input reads as it did. -/
def fnExactLetterSumUptoRow : OpenClaim := { program := "ythehhlamhkhlpaadoor", sum := "1707ed01f8f18542f2ea3fbf139f1c9d2f61ff7b5c813bcb3c1918e39c99ac18", func := "loop.example/g03203/laws.FnExactLetterSum", spec := "fnExactLetterSum", inPlace := ["internal/bytealg.IndexByteString"], named := ["loop.example/g03203/impl.romanValues"], apart := false, laid := [("loop.example/g03203/impl.romanValues", laid_loop_example_g03203_impl_romanValues)], narrowed := true }
def FnExactLetterSumUptoSaid : Prop := fnExactLetterSumUptoRow.holds Tryd.pinned (OpenSpec.upto fnExactLetterSumSpec)

/-- 'laws.FnExactLooseValue', WHERE WHAT IT READS IS OF BULK AT MOST 1048576: true; the input reads as it did. -/
def fnExactLooseValueUptoRow : OpenClaim := { program := "ythehhlamhkhlpaadoor", sum := "1707ed01f8f18542f2ea3fbf139f1c9d2f61ff7b5c813bcb3c1918e39c99ac18", func := "loop.example/g03203/laws.FnExactLooseValue", spec := "fnExactLooseValue", inPlace := ["internal/bytealg.IndexByteString"], named := ["loop.example/g03203/impl.romanValues"], apart := false, laid := [("loop.example/g03203/impl.romanValues", laid_loop_example_g03203_impl_romanValues)], narrowed := true }
def FnExactLooseValueUptoSaid : Prop := fnExactLooseValueUptoRow.holds Tryd.pinned (OpenSpec.upto fnExactLooseValueSpec)

/-- 'laws.FnExactAdditiveRoman', WHERE WHAT IT READS IS OF BULK AT MOST 1048576: true; the input reads as it did. -/
def fnExactAdditiveRomanUptoRow : OpenClaim := { program := "ythehhlamhkhlpaadoor", sum := "1707ed01f8f18542f2ea3fbf139f1c9d2f61ff7b5c813bcb3c1918e39c99ac18", func := "loop.example/g03203/laws.FnExactAdditiveRoman", spec := "fnExactAdditiveRoman", inPlace := ["internal/abi.NoEscape", "internal/bytealg.MakeNoZero"], named := ["loop.example/g03203/impl.romanValues"], apart := false, laid := [("loop.example/g03203/impl.romanValues", laid_loop_example_g03203_impl_romanValues)], narrowed := true }
def FnExactAdditiveRomanUptoSaid : Prop := fnExactAdditiveRomanUptoRow.holds Tryd.pinned (OpenSpec.upto fnExactAdditiveRomanSpec)

/-- 'laws.FnExactParseRoman', WHERE WHAT IT READS IS OF BULK AT MOST 1048576: true; the input reads as it did. -/
def fnExactParseRomanUptoRow : OpenClaim := { program := "ythehhlamhkhlpaadoor", sum := "1707ed01f8f18542f2ea3fbf139f1c9d2f61ff7b5c813bcb3c1918e39c99ac18", func := "loop.example/g03203/laws.FnExactParseRoman", spec := "fnExactParseRoman", inPlace := ["internal/bytealg.IndexByteString", "internal/abi.NoEscape", "internal/bytealg.MakeNoZero"], named := ["loop.example/g03203/impl.romanValues"], apart := false, laid := [("loop.example/g03203/impl.romanValues", laid_loop_example_g03203_impl_romanValues)], narrowed := true }
def FnExactParseRomanUptoSaid : Prop := fnExactParseRomanUptoRow.holds Tryd.pinned (OpenSpec.upto fnExactParseRomanSpec)

/-- 'laws.FnNotations', WHERE WHAT IT READS IS OF BULK AT MOST 1048576: true; the input reads as it did. -/
def fnNotationsUptoRow : OpenClaim := { program := "ythehhlamhkhlpaadoor", sum := "1707ed01f8f18542f2ea3fbf139f1c9d2f61ff7b5c813bcb3c1918e39c99ac18", func := "loop.example/g03203/laws.FnNotations", spec := "fnNotations", inPlace := ["internal/abi.NoEscape", "internal/bytealg.MakeNoZero", "internal/bytealg.IndexByteString", "internal/bytealg.CountString", "internal/bytealg.IndexString"], named := ["loop.example/g03203/impl.romanValues", "internal/bytealg.MaxLen"], apart := false, laid := [("loop.example/g03203/impl.romanValues", laid_loop_example_g03203_impl_romanValues)], narrowed := true }
def FnNotationsUptoSaid : Prop := fnNotationsUptoRow.holds Tryd.pinned (OpenSpec.upto fnNotationsSpec)

end Rows
end Go.Proofs.YthehhlamhkhlpaaDoor
