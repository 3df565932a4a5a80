/-
  No cell of these rows narrows 'for every input' (looked for: loops, veiled, ifaces, maps, wideKeys, modest, calm, conditions, laid).
  DERIVED. THE GIVEN ROWS OF THIS SEAT. 5 by the template 'for every input the law returns true; each argument reads behind the call as it read before'; 0 by the template 'total and deterministic' (their statements: YthehhlamhkhlpaaTotals.lean).
  GIVEN WITH THE SEED: the statements are not yours to turn. If you find one false, say at which input.
  Laid BY PROGRAM, IN A SANDBOX (cutbox-rows.mjs): the forced cells as the released guide's own fill.sh prints them over the translation 501a846fe6530204… (all of the seat's roots in one cut). By AI agents, Wed Nov 11 2026. No macro, syntax, notation, axiom, sorry.
-/
import Derived.Test.YthehhlamhkhlpaaChecked
import GoSem.Claim
import GoSem.ClaimJoined
import GoSem.ClaimMapViews
import Derived.JoinedTies
import Derived.KernelRfl
namespace Go.Proofs.Ythehhlamhkhlpaa
/- THE CELL 'sum', in the pinned program and in every row, IS THE sha256 OF THE DUMP (.gsa) THAT YthehhlamhkhlpaaProg.lean LOADS. Nothing in Lean hashes anything: it is a label: what it is worth is what the hold of that sum in a sandbox is worth. -/
noncomputable def Try.pinned : Pinned := { name := "ythehhlamhkhlpaa", sum := "501a846fe65302043853a551a9cdee298d02c7a8ee39685a10d8c7815728f15c", checked := Try.checked }
namespace Rows
def none {H : Type} : Left H := { results := [], args := [] }

/-- 'laws.FnExactFormatRoman': WHATEVER THE INPUT: true; the input reads as it did. -/
def fnExactFormatRomanSpec : ChangeSpec := { name := "fnExactFormatRoman", fn := fun _ => fun
  | [d] => { results := [.lit (.bool true)], args := [d] }
  | _ => none }
def fnExactFormatRomanRow : OpenClaim := { program := "ythehhlamhkhlpaa", sum := "501a846fe65302043853a551a9cdee298d02c7a8ee39685a10d8c7815728f15c", func := "loop.example/g03203/laws.FnExactFormatRoman", spec := "fnExactFormatRoman", inPlace := ["internal/abi.NoEscape", "internal/bytealg.MakeNoZero"], apart := false }
def FnExactFormatRomanSaid : Prop := fnExactFormatRomanRow.holds Try.pinned (OpenSpec.ofChange fnExactFormatRomanSpec)

/-- ITS FALSE NEIGHBOUR: 'it returns false'. Refute it at one input. -/
def fnExactFormatRomanWrong : ChangeSpec := { name := "fnExactFormatRoman", fn := fun _ => fun
  | [d] => { results := [.lit (.bool false)], args := [d] }
  | _ => none }
def FnExactFormatRomanWrongFalsely : Prop := fnExactFormatRomanRow.holds Try.pinned (OpenSpec.ofChange fnExactFormatRomanWrong)

/-- 'laws.FnExactRomanLength': WHATEVER THE INPUT: true; the input reads as it did. -/
def fnExactRomanLengthSpec : ChangeSpec := { name := "fnExactRomanLength", fn := fun _ => fun
  | [d] => { results := [.lit (.bool true)], args := [d] }
  | _ => none }
def fnExactRomanLengthRow : OpenClaim := { program := "ythehhlamhkhlpaa", sum := "501a846fe65302043853a551a9cdee298d02c7a8ee39685a10d8c7815728f15c", func := "loop.example/g03203/laws.FnExactRomanLength", spec := "fnExactRomanLength", inPlace := ["internal/abi.NoEscape", "internal/bytealg.MakeNoZero"], apart := false }
def FnExactRomanLengthSaid : Prop := fnExactRomanLengthRow.holds Try.pinned (OpenSpec.ofChange fnExactRomanLengthSpec)

/-- ITS FALSE NEIGHBOUR: 'it returns false'. Refute it at one input. -/
def fnExactRomanLengthWrong : ChangeSpec := { name := "fnExactRomanLength", fn := fun _ => fun
  | [d] => { results := [.lit (.bool false)], args := [d] }
  | _ => none }
def FnExactRomanLengthWrongFalsely : Prop := fnExactRomanLengthRow.holds Try.pinned (OpenSpec.ofChange fnExactRomanLengthWrong)

/-- 'laws.FnExactTallyOf': WHATEVER THE INPUT: true; the input reads as it did. -/
def fnExactTallyOfSpec : ChangeSpec := { name := "fnExactTallyOf", fn := fun _ => fun
  | [d] => { results := [.lit (.bool true)], args := [d] }
  | _ => none }
def fnExactTallyOfRow : OpenClaim := { program := "ythehhlamhkhlpaa", sum := "501a846fe65302043853a551a9cdee298d02c7a8ee39685a10d8c7815728f15c", func := "loop.example/g03203/laws.FnExactTallyOf", spec := "fnExactTallyOf", inPlace := ["internal/abi.NoEscape", "internal/bytealg.MakeNoZero"], apart := false }
def FnExactTallyOfSaid : Prop := fnExactTallyOfRow.holds Try.pinned (OpenSpec.ofChange fnExactTallyOfSpec)

/-- ITS FALSE NEIGHBOUR: 'it returns false'. Refute it at one input. -/
def fnExactTallyOfWrong : ChangeSpec := { name := "fnExactTallyOf", fn := fun _ => fun
  | [d] => { results := [.lit (.bool false)], args := [d] }
  | _ => none }
def FnExactTallyOfWrongFalsely : Prop := fnExactTallyOfRow.holds Try.pinned (OpenSpec.ofChange fnExactTallyOfWrong)

/-- 'laws.FnExactLongestRoman': WHATEVER THE INPUT: true; the input reads as it did. -/
def fnExactLongestRomanSpec : ChangeSpec := { name := "fnExactLongestRoman", fn := fun _ => fun
  | [d] => { results := [.lit (.bool true)], args := [d] }
  | _ => none }
def fnExactLongestRomanRow : OpenClaim := { program := "ythehhlamhkhlpaa", sum := "501a846fe65302043853a551a9cdee298d02c7a8ee39685a10d8c7815728f15c", func := "loop.example/g03203/laws.FnExactLongestRoman", spec := "fnExactLongestRoman", inPlace := ["internal/abi.NoEscape", "internal/bytealg.MakeNoZero"], apart := false }
def FnExactLongestRomanSaid : Prop := fnExactLongestRomanRow.holds Try.pinned (OpenSpec.ofChange fnExactLongestRomanSpec)

/-- ITS FALSE NEIGHBOUR: 'it returns false'. Refute it at one input. -/
def fnExactLongestRomanWrong : ChangeSpec := { name := "fnExactLongestRoman", fn := fun _ => fun
  | [d] => { results := [.lit (.bool false)], args := [d] }
  | _ => none }
def FnExactLongestRomanWrongFalsely : Prop := fnExactLongestRomanRow.holds Try.pinned (OpenSpec.ofChange fnExactLongestRomanWrong)

/-- 'laws.FnExactTallyValue': WHATEVER THE INPUT: true; the input reads as it did. -/
def fnExactTallyValueSpec : ChangeSpec := { name := "fnExactTallyValue", fn := fun _ => fun
  | [d] => { results := [.lit (.bool true)], args := [d] }
  | _ => none }
def fnExactTallyValueRow : OpenClaim := { program := "ythehhlamhkhlpaa", sum := "501a846fe65302043853a551a9cdee298d02c7a8ee39685a10d8c7815728f15c", func := "loop.example/g03203/laws.FnExactTallyValue", spec := "fnExactTallyValue", inPlace := ["internal/bytealg.CountString", "internal/bytealg.IndexByteString", "internal/bytealg.IndexString", "internal/abi.NoEscape", "internal/bytealg.MakeNoZero"], named := ["internal/bytealg.MaxLen"], apart := false }
def FnExactTallyValueSaid : Prop := fnExactTallyValueRow.holds Try.pinned (OpenSpec.ofChange fnExactTallyValueSpec)

/-- ITS FALSE NEIGHBOUR: 'it returns false'. Refute it at one input. -/
def fnExactTallyValueWrong : ChangeSpec := { name := "fnExactTallyValue", fn := fun _ => fun
  | [d] => { results := [.lit (.bool false)], args := [d] }
  | _ => none }
def FnExactTallyValueWrongFalsely : Prop := fnExactTallyValueRow.holds Try.pinned (OpenSpec.ofChange fnExactTallyValueWrong)

/- THE SECOND FORM. 'bulk': how many values and letters a reading holds, each counted each time it is reached (what is shared counts as often as it is met; a slice's spare places count too). A statement '..UptoSaid' is the law's where the arguments, and the package variables that the reading takes, are together of bulk at most 1048576: NARROWER than '..Said'. Prove '..Said' where nothing that the law and all that it calls make is longer than what came in: it says more and counts as full. Else prove '..UptoSaid'. A law counts once. -/
mutual
def uptoBulk {H : Type} : DataW H → Nat
  | .lit (.string bytes) => bytes.length + 1
  | .lit _ => 1
  | .nil => 1
  | .ptr d => uptoBulk d + 1
  | .slice elems spare => uptoBulkAll elems + uptoBulkAll spare + 1
  | .agg parts => uptoBulkAll parts + 1
  | .iface _ d => uptoBulk d + 1
  | .map entries => uptoBulkEntries entries + 1
  | .held _ => 1
def uptoBulkAll {H : Type} : List (DataW H) → Nat
  | [] => 0
  | d :: r => uptoBulk d + uptoBulkAll r
def uptoBulkEntries {H : Type} : List (Lit × DataW H) → Nat
  | [] => 0
  | x :: r => uptoBulkEntry x + uptoBulkEntries r
def uptoBulkEntry {H : Type} : Lit × DataW H → Nat
  | (.string bytes, d) => bytes.length + uptoBulk d + 1
  | (_, d) => uptoBulk d + 1
 end
def uptoSmall : (H : Type) → List (DataW H) → Bool := fun _ ds => decide (uptoBulkAll ds ≤ 1048576)
def OpenSpec.upto (s : _root_.Go.ChangeSpec) : _root_.Go.OpenSpec := { _root_.Go.OpenSpec.ofChange s with cond := some uptoSmall }

/-- 'laws.FnExactFormatRoman', WHERE WHAT IT READS IS OF BULK AT MOST 1048576: true; the input reads as it did. -/
def fnExactFormatRomanUptoRow : OpenClaim := { program := "ythehhlamhkhlpaa", sum := "501a846fe65302043853a551a9cdee298d02c7a8ee39685a10d8c7815728f15c", func := "loop.example/g03203/laws.FnExactFormatRoman", spec := "fnExactFormatRoman", inPlace := ["internal/abi.NoEscape", "internal/bytealg.MakeNoZero"], apart := false, narrowed := true }
def FnExactFormatRomanUptoSaid : Prop := fnExactFormatRomanUptoRow.holds Try.pinned (OpenSpec.upto fnExactFormatRomanSpec)

/-- 'laws.FnExactRomanLength', WHERE WHAT IT READS IS OF BULK AT MOST 1048576: true; the input reads as it did. -/
def fnExactRomanLengthUptoRow : OpenClaim := { program := "ythehhlamhkhlpaa", sum := "501a846fe65302043853a551a9cdee298d02c7a8ee39685a10d8c7815728f15c", func := "loop.example/g03203/laws.FnExactRomanLength", spec := "fnExactRomanLength", inPlace := ["internal/abi.NoEscape", "internal/bytealg.MakeNoZero"], apart := false, narrowed := true }
def FnExactRomanLengthUptoSaid : Prop := fnExactRomanLengthUptoRow.holds Try.pinned (OpenSpec.upto fnExactRomanLengthSpec)

/-- 'laws.FnExactTallyOf', WHERE WHAT IT READS IS OF BULK AT MOST 1048576: true; the input reads as it did. -/
def fnExactTallyOfUptoRow : OpenClaim := { program := "ythehhlamhkhlpaa", sum := "501a846fe65302043853a551a9cdee298d02c7a8ee39685a10d8c7815728f15c", func := "loop.example/g03203/laws.FnExactTallyOf", spec := "fnExactTallyOf", inPlace := ["internal/abi.NoEscape", "internal/bytealg.MakeNoZero"], apart := false, narrowed := true }
def FnExactTallyOfUptoSaid : Prop := fnExactTallyOfUptoRow.holds Try.pinned (OpenSpec.upto fnExactTallyOfSpec)

/-- 'laws.FnExactLongestRoman', WHERE WHAT IT READS IS OF BULK AT MOST 1048576: true; the input reads as it did. -/
def fnExactLongestRomanUptoRow : OpenClaim := { program := "ythehhlamhkhlpaa", sum := "501a846fe65302043853a551a9cdee298d02c7a8ee39685a10d8c7815728f15c", func := "loop.example/g03203/laws.FnExactLongestRoman", spec := "fnExactLongestRoman", inPlace := ["internal/abi.NoEscape", "internal/bytealg.MakeNoZero"], apart := false, narrowed := true }
def FnExactLongestRomanUptoSaid : Prop := fnExactLongestRomanUptoRow.holds Try.pinned (OpenSpec.upto fnExactLongestRomanSpec)

/-- 'laws.FnExactTallyValue', WHERE WHAT IT READS IS OF BULK AT MOST 1048576: true; the input reads as it did. -/
def fnExactTallyValueUptoRow : OpenClaim := { program := "ythehhlamhkhlpaa", sum := "501a846fe65302043853a551a9cdee298d02c7a8ee39685a10d8c7815728f15c", func := "loop.example/g03203/laws.FnExactTallyValue", spec := "fnExactTallyValue", inPlace := ["internal/bytealg.CountString", "internal/bytealg.IndexByteString", "internal/bytealg.IndexString", "internal/abi.NoEscape", "internal/bytealg.MakeNoZero"], named := ["internal/bytealg.MaxLen"], apart := false, narrowed := true }
def FnExactTallyValueUptoSaid : Prop := fnExactTallyValueUptoRow.holds Try.pinned (OpenSpec.upto fnExactTallyValueSpec)

end Rows
end Go.Proofs.Ythehhlamhkhlpaa
