/-
  No cell of these rows narrows 'for every input' (looked for: loops, veiled, ifaces, maps, wideKeys, modest, calm, conditions, laid).
  DERIVED. THE GIVEN ROWS OF THIS SEAT. 10 by the template 'for every input the law returns true; each argument reads behind the call as it read before'; 0 by the template 'total and deterministic' (their statements: YthppnjalfppmhaaTotals.lean).
  GIVEN WITH THE SEED: the statements are not yours to turn. If you find one false, say at which input.
  Laid BY PROGRAM, IN A SANDBOX (cutbox-rows.mjs): the forced cells as the released guide's own fill.sh prints them over the translation 603e5a162f7d0dbb… (all of the seat's roots in one cut). By AI agents, Wed Nov 11 2026. No macro, syntax, notation, axiom, sorry.
-/
import Derived.Test.YthppnjalfppmhaaChecked
import GoSem.Claim
import GoSem.ClaimJoined
import GoSem.ClaimMapViews
import Derived.JoinedTies
import Derived.KernelRfl
namespace Go.Proofs.Ythppnjalfppmhaa
/- THE CELL 'sum', in the pinned program and in every row, IS THE sha256 OF THE DUMP (.gsa) THAT YthppnjalfppmhaaProg.lean LOADS. Nothing in Lean hashes anything: it is a label: what it is worth is what the hold of that sum in a sandbox is worth. -/
noncomputable def Try.pinned : Pinned := { name := "ythppnjalfppmhaa", sum := "603e5a162f7d0dbb597256209bab8646f3d7a5b0c2202f2c4963d20d7c0fbe1f", checked := Try.checked }
namespace Rows
def none {H : Type} : Left H := { results := [], args := [] }

/-- 'laws.FnExactWheelTurns': WHATEVER THE INPUT: true; the input reads as it did. -/
def fnExactWheelTurnsSpec : ChangeSpec := { name := "fnExactWheelTurns", fn := fun _ => fun
  | [d1, d2] => { results := [.lit (.bool true)], args := [d1, d2] }
  | _ => none }
def fnExactWheelTurnsRow : OpenClaim := { program := "ythppnjalfppmhaa", sum := "603e5a162f7d0dbb597256209bab8646f3d7a5b0c2202f2c4963d20d7c0fbe1f", func := "loop.example/g03203/laws.FnExactWheelTurns", spec := "fnExactWheelTurns", apart := false }
def FnExactWheelTurnsSaid : Prop := fnExactWheelTurnsRow.holds Try.pinned (OpenSpec.ofChange fnExactWheelTurnsSpec)

/-- ITS FALSE NEIGHBOUR: 'it returns false'. Refute it at one input. -/
def fnExactWheelTurnsWrong : ChangeSpec := { name := "fnExactWheelTurns", fn := fun _ => fun
  | [d1, d2] => { results := [.lit (.bool false)], args := [d1, d2] }
  | _ => none }
def FnExactWheelTurnsWrongFalsely : Prop := fnExactWheelTurnsRow.holds Try.pinned (OpenSpec.ofChange fnExactWheelTurnsWrong)

/-- 'laws.FnExactLongestRipple': WHATEVER THE INPUT: true; the input reads as it did. -/
def fnExactLongestRippleSpec : ChangeSpec := { name := "fnExactLongestRipple", fn := fun _ => fun
  | [d1, d2] => { results := [.lit (.bool true)], args := [d1, d2] }
  | _ => none }
def fnExactLongestRippleRow : OpenClaim := { program := "ythppnjalfppmhaa", sum := "603e5a162f7d0dbb597256209bab8646f3d7a5b0c2202f2c4963d20d7c0fbe1f", func := "loop.example/g03203/laws.FnExactLongestRipple", spec := "fnExactLongestRipple", apart := false }
def FnExactLongestRippleSaid : Prop := fnExactLongestRippleRow.holds Try.pinned (OpenSpec.ofChange fnExactLongestRippleSpec)

/-- ITS FALSE NEIGHBOUR: 'it returns false'. Refute it at one input. -/
def fnExactLongestRippleWrong : ChangeSpec := { name := "fnExactLongestRipple", fn := fun _ => fun
  | [d1, d2] => { results := [.lit (.bool false)], args := [d1, d2] }
  | _ => none }
def FnExactLongestRippleWrongFalsely : Prop := fnExactLongestRippleRow.holds Try.pinned (OpenSpec.ofChange fnExactLongestRippleWrong)

/-- 'laws.FnExactAbacusOk': WHATEVER THE INPUT: true; the input reads as it did. -/
def fnExactAbacusOkSpec : ChangeSpec := { name := "fnExactAbacusOk", fn := fun _ => fun
  | [d] => { results := [.lit (.bool true)], args := [d] }
  | _ => none }
def fnExactAbacusOkRow : OpenClaim := { program := "ythppnjalfppmhaa", sum := "603e5a162f7d0dbb597256209bab8646f3d7a5b0c2202f2c4963d20d7c0fbe1f", func := "loop.example/g03203/laws.FnExactAbacusOk", spec := "fnExactAbacusOk", unfollowed := true, recurses := true, apart := false }
def FnExactAbacusOkSaid : Prop := fnExactAbacusOkRow.holds Try.pinned (OpenSpec.ofChange fnExactAbacusOkSpec)

/-- ITS FALSE NEIGHBOUR: 'it returns false'. Refute it at one input. -/
def fnExactAbacusOkWrong : ChangeSpec := { name := "fnExactAbacusOk", fn := fun _ => fun
  | [d] => { results := [.lit (.bool false)], args := [d] }
  | _ => none }
def FnExactAbacusOkWrongFalsely : Prop := fnExactAbacusOkRow.holds Try.pinned (OpenSpec.ofChange fnExactAbacusOkWrong)

/-- 'laws.FnExactBeadMoves': WHATEVER THE INPUT: true; the input reads as it did. -/
def fnExactBeadMovesSpec : ChangeSpec := { name := "fnExactBeadMoves", fn := fun _ => fun
  | [d1, d2] => { results := [.lit (.bool true)], args := [d1, d2] }
  | _ => none }
def fnExactBeadMovesRow : OpenClaim := { program := "ythppnjalfppmhaa", sum := "603e5a162f7d0dbb597256209bab8646f3d7a5b0c2202f2c4963d20d7c0fbe1f", func := "loop.example/g03203/laws.FnExactBeadMoves", spec := "fnExactBeadMoves", unfollowed := true, recurses := true, apart := false }
def FnExactBeadMovesSaid : Prop := fnExactBeadMovesRow.holds Try.pinned (OpenSpec.ofChange fnExactBeadMovesSpec)

/-- ITS FALSE NEIGHBOUR: 'it returns false'. Refute it at one input. -/
def fnExactBeadMovesWrong : ChangeSpec := { name := "fnExactBeadMoves", fn := fun _ => fun
  | [d1, d2] => { results := [.lit (.bool false)], args := [d1, d2] }
  | _ => none }
def FnExactBeadMovesWrongFalsely : Prop := fnExactBeadMovesRow.holds Try.pinned (OpenSpec.ofChange fnExactBeadMovesWrong)

/-- 'laws.FnExactAbacusOf': WHATEVER THE INPUT: true; the input reads as it did. -/
def fnExactAbacusOfSpec : ChangeSpec := { name := "fnExactAbacusOf", fn := fun _ => fun
  | [d1, d2] => { results := [.lit (.bool true)], args := [d1, d2] }
  | _ => none }
def fnExactAbacusOfRow : OpenClaim := { program := "ythppnjalfppmhaa", sum := "603e5a162f7d0dbb597256209bab8646f3d7a5b0c2202f2c4963d20d7c0fbe1f", func := "loop.example/g03203/laws.FnExactAbacusOf", spec := "fnExactAbacusOf", apart := false }
def FnExactAbacusOfSaid : Prop := fnExactAbacusOfRow.holds Try.pinned (OpenSpec.ofChange fnExactAbacusOfSpec)

/-- ITS FALSE NEIGHBOUR: 'it returns false'. Refute it at one input. -/
def fnExactAbacusOfWrong : ChangeSpec := { name := "fnExactAbacusOf", fn := fun _ => fun
  | [d1, d2] => { results := [.lit (.bool false)], args := [d1, d2] }
  | _ => none }
def FnExactAbacusOfWrongFalsely : Prop := fnExactAbacusOfRow.holds Try.pinned (OpenSpec.ofChange fnExactAbacusOfWrong)

/-- 'laws.FnExactAbacusValue': WHATEVER THE INPUT: true; the input reads as it did. -/
def fnExactAbacusValueSpec : ChangeSpec := { name := "fnExactAbacusValue", fn := fun _ => fun
  | [d] => { results := [.lit (.bool true)], args := [d] }
  | _ => none }
def fnExactAbacusValueRow : OpenClaim := { program := "ythppnjalfppmhaa", sum := "603e5a162f7d0dbb597256209bab8646f3d7a5b0c2202f2c4963d20d7c0fbe1f", func := "loop.example/g03203/laws.FnExactAbacusValue", spec := "fnExactAbacusValue", unfollowed := true, recurses := true, apart := false }
def FnExactAbacusValueSaid : Prop := fnExactAbacusValueRow.holds Try.pinned (OpenSpec.ofChange fnExactAbacusValueSpec)

/-- ITS FALSE NEIGHBOUR: 'it returns false'. Refute it at one input. -/
def fnExactAbacusValueWrong : ChangeSpec := { name := "fnExactAbacusValue", fn := fun _ => fun
  | [d] => { results := [.lit (.bool false)], args := [d] }
  | _ => none }
def FnExactAbacusValueWrongFalsely : Prop := fnExactAbacusValueRow.holds Try.pinned (OpenSpec.ofChange fnExactAbacusValueWrong)

/-- 'laws.FnExactNinesOf': WHATEVER THE INPUT: true; the input reads as it did. -/
def fnExactNinesOfSpec : ChangeSpec := { name := "fnExactNinesOf", fn := fun _ => fun
  | [d] => { results := [.lit (.bool true)], args := [d] }
  | _ => none }
def fnExactNinesOfRow : OpenClaim := { program := "ythppnjalfppmhaa", sum := "603e5a162f7d0dbb597256209bab8646f3d7a5b0c2202f2c4963d20d7c0fbe1f", func := "loop.example/g03203/laws.FnExactNinesOf", spec := "fnExactNinesOf", unfollowed := true, recurses := true, apart := false }
def FnExactNinesOfSaid : Prop := fnExactNinesOfRow.holds Try.pinned (OpenSpec.ofChange fnExactNinesOfSpec)

/-- ITS FALSE NEIGHBOUR: 'it returns false'. Refute it at one input. -/
def fnExactNinesOfWrong : ChangeSpec := { name := "fnExactNinesOf", fn := fun _ => fun
  | [d] => { results := [.lit (.bool false)], args := [d] }
  | _ => none }
def FnExactNinesOfWrongFalsely : Prop := fnExactNinesOfRow.holds Try.pinned (OpenSpec.ofChange fnExactNinesOfWrong)

/-- 'laws.FnExactSubtractByNines': WHATEVER THE INPUT: true; the input reads as it did. -/
def fnExactSubtractByNinesSpec : ChangeSpec := { name := "fnExactSubtractByNines", fn := fun _ => fun
  | [d1, d2] => { results := [.lit (.bool true)], args := [d1, d2] }
  | _ => none }
def fnExactSubtractByNinesRow : OpenClaim := { program := "ythppnjalfppmhaa", sum := "603e5a162f7d0dbb597256209bab8646f3d7a5b0c2202f2c4963d20d7c0fbe1f", func := "loop.example/g03203/laws.FnExactSubtractByNines", spec := "fnExactSubtractByNines", unfollowed := true, recurses := true, apart := false }
def FnExactSubtractByNinesSaid : Prop := fnExactSubtractByNinesRow.holds Try.pinned (OpenSpec.ofChange fnExactSubtractByNinesSpec)

/-- ITS FALSE NEIGHBOUR: 'it returns false'. Refute it at one input. -/
def fnExactSubtractByNinesWrong : ChangeSpec := { name := "fnExactSubtractByNines", fn := fun _ => fun
  | [d1, d2] => { results := [.lit (.bool false)], args := [d1, d2] }
  | _ => none }
def FnExactSubtractByNinesWrongFalsely : Prop := fnExactSubtractByNinesRow.holds Try.pinned (OpenSpec.ofChange fnExactSubtractByNinesWrong)

/-- 'laws.FnExactAbacusAdd': WHATEVER THE INPUT: true; the input reads as it did. -/
def fnExactAbacusAddSpec : ChangeSpec := { name := "fnExactAbacusAdd", fn := fun _ => fun
  | [d1, d2] => { results := [.lit (.bool true)], args := [d1, d2] }
  | _ => none }
def fnExactAbacusAddRow : OpenClaim := { program := "ythppnjalfppmhaa", sum := "603e5a162f7d0dbb597256209bab8646f3d7a5b0c2202f2c4963d20d7c0fbe1f", func := "loop.example/g03203/laws.FnExactAbacusAdd", spec := "fnExactAbacusAdd", unfollowed := true, recurses := true, apart := false }
def FnExactAbacusAddSaid : Prop := fnExactAbacusAddRow.holds Try.pinned (OpenSpec.ofChange fnExactAbacusAddSpec)

/-- ITS FALSE NEIGHBOUR: 'it returns false'. Refute it at one input. -/
def fnExactAbacusAddWrong : ChangeSpec := { name := "fnExactAbacusAdd", fn := fun _ => fun
  | [d1, d2] => { results := [.lit (.bool false)], args := [d1, d2] }
  | _ => none }
def FnExactAbacusAddWrongFalsely : Prop := fnExactAbacusAddRow.holds Try.pinned (OpenSpec.ofChange fnExactAbacusAddWrong)

/-- 'laws.FnAbacus': WHATEVER THE INPUT: true; the input reads as it did. -/
def fnAbacusSpec : ChangeSpec := { name := "fnAbacus", fn := fun _ => fun
  | [d] => { results := [.lit (.bool true)], args := [d] }
  | _ => none }
def fnAbacusRow : OpenClaim := { program := "ythppnjalfppmhaa", sum := "603e5a162f7d0dbb597256209bab8646f3d7a5b0c2202f2c4963d20d7c0fbe1f", func := "loop.example/g03203/laws.FnAbacus", spec := "fnAbacus", unfollowed := true, recurses := true, apart := false }
def FnAbacusSaid : Prop := fnAbacusRow.holds Try.pinned (OpenSpec.ofChange fnAbacusSpec)

/-- ITS FALSE NEIGHBOUR: 'it returns false'. Refute it at one input. -/
def fnAbacusWrong : ChangeSpec := { name := "fnAbacus", fn := fun _ => fun
  | [d] => { results := [.lit (.bool false)], args := [d] }
  | _ => none }
def FnAbacusWrongFalsely : Prop := fnAbacusRow.holds Try.pinned (OpenSpec.ofChange fnAbacusWrong)

/- THE SECOND FORM. 'bulk': how many values and letters a reading holds, each counted each time it is reached (what is shared counts as often as it is met; a slice's spare places count too). A statement '..UptoSaid' is the law's where the arguments, and the package variables that the reading takes, are together of bulk at most 1048576: NARROWER than '..Said'. Prove '..Said' where nothing that the law and all that it calls make is longer than what came in: it says more and counts as full. Else prove '..UptoSaid'. A law counts once. -/
mutual
def uptoBulk {H : Type} : DataW H → Nat
  | .lit (.string bytes) => bytes.length + 1
  | .lit _ => 1
  | .nil => 1
  | .ptr d => uptoBulk d + 1
  | .slice elems spare => uptoBulkAll elems + uptoBulkAll spare + 1
  | .agg parts => uptoBulkAll parts + 1
  | .iface _ d => uptoBulk d + 1
  | .map entries => uptoBulkEntries entries + 1
  | .held _ => 1
def uptoBulkAll {H : Type} : List (DataW H) → Nat
  | [] => 0
  | d :: r => uptoBulk d + uptoBulkAll r
def uptoBulkEntries {H : Type} : List (Lit × DataW H) → Nat
  | [] => 0
  | x :: r => uptoBulkEntry x + uptoBulkEntries r
def uptoBulkEntry {H : Type} : Lit × DataW H → Nat
  | (.string bytes, d) => bytes.length + uptoBulk d + 1
  | (_, d) => uptoBulk d + 1
 end
def uptoSmall : (H : Type) → List (DataW H) → Bool := fun _ ds => decide (uptoBulkAll ds ≤ 1048576)
def OpenSpec.upto (s : _root_.Go.ChangeSpec) : _root_.Go.OpenSpec := { _root_.Go.OpenSpec.ofChange s with cond := some uptoSmall }

/-- 'laws.FnExactWheelTurns', WHERE WHAT IT READS IS OF BULK AT MOST 1048576: true; the input reads as it did. -/
def fnExactWheelTurnsUptoRow : OpenClaim := { program := "ythppnjalfppmhaa", sum := "603e5a162f7d0dbb597256209bab8646f3d7a5b0c2202f2c4963d20d7c0fbe1f", func := "loop.example/g03203/laws.FnExactWheelTurns", spec := "fnExactWheelTurns", apart := false, narrowed := true }
def FnExactWheelTurnsUptoSaid : Prop := fnExactWheelTurnsUptoRow.holds Try.pinned (OpenSpec.upto fnExactWheelTurnsSpec)

/-- 'laws.FnExactLongestRipple', WHERE WHAT IT READS IS OF BULK AT MOST 1048576: true; the input reads as it did. -/
def fnExactLongestRippleUptoRow : OpenClaim := { program := "ythppnjalfppmhaa", sum := "603e5a162f7d0dbb597256209bab8646f3d7a5b0c2202f2c4963d20d7c0fbe1f", func := "loop.example/g03203/laws.FnExactLongestRipple", spec := "fnExactLongestRipple", apart := false, narrowed := true }
def FnExactLongestRippleUptoSaid : Prop := fnExactLongestRippleUptoRow.holds Try.pinned (OpenSpec.upto fnExactLongestRippleSpec)

/-- 'laws.FnExactAbacusOk', WHERE WHAT IT READS IS OF BULK AT MOST 1048576: true; the input reads as it did. -/
def fnExactAbacusOkUptoRow : OpenClaim := { program := "ythppnjalfppmhaa", sum := "603e5a162f7d0dbb597256209bab8646f3d7a5b0c2202f2c4963d20d7c0fbe1f", func := "loop.example/g03203/laws.FnExactAbacusOk", spec := "fnExactAbacusOk", unfollowed := true, recurses := true, apart := false, narrowed := true }
def FnExactAbacusOkUptoSaid : Prop := fnExactAbacusOkUptoRow.holds Try.pinned (OpenSpec.upto fnExactAbacusOkSpec)

/-- 'laws.FnExactBeadMoves', WHERE WHAT IT READS IS OF BULK AT MOST 1048576: true; the input reads as it did. -/
def fnExactBeadMovesUptoRow : OpenClaim := { program := "ythppnjalfppmhaa", sum := "603e5a162f7d0dbb597256209bab8646f3d7a5b0c2202f2c4963d20d7c0fbe1f", func := "loop.example/g03203/laws.FnExactBeadMoves", spec := "fnExactBeadMoves", unfollowed := true, recurses := true, apart := false, narrowed := true }
def FnExactBeadMovesUptoSaid : Prop := fnExactBeadMovesUptoRow.holds Try.pinned (OpenSpec.upto fnExactBeadMovesSpec)

/-- 'laws.FnExactAbacusOf', WHERE WHAT IT READS IS OF BULK AT MOST 1048576: true; the input reads as it did. -/
def fnExactAbacusOfUptoRow : OpenClaim := { program := "ythppnjalfppmhaa", sum := "603e5a162f7d0dbb597256209bab8646f3d7a5b0c2202f2c4963d20d7c0fbe1f", func := "loop.example/g03203/laws.FnExactAbacusOf", spec := "fnExactAbacusOf", apart := false, narrowed := true }
def FnExactAbacusOfUptoSaid : Prop := fnExactAbacusOfUptoRow.holds Try.pinned (OpenSpec.upto fnExactAbacusOfSpec)

/-- 'laws.FnExactAbacusValue', WHERE WHAT IT READS IS OF BULK AT MOST 1048576: true; the input reads as it did. -/
def fnExactAbacusValueUptoRow : OpenClaim := { program := "ythppnjalfppmhaa", sum := "603e5a162f7d0dbb597256209bab8646f3d7a5b0c2202f2c4963d20d7c0fbe1f", func := "loop.example/g03203/laws.FnExactAbacusValue", spec := "fnExactAbacusValue", unfollowed := true, recurses := true, apart := false, narrowed := true }
def FnExactAbacusValueUptoSaid : Prop := fnExactAbacusValueUptoRow.holds Try.pinned (OpenSpec.upto fnExactAbacusValueSpec)

/-- 'laws.FnExactNinesOf', WHERE WHAT IT READS IS OF BULK AT MOST 1048576: true; the input reads as it did. -/
def fnExactNinesOfUptoRow : OpenClaim := { program := "ythppnjalfppmhaa", sum := "603e5a162f7d0dbb597256209bab8646f3d7a5b0c2202f2c4963d20d7c0fbe1f", func := "loop.example/g03203/laws.FnExactNinesOf", spec := "fnExactNinesOf", unfollowed := true, recurses := true, apart := false, narrowed := true }
def FnExactNinesOfUptoSaid : Prop := fnExactNinesOfUptoRow.holds Try.pinned (OpenSpec.upto fnExactNinesOfSpec)

/-- 'laws.FnExactSubtractByNines', WHERE WHAT IT READS IS OF BULK AT MOST 1048576: true; the input reads as it did. -/
def fnExactSubtractByNinesUptoRow : OpenClaim := { program := "ythppnjalfppmhaa", sum := "603e5a162f7d0dbb597256209bab8646f3d7a5b0c2202f2c4963d20d7c0fbe1f", func := "loop.example/g03203/laws.FnExactSubtractByNines", spec := "fnExactSubtractByNines", unfollowed := true, recurses := true, apart := false, narrowed := true }
def FnExactSubtractByNinesUptoSaid : Prop := fnExactSubtractByNinesUptoRow.holds Try.pinned (OpenSpec.upto fnExactSubtractByNinesSpec)

/-- 'laws.FnExactAbacusAdd', WHERE WHAT IT READS IS OF BULK AT MOST 1048576: true; the input reads as it did. -/
def fnExactAbacusAddUptoRow : OpenClaim := { program := "ythppnjalfppmhaa", sum := "603e5a162f7d0dbb597256209bab8646f3d7a5b0c2202f2c4963d20d7c0fbe1f", func := "loop.example/g03203/laws.FnExactAbacusAdd", spec := "fnExactAbacusAdd", unfollowed := true, recurses := true, apart := false, narrowed := true }
def FnExactAbacusAddUptoSaid : Prop := fnExactAbacusAddUptoRow.holds Try.pinned (OpenSpec.upto fnExactAbacusAddSpec)

/-- 'laws.FnAbacus', WHERE WHAT IT READS IS OF BULK AT MOST 1048576: true; the input reads as it did. -/
def fnAbacusUptoRow : OpenClaim := { program := "ythppnjalfppmhaa", sum := "603e5a162f7d0dbb597256209bab8646f3d7a5b0c2202f2c4963d20d7c0fbe1f", func := "loop.example/g03203/laws.FnAbacus", spec := "fnAbacus", unfollowed := true, recurses := true, apart := false, narrowed := true }
def FnAbacusUptoSaid : Prop := fnAbacusUptoRow.holds Try.pinned (OpenSpec.upto fnAbacusSpec)

end Rows
end Go.Proofs.Ythppnjalfppmhaa
