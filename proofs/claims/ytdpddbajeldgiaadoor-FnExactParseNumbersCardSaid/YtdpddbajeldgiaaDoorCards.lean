/-
  DERIVED. GIVEN WITH THE SEED: THE CARDS: each row of YtdpddbajeldgiaaDoorRows.lean that lists a variable, with what it lists TIED to the program's text (the seventh form; the later family's looks); each row that meets fmt, with fmt's text TOLD by the authors' own Lean function (tested against real Go, not proved from fmt's source: count such statements apart). THE CARD IS WHAT COUNTS. Prove the row's statement (the work); the ties are given (YtdpddbajeldgiaaDoorTie.lean); close each card by the builder's one call (the guide's Derived/Test/ToyasCard.lean, 'card_holds'). Laid BY PROGRAM, IN A SANDBOX (cutbox-door.mjs). By AI agents, Wed Nov 11 2026. No macro, syntax, notation, axiom, sorry.
-/
import Derived.Test.YtdpddbajeldgiaaDoorRows
import GoSem.ClaimSeven
namespace Go.Proofs.YtdpddbajeldgiaaDoor
namespace Rows

/-- THE TIED CARD OF 'laws.FnExactFormatNumbers'. -/
def fnExactFormatNumbersCard : Claim7 := { stood := { row := fnExactFormatNumbersRow, standIns := [], harness := (true, "8d35fedfa9ef62f655c7b525fb07814fabf3f550e81d848b9096aaf9c5bb2286"), looks := true }, kinds := [], alts := [], laidByText := true, laidKinds := [.data, .data, .data], laidTests := true, laidLooks := .later }
def FnExactFormatNumbersCardSaid : Prop := Claim7.holds Tryd.pinned (.plain (OpenSpec.ofChange fnExactFormatNumbersSpec)) fnExactFormatNumbersCard

/-- THE TIED CARD OF 'laws.FnExactFractionLine'. -/
def fnExactFractionLineCard : Claim7 := { stood := { row := fnExactFractionLineRow, standIns := [], harness := (true, "8d35fedfa9ef62f655c7b525fb07814fabf3f550e81d848b9096aaf9c5bb2286"), looks := true }, kinds := [], alts := [], laidByText := true, laidKinds := [.data, .data, .data], laidTests := true, laidLooks := .later }
def FnExactFractionLineCardSaid : Prop := Claim7.holds Tryd.pinned (.plain (OpenSpec.ofChange fnExactFractionLineSpec)) fnExactFractionLineCard

/-- THE TIED CARD OF 'laws.FnExactUnitLine'. -/
def fnExactUnitLineCard : Claim7 := { stood := { row := fnExactUnitLineRow, standIns := [], harness := (true, "8d35fedfa9ef62f655c7b525fb07814fabf3f550e81d848b9096aaf9c5bb2286"), looks := true }, kinds := [], alts := [], laidByText := true, laidKinds := [.data, .data, .data], laidTests := true, laidLooks := .later }
def FnExactUnitLineCardSaid : Prop := Claim7.holds Tryd.pinned (.plain (OpenSpec.ofChange fnExactUnitLineSpec)) fnExactUnitLineCard

/-- THE TIED CARD OF 'laws.FnExactRuleLine'. -/
def fnExactRuleLineCard : Claim7 := { stood := { row := fnExactRuleLineRow, standIns := [], harness := (true, "8d35fedfa9ef62f655c7b525fb07814fabf3f550e81d848b9096aaf9c5bb2286"), looks := true }, kinds := [], alts := [], laidByText := true, laidKinds := [.data, .data, .data], laidTests := true, laidLooks := .later }
def FnExactRuleLineCardSaid : Prop := Claim7.holds Tryd.pinned (.plain (OpenSpec.ofChange fnExactRuleLineSpec)) fnExactRuleLineCard

/-- THE TIED CARD OF 'laws.FnExactRankLine'. -/
def fnExactRankLineCard : Claim7 := { stood := { row := fnExactRankLineRow, standIns := [], harness := (true, "8d35fedfa9ef62f655c7b525fb07814fabf3f550e81d848b9096aaf9c5bb2286"), looks := true }, kinds := [], alts := [], laidByText := true, laidKinds := [.data, .data, .data], laidTests := true, laidLooks := .later }
def FnExactRankLineCardSaid : Prop := Claim7.holds Tryd.pinned (.plain (OpenSpec.ofChange fnExactRankLineSpec)) fnExactRankLineCard

/-- THE TIED CARD OF 'laws.FnExactCycleLine'. -/
def fnExactCycleLineCard : Claim7 := { stood := { row := fnExactCycleLineRow, standIns := [], harness := (true, "8d35fedfa9ef62f655c7b525fb07814fabf3f550e81d848b9096aaf9c5bb2286"), looks := true }, kinds := [], alts := [], laidByText := true, laidKinds := [.data, .data, .data], laidTests := true, laidLooks := .later }
def FnExactCycleLineCardSaid : Prop := Claim7.holds Tryd.pinned (.plain (OpenSpec.ofChange fnExactCycleLineSpec)) fnExactCycleLineCard

/-- THE TIED CARD OF 'laws.FnExactParseNumbers'. -/
def fnExactParseNumbersCard : Claim7 := { stood := { row := fnExactParseNumbersRow, standIns := [], harness := (true, "8d35fedfa9ef62f655c7b525fb07814fabf3f550e81d848b9096aaf9c5bb2286"), looks := true }, kinds := [], alts := [], laidByText := true, laidKinds := [.data, .data, .data, .data, .sentinel, .sentinel, .pinned], laidTests := true, laidLooks := .later }
def FnExactParseNumbersCardSaid : Prop := Claim7.holds Tryd.pinned (.plain (OpenSpec.ofChange fnExactParseNumbersSpec)) fnExactParseNumbersCard

/-- THE TIED CARD OF 'laws.FnExactSortLine'. -/
def fnExactSortLineCard : Claim7 := { stood := { row := fnExactSortLineRow, standIns := [], harness := (true, "8d35fedfa9ef62f655c7b525fb07814fabf3f550e81d848b9096aaf9c5bb2286"), looks := true }, kinds := [], alts := [], laidByText := true, laidKinds := [.data, .data, .data], laidTests := true, laidLooks := .later }
def FnExactSortLineCardSaid : Prop := Claim7.holds Tryd.pinned (.plain (OpenSpec.ofChange fnExactSortLineSpec)) fnExactSortLineCard

/-- THE SECOND FORM's CARD OF 'laws.FnExactFormatNumbers'. -/
def fnExactFormatNumbersUptoCard : Claim7 := { stood := { row := fnExactFormatNumbersUptoRow, standIns := [], harness := (true, "8d35fedfa9ef62f655c7b525fb07814fabf3f550e81d848b9096aaf9c5bb2286"), looks := true }, kinds := [], alts := [], laidByText := true, laidKinds := [.data, .data, .data], laidTests := true, laidLooks := .later }
def FnExactFormatNumbersUptoCardSaid : Prop := Claim7.holds Tryd.pinned (.plain (OpenSpec.upto fnExactFormatNumbersSpec)) fnExactFormatNumbersUptoCard

/-- THE SECOND FORM's CARD OF 'laws.FnExactFractionLine'. -/
def fnExactFractionLineUptoCard : Claim7 := { stood := { row := fnExactFractionLineUptoRow, standIns := [], harness := (true, "8d35fedfa9ef62f655c7b525fb07814fabf3f550e81d848b9096aaf9c5bb2286"), looks := true }, kinds := [], alts := [], laidByText := true, laidKinds := [.data, .data, .data], laidTests := true, laidLooks := .later }
def FnExactFractionLineUptoCardSaid : Prop := Claim7.holds Tryd.pinned (.plain (OpenSpec.upto fnExactFractionLineSpec)) fnExactFractionLineUptoCard

/-- THE SECOND FORM's CARD OF 'laws.FnExactUnitLine'. -/
def fnExactUnitLineUptoCard : Claim7 := { stood := { row := fnExactUnitLineUptoRow, standIns := [], harness := (true, "8d35fedfa9ef62f655c7b525fb07814fabf3f550e81d848b9096aaf9c5bb2286"), looks := true }, kinds := [], alts := [], laidByText := true, laidKinds := [.data, .data, .data], laidTests := true, laidLooks := .later }
def FnExactUnitLineUptoCardSaid : Prop := Claim7.holds Tryd.pinned (.plain (OpenSpec.upto fnExactUnitLineSpec)) fnExactUnitLineUptoCard

/-- THE SECOND FORM's CARD OF 'laws.FnExactRuleLine'. -/
def fnExactRuleLineUptoCard : Claim7 := { stood := { row := fnExactRuleLineUptoRow, standIns := [], harness := (true, "8d35fedfa9ef62f655c7b525fb07814fabf3f550e81d848b9096aaf9c5bb2286"), looks := true }, kinds := [], alts := [], laidByText := true, laidKinds := [.data, .data, .data], laidTests := true, laidLooks := .later }
def FnExactRuleLineUptoCardSaid : Prop := Claim7.holds Tryd.pinned (.plain (OpenSpec.upto fnExactRuleLineSpec)) fnExactRuleLineUptoCard

/-- THE SECOND FORM's CARD OF 'laws.FnExactRankLine'. -/
def fnExactRankLineUptoCard : Claim7 := { stood := { row := fnExactRankLineUptoRow, standIns := [], harness := (true, "8d35fedfa9ef62f655c7b525fb07814fabf3f550e81d848b9096aaf9c5bb2286"), looks := true }, kinds := [], alts := [], laidByText := true, laidKinds := [.data, .data, .data], laidTests := true, laidLooks := .later }
def FnExactRankLineUptoCardSaid : Prop := Claim7.holds Tryd.pinned (.plain (OpenSpec.upto fnExactRankLineSpec)) fnExactRankLineUptoCard

/-- THE SECOND FORM's CARD OF 'laws.FnExactCycleLine'. -/
def fnExactCycleLineUptoCard : Claim7 := { stood := { row := fnExactCycleLineUptoRow, standIns := [], harness := (true, "8d35fedfa9ef62f655c7b525fb07814fabf3f550e81d848b9096aaf9c5bb2286"), looks := true }, kinds := [], alts := [], laidByText := true, laidKinds := [.data, .data, .data], laidTests := true, laidLooks := .later }
def FnExactCycleLineUptoCardSaid : Prop := Claim7.holds Tryd.pinned (.plain (OpenSpec.upto fnExactCycleLineSpec)) fnExactCycleLineUptoCard

/-- THE SECOND FORM's CARD OF 'laws.FnExactParseNumbers'. -/
def fnExactParseNumbersUptoCard : Claim7 := { stood := { row := fnExactParseNumbersUptoRow, standIns := [], harness := (true, "8d35fedfa9ef62f655c7b525fb07814fabf3f550e81d848b9096aaf9c5bb2286"), looks := true }, kinds := [], alts := [], laidByText := true, laidKinds := [.data, .data, .data, .data, .sentinel, .sentinel, .pinned], laidTests := true, laidLooks := .later }
def FnExactParseNumbersUptoCardSaid : Prop := Claim7.holds Tryd.pinned (.plain (OpenSpec.upto fnExactParseNumbersSpec)) fnExactParseNumbersUptoCard

/-- THE SECOND FORM's CARD OF 'laws.FnExactSortLine'. -/
def fnExactSortLineUptoCard : Claim7 := { stood := { row := fnExactSortLineUptoRow, standIns := [], harness := (true, "8d35fedfa9ef62f655c7b525fb07814fabf3f550e81d848b9096aaf9c5bb2286"), looks := true }, kinds := [], alts := [], laidByText := true, laidKinds := [.data, .data, .data], laidTests := true, laidLooks := .later }
def FnExactSortLineUptoCardSaid : Prop := Claim7.holds Tryd.pinned (.plain (OpenSpec.upto fnExactSortLineSpec)) fnExactSortLineUptoCard
end Rows
end Go.Proofs.YtdpddbajeldgiaaDoor
