/-
  DERIVED. GIVEN WITH THE SEED: THE CARDS: each row of YthehhlamhkhlpaaDoorRows.lean that lists a variable, with what it lists TIED to the program's text (the seventh form; the later family's looks); each row that meets fmt, with fmt's text TOLD by the authors' own Lean function (tested against real Go, not proved from fmt's source: count such statements apart). THE CARD IS WHAT COUNTS. Prove the row's statement (the work); the ties are given (YthehhlamhkhlpaaDoorTie.lean); close each card by the builder's one call (the guide's Derived/Test/ToyasCard.lean, 'card_holds'). Laid BY PROGRAM, IN A SANDBOX (cutbox-door.mjs). By AI agents, Wed Nov 11 2026. No macro, syntax, notation, axiom, sorry.
-/
import Derived.Test.YthehhlamhkhlpaaDoorRows
import GoSem.ClaimSeven
namespace Go.Proofs.YthehhlamhkhlpaaDoor
namespace Rows

/-- THE TIED CARD OF 'laws.FnExactLetterSum'. -/
def fnExactLetterSumCard : Claim7 := { stood := { row := fnExactLetterSumRow, standIns := [], harness := (true, "7be14d83baff252bcffde0a90440edf9aae2d677318cb33bd4961d0c4c44b052"), looks := false }, kinds := [], alts := [], laidByText := true, laidKinds := [.data], laidTests := true, laidLooks := .later }
def FnExactLetterSumCardSaid : Prop := Claim7.holds Tryd.pinned (.plain (OpenSpec.ofChange fnExactLetterSumSpec)) fnExactLetterSumCard

/-- THE TIED CARD OF 'laws.FnExactLooseValue'. -/
def fnExactLooseValueCard : Claim7 := { stood := { row := fnExactLooseValueRow, standIns := [], harness := (true, "7be14d83baff252bcffde0a90440edf9aae2d677318cb33bd4961d0c4c44b052"), looks := false }, kinds := [], alts := [], laidByText := true, laidKinds := [.data], laidTests := true, laidLooks := .later }
def FnExactLooseValueCardSaid : Prop := Claim7.holds Tryd.pinned (.plain (OpenSpec.ofChange fnExactLooseValueSpec)) fnExactLooseValueCard

/-- THE TIED CARD OF 'laws.FnExactAdditiveRoman'. -/
def fnExactAdditiveRomanCard : Claim7 := { stood := { row := fnExactAdditiveRomanRow, standIns := [], harness := (true, "7be14d83baff252bcffde0a90440edf9aae2d677318cb33bd4961d0c4c44b052"), looks := false }, kinds := [], alts := [], laidByText := true, laidKinds := [.data], laidTests := true, laidLooks := .later }
def FnExactAdditiveRomanCardSaid : Prop := Claim7.holds Tryd.pinned (.plain (OpenSpec.ofChange fnExactAdditiveRomanSpec)) fnExactAdditiveRomanCard

/-- THE TIED CARD OF 'laws.FnExactParseRoman'. -/
def fnExactParseRomanCard : Claim7 := { stood := { row := fnExactParseRomanRow, standIns := [], harness := (true, "7be14d83baff252bcffde0a90440edf9aae2d677318cb33bd4961d0c4c44b052"), looks := false }, kinds := [], alts := [], laidByText := true, laidKinds := [.data], laidTests := true, laidLooks := .later }
def FnExactParseRomanCardSaid : Prop := Claim7.holds Tryd.pinned (.plain (OpenSpec.ofChange fnExactParseRomanSpec)) fnExactParseRomanCard

/-- THE TIED CARD OF 'laws.FnNotations'. -/
def fnNotationsCard : Claim7 := { stood := { row := fnNotationsRow, standIns := [], harness := (true, "7be14d83baff252bcffde0a90440edf9aae2d677318cb33bd4961d0c4c44b052"), looks := false }, kinds := [], alts := [], laidByText := true, laidKinds := [.data], laidTests := true, laidLooks := .later }
def FnNotationsCardSaid : Prop := Claim7.holds Tryd.pinned (.plain (OpenSpec.ofChange fnNotationsSpec)) fnNotationsCard

/-- THE SECOND FORM's CARD OF 'laws.FnExactLetterSum'. -/
def fnExactLetterSumUptoCard : Claim7 := { stood := { row := fnExactLetterSumUptoRow, standIns := [], harness := (true, "7be14d83baff252bcffde0a90440edf9aae2d677318cb33bd4961d0c4c44b052"), looks := false }, kinds := [], alts := [], laidByText := true, laidKinds := [.data], laidTests := true, laidLooks := .later }
def FnExactLetterSumUptoCardSaid : Prop := Claim7.holds Tryd.pinned (.plain (OpenSpec.upto fnExactLetterSumSpec)) fnExactLetterSumUptoCard

/-- THE SECOND FORM's CARD OF 'laws.FnExactLooseValue'. -/
def fnExactLooseValueUptoCard : Claim7 := { stood := { row := fnExactLooseValueUptoRow, standIns := [], harness := (true, "7be14d83baff252bcffde0a90440edf9aae2d677318cb33bd4961d0c4c44b052"), looks := false }, kinds := [], alts := [], laidByText := true, laidKinds := [.data], laidTests := true, laidLooks := .later }
def FnExactLooseValueUptoCardSaid : Prop := Claim7.holds Tryd.pinned (.plain (OpenSpec.upto fnExactLooseValueSpec)) fnExactLooseValueUptoCard

/-- THE SECOND FORM's CARD OF 'laws.FnExactAdditiveRoman'. -/
def fnExactAdditiveRomanUptoCard : Claim7 := { stood := { row := fnExactAdditiveRomanUptoRow, standIns := [], harness := (true, "7be14d83baff252bcffde0a90440edf9aae2d677318cb33bd4961d0c4c44b052"), looks := false }, kinds := [], alts := [], laidByText := true, laidKinds := [.data], laidTests := true, laidLooks := .later }
def FnExactAdditiveRomanUptoCardSaid : Prop := Claim7.holds Tryd.pinned (.plain (OpenSpec.upto fnExactAdditiveRomanSpec)) fnExactAdditiveRomanUptoCard

/-- THE SECOND FORM's CARD OF 'laws.FnExactParseRoman'. -/
def fnExactParseRomanUptoCard : Claim7 := { stood := { row := fnExactParseRomanUptoRow, standIns := [], harness := (true, "7be14d83baff252bcffde0a90440edf9aae2d677318cb33bd4961d0c4c44b052"), looks := false }, kinds := [], alts := [], laidByText := true, laidKinds := [.data], laidTests := true, laidLooks := .later }
def FnExactParseRomanUptoCardSaid : Prop := Claim7.holds Tryd.pinned (.plain (OpenSpec.upto fnExactParseRomanSpec)) fnExactParseRomanUptoCard

/-- THE SECOND FORM's CARD OF 'laws.FnNotations'. -/
def fnNotationsUptoCard : Claim7 := { stood := { row := fnNotationsUptoRow, standIns := [], harness := (true, "7be14d83baff252bcffde0a90440edf9aae2d677318cb33bd4961d0c4c44b052"), looks := false }, kinds := [], alts := [], laidByText := true, laidKinds := [.data], laidTests := true, laidLooks := .later }
def FnNotationsUptoCardSaid : Prop := Claim7.holds Tryd.pinned (.plain (OpenSpec.upto fnNotationsSpec)) fnNotationsUptoCard
end Rows
end Go.Proofs.YthehhlamhkhlpaaDoor
