/-
  DERIVED. GIVEN WITH THE SEED: THE CARDS: each row of YtkapbhlnjmfaaaaDoorRows.lean that lists a variable, with what it lists TIED to the program's text (the seventh form; the later family's looks); each row that meets fmt, with fmt's text TOLD by the authors' own Lean function (tested against real Go, not proved from fmt's source: count such statements apart). THE CARD IS WHAT COUNTS. Prove the row's statement (the work); the ties are given (YtkapbhlnjmfaaaaDoorTie.lean); close each card by the builder's one call (the guide's Derived/Test/ToyasCard.lean, 'card_holds'). Laid BY PROGRAM, IN A SANDBOX (cutbox-door.mjs). By AI agents, Wed Nov 11 2026. No macro, syntax, notation, axiom, sorry.
-/
import Derived.Test.YtkapbhlnjmfaaaaDoorRows
import GoSem.ClaimSeven
namespace Go.Proofs.YtkapbhlnjmfaaaaDoor
namespace Rows

/-- THE TIED CARD OF 'laws.FnReduced'. -/
def fnReducedCard : Claim7 := { stood := { row := fnReducedRow, standIns := [], harness := (true, "58101124bb3cd784f3d1a866bb20ae3bf12331cbb75945e911493b7335f8c9f2"), looks := false }, kinds := [], alts := [], laidByText := true, laidKinds := [.data, .data, .data], laidTests := true, laidLooks := .later }
def FnReducedCardSaid : Prop := Claim7.holds Tryd.pinned (.plain (OpenSpec.ofChange fnReducedSpec)) fnReducedCard

/-- THE TIED CARD OF 'laws.FnMachines'. -/
def fnMachinesCard : Claim7 := { stood := { row := fnMachinesRow, standIns := [], harness := (true, "58101124bb3cd784f3d1a866bb20ae3bf12331cbb75945e911493b7335f8c9f2"), looks := false }, kinds := [], alts := [], laidByText := true, laidKinds := [.data, .data, .data], laidTests := true, laidLooks := .later }
def FnMachinesCardSaid : Prop := Claim7.holds Tryd.pinned (.plain (OpenSpec.ofChange fnMachinesSpec)) fnMachinesCard

/-- THE TIED CARD OF 'laws.FnExactMachineLine'. -/
def fnExactMachineLineCard : Claim7 := { stood := { row := fnExactMachineLineRow, standIns := [], harness := (true, "58101124bb3cd784f3d1a866bb20ae3bf12331cbb75945e911493b7335f8c9f2"), looks := false }, kinds := [], alts := [], laidByText := true, laidKinds := [.data, .data, .data], laidTests := true, laidLooks := .later }
def FnExactMachineLineCardSaid : Prop := Claim7.holds Tryd.pinned (.plain (OpenSpec.ofChange fnExactMachineLineSpec)) fnExactMachineLineCard

/-- THE SECOND FORM's CARD OF 'laws.FnReduced'. -/
def fnReducedUptoCard : Claim7 := { stood := { row := fnReducedUptoRow, standIns := [], harness := (true, "58101124bb3cd784f3d1a866bb20ae3bf12331cbb75945e911493b7335f8c9f2"), looks := false }, kinds := [], alts := [], laidByText := true, laidKinds := [.data, .data, .data], laidTests := true, laidLooks := .later }
def FnReducedUptoCardSaid : Prop := Claim7.holds Tryd.pinned (.plain (OpenSpec.upto fnReducedSpec)) fnReducedUptoCard

/-- THE SECOND FORM's CARD OF 'laws.FnMachines'. -/
def fnMachinesUptoCard : Claim7 := { stood := { row := fnMachinesUptoRow, standIns := [], harness := (true, "58101124bb3cd784f3d1a866bb20ae3bf12331cbb75945e911493b7335f8c9f2"), looks := false }, kinds := [], alts := [], laidByText := true, laidKinds := [.data, .data, .data], laidTests := true, laidLooks := .later }
def FnMachinesUptoCardSaid : Prop := Claim7.holds Tryd.pinned (.plain (OpenSpec.upto fnMachinesSpec)) fnMachinesUptoCard

/-- THE SECOND FORM's CARD OF 'laws.FnExactMachineLine'. -/
def fnExactMachineLineUptoCard : Claim7 := { stood := { row := fnExactMachineLineUptoRow, standIns := [], harness := (true, "58101124bb3cd784f3d1a866bb20ae3bf12331cbb75945e911493b7335f8c9f2"), looks := false }, kinds := [], alts := [], laidByText := true, laidKinds := [.data, .data, .data], laidTests := true, laidLooks := .later }
def FnExactMachineLineUptoCardSaid : Prop := Claim7.holds Tryd.pinned (.plain (OpenSpec.upto fnExactMachineLineSpec)) fnExactMachineLineUptoCard
end Rows
end Go.Proofs.YtkapbhlnjmfaaaaDoor
