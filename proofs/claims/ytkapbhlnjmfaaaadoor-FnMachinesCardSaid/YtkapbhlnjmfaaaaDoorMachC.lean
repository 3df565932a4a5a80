/- Machines: the reference's RunMachine; AcceptsNumber; LeastAccepted. Conditions: those of each contract. -/
import Derived.Test.YtkapbhlnjmfaaaaDoorMachB
namespace Go.Proofs.YtkapbhlnjmfaaaaDoor
set_option linter.unusedVariables false
open Go.RowKit


end Go.Proofs.YtkapbhlnjmfaaaaDoor
