/- Slices of strings of the call's own, and Join. Conditions: those of each contract. -/
import Derived.Test.YtkapbhlnjmfaaaaDoorBase
import Derived.Test.YtkapbhlnjmfaaaaDoorShelf
import Derived.Lib.Join
import Derived.BigQuiet
import Derived.Deep.QuietTactic
import Derived.Deep.RegionWith
import Derived.Outline
namespace Go.Proofs.YtkapbhlnjmfaaaaDoor
set_option linter.unusedVariables false
open Go.RowKit

theorem ba_app (a b : List UInt8) : (⟨a.toArray⟩ : ByteArray) ++ ⟨b.toArray⟩ = ⟨(a ++ b).toArray⟩ := by
  apply ByteArray.ext
  show ByteArray.data (ByteArray.append _ _) = _
  simp [ByteArray.append]
theorem info_str : (Tryd.prog.info? 9).map (fun i => (i.zero, i.size, i.bytes)) = some (some (.string ⟨#[]⟩), 1, 16) := by kernel_rfl

end Go.Proofs.YtkapbhlnjmfaaaaDoor
