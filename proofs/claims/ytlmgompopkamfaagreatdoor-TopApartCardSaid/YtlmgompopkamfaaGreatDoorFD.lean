/- A closed fact of the row; no condition. -/
import Derived.Test.YtlmgompopkamfaaGreatDoorTieB
import Derived.JoinedOf
set_option linter.all false
set_option maxRecDepth 100000
namespace Go.Proofs.YtlmgompopkamfaaGreatDoor.topApart
open Go
theorem jf_inPlace : (Rows.topApartRow.inPlace == Tryz.prog.inPlace 4) = true := by kernel_rfl
