/- A closed fact of the row; no condition. -/
import Derived.Test.YtlmgompopkamfaaGreatDoorTieB
import Derived.JoinedOf
set_option linter.all false
set_option maxRecDepth 100000
namespace Go.Proofs.YtlmgompopkamfaaGreatDoor.topWhole
open Go
theorem jf_named : (Rows.topWholeRow.named == Tryz.prog.varsNamed 3) = true := by kernel_rfl
