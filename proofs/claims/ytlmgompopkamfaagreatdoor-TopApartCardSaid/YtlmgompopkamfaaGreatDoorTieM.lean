/- A closed fact of the program, by the kernel; no condition. -/
import Derived.Test.YtlmgompopkamfaaGreatDoorTieB
set_option maxRecDepth 100000
namespace Go.Proofs.YtlmgompopkamfaaGreatDoor
open Go
theorem tie_u:Tryz.pinned.checked.prog.headLifts.contains "ownunsafe" =false:=by kernel_rfl
