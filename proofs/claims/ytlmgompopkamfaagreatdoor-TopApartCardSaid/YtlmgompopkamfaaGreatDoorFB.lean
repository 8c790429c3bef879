/- A closed fact of the row; no condition. -/
import Derived.Test.YtlmgompopkamfaaGreatDoorTieB
import Derived.JoinedOf
set_option linter.all false
set_option maxRecDepth 100000
namespace Go.Proofs.YtlmgompopkamfaaGreatDoor.topApart
open Go
theorem lo_2 : Tryz.prog.globals.all (fun g => decide (g.type < Tryz.prog.types.size)) = true := by kernel_rfl
theorem lo_3 : Tryz.prog.funcs.all (fun f => f.params.all fun t => decide (t < Tryz.prog.types.size)) = true := by kernel_rfl
