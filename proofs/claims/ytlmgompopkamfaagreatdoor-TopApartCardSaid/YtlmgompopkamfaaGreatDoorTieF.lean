/- A closed fact of the program, by the kernel; no condition. -/
import Derived.Test.YtlmgompopkamfaaGreatDoorTieB
set_option maxRecDepth 100000
namespace Go.Proofs.YtlmgompopkamfaaGreatDoor
open Go
theorem tie_k:tieL.map (λx=>Tryz.prog.kindOfLater x.1)=tieK.map some:=by kernel_rfl
