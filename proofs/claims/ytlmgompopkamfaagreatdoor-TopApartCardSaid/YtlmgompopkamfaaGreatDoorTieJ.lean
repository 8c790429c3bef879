/- A closed fact of the program, by the kernel; no condition. -/
import Derived.Test.YtlmgompopkamfaaGreatDoorTieB
set_option maxRecDepth 100000
namespace Go.Proofs.YtlmgompopkamfaaGreatDoor
open Go
theorem tie_1:∀os tape,(DataW.laidRun Tryz.prog (varsWorld Tryz.prog 400 (varsId Tryz.prog) os tape).memory 8 ((tieL.filter λx=>x.2.handleName?.isNone).map (·.1))).map (·.1)=some (tieL.filter λx=>x.2.handleName?.isNone):=λ_ _=>by kernel_rfl
