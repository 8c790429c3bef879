/- A closed fact of the program, by the kernel; no condition. -/
import Derived.Test.YtlmgompopkamfaaGreatDoorTieB
set_option maxRecDepth 100000
namespace Go.Proofs.YtlmgompopkamfaaGreatDoor
open Go
theorem wit_4:∀os,funcsRun Tryz.prog (witC os).memory 8 ((funcsListed theLaid).map (·.1))=some ((funcsListed theLaid).map (·.2.funcsOut)):=λ_=>by kernel_rfl
