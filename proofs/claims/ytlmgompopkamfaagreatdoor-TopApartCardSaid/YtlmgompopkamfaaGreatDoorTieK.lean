/- A closed fact of the program, by the kernel; no condition. -/
import Derived.Test.YtlmgompopkamfaaGreatDoorTieB
set_option maxRecDepth 100000
namespace Go.Proofs.YtlmgompopkamfaaGreatDoor
open Go
theorem tie_2:∀os tape,(DataW.laidRun Tryz.prog (varsWorld Tryz.prog 400 (varsId Tryz.prog) os tape).memory 8 ((tieL.filter λx=>x.2.handleName?.isNone).map (·.1))).map (λx=>decide x.2.Nodup&&laidRowsB Tryz.prog (varsWorld Tryz.prog 400 (varsId Tryz.prog) os tape).memory x.2)=some true:=λ_ _=>by kernel_rfl
