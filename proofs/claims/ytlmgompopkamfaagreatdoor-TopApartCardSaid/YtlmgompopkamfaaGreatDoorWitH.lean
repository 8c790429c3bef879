/- A closed fact of the program, by the kernel; no condition. -/
import Derived.Test.YtlmgompopkamfaaGreatDoorTieB
set_option maxRecDepth 100000
namespace Go.Proofs.YtlmgompopkamfaaGreatDoor
open Go
theorem wit_8:∀os,(DataW.laidRun Tryz.prog (witC os).memory 8 ((theLaid.filter λx=>x.2.handleName?.isNone).map (·.1))).map (λx=>laidRowsB Tryz.prog (witC os).memory x.2)=some true:=λ_=>by kernel_rfl
