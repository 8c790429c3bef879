/- A closed fact of the program, by the kernel; no condition. -/
import Derived.Test.YtlmgompopkamfaaGreatDoorTieB
set_option maxRecDepth 100000
namespace Go.Proofs.YtlmgompopkamfaaGreatDoor
open Go
theorem wit_3:∀os,((theLaid.filter λx=>x.2.handleName?.isSome&&x.2.funcsIn?.isNone).all (handleAtB Tryz.prog (witC os).memory))=true:=λ_=>by kernel_rfl
