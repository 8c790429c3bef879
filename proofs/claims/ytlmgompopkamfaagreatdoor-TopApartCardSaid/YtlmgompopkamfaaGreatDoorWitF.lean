/- A closed fact of the program, by the kernel; no condition. -/
import Derived.Test.YtlmgompopkamfaaGreatDoorTieB
set_option maxRecDepth 100000
namespace Go.Proofs.YtlmgompopkamfaaGreatDoor
open Go
theorem wit_6:∀os,((witC os).heap.toList.drop Tryz.prog.globals.size).take ((begin Tryz.prog (λ_ _=>0) default).world.heap.size-Tryz.prog.globals.size)=(begin Tryz.prog (λ_ _=>0) default).world.heap.toList.drop Tryz.prog.globals.size:=λ_=>by kernel_rfl
