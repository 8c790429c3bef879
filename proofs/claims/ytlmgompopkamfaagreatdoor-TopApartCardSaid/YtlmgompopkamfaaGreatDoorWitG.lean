/- A closed fact of the program, by the kernel; no condition. -/
import Derived.Test.YtlmgompopkamfaaGreatDoorTieB
set_option maxRecDepth 100000
namespace Go.Proofs.YtlmgompopkamfaaGreatDoor
open Go
theorem wit_7:∀os,Input.okWideB Tryz.prog (witC os) 3 ⟨#[],wargs,[]⟩=true/\Input.okWideB Tryz.prog (witC os) 4 ⟨#[],wargs,[]⟩=true:=λ_=>⟨by kernel_rfl,by kernel_rfl⟩
