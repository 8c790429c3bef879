/- A closed fact of the row; no condition. -/
import Derived.Test.YtlmgompopkamfaaGreatDoorTieB
import Derived.JoinedOf
import Derived.SevenTiedAt
import Derived.ProofKit
import Derived.ChangeOld
import Derived.Below
import Derived.OpenShut
set_option linter.all false
set_option maxRecDepth 100000
namespace Go.Proofs.YtlmgompopkamfaaGreatDoor.topApart
open Go
theorem pre {H : Type} (enc : TypeId × Value → H) (os : Os) : Rows.topApartSpec.preB enc Tryz.prog Tryz.f4 [] false (witC os).memory wargs 8 = true := by kernel_rfl
theorem siz {H : Type} (enc : TypeId × Value → H) (os : Os) : Rows.topApartSpec.sizedB enc Tryz.prog Tryz.f4 false (witC os).memory wargs 8 = true := by kernel_rfl
