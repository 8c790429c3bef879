/- A closed fact of the row; no condition. -/
import Derived.Test.YtlmgompopkamfaaGreatDoorTieB
import Derived.JoinedOf
import Derived.SevenTiedAt
import Derived.ProofKit
import Derived.ChangeOld
import Derived.Below
import Derived.OpenShut
set_option linter.all false
set_option maxRecDepth 100000
namespace Go.Proofs.YtlmgompopkamfaaGreatDoor.topWhole
open Go
theorem pre {H : Type} (enc : TypeId × Value → H) (os : Os) : Rows.topWholeSpec.preB enc Tryz.prog Tryz.f3 [] false (witC os).memory wargs 8 = true := by kernel_rfl
theorem siz {H : Type} (enc : TypeId × Value → H) (os : Os) : Rows.topWholeSpec.sizedB enc Tryz.prog Tryz.f3 false (witC os).memory wargs 8 = true := by kernel_rfl
