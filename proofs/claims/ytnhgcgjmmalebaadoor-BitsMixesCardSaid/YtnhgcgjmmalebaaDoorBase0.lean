/- Rows of numbers, as values; no condition. -/
import Derived.Test.YtnhgcgjmmalebaaDoorGen
import Derived.Test.YtnhgcgjmmalebaaDoorXv
set_option linter.unusedVariables false
set_option linter.unusedSimpArgs false
namespace Go.Proofs.YtnhgcgjmmalebaaDoor
open Go.XS

section
variable {B : Heap} {H : List HProp} {K : Value → HP}

theorem T_conv {v w : Value} (h : T B H (K v)) (e : v = w) : T B H (K w) := e ▸ h

theorem iv_one (k : IntKind) (zs : List Int) : ∀ v ∈ iv k zs, v.oneCell' = true := by
  intro v hv
  obtain ⟨z, _, rfl⟩ := List.mem_map.1 hv
  rfl



theorem iv_append (k : IntKind) (xs ys : List Int) : iv k (xs ++ ys) = iv k xs ++ iv k ys := by simp [iv]
theorem iv_take (k : IntKind) (xs : List Int) (n : Nat) : (iv k xs).take n = iv k (xs.take n) := by simp [iv]

theorem rd_cl {b : Nat} {zs : List Int} {cs : Array Value} [h : HasC B H b cs] (hc : cs = (iv .i64 zs).toArray) : RdV B H (some ⟨b, 0, none⟩) (iv .i64 zs) := by
  subst hc
  refine RdV.of_cl fun i hi => ?_
  simp

end
end Go.Proofs.YtnhgcgjmmalebaaDoor
