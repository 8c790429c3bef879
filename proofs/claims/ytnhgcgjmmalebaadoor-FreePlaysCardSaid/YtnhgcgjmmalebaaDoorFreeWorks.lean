/- The example of the free chunks (layer 17); no condition. -/
import Derived.Test.YtnhgcgjmmalebaaDoorFree
set_option linter.unusedVariables false
set_option linter.unusedSimpArgs false
namespace Go.Proofs.YtnhgcgjmmalebaaDoor
open Go.XS

section
variable {B : Heap} {H : List HProp} {K : Value → HP}

theorem free_works (hk : T B H (K (.bool true))) : T B H (callP P f_law17_works #[] K) := by
  refine T_of call_law17_works ?_
  unfold F_law17_works
  refine free_New (n := 3) (by omega) fun f => ?_
  simp only [asP_ptr]
  rw [show downTo 3 0 = [2, 1, 0] by decide]
  refine free_Take (T_ex _ (T_ex _ (T_and rfl (free_Give ?_))))
  rw [show pushed 3 ([2, 1, 0] : List Int).dropLast 0 = [2, 1, 0] by decide]
  simp only [asB_bool]
  refine free_Take (T_ex _ (T_ex _ (T_and rfl (free_Pick ?_))))
  rw [show dropped ([2, 1, 0] : List Int).dropLast 1 = [2] by decide]
  simp only [asB_bool]
  refine free_Take (T_ex _ (T_ex _ (T_and rfl ?_)))
  refine T_xif_t (by decide) (T_xif_t (by decide) (T_xif_t (by decide) (T_xif_t (by decide) (T_xif_t (by decide) (T_xif_t (by decide) (T_xif_t (by decide) (T_xif_t (by decide) (free_Len ?_))))))))
  simp only [asI_int]
  exact T_drop (T_conv hk (congrArg Value.bool (by decide)))

end
end Go.Proofs.YtnhgcgjmmalebaaDoor
