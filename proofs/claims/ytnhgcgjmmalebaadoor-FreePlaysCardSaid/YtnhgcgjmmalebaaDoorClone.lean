/- A row's copy; no condition. -/
import Derived.Test.YtnhgcgjmmalebaaDoorBase
set_option linter.unusedVariables false
set_option linter.unusedSimpArgs false
namespace Go.Proofs.YtnhgcgjmmalebaaDoor
open Go.XS

section
variable {B : Heap} {H : List HProp} {K : Value → HP}

/-- A row's copy. -/
theorem clone_int {a : Addr} {l c : Nat} {xs : List Int} (hl : l = xs.length) (hb : l ≤ 10000000) (hx : RdV B H (some a) (iv .i64 xs)) (hk : ∀ p' c', T B (osl 1 p' l c' (iv .i64 xs) :: H) (K (.slice p' l c'))) :
    T B H (callP P f_slices_Clone_int_int #[.slice (some a) l c] K) := by
  subst hl
  refine T_of (call_slices_Clone_int_int _ _ _) ?_
  unfold F_slices_Clone_int_int
  refine T_xif_f rfl (T_al fun k => T_oslOf 1 rfl (app34 (ys := iv .i64 xs) (by omega) hx.tail (by simp) (iv_one _ _) fun p' c' => ?_))
  simp only [Nat.zero_add, List.nil_append]
  exact hk p' c'

theorem clone_nil {l c : Nat} (hk : T B H (K (.slice none 0 0))) : T B H (callP P f_slices_Clone_int_int #[.slice none l c] K) := by
  refine T_of (call_slices_Clone_int_int _ _ _) ?_
  unfold F_slices_Clone_int_int
  exact T_xif_t rfl hk

end
end Go.Proofs.YtnhgcgjmmalebaaDoor
