/- A stack (layer 3): its list; no condition. -/
import Derived.Test.YtnhgcgjmmalebaaDoorStack
import Derived.Test.YtnhgcgjmmalebaaDoorClone
set_option linter.unusedVariables false
set_option linter.unusedSimpArgs false
namespace Go.Proofs.YtnhgcgjmmalebaaDoor
open Go.XS

section
variable {B : Heap} {H : List HProp} {K : Value → HP} {s n : Nat} {xs : List Int}

theorem stack_List (hk : ∀ p' c', T B (osl 1 p' xs.length c' (iv .i64 xs) :: stk s n xs :: H) (K (.slice p' xs.length c'))) : T B (stk s n xs :: H) (callP P f_stack_Stack_List #[.pointer (some ⟨s, 0, none⟩)] K) := by
  refine stk_open fun h1 h2 h3 rm junk h4 => ?_
  refine T_of (call_stack_Stack_List _) ?_
  unfold F_stack_Stack_List
  simp only [adr_some, add_mk]
  refine T_xif_f rfl (T_ldS rfl (clone_int rfl (by omega) (RdV.of_cl fun i hi => ?_) fun p' c' => ?_))
  · simp only [iv_length] at hi
    obtain ⟨z, hz⟩ : ∃ z, xs[i]? = some z := ⟨_, List.getElem?_eq_getElem hi⟩
    rw [get_list hz, iv_get hz]
  · simp only [asS_slice]
    refine T_perm (.trans (.swap _ _ _) (.cons _ (.swap _ _ _))) ?_
    refine stk_close h1 h2 h3 h4 ?_
    exact T_perm (List.Perm.swap _ _ _) (hk p' c')

end
end Go.Proofs.YtnhgcgjmmalebaaDoor
