/- The laws of the stack (layer 3): a stack that is none, the reference, the laws; no condition but the arguments' forms. -/
import Derived.Test.YtpnlldmmfbpmgaaStack
set_option linter.unusedVariables false
set_option linter.unusedSimpArgs false
namespace Go.Proofs.Ytpnlldmmfbpmgaa
open Go.XS

def zS : Array Value := #[.slice none 0 0, .slice none 0 0]

section
variable {B : Heap} {H : List HProp} {K : Value → HP} {z : Nat} {x : Int}

theorem stack_Place_nil (hk : T B H (K (.int .i64 (-1)))) : T B H (callP P f_stack_Stack_Place #[.pointer none, .int .i64 x] K) := by
  refine T_of (call_stack_Stack_Place _ _) ?_
  unfold F_stack_Stack_Place
  exact T_join (fun _ _ => False) (fun _ _ h => h.elim) fun R _ => T_xif_t rfl hk
theorem stack_Place_zero (hk : T B (cl z zS :: H) (K (.int .i64 (-1)))) : T B (cl z zS :: H) (callP P f_stack_Stack_Place #[.pointer (some ⟨z, 0, none⟩), .int .i64 x] K) := by
  refine T_of (call_stack_Stack_Place _ _) ?_
  unfold F_stack_Stack_Place
  simp only [adr_some, add_mk]
  exact T_join (fun _ _ => False) (fun _ _ h => h.elim) fun R _ => T_xif_f rfl (T_xif (fun _ => hk) fun h => T_ldS rfl (T_xif_t (by simp at h ⊢; omega) hk))
theorem stack_Push_nil (hk : T B H (K (.bool false))) : T B H (callP P f_stack_Stack_Push #[.pointer none, .int .i64 x] K) := by
  refine T_of (call_stack_Stack_Push _ _) ?_
  unfold F_stack_Stack_Push
  exact T_join (fun _ _ => False) (fun _ _ h => h.elim) fun R _ => T_xif_t rfl hk
theorem stack_Push_zero (hk : T B (cl z zS :: H) (K (.bool false))) : T B (cl z zS :: H) (callP P f_stack_Stack_Push #[.pointer (some ⟨z, 0, none⟩), .int .i64 x] K) := by
  refine T_of (call_stack_Stack_Push _ _) ?_
  unfold F_stack_Stack_Push
  simp only [adr_some, add_mk]
  exact T_join (fun _ _ => False) (fun _ _ h => h.elim) fun R _ => T_xif_f rfl (T_xif (fun _ => hk) fun h => T_ldS rfl (T_xif_t (by simp at h ⊢; omega) hk))
theorem stack_Top_nil (hk : T B H (K (.tuple #[.int .i64 0, .bool false]))) : T B H (callP P f_stack_Stack_Top #[.pointer none] K) := by
  refine T_of (call_stack_Stack_Top _) ?_
  unfold F_stack_Stack_Top
  exact T_join (fun _ _ => False) (fun _ _ h => h.elim) fun R _ => T_xif_t rfl hk
theorem stack_Top_zero (hk : T B (cl z zS :: H) (K (.tuple #[.int .i64 0, .bool false]))) : T B (cl z zS :: H) (callP P f_stack_Stack_Top #[.pointer (some ⟨z, 0, none⟩)] K) := by
  refine T_of (call_stack_Stack_Top _) ?_
  unfold F_stack_Stack_Top
  simp only [adr_some, add_mk]
  exact T_join (fun _ _ => False) (fun _ _ h => h.elim) fun R _ => T_xif_f rfl (T_ldS rfl (T_xif_t rfl hk))
theorem stack_Pop_nil (hk : T B H (K (.tuple #[.int .i64 0, .bool false]))) : T B H (callP P f_stack_Stack_Pop #[.pointer none] K) := by
  refine T_of (call_stack_Stack_Pop _) ?_
  unfold F_stack_Stack_Pop
  exact stack_Top_nil (T_ex _ (T_ex _ (T_and rfl (T_xif_f rfl hk))))
theorem stack_Drop_nil (hk : T B H (K (.bool false))) : T B H (callP P f_stack_Stack_Drop #[.pointer none, .int .i64 x] K) := by
  refine T_of (call_stack_Stack_Drop _ _) ?_
  unfold F_stack_Stack_Drop
  refine stack_Place_nil ?_
  simp only [asI_int]
  exact T_xif_t rfl hk
theorem stack_Drop_zero (hk : T B (cl z zS :: H) (K (.bool false))) : T B (cl z zS :: H) (callP P f_stack_Stack_Drop #[.pointer (some ⟨z, 0, none⟩), .int .i64 x] K) := by
  refine T_of (call_stack_Stack_Drop _ _) ?_
  unfold F_stack_Stack_Drop
  refine stack_Place_zero ?_
  simp only [asI_int]
  exact T_xif_t rfl hk
theorem stack_Len_nil (hk : T B H (K (.int .i64 0))) : T B H (callP P f_stack_Stack_Len #[.pointer none] K) := by
  refine T_of (call_stack_Stack_Len _) ?_
  unfold F_stack_Stack_Len
  exact T_xif_t rfl hk
theorem stack_Len_zero (hk : T B (cl z zS :: H) (K (.int .i64 0))) : T B (cl z zS :: H) (callP P f_stack_Stack_Len #[.pointer (some ⟨z, 0, none⟩)] K) := by
  refine T_of (call_stack_Stack_Len _) ?_
  unfold F_stack_Stack_Len
  simp only [adr_some, add_mk]
  exact T_xif_f rfl (T_ldS rfl hk)
theorem stack_List_nil (hk : T B H (K (.slice none 0 0))) : T B H (callP P f_stack_Stack_List #[.pointer none] K) := by
  refine T_of (call_stack_Stack_List _) ?_
  unfold F_stack_Stack_List
  exact T_xif_t rfl hk
theorem stack_List_zero (hk : T B (cl z zS :: H) (K (.slice none 0 0))) : T B (cl z zS :: H) (callP P f_stack_Stack_List #[.pointer (some ⟨z, 0, none⟩)] K) := by
  refine T_of (call_stack_Stack_List _) ?_
  unfold F_stack_Stack_List
  simp only [adr_some, add_mk]
  refine T_xif_f rfl (T_ldS rfl (clone_nil ?_))
  simp only [asS_slice]
  exact hk

theorem stack_works (hk : T B H (K (.bool true))) : T B H (callP P f_law03_works #[] K) := by
  refine T_of call_law03_works ?_
  unfold F_law03_works
  refine stack_New (n := 5) rfl (by omega) fun s => ?_
  simp only [asP_ptr]
  refine T_join (fun vs H' => vs = [.bool true] ∧ H' = stk s 5 [2, 1] :: H) ?_ fun R hR => ?_
  · rintro vs H' ⟨rfl, rfl⟩
    simp only [T_all, T_imp]
    intro b heq
    simp only [List.cons.injEq, Value.bool.injEq, and_true] at heq
    subst heq
    refine stack_Pop (T_ex _ (T_ex _ (T_and rfl (T_xif_t rfl (T_xif_t (by decide) (T_xif_t (by decide) (stack_Len ?_)))))))
    simp only [asI_int]
    refine T_xif_t (by decide) (stack_Place ?_)
    simp only [asI_int]
    refine T_xif_t (by decide) (stack_Place ?_)
    simp only [asI_int]
    exact T_drop (T_conv hk (congrArg Value.bool (by decide)))
  · refine stack_Push ?_
    simp only [asB_bool]
    refine T_xif_t (by decide) (stack_Push ?_)
    simp only [asB_bool]
    refine T_xif_t (by decide) (stack_Push ?_)
    simp only [asB_bool]
    refine T_xif_t (by decide) (stack_Push ?_)
    simp only [asB_bool]
    refine T_xif_t (by decide) (stack_Drop ?_)
    simp only [asB_bool]
    exact hR _ _ ⟨congrArg (fun b => [Value.bool b]) (by decide), rfl⟩

/-- What pushes and drops leave, whatever they are. -/
theorem law_StackPlaces {p q : Option Addr} {l c m d : Nat} {zs ws : List Int} (hr : Arg B p (iv .u8 zs)) (hl : l ≤ zs.length) (hr2 : Arg B q (iv .u8 ws)) (hm : m ≤ ws.length) (hk : T B H (K (.bool true))) :
    T B H (callP P f_law03_StackPlaces #[.slice p l c, .slice q m d] K) := by
  refine T_of (call_law03_StackPlaces _ _ _ _ _ _) ?_
  unfold F_law03_StackPlaces
  have hworks : ∀ H', T B H' (K (.bool true)) → T B H' (callP P f_law03_works #[] fun v => asB v fun b => K (.bool b)) := fun H' h => stack_works (by simpa only [asB_bool] using h)
  refine T_join (fun vs H' => vs = [] ∧ H = H' ∧ l ≤ 100 ∧ m ≤ 100) ?_ fun R hR => T_xif (fun _ => hworks _ hk) fun h => T_xif (fun _ => hworks _ hk) fun h2 => hR _ _ ⟨rfl, rfl, by simp at h; omega, by simp at h2; omega⟩
  rintro vs H' ⟨rfl, rfl, hl2, hm2⟩
  simp only [T_imp]
  intro _
  refine stack_New (n := 256) rfl (by omega) fun s => ?_
  simp only [asP_ptr]
  refine T_loop (fun vs H' => ∃ (i : Nat) (xs : List Int), i ≤ l ∧ vs = [.int .i64 (i : Int)] ∧ H' = stk s 256 xs :: H)
    (fun vs => match vs with | [.int _ i] => l - i.toNat | _ => 0) ⟨0, [], Nat.zero_le _, rfl, rfl⟩ ?_
  rintro vs H' R ⟨i, xs, hi, rfl, rfl⟩ hR
  simp only [T_all, T_imp]
  intro n heq
  simp only [List.cons.injEq, Value.int.injEq, true_and, and_true] at heq
  subst heq
  refine T_xif (fun hc => ?_) (fun hc => ?_)
  · have hlt : i < l := by simpa using hc
    obtain ⟨z, hz⟩ : ∃ z, zs[i]? = some z := ⟨_, List.getElem?_eq_getElem (by omega)⟩
    refine T_argI hr rfl hlt (iv_get hz) (stack_Push ?_)
    simp only [asB_bool]
    rw [wrap_succ (i := i) (by omega)]
    exact hR _ _ ⟨i + 1, _, by omega, rfl, rfl⟩ (by simp only [Int.toNat_natCast]; omega)
  refine T_loop (fun vs H' => ∃ (i : Nat) (xs : List Int), i ≤ m ∧ vs = [.int .i64 (i : Int)] ∧ H' = stk s 256 xs :: H)
    (fun vs => match vs with | [.int _ i] => m - i.toNat | _ => 0) ⟨0, xs, Nat.zero_le _, rfl, rfl⟩ ?_
  rintro vs H' R2 ⟨i, xs, hi, rfl, rfl⟩ hR2
  simp only [T_all, T_imp]
  intro n heq
  simp only [List.cons.injEq, Value.int.injEq, true_and, and_true] at heq
  subst heq
  refine T_xif (fun hc => ?_) (fun hc => ?_)
  · have hlt : i < m := by simpa using hc
    obtain ⟨z, hz⟩ : ∃ z, ws[i]? = some z := ⟨_, List.getElem?_eq_getElem (by omega)⟩
    refine T_argI hr2 rfl hlt (iv_get hz) (stack_Drop ?_)
    simp only [asB_bool]
    rw [wrap_succ (i := i) (by omega)]
    exact hR2 _ _ ⟨i + 1, _, by omega, rfl, rfl⟩ (by simp only [Int.toNat_natCast]; omega)
  refine T_unpure fun hf => T_topure hf ?_
  obtain ⟨hn, hb, _⟩ := hf
  have hlen := nodup_len 256 xs hn hb
  refine stack_List fun p' c' => ?_
  simp only [asS_slice]
  refine T_loop (fun vs H' => ∃ i : Nat, i ≤ xs.length ∧ vs = [.int .i64 (i : Int)] ∧ H' = osl 1 p' xs.length c' (iv .i64 xs) :: stk s 256 xs :: H)
    (fun vs => match vs with | [.int _ i] => xs.length - i.toNat | _ => 0) ⟨0, Nat.zero_le _, rfl, rfl⟩ ?_
  rintro vs H' R3 ⟨i, hi, rfl, rfl⟩ hR3
  simp only [T_all, T_imp]
  intro n heq
  simp only [List.cons.injEq, Value.int.injEq, true_and, and_true] at heq
  subst heq
  refine T_xif (fun hc => ?_) (fun hc => ?_)
  · have hlt : i < xs.length := by simpa using hc
    obtain ⟨z, hz⟩ : ∃ z, xs[i]? = some z := ⟨_, List.getElem?_eq_getElem hlt⟩
    refine T_rowI RdV.of_osl rfl hlt (iv_get hz) (T_perm (List.Perm.swap _ _ _) (stack_Place (T_perm (List.Perm.swap _ _ _) ?_)))
    simp only [asI_int]
    rw [wrap_succ (i := i) (by omega), pos_get hn hz]
    exact T_xif_f (by simp) (hR3 _ _ ⟨i + 1, by omega, rfl, rfl⟩ (by simp only [Int.toNat_natCast]; omega))
  refine T_drop (stack_Top (T_ex _ (T_ex _ (T_and rfl (stack_Len ?_)))))
  simp only [asI_int]
  refine T_xif_t (by simp) (T_xif_t (by simp) (T_xif (fun _ => hworks _ (T_drop hk)) fun h => stack_Place ?_))
  simp only [asI_int]
  have hpos : 0 < xs.length := by simpa using h
  rw [(last_pos hn hpos).1]
  refine T_xif_t ?_ (hworks _ (T_drop hk))
  rw [wrap_i64 (by omega) (by omega), show ((xs.length - 1 : Nat) : Int) = (xs.length : Int) - 1 by omega]
  simp

theorem law_StackOwn {a x : Int} (h0 : 0 ≤ a) (h1 : a ≤ 255) (h2 : 0 ≤ x) (h3 : x ≤ 255) (hk : T B H (K (.bool true))) :
    T B H (callP P f_law03_StackOwn #[.int .u8 a, .int .u8 x] K) := by
  refine T_of (call_law03_StackOwn _ _) ?_
  unfold F_law03_StackOwn
  obtain ⟨n, rfl⟩ : ∃ n : Nat, a = (n : Int) := ⟨a.toNat, by omega⟩
  have hw : IntKind.wrap .i64 (n : Int) = (n : Int) := wrap_i64 (by omega) (by omega)
  simp only [hw, wrap_i64 (n := x) (by omega) (by omega), wrap_succ (i := n) (by omega)]
  refine stack_New (n := n + 1) rfl (by omega) fun s => ?_
  simp only [asP_ptr]
  have hy0 : 0 ≤ x.tmod ((n + 1 : Nat) : Int) := Int.tmod_nonneg _ h2
  have hy1 : x.tmod ((n + 1 : Nat) : Int) < ((n + 1 : Nat) : Int) := Int.tmod_lt_of_pos _ (by omega)
  generalize x.tmod ((n + 1 : Nat) : Int) = y at hy0 hy1
  have hp : posOf [] y < 0 := by simp [posOf]
  have hok : pushOk (n + 1) [] y = true := decide_eq_true ⟨hy0, hy1, hp⟩
  refine T_xif_f rfl (T_req (by omega) (stack_Push ?_))
  rw [pushed, hok, if_pos rfl]
  simp only [asB_bool, List.nil_append]
  refine stack_List fun p' c' => ?_
  simp only [asS_slice, List.length_cons, List.length_nil]
  refine T_xif_f (by decide) (T_oslCases (fun _ _ h _ => by cases h) fun b rest hb _ _ _ => ?_)
  subst hb
  refine T_adr (T_req ⟨by omega, by omega⟩ ?_)
  simp only [add_mk]
  refine T_st (by simp [iv]) rfl (T_drop ?_)
  refine stack_Pop (T_ex _ (T_ex _ (T_and rfl (stack_Pop (T_ex _ (T_ex _ (T_and rfl ?_)))))))
  refine T_drop (T_al fun z => stack_Pop_nil (T_ex _ (T_ex _ (T_and rfl (stack_Top_zero (T_ex _ (T_ex _ (T_and rfl ?_))))))))
  refine T_xif_t rfl (T_xif_t (by simp) (T_xif_t rfl (T_xif_t rfl (stack_Push_nil ?_))))
  simp only [asB_bool]
  refine T_xif_t rfl (stack_Push_zero ?_)
  simp only [asB_bool]
  refine T_xif_t rfl (stack_Drop_nil ?_)
  simp only [asB_bool]
  refine T_xif_t rfl (stack_Drop_zero ?_)
  simp only [asB_bool]
  refine T_xif_t rfl (stack_Len_nil ?_)
  simp only [asI_int]
  refine stack_Len_zero ?_
  simp only [asI_int]
  refine T_xif_t (by decide) (stack_Place_nil ?_)
  simp only [asI_int]
  refine T_xif_t (by decide) (stack_Place_zero ?_)
  simp only [asI_int]
  refine T_xif_t (by decide) (T_xif_t rfl (T_xif_t rfl (stack_List_nil ?_)))
  simp only [asS_slice]
  refine stack_List_zero ?_
  simp only [asS_slice]
  refine T_xif_t (by decide) (stack_works ?_)
  simp only [asB_bool]
  exact T_drop hk

end
end Go.Proofs.Ytpnlldmmfbpmgaa
