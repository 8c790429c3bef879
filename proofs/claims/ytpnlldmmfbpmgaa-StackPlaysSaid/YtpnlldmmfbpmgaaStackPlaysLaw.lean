/- The law of the stack: plays (layer 3); no condition but the forms of its arguments. -/
import Derived.Test.YtpnlldmmfbpmgaaStackPlays
set_option linter.unusedVariables false
set_option linter.unusedSimpArgs false
namespace Go.Proofs.Ytpnlldmmfbpmgaa
open Go.XS

def actsV (acts : List (Int × Int)) : List Value := acts.flatMap fun a => [.int .i64 a.1, .int .i64 a.2]

theorem acts_get : ∀ (acts : List (Int × Int)) (i : Nat) (a : Int × Int), acts[i]? = some a → (actsV acts)[i * 2 + 0]? = some (.int .i64 a.1) ∧ (actsV acts)[i * 2 + 1]? = some (.int .i64 a.2)
  | [], i, a, h => by simp at h
  | b :: acts, 0, a, h => by
    simp at h; subst h
    exact ⟨rfl, rfl⟩
  | b :: acts, i + 1, a, h => by
    have := acts_get acts i a (by simpa using h)
    have e : ∀ j, (actsV (b :: acts))[(i + 1) * 2 + j]? = (actsV acts)[i * 2 + j]? := by
      intro j
      show ([.int .i64 b.1, .int .i64 b.2] ++ actsV acts)[(i + 1) * 2 + j]? = _
      rw [List.getElem?_append_right (by simp; omega)]
      congr 1
      simp; omega
    rw [e, e]
    exact this

section
variable {B : Heap} {H : List HProp} {K : Value → HP}

theorem stk_facts {s n : Nat} {xs : List Int} {p : HP} (t : xs.Nodup → (∀ x ∈ xs, 0 ≤ x ∧ x < (n : Int)) → xs.length ≤ n → T B (stk s n xs :: H) p) : T B (stk s n xs :: H) p :=
  T_unpure fun hf => T_topure hf (t hf.1 hf.2.1 (nodup_len n xs hf.1 hf.2.1))

theorem law_StackPlays {size : Int} {p : Option Addr} {l c : Nat} {acts : List (Int × Int)} (hr : Arg B p (actsV acts)) (hl : l ≤ acts.length) (hk : T B H (K (.bool true))) :
    T B H (callP P f_law03_StackPlays #[.int .i64 size, .slice p l c] K) := by
  refine T_of (call_law03_StackPlays _ _ _ _) ?_
  unfold F_law03_StackPlays
  have hworks : ∀ H', T B H' (K (.bool true)) → T B H' (callP P f_law03_works #[] fun v => asB v fun b => K (.bool b)) := fun H' h => stack_works (by simpa only [asB_bool] using h)
  refine T_join (fun vs H' => vs = [] ∧ H = H' ∧ l ≤ 60 ∧ (size ≤ 300 ∨ 1048576 < size)) ?_ fun R hR => ?_
  rotate_left
  · refine T_xif (fun _ => hworks _ hk) fun h => ?_
    have hl2 : l ≤ 60 := by simp at h; omega
    refine T_xif (fun h2 => T_xif (fun _ => hworks _ hk) fun h3 => hR _ _ ⟨rfl, rfl, hl2, .inr (by simp at h3; omega)⟩) fun h2 => hR _ _ ⟨rfl, rfl, hl2, .inl (by simp at h2; omega)⟩
  rintro vs H' ⟨rfl, rfl, hl2, hsz⟩
  simp only [T_imp]
  intro _
  rcases Classical.em (size < 0 ∨ 1048576 < size) with hs | hs
  · refine stack_New_none hs ?_
    simp only [asP_ptr]
    refine T_join (fun _ _ => False) (fun _ _ h => h.elim) fun R _ => T_join (fun vs H' => vs = [.bool true] ∧ H = H') ?_ fun R2 hR2 => T_xif (fun h => hR2 _ _ ⟨rfl, rfl⟩) fun h => hR2 _ _ ⟨?_, rfl⟩
    · rintro vs H' ⟨rfl, rfl⟩
      simp only [T_all, T_imp]
      intro b heq
      simp only [List.cons.injEq, Value.bool.injEq, and_true] at heq
      subst heq
      exact T_xif_t rfl (T_xif_t rfl (hworks _ hk))
    · have : ¬ size < 0 := by simpa using h
      have : size > 1048576 := by omega
      simp [this]
  obtain ⟨n, rfl⟩ : ∃ n : Nat, size = (n : Int) := ⟨size.toNat, by omega⟩
  refine stack_New (n := n) rfl (by omega) fun s => ?_
  simp only [asP_ptr]
  refine T_join (fun vs H' => vs = [] ∧ H' = stk s n [] :: H) ?_ fun R hR => T_join (fun vs H' => vs = [.bool false] ∧ H' = stk s n [] :: H) ?_ fun R2 hR2 => T_xif_f (by simp) (hR2 _ _ ⟨by
      have : decide ((n : Int) > 1048576) = false := by simp; omega
      rw [this], rfl⟩)
  rotate_left
  · rintro vs H' ⟨rfl, rfl⟩
    simp only [T_all, T_imp]
    intro b heq
    simp only [List.cons.injEq, Value.bool.injEq, and_true] at heq
    subst heq
    exact T_xif_f rfl (hR _ _ ⟨rfl, rfl⟩)
  rintro vs H' ⟨rfl, rfl⟩
  simp only [T_imp]
  intro _
  refine T_xif_f rfl ?_
  refine T_loop (fun vs H' => ∃ (i : Nat) (xs : List Int) (q : Option Addr) (d : Nat) (H1 : List HProp), i ≤ l ∧ vs = [.slice q xs.length d, .int .i64 (i : Int)] ∧ xs.length ≤ d ∧ RdV B H1 q (iv .i64 xs) ∧ T B H1 (K (.bool true)) ∧ H' = stk s n xs :: H1)
    (fun vs => match vs with | [_, .int _ i] => l - i.toNat | _ => 0) ⟨0, [], none, 0, H, Nat.zero_le _, rfl, Nat.le_refl _, RdV.nil, hk, rfl⟩ ?_
  rintro vs H' R ⟨i, xs, q, d, H1, hi, rfl, hd, hq, hk1, rfl⟩ hR
  simp only [T_all, T_imp]
  intro p29 k30 k31 n32 heq
  simp only [List.cons.injEq, Value.int.injEq, Value.slice.injEq, true_and, and_true] at heq
  obtain ⟨⟨rfl, rfl, rfl⟩, rfl⟩ := heq
  refine T_xif (fun hc => ?_) (fun hc => hworks _ (T_drop hk1))
  have hlt : i < l := by simpa using hc
  obtain ⟨⟨kd, x⟩, ha⟩ : ∃ a, acts[i]? = some a := ⟨_, List.getElem?_eq_getElem (by omega)⟩
  obtain ⟨hg0, hg1⟩ := acts_get acts i _ ha
  simp only at hg0 hg1
  refine stk_facts fun hn hb hxl => ?_
  rw [wrap_succ (i := i) (by omega)]
  have after : ∀ (ys : List Int) (q' : Option Addr) (d' : Nat) (H2 : List HProp), ys.length ≤ d' → RdV B H2 q' (iv .i64 ys) → T B H2 (K (.bool true)) →
      T B (stk s n ys :: H2) (callP P f_stack_Stack_Len #[.pointer (some ⟨s, 0, none⟩)] (fun v => asI .i64 v (fun m => xif (m != (ys.length : Int)) (K (.bool false)) (callP P f_stack_Stack_List #[.pointer (some ⟨s, 0, none⟩)] (fun v => asS v (fun p' => (fun k' => (fun c' =>
        callP P f_base_SameInts #[.slice p' k' c', .slice q' ys.length d'] (fun v => asB v (fun b => xif (!b) (K (.bool false)) (R [.slice q' ys.length d', .int .i64 ((i + 1 : Nat) : Int)])))))))))))  := by
    intro ys q' d' H2 hd' hq' hk2
    refine stk_facts fun hn' hb' hyl => stack_Len ?_
    simp only [asI_int]
    refine T_xif_f (by simp) (stack_List fun p' c' => ?_)
    simp only [asS_slice]
    refine SameInts_eq rfl rfl (by omega) RdV.of_osl hq'.tail.tail ?_
    simp only [asB_bool]
    exact T_xif_f rfl (T_drop (hR _ _ ⟨i + 1, ys, q', d', H2, by omega, rfl, hd', hq', hk2, rfl⟩ (by simp only [Int.toNat_natCast]; omega)))
  refine T_argFI hr rfl hlt hg1 (stack_Place ?_)
  simp only [asI_int]
  refine ref03_Place hq.tail rfl (by omega) hn ?_
  simp only [asI_int]
  refine T_xif_f (by simp) (T_argFI hr rfl hlt hg0 ?_)
  refine T_xif (fun _ => ?_) fun _ => T_xif (fun _ => ?_) fun _ => T_xif (fun _ => ?_) fun _ => ?_
  · refine ref03_Push hq.tail rfl hd (by omega) hn (fun hok => T_ex _ (T_ex _ (T_ex _ (T_ex _ (T_and rfl (stack_Push ?_)))))) fun hok p' c' => T_oslLe fun hle => T_ex _ (T_ex _ (T_ex _ (T_ex _ (T_and rfl (T_perm (List.Perm.swap _ _ _) (stack_Push ?_))))))
    · rw [pushed, hok]
      simp only [asB_bool]
      exact T_xif_f rfl (after xs q d H1 hd hq hk1)
    · rw [pushed, hok, if_pos rfl]
      simp only [asB_bool]
      have := after (xs ++ [x]) p' c' (osl 1 p' (xs.length + 1) c' (iv .i64 (xs ++ [x])) :: H1) (by simpa using hle) RdV.of_osl (T_drop hk1)
      rw [List.length_append] at this
      exact T_xif_f rfl this
  · refine ref03_Pop hq.tail rfl hd (by omega) (T_ex _ (T_ex _ (T_ex _ (T_ex _ (T_ex _ (T_and rfl (stack_Pop (T_ex _ (T_ex _ (T_and rfl ?_)))))))))) 
    refine T_xif_f (by simp) (T_xif_f (by simp) ?_)
    have hq2 : RdV B H1 q (iv .i64 xs.dropLast) := by
      have := hq.take (xs.length - 1) (by simp)
      rwa [iv_take, ← List.dropLast_eq_take] at this
    have := after xs.dropLast q d H1 (by simp; omega) hq2 hk1
    rw [List.length_dropLast] at this
    exact this
  · refine ref03_Drop hq.tail rfl hd (by omega) hn (fun hok => T_ex _ (T_ex _ (T_ex _ (T_ex _ (T_and rfl (stack_Drop ?_)))))) fun hok p' c' => T_oslLe fun hle => T_ex _ (T_ex _ (T_ex _ (T_ex _ (T_and rfl (T_perm (List.Perm.swap _ _ _) (stack_Drop ?_))))))
    · rw [dropped, if_pos hok]
      simp only [asB_bool]
      exact T_xif_f (by simp [hok]) (after xs q d H1 hd hq hk1)
    · rw [dropped, if_neg hok]
      simp only [asB_bool]
      have := after (dropAt xs (posOf xs x).toNat) p' c' (osl 1 p' (xs.length - 1) c' (iv .i64 (dropAt xs (posOf xs x).toNat)) :: H1) (by rw [dropAt_len]; exact hle) RdV.of_osl (T_drop hk1)
      rw [dropAt_len] at this
      exact T_xif_f (by simp [hok]) this
  · refine ref03_Pop hq.tail rfl hd (by omega) (T_ex _ (T_ex _ (T_ex _ (T_ex _ (T_ex _ (T_and rfl (stack_Top (T_ex _ (T_ex _ (T_and rfl ?_))))))))))
    exact T_xif_f (by simp) (T_xif_f (by simp) (after xs q d H1 hd hq hk1))

end
end Go.Proofs.Ytpnlldmmfbpmgaa
