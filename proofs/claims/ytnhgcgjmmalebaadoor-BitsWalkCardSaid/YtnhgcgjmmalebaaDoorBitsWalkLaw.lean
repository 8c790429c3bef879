/- All of a set are gone through, rising (layer 2); no condition but the forms of the arguments and that the library's table is as it is laid. -/
import Derived.Test.YtnhgcgjmmalebaaDoorBitsZ
set_option linter.unusedVariables false
set_option linter.unusedSimpArgs false
namespace Go.Proofs.YtnhgcgjmmalebaaDoor
open Go.XS

section
variable {B : Heap} {H : List HProp} {K : Value → HP}

theorem law_BitsWalk (hT : Tab B) {p : Option Addr} {l c : Nat} {zs : List Int} {s : Int} (hr : Arg B p (iv .u8 zs)) (hl : l ≤ zs.length) (hz : ∀ z ∈ zs, 0 ≤ z ∧ z ≤ 255) (h0 : 0 ≤ s) (h1 : s ≤ 255) (hk : T B H (K (.bool true))) :
    T B H (callP P f_law02_BitsWalk #[.int .u8 s, .slice p l c] K) := by
  refine T_of (call_law02_BitsWalk _ _ _ _) ?_
  unfold F_law02_BitsWalk
  have hworks : ∀ H', T B H' (K (.bool true)) → T B H' (callP P f_law02_works #[] fun v => asB v fun b => K (.bool b)) := fun H' h => bits_works hT (by simpa only [asB_bool] using h)
  obtain ⟨n, rfl⟩ : ∃ n : Nat, s = (n : Int) := ⟨s.toNat, by omega⟩
  refine T_xif (fun _ => hworks _ hk) fun hl300 => ?_
  have hl300 : l ≤ 300 := by simp at hl300; omega
  have hw : IntKind.wrap .i64 (n : Int) = (n : Int) := wrap_i64 (by omega) (by omega)
  simp only [hw]
  refine bits_New (n := n) (by omega) fun b => ?_
  simp only [asP_ptr]
  refine T_xif_f rfl ?_
  refine T_loop (fun vs H' => ∃ (i : Nat) (m : Nat → Bool), i ≤ l ∧ vs = [.int .i64 (i : Int)] ∧ bset b n m :: H = H')
    (fun vs => match vs with | [.int _ i] => l - i.toNat | _ => 0) ⟨0, _, Nat.zero_le _, rfl, rfl⟩ ?_
  rintro vs H' R ⟨i, m, hi, rfl, rfl⟩ hR
  simp only [T_all, T_imp]
  intro n27 heq
  simp only [List.cons.injEq, Value.int.injEq, true_and, and_true] at heq
  subst heq
  refine T_xif (fun hc => ?_) fun hc => ?_
  · have hlt : i < l := by simpa using hc
    obtain ⟨z, hzi⟩ : ∃ z, zs[i]? = some z := ⟨_, List.getElem?_eq_getElem (by omega)⟩
    refine T_argI hr rfl hlt (iv_get hzi) (bits_Put ?_)
    simp only [asB_bool]
    rw [wrap_succ (i := i) (by omega)]
    exact hR _ _ ⟨i + 1, _, by omega, rfl, rfl⟩ (by simp only [Int.toNat_natCast]; omega)
  clear hR
  refine bset_facts fun _ hout => bits_First hT fun r hr => ?_
  simp only [asI_int]
  refine T_loop (fun vs H' => ∃ (a : Nat) (r : Int), a ≤ n ∧ vs = [.int .i64 ((a : Int) - 1), .int .i64 (pop m a : Int), .int .i64 r] ∧ IsNext m ((a : Int) - 1) r ∧ (a = 0 ∨ m (a - 1) = true) ∧ bset b n m :: H = H')
    (fun vs => match vs with | [.int _ a, _, _] => n + 1 - (a + 1).toNat | _ => 0) ⟨0, r, Nat.zero_le _, rfl, hr, .inl rfl, rfl⟩ ?_
  rintro vs H' R ⟨a, r, ha, rfl, hr, hla, rfl⟩ hR
  simp only [T_all, T_imp]
  intro n37 n38 n39 heq
  simp only [List.cons.injEq, Value.int.injEq, true_and, and_true] at heq
  obtain ⟨rfl, rfl, rfl⟩ := heq
  have hpa := pop_le m a
  have hnx := ml_next (a := a) hout ha hr
  refine T_join (fun vs H' => vs = [] ∧ (∃ j : Nat, r = (j : Int) ∧ a ≤ j ∧ j < n ∧ m j = true ∧ ml m j = ml m a) ∧ bset b n m :: H = H') ?_ fun R2 hR2 => T_xif (fun h => T_xif_t (by simp; omega) (hR2 _ _ ⟨rfl, ?_, rfl⟩)) fun h => ?_
  · rintro vs H' ⟨rfl, ⟨j, rfl, haj, hjn, hmj, hmlj⟩, rfl⟩
    simp only [T_imp]
    intro _
    refine T_xif_f (by simp; omega) (bits_Has ?_)
    have hin : isIn n m (j : Int) = true := by
      unfold isIn
      rw [decide_eq_true (by omega), Bool.true_and, Int.toNat_natCast, hmj]
    rw [hin]
    simp only [asB_bool]
    refine T_xif_f rfl (T_xif_f (by simp; omega) (bits_Next hT (by omega) fun r2 hr2 => ?_))
    simp only [asI_int]
    rw [wrap_succ (i := pop m a) (by omega)]
    have hp : pop m a + 1 = pop m (j + 1) := by
      rw [pop_ml, pop_ml, ml_in hmj, hmlj]; simp
    have hj1 : ((j + 1 : Nat) : Int) - 1 = (j : Int) := by omega
    rw [hp]
    refine hR _ _ ⟨j + 1, r2, by omega, by rw [hj1], by rw [hj1]; exact hr2, .inr hmj, rfl⟩ (by simp only; omega)
  · have h : 0 ≤ r := by simpa using h
    rcases hnx with ⟨h3, _⟩ | h3
    · omega
    · exact h3
  have h : ¬ 0 ≤ r := by simpa using h
  rcases hnx with ⟨rfl, hmln⟩ | ⟨j, rfl, _⟩
  rotate_left
  · omega
  have hpn : pop m n = pop m a := by rw [pop_ml, pop_ml, hmln]
  have hno : ∀ k : Nat, a ≤ k → m k = false := by
    rcases hr with ⟨_, hno⟩ | ⟨j, hj, _⟩
    · exact fun k hk => hno k (by omega)
    · omega
  have hlast : IsLast m ((a : Int) - 1) := by
    rcases hla with rfl | hla
    · exact .inl ⟨rfl, fun k => hno k (Nat.zero_le _)⟩
    · by_cases ha0 : a = 0
      · subst ha0
        exact .inl ⟨rfl, fun k => hno k (Nat.zero_le _)⟩
      · exact .inr ⟨a - 1, by omega, hla, fun k hk => hno k (by omega)⟩
  refine T_alE zc_set fun k => T_perm (List.Perm.swap _ _ _) (bits_Count ?_)
  rw [hpn]
  simp only [asI_int]
  refine T_xif_t (by simp) (bits_Last fun r3 hr3 => ?_)
  obtain rfl := hr3.uniq hlast
  simp only [asI_int]
  refine T_xif_t (by simp) (bits_Size_nil ?_)
  simp only [asI_int]
  refine T_perm (List.Perm.swap _ _ _) (zero_Size ?_)
  simp only [asI_int]
  refine bits_Count_nil ?_
  simp only [asI_int]
  refine zero_Count ?_
  simp only [asI_int]
  refine T_xif_t (by decide) (bits_First_nil ?_)
  simp only [asI_int]
  refine T_xif_t (by decide) (zero_First ?_)
  simp only [asI_int]
  refine T_xif_t (by decide) (bits_Last_nil ?_)
  simp only [asI_int]
  refine T_xif_t (by decide) (zero_Next (by decide) (by decide) ?_)
  simp only [asI_int]
  refine T_xif_t (by decide) (bits_Run_nil ?_)
  simp only [asI_int]
  refine T_xif_t (by decide) (nil_Put ?_)
  simp only [asB_bool]
  refine T_xif_t rfl (zero_Put ?_)
  simp only [asB_bool]
  refine T_xif_t rfl (nil_Has ?_)
  simp only [asB_bool]
  refine T_xif_t rfl (zero_Drop ?_)
  simp only [asB_bool]
  refine T_xif_t rfl (bits_List_nil ?_)
  simp only [asS_slice]
  refine zero_List ?_
  simp only [asS_slice]
  exact T_xif_t (by decide) (hworks _ (T_drop (T_drop hk)))

end
end Go.Proofs.YtnhgcgjmmalebaaDoor
