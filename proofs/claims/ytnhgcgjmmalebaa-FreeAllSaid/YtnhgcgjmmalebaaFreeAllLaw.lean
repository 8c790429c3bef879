/- The law of the free chunks: all (layer 17); no condition but the form of its argument. -/
import Derived.Test.YtnhgcgjmmalebaaFreeWorks
set_option linter.unusedVariables false
set_option linter.unusedSimpArgs false
namespace Go.Proofs.Ytnhgcgjmmalebaa
open Go.XS

def upTo (i : Nat) : List Int := (List.range i).map fun k : Nat => (k : Int)
theorem upTo_step (i : Nat) : upTo (i + 1) = upTo i ++ [(i : Int)] := by simp [upTo, List.range_succ]
theorem upTo_mem {i : Nat} {x : Int} : x ∈ upTo i ↔ 0 ≤ x ∧ x < (i : Int) := by
  simp only [upTo, List.mem_map, List.mem_range]
  constructor
  · rintro ⟨k, hk, rfl⟩; omega
  · intro h; exact ⟨x.toNat, by omega, by omega⟩

section
variable {B : Heap} {H : List HProp} {K : Value → HP}

theorem law_FreeAll {x : Int} (h0 : 0 ≤ x) (h1 : x ≤ 255) (hk : T B H (K (.bool true))) : T B H (callP P f_law17_FreeAll #[.int .u8 x] K) := by
  refine T_of (call_law17_FreeAll _) ?_
  unfold F_law17_FreeAll
  obtain ⟨n, rfl⟩ : ∃ n : Nat, x = (n : Int) := ⟨x.toNat, by omega⟩
  have hw : IntKind.wrap .i64 (n : Int) = (n : Int) := wrap_i64 (by omega) (by omega)
  simp only [hw]
  refine free_New (by omega) fun f => ?_
  simp only [asP_ptr]
  refine T_loop (fun vs H' => ∃ i : Nat, i ≤ n ∧ vs = [.int .i64 (i : Int)] ∧ fidx f n (downTo n i) :: H = H')
    (fun vs => match vs with | [.int _ i] => n - i.toNat | _ => 0) ⟨0, Nat.zero_le _, rfl, rfl⟩ ?_
  rintro vs H' R ⟨i, hi, rfl, rfl⟩ hR
  simp only [T_all, T_imp]
  intro n25 heq
  simp only [List.cons.injEq, Value.int.injEq, true_and, and_true] at heq
  subst heq
  refine T_xif (fun hc => ?_) fun hc => ?_
  · have hlt : i < n := by simpa using hc
    rw [downTo_step hlt]
    refine free_Take (T_ex _ (T_ex _ (T_and rfl ?_)))
    refine T_xif_f (by simp) (T_xif_f (by simp) ?_)
    rw [wrap_succ (i := i) (by omega), List.dropLast_concat]
    exact hR _ _ ⟨i + 1, by omega, rfl, rfl⟩ (by simp only [Int.toNat_natCast]; omega)
  have : i = n := by simp at hc; omega
  subst this
  clear hR
  rw [downTo_all]
  refine free_Take (T_ex _ (T_ex _ (T_and rfl ?_)))
  refine T_loop (fun vs H' => ∃ j : Nat, j ≤ i ∧ vs = [.int .i64 (j : Int)] ∧ fidx f i (upTo j) :: H = H')
    (fun vs => match vs with | [.int _ j] => i - j.toNat | _ => 0) ⟨0, Nat.zero_le _, rfl, rfl⟩ ?_
  rintro vs H' R ⟨j, hj, rfl, rfl⟩ hR
  simp only [T_all, T_imp]
  intro n37 heq
  simp only [List.cons.injEq, Value.int.injEq, true_and, and_true] at heq
  subst heq
  refine T_xif (fun hc => ?_) fun hc => ?_
  · have hlt : j < i := by simpa using hc
    have hok : pushOk i (upTo j) (j : Int) = true := decide_eq_true ⟨by omega, by omega, by rw [pos_lt, upTo_mem]; omega⟩
    refine free_Give ?_
    rw [pushed, hok, if_pos rfl, ← upTo_step]
    simp only [asB_bool]
    rw [wrap_succ (i := j) (by omega)]
    exact T_xif_f rfl (hR _ _ ⟨j + 1, by omega, rfl, rfl⟩ (by simp only [Int.toNat_natCast]; omega))
  have : j = i := by simp at hc; omega
  subst this
  clear hR
  refine T_loop (fun vs H' => ∃ k : Nat, k ≤ j ∧ vs = [.int .i64 ((k : Int) - 1)] ∧ fidx f j (upTo k) :: H = H')
    (fun vs => match vs with | [.int _ k] => (k + 1).toNat | _ => 0) ⟨j, Nat.le_refl _, by rw [wrap_i64 (by omega) (by omega)], rfl⟩ ?_
  rintro vs H' R ⟨k, hk2, rfl, rfl⟩ hR
  simp only [T_all, T_imp]
  intro n43 heq
  simp only [List.cons.injEq, Value.int.injEq, true_and, and_true] at heq
  subst heq
  refine T_xif (fun hc => ?_) fun hc => ?_
  · have hc : 0 ≤ (k : Int) - 1 := by simpa using hc
    obtain ⟨t, rfl⟩ : ∃ t, k = t + 1 := ⟨k - 1, by omega⟩
    have e : ((t + 1 : Nat) : Int) - 1 = (t : Int) := by omega
    rw [e, upTo_step]
    refine free_Take (T_ex _ (T_ex _ (T_and rfl ?_)))
    refine T_xif_f (by simp) (T_xif_f (by simp) ?_)
    rw [wrap_i64 (by omega) (by omega), List.dropLast_concat]
    exact hR _ _ ⟨t, by omega, rfl, rfl⟩ (by simp only; omega)
  · have hc : ¬ 0 ≤ (k : Int) - 1 := by simpa using hc
    have : k = 0 := by omega
    subst this
    refine T_xif_t (by decide) (free_Len ?_)
    simp only [asI_int]
    refine T_xif_t (by decide) (free_works ?_)
    simp only [asB_bool]
    exact T_drop hk

end
end Go.Proofs.Ytnhgcgjmmalebaa
