/- The laws of the bits: runs (layer 2); no condition but the forms of the arguments and that the library's table is as it is laid. -/
import Derived.Test.YtnhgcgjmmalebaaDoorBitsR
set_option linter.unusedVariables false
set_option linter.unusedSimpArgs false
namespace Go.Proofs.YtnhgcgjmmalebaaDoor
open Go.XS

section
variable {B : Heap} {H : List HProp} {K : Value → HP}

def mW : Nat → Bool := fun i => i == 1 || i == 2 || i == 3 || i == 7
theorem mW_in {k : Nat} (h : mW k = true) : k = 1 ∨ k = 2 ∨ k = 3 ∨ k = 7 := by
  simp only [mW, Bool.or_eq_true, beq_iff_eq] at h; omega
theorem mW_out {k : Nat} (h : k ≠ 1 ∧ k ≠ 2 ∧ k ≠ 3 ∧ k ≠ 7) : mW k = false := by
  simp [mW, h]

theorem bits_works (hT : Tab B) (hk : T B H (K (.bool true))) : T B H (callP P f_law02_works #[] K) := by
  refine T_of call_law02_works ?_
  unfold F_law02_works
  refine bits_New (n := 9) (by omega) fun b => ?_
  simp only [asP_ptr]
  refine T_join (fun vs H' => vs = [.bool true] ∧ bset b 9 mW :: H = H') ?_ fun R hR => bits_Put ?_
  rotate_left
  · rw [show putOk 9 (fun _ => false) 1 = true by decide]
    simp only [asB_bool]
    refine T_xif_t rfl (bits_Put ?_)
    have p1 : putIn 9 (fun _ => false) 1 = flip (fun _ => false) 1 true := by rw [putIn, if_pos (by decide)]; rfl
    rw [p1, show putOk 9 (flip (fun _ => false) 1 true) 2 = true by decide]
    simp only [asB_bool]
    refine T_xif_t rfl (bits_Put ?_)
    have p2 : putIn 9 (flip (fun _ => false) 1 true) 2 = flip (flip (fun _ => false) 1 true) 2 true := by rw [putIn, if_pos (by decide)]; rfl
    rw [p2, show putOk 9 (flip (flip (fun _ => false) 1 true) 2 true) 3 = true by decide]
    simp only [asB_bool]
    refine T_xif_t rfl (bits_Put ?_)
    have p3 : putIn 9 (flip (flip (fun _ => false) 1 true) 2 true) 3 = flip (flip (flip (fun _ => false) 1 true) 2 true) 3 true := by rw [putIn, if_pos (by decide)]; rfl
    rw [p3, show putOk 9 (flip (flip (flip (fun _ => false) 1 true) 2 true) 3 true) 7 = true by decide]
    simp only [asB_bool]
    refine T_xif_t rfl (bits_Put ?_)
    have p4 : putIn 9 (flip (flip (flip (fun _ => false) 1 true) 2 true) 3 true) 7 = mW := by
      rw [putIn, if_pos (by decide)]
      funext i
      simp only [flip, mW]
      by_cases h1 : i = 1
      · subst h1; rfl
      by_cases h2 : i = 2
      · subst h2; rfl
      by_cases h3 : i = 3
      · subst h3; rfl
      by_cases h7 : i = 7
      · subst h7; rfl
      have h7' : ¬ i = (7 : Int).toNat := h7
      rw [if_neg h7', if_neg h3, if_neg h2, if_neg h1]
      simp [h1, h2, h3, h7]
    rw [p4, show putOk 9 mW 7 = false by decide]
    have p5 : putIn 9 mW 7 = mW := by rw [putIn, if_neg (by decide)]
    simp only [asB_bool]
    refine T_xif_t rfl (bits_Put ?_)
    have p6 : putIn 9 mW 9 = mW := by rw [putIn, if_neg (by decide)]
    rw [p5, p6, show putOk 9 mW 9 = false by decide]
    simp only [asB_bool]
    exact hR _ _ ⟨rfl, rfl⟩
  rintro vs H' ⟨rfl, rfl⟩
  simp only [T_all, T_imp]
  intro b24 heq
  simp only [List.cons.injEq, Value.bool.injEq, and_true] at heq
  subst heq
  have r3 : IsRun mW 3 1 := .inr ⟨1, rfl, fun j hj => by
    match j, hj with
    | 0, _ => rfl
    | 1, _ => rfl
    | 2, _ => rfl, fun i' hi' h => by
    have h0 : i' = 0 := by omega
    subst h0
    have := h 0 (by decide)
    cases this⟩
  have r4 : IsRun mW 4 (-1) := .inl ⟨rfl, fun i h => by
    have h0 := mW_in (h 0 (by decide))
    have h1 := mW_in (h 1 (by decide))
    have h3 := mW_in (h 3 (by decide))
    omega⟩
  have nx : IsNext mW 3 7 := .inr ⟨7, rfl, by decide, rfl, fun k h1 h2 => mW_out (by omega)⟩
  have fs : IsNext mW (-1) 1 := .inr ⟨1, rfl, by decide, rfl, fun k h1 h2 => mW_out (by omega)⟩
  have ls : IsLast mW 7 := .inr ⟨7, rfl, rfl, fun k h1 => mW_out (by omega)⟩
  refine T_xif_t rfl (bits_Run hT (k := 3) (by decide) fun r hr => ?_)
  have := hr.uniq r3
  subst this
  simp only [asI_int]
  refine T_xif_t rfl (bits_Next hT (by decide) fun r hr => ?_)
  have := hr.uniq nx
  subst this
  simp only [asI_int]
  refine T_xif_t rfl (bits_Run hT (k := 4) (by decide) fun r hr => ?_)
  have := hr.uniq r4
  subst this
  simp only [asI_int]
  refine T_xif_t (by decide) (bits_Count ?_)
  rw [show pop mW 9 = 4 by decide]
  simp only [asI_int]
  refine T_xif_t (by decide) (bits_Last fun r hr => ?_)
  have := hr.uniq ls
  subst this
  simp only [asI_int]
  refine T_xif_t rfl (bits_First hT fun r hr => ?_)
  have := hr.uniq fs
  subst this
  simp only [asI_int]
  exact T_drop hk

theorem law_BitsRuns (hT : Tab B) {p : Option Addr} {l c : Nat} {zs : List Int} {x : Int} (hr : Arg B p (iv .u8 zs)) (hl : l ≤ zs.length) (hz : ∀ z ∈ zs, 0 ≤ z ∧ z ≤ 255) (h0 : 0 ≤ x) (h1 : x ≤ 255) (hk : T B H (K (.bool true))) :
    T B H (callP P f_law02_BitsRuns #[.slice p l c, .int .u8 x] K) := by
  refine T_of (call_law02_BitsRuns _ _ _ _) ?_
  unfold F_law02_BitsRuns
  have hworks : ∀ H', T B H' (K (.bool true)) → T B H' (callP P f_law02_works #[] fun v => asB v fun b => K (.bool b)) := fun H' h => bits_works hT (by simpa only [asB_bool] using h)
  refine T_xif (fun _ => hworks _ hk) fun hl200 => ?_
  have hl200 : l ≤ 200 := by simp at hl200; omega
  refine bits_New (n := 256) (by omega) fun b => ?_
  simp only [asP_ptr]
  refine T_loop (fun vs H' => ∃ (i : Nat) (m : Nat → Bool), i ≤ l ∧ vs = [.int .i64 (i : Int)] ∧ bset b 256 m :: H = H')
    (fun vs => match vs with | [.int _ i] => l - i.toNat | _ => 0) ⟨0, _, Nat.zero_le _, rfl, rfl⟩ ?_
  rintro vs H' R ⟨i, m, hi, rfl, rfl⟩ hR
  simp only [T_all, T_imp]
  intro n27 heq
  simp only [List.cons.injEq, Value.int.injEq, true_and, and_true] at heq
  subst heq
  refine T_xif (fun hc => ?_) fun hc => ?_
  · have hlt : i < l := by simpa using hc
    obtain ⟨z, hzi⟩ : ∃ z, zs[i]? = some z := ⟨_, List.getElem?_eq_getElem (by omega)⟩
    refine T_argI hr rfl hlt (iv_get hzi) (bits_Put ?_)
    simp only [asB_bool]
    rw [wrap_succ (i := i) (by omega)]
    exact hR _ _ ⟨i + 1, _, by omega, rfl, rfl⟩ (by simp only [Int.toNat_natCast]; omega)
  clear hR
  refine bset_facts fun _ hout => T_req (by decide) ?_
  obtain ⟨y, rfl⟩ : ∃ y : Nat, x = (y : Int) := ⟨x.toNat, by omega⟩
  have hwk : IntKind.wrap .i64 (1 + Int.tmod (IntKind.wrap .i64 (y : Int)) 9) = ((1 + y % 9 : Nat) : Int) := by
    rw [wrap_i64 (n := (y : Int)) (by omega) (by omega), Int.tmod_eq_emod_of_nonneg (by omega), wrap_i64 (by omega) (by omega)]; omega
  simp only [hwk]
  generalize hkk : 1 + y % 9 = k
  have hk1 : 1 ≤ k := by omega
  have hk9 : k ≤ 9 := by omega
  refine bits_Run hT hk1 fun at' hat => ?_
  simp only [asI_int]
  have hkd := T_drop (q := bset b 256 m) hk
  refine T_loop (fun vs H' => ∃ i : Nat, i + k ≤ 257 ∧ vs = [.int .i64 (i : Int)] ∧ (∀ i', i' < i → ¬ RunAt m k i') ∧ bset b 256 m :: H = H')
    (fun vs => match vs with | [.int _ i] => 257 - i.toNat | _ => 0) ⟨0, by omega, rfl, fun i' h => by omega, rfl⟩ ?_
  rintro vs H' R ⟨i, hik, rfl, hno, rfl⟩ hR
  simp only [T_all, T_imp]
  intro n37 heq
  simp only [List.cons.injEq, Value.int.injEq, true_and, and_true] at heq
  subst heq
  have hw : IntKind.wrap .i64 ((i : Int) + (k : Int)) = ((i + k : Nat) : Int) := by rw [wrap_i64 (by omega) (by omega)]; omega
  simp only [hw]
  refine T_xif (fun hc => ?_) fun hc => ?_
  rotate_left
  · have hc : ¬ i + k ≤ 256 := by simp at hc; omega
    have e : at' = -1 := hat.uniq (.inl ⟨rfl, fun i' h => by
      rcases Nat.lt_or_ge i' i with h3 | h3
      · exact hno i' h3 h
      · have := h (k - 1) (by omega)
        rw [hout _ (by omega)] at this
        cases this⟩)
    subst e
    exact T_xif_t rfl (hworks _ hkd)
  have hc : i + k ≤ 256 := by simp at hc; omega
  refine T_loop (fun vs H' => ∃ j : Nat, i ≤ j ∧ j ≤ i + k ∧ (∃ bb : Bool, vs = [.bool bb, .int .i64 (j : Int)] ∧ (bb = true ↔ ∀ t, i ≤ t → t < j → m t = true)) ∧ bset b 256 m :: H = H')
    (fun vs => match vs with | [_, .int _ j] => i + k - j.toNat | _ => 0) ⟨i, Nat.le_refl _, by omega, ⟨true, rfl, by simp; omega⟩, rfl⟩ ?_
  rintro vs H' R2 ⟨j, hij, hjk, ⟨bb, rfl, hbb⟩, rfl⟩ hR2
  simp only [T_all, T_imp]
  intro b41 n42 heq
  simp only [List.cons.injEq, Value.int.injEq, Value.bool.injEq, true_and, and_true] at heq
  obtain ⟨rfl, rfl⟩ := heq
  refine T_xif (fun hc2 => ?_) fun hc2 => ?_
  · have hlt : j < i + k := by simp at hc2; omega
    rw [wrap_succ (i := j) (by omega)]
    refine T_xif (fun hb => bits_Has ?_) fun hb => hR2 _ _ ⟨j + 1, by omega, by omega, ⟨false, rfl, ?_⟩, rfl⟩ (by simp only [Int.toNat_natCast]; omega)
    · have hin : isIn 256 m (j : Int) = m j := by
        unfold isIn
        rw [decide_eq_true (by omega), Bool.true_and, Int.toNat_natCast]
      rw [hin]
      simp only [asB_bool]
      refine hR2 _ _ ⟨j + 1, by omega, by omega, ⟨m j, rfl, ?_⟩, rfl⟩ (by simp only [Int.toNat_natCast]; omega)
      constructor
      · intro h t h3 h4
        by_cases htj : t = j
        · rw [htj]; exact h
        · exact hbb.1 hb t h3 (by omega)
      · intro h
        exact h j hij (by omega)
    · constructor
      · intro h; cases h
      · intro h
        have := hbb.2 fun t h3 h4 => h t h3 (by omega)
        rw [hb] at this; cases this
  · have : j = i + k := by simp at hc2; omega
    subst this
    refine T_xif (fun hb => ?_) fun hb => ?_
    · have hra : RunAt m k i := fun t ht => hbb.1 hb (i + t) (by omega) (by omega)
      have e : at' = (i : Int) := hat.uniq (.inr ⟨i, rfl, hra, hno⟩)
      subst e
      exact T_xif_t (by simp) (hworks _ hkd)
    · rw [wrap_succ (i := i) (by omega)]
      refine hR _ _ ⟨i + 1, by omega, rfl, fun i' h3 => ?_, rfl⟩ (by simp only [Int.toNat_natCast]; omega)
      by_cases hii : i' = i
      · subst hii
        intro hra
        have := hbb.2 fun t h4 h5 => by
          have := hra (t - i') (by omega)
          rwa [show i' + (t - i') = t by omega] at this
        rw [hb] at this; cases this
      · exact hno i' (by omega)

end
end Go.Proofs.YtnhgcgjmmalebaaDoor
