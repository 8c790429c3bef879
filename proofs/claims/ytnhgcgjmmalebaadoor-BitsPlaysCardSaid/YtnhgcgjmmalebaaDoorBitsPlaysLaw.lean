/- The plays of the bits (layer 2); no condition but the forms of the arguments and that the library's table is as it is laid. -/
import Derived.Test.YtnhgcgjmmalebaaDoorBitsP
set_option linter.unusedVariables false
set_option linter.unusedSimpArgs false
namespace Go.Proofs.YtnhgcgjmmalebaaDoor
open Go.XS

theorem zc4 : zc P 4 = #[.bool false] := by kernel_rfl
theorem cells4 : P.cellsOf 4 = 1 := by kernel_rfl
theorem bytes4 : P.bytesOf 4 = 1 := by kernel_rfl

section
variable {B : Heap} {H : List HProp} {K : Value → HP}

theorem putIn_bl {n y : Nat} {m : Nat → Bool} (h : y < n) : (bl m n).set y (.bool true) = bl (putIn n m (y : Int)) n := by
  rw [bl_set h]
  have hd : decide (0 ≤ (y : Int) ∧ (y : Int) < (n : Int)) = true := decide_eq_true (by omega)
  unfold putIn putOk
  rw [hd, Int.toNat_natCast, Bool.true_and]
  cases hm : m y
  · rfl
  · congr 1
    funext j
    by_cases e : j = y
    · subst e; simp [flip, hm]
    · simp [flip, e]
theorem dropIn_bl {n y : Nat} {m : Nat → Bool} (h : y < n) : (bl m n).set y (.bool false) = bl (dropIn n m (y : Int)) n := by
  rw [bl_set h]
  have hd : decide (0 ≤ (y : Int) ∧ (y : Int) < (n : Int)) = true := decide_eq_true (by omega)
  unfold dropIn isIn
  rw [hd, Int.toNat_natCast, Bool.true_and]
  cases hm : m y
  · congr 1
    funext j
    by_cases e : j = y
    · subst e; simp [flip, hm]
    · simp [flip, e]
  · rfl

theorem tdiv2_wrap {z : Int} (h : -9223372036854775808 ≤ z ∧ z ≤ 9223372036854775807) : IntKind.wrap .i64 (Int.tdiv z 2) = Int.tdiv z 2 := by
  refine wrap_i64 ?_ ?_
  all_goals
    by_cases hz : 0 ≤ z
    · rw [Int.tdiv_eq_ediv_of_nonneg hz]; omega
    · obtain ⟨w, rfl⟩ : ∃ w : Int, z = -w := ⟨-z, by omega⟩
      rw [Int.neg_tdiv, Int.tdiv_eq_ediv_of_nonneg (by omega)]; omega

theorem law_BitsPlays (hT : Tab B) {p : Option Addr} {l c : Nat} {zs : List Int} {s x : Int} (hr : Arg B p (iv .i64 zs)) (hl : l ≤ zs.length) (hz : ∀ z ∈ zs, -9223372036854775808 ≤ z ∧ z ≤ 9223372036854775807)
    (hx : -9223372036854775808 ≤ x ∧ x ≤ 9223372036854775807) (hk : T B H (K (.bool true))) :
    T B H (callP P f_law02_BitsPlays #[.int .i64 s, .slice p l c, .int .i64 x] K) := by
  refine T_of (call_law02_BitsPlays _ _ _ _ _) ?_
  unfold F_law02_BitsPlays
  have hworks : ∀ H', T B H' (K (.bool true)) → T B H' (callP P f_law02_works #[] fun v => asB v fun b => K (.bool b)) := fun H' h => bits_works hT (by simpa only [asB_bool] using h)
  refine T_join (fun vs H' => vs = [] ∧ H = H' ∧ l ≤ 60 ∧ (s ≤ 400 ∨ 1048576 < s)) ?_ fun R hR => T_xif (fun _ => hworks _ hk) fun h => T_xif (fun h2 => T_xif (fun _ => hworks _ hk) fun h3 => hR _ _ ⟨rfl, rfl, ?_, .inr ?_⟩) fun h2 => hR _ _ ⟨rfl, rfl, ?_, .inl ?_⟩
  rotate_left
  · simp at h; omega
  · simp at h3; omega
  · simp at h; omega
  · simp at h2; omega
  rintro vs H' ⟨rfl, rfl, hl60, hs⟩
  simp only [T_imp]
  intro _
  by_cases hin : 0 ≤ s ∧ s ≤ 400
  rotate_left
  · refine bits_New_none (x := s) (by omega) ?_
    simp only [asP_ptr]
    refine T_join (fun _ _ => False) (fun _ _ h => h.elim) fun R _ => T_join (fun vs H' => vs = [.bool true] ∧ H = H') ?_ fun R2 hR2 => T_xif (fun h => hR2 _ _ ⟨rfl, rfl⟩) fun h => hR2 _ _ ⟨?_, rfl⟩
    · rintro vs H' ⟨rfl, rfl⟩
      simp only [T_all, T_imp]
      intro b heq
      simp only [List.cons.injEq, Value.bool.injEq, and_true] at heq
      subst heq
      exact T_xif_t rfl (T_xif_t rfl (hworks _ hk))
    · have h : ¬ s < 0 := by simpa using h
      rw [decide_eq_true (by omega)]
  obtain ⟨n, rfl⟩ : ∃ n : Nat, s = (n : Int) := ⟨s.toNat, by omega⟩
  have hn : n ≤ 400 := by omega
  refine bits_New (n := n) (by omega) fun b => ?_
  simp only [asP_ptr]
  refine T_join (fun vs H' => vs = [] ∧ bset b n (fun _ => false) :: H = H') ?_ fun R hR => T_join (fun vs H' => vs = [.bool false] ∧ bset b n (fun _ => false) :: H = H') ?_ fun R2 hR2 => T_xif_f (by simp) (hR2 _ _ ⟨?_, rfl⟩)
  rotate_left
  · rintro vs H' ⟨rfl, rfl⟩
    simp only [T_all, T_imp]
    intro b heq
    simp only [List.cons.injEq, Value.bool.injEq, and_true] at heq
    subst heq
    exact T_xif_f rfl (hR _ _ ⟨rfl, rfl⟩)
  · rw [decide_eq_false (by omega)]
  rintro vs H' ⟨rfl, rfl⟩
  simp only [T_imp]
  intro _
  refine T_xif_f rfl (T_mkSl (by omega) (by omega) (by omega) (by rw [bytes4]; omega) (by kernel_rfl) (by kernel_rfl) fun k => ?_)
  rw [cells4, zc4, reps_one, Nat.mul_one, Int.toNat_natCast]
  have e0 : List.replicate n (Value.bool false) = bl (fun _ => false) n := by
    apply List.ext_getElem?
    intro j
    by_cases hj : j < n
    · rw [bl_get hj]; simp [hj]
    · rw [List.getElem?_eq_none (by simp; omega), List.getElem?_eq_none (by simp; omega)]
  rw [e0]
  refine T_perm (List.Perm.swap _ _ _) ?_
  refine T_loop (fun vs H' => ∃ (i : Nat) (m : Nat → Bool), i ≤ l ∧ vs = [.int .i64 (i : Int)] ∧ bset b n m :: cl k (bl m n).toArray :: H = H')
    (fun vs => match vs with | [.int _ i] => l - i.toNat | _ => 0) ⟨0, _, Nat.zero_le _, rfl, rfl⟩ ?_
  rintro vs H' R ⟨i, m, hi, rfl, rfl⟩ hR
  simp only [T_all, T_imp]
  intro n30 heq
  simp only [List.cons.injEq, Value.int.injEq, true_and, and_true] at heq
  subst heq
  refine T_xif (fun hc => ?_) fun hc => ?_
  · have hlt : i < l := by simpa using hc
    obtain ⟨z, hzi⟩ : ∃ z, zs[i]? = some z := ⟨_, List.getElem?_eq_getElem (by omega)⟩
    have hzb := hz z (List.mem_of_getElem? hzi)
    refine T_argI hr rfl hlt (iv_get hzi) (T_req (by decide) ?_)
    have hy : IntKind.wrap .i64 (Int.tdiv z 2) = Int.tdiv z 2 := tdiv2_wrap hzb
    simp only [hy]
    generalize Int.tdiv z 2 = y
    rw [wrap_succ (i := i) (by omega)]
    refine T_join (fun vs H' => vs = [.bool (decide (0 ≤ y ∧ y < (n : Int)))] ∧ bset b n m :: cl k (bl m n).toArray :: H = H') ?_ fun R2 hR2 => T_xif (fun h => hR2 _ _ ⟨?_, rfl⟩) fun h => hR2 _ _ ⟨?_, rfl⟩
    rotate_left
    · have : 0 ≤ y := by simpa using h
      simp [this]
    · have : ¬ 0 ≤ y := by simpa using h
      simp [this]
    rintro vs H' ⟨rfl, rfl⟩
    simp only [T_all, T_imp]
    intro b35 heq
    simp only [List.cons.injEq, Value.bool.injEq, and_true] at heq
    subst heq
    refine T_join (fun vs H' => vs = [] ∧ bset b n m :: cl k (bl m n).toArray :: H = H') ?_ fun R2 hR2 => bits_Has ?_
    rotate_left
    · simp only [asB_bool]
      refine T_xif (fun h => ?_) fun h => ?_
      · have hb := of_decide_eq_true h
        refine T_req (by simpa using hb) ?_
        rw [add_mk, Nat.zero_add]
        refine T_ldB (n := m y.toNat) (by rw [List.getElem?_toArray]; exact bl_get (by omega)) (T_xif_f ?_ (hR2 _ _ ⟨rfl, rfl⟩))
        rw [isIn, h, Bool.true_and]
        cases m y.toNat <;> rfl
      · refine T_xif_f ?_ (hR2 _ _ ⟨rfl, rfl⟩)
        rw [isIn, h, Bool.false_and]; rfl
    rintro vs H' ⟨rfl, rfl⟩
    simp only [T_imp]
    intro _
    refine T_argI hr rfl hlt (iv_get hzi) (T_req (by decide) (T_xif (fun hev => bits_Put ?_) fun hev => bits_Drop ?_))
    · simp only [asB_bool]
      refine T_xif (fun h => ?_) fun h => ?_
      · have hb := of_decide_eq_true h
        obtain ⟨v, rfl⟩ : ∃ v : Nat, y = (v : Int) := ⟨y.toNat, by omega⟩
        refine T_req (by simpa using hb) ?_
        rw [add_mk, Nat.zero_add, Int.toNat_natCast]
        refine T_ldB (n := m v) (by rw [List.getElem?_toArray]; exact bl_get (by omega)) (T_xif_f ?_ ?_)
        · rw [putOk, h, Bool.true_and, Int.toNat_natCast]
          cases m v <;> rfl
        refine T_xif_t h (T_req (by simpa using hb) ?_)
        refine T_st (by simp; omega) rfl ?_
        simp only [List.setIfInBounds_toArray]
        rw [putIn_bl (by omega)]
        exact hR _ _ ⟨i + 1, _, by omega, rfl, rfl⟩ (by simp only [Int.toNat_natCast]; omega)
      · have e : putOk n m y = false := by rw [putOk, h, Bool.false_and]
        have e2 : putIn n m y = m := by rw [putIn, e]; rfl
        rw [e, e2]
        exact T_xif_f rfl (T_xif_f h (hR _ _ ⟨i + 1, _, by omega, rfl, rfl⟩ (by simp only [Int.toNat_natCast]; omega)))
    · simp only [asB_bool]
      refine T_xif (fun h => ?_) fun h => ?_
      · have hb := of_decide_eq_true h
        obtain ⟨v, rfl⟩ : ∃ v : Nat, y = (v : Int) := ⟨y.toNat, by omega⟩
        refine T_req (by simpa using hb) ?_
        rw [add_mk, Nat.zero_add, Int.toNat_natCast]
        refine T_ldB (n := m v) (by rw [List.getElem?_toArray]; exact bl_get (by omega)) (T_xif_f ?_ ?_)
        · rw [isIn, h, Bool.true_and, Int.toNat_natCast]
          cases m v <;> rfl
        refine T_xif_t h (T_req (by simpa using hb) ?_)
        refine T_st (by simp; omega) rfl ?_
        simp only [List.setIfInBounds_toArray]
        rw [dropIn_bl (by omega)]
        exact hR _ _ ⟨i + 1, _, by omega, rfl, rfl⟩ (by simp only [Int.toNat_natCast]; omega)
      · have e : isIn n m y = false := by rw [isIn, h, Bool.false_and]
        have e2 : dropIn n m y = m := by rw [dropIn, e]; rfl
        rw [e, e2]
        exact T_xif_f rfl (T_xif_f h (hR _ _ ⟨i + 1, _, by omega, rfl, rfl⟩ (by simp only [Int.toNat_natCast]; omega)))
  clear hR
  refine bset_facts fun _ hout => ?_
  have hrd : RdV B (bset b n m :: cl k (bl m n).toArray :: H) (some ⟨k, 0, none⟩) (bl m n) := RdV.of_cl fun i hi => by rw [List.getElem?_toArray, Nat.zero_add]
  refine ref02_List hrd (by omega) fun p2 c2 => ?_
  simp only [asS_slice]
  have hml := ml_len (m := m) n
  refine T_perm (List.Perm.swap _ _ _) (bits_Size ?_)
  simp only [asI_int]
  refine T_xif_t (by simp) (bits_Count ?_)
  simp only [asI_int]
  rw [pop_ml]
  refine T_xif_t (by simp) (bits_List hT fun p3 c3 => ?_)
  simp only [asS_slice]
  refine SameInts_eq rfl rfl (by omega) RdV.of_osl ((RdV.of_osl (H := cl k (bl m n).toArray :: H)).tail.tail) ?_
  simp only [asB_bool]
  refine T_xif_t rfl (T_drop (T_perm (List.Perm.swap _ _ _) (T_drop ?_)))
  refine bits_First hT fun r1 h1 => ?_
  simp only [asI_int]
  refine ref02_Next hrd (by omega) hout fun r2 h2 => ?_
  simp only [asI_int]
  refine T_xif_t (by rw [h1.uniq h2]; simp) (bits_Last fun r3 h3 => ?_)
  simp only [asI_int]
  refine ref02_Last hrd (by omega) hout fun r4 h4 => ?_
  simp only [asI_int]
  refine T_xif_t (by rw [h3.uniq h4]; simp) (bits_Next hT hx.1 fun r5 h5 => ?_)
  simp only [asI_int]
  refine ref02_Next hrd (by omega) hout fun r6 h6 => ?_
  simp only [asI_int]
  have hlast : T B (bset b n m :: cl k (bl m n).toArray :: H) (K (.bool true)) := T_drop (T_drop hk)
  refine T_xif_t (by rw [h5.uniq h6]; simp) ?_
  by_cases hx1 : x < 1
  · refine bits_Run_low hx1 ?_
    simp only [asI_int]
    refine ref02_Run_low hx1 ?_
    simp only [asI_int]
    exact T_xif_t (by simp) (hworks _ hlast)
  · obtain ⟨kx, rfl⟩ : ∃ kx : Nat, x = (kx : Int) := ⟨x.toNat, by omega⟩
    refine bits_Run hT (by omega) fun r7 h7 => ?_
    simp only [asI_int]
    refine ref02_Run hrd (by omega) hout (by omega) fun r8 h8 => ?_
    simp only [asI_int]
    exact T_xif_t (by rw [h7.uniq h8]; simp) (hworks _ hlast)

end
end Go.Proofs.YtnhgcgjmmalebaaDoor
