/- A book of counts (layer 14): sums, the greatest one; the reference's; the example; no condition but the arguments' forms. -/
import Derived.Test.YtnhgcgjmmalebaaCount
set_option linter.unusedVariables false
set_option linter.unusedSimpArgs false
namespace Go.Proofs.Ytnhgcgjmmalebaa
open Go.XS

abbrev maxI : Int := 9223372036854775807
def sumV (xs : List Int) : Value := .tuple #[.int .i64 (if xs.sum ≤ maxI then xs.sum else 0), .bool (decide (xs.sum ≤ maxI))]

theorem sum_nonneg : ∀ (xs : List Int), (∀ x ∈ xs, 0 ≤ x) → 0 ≤ xs.sum
  | [], _ => by simp
  | x :: xs, h => by
    have := h x (by simp)
    have := sum_nonneg xs (fun y hy => h y (by simp [hy]))
    simp; omega
theorem sum_take_le {xs : List Int} (h : ∀ x ∈ xs, 0 ≤ x) (i : Nat) : (xs.take i).sum ≤ xs.sum := by
  have e : xs.sum = (xs.take i).sum + (xs.drop i).sum := by
    rw [← List.sum_append, List.take_append_drop]
  have := sum_nonneg (xs.drop i) (fun y hy => h y (List.mem_of_mem_drop hy))
  omega
theorem sum_snoc (xs : List Int) (x : Int) : (xs ++ [x]).sum = xs.sum + x := by simp

/-- t is where the greatest stands first. -/
def IsTop (xs : List Int) (t : Int) : Prop := (xs = [] ∧ t = -1) ∨ ∃ (j : Nat) (m : Int), t = (j : Int) ∧ xs[j]? = some m ∧ ∀ (k : Nat) (y : Int), xs[k]? = some y → y ≤ m ∧ (k < j → y < m)
theorem IsTop.uniq {xs : List Int} {s t : Int} (h : IsTop xs s) (h' : IsTop xs t) : s = t := by
  rcases h with ⟨e, rfl⟩ | ⟨j, m, rfl, hj, hm⟩
  · rcases h' with ⟨_, rfl⟩ | ⟨j', m', rfl, hj', _⟩
    · rfl
    · subst e; simp at hj'
  · rcases h' with ⟨e, rfl⟩ | ⟨j', m', rfl, hj', hm'⟩
    · subst e; simp at hj
    · obtain ⟨a1, a2⟩ := hm j' m' hj'
      obtain ⟨b1, b2⟩ := hm' j m hj
      rcases Nat.lt_trichotomy j j' with h | h | h
      · have := b2 h; omega
      · rw [h]
      · have := a2 h; omega

section
variable {B : Heap} {H : List HProp} {K : Value → HP} {b n : Nat} {xs : List Int} {q : Option Addr} {l c : Nat}

theorem wrap_over {n : Int} (h0 : maxI < n) (h1 : n ≤ maxI + maxI) : IntKind.wrap .i64 n < 0 := by
  simp only [maxI] at h0 h1
  rw [IntKind.wrap_i64]
  omega

/-- Both ways of adding up. -/
theorem count_Sum_nil (hk : T B H (K (.tuple #[.int .i64 0, .bool true]))) : T B H (callP P f_count_Book_Sum #[.pointer none] K) := by
  refine T_of (call_count_Book_Sum _) ?_
  unfold F_count_Book_Sum
  refine count_All_nil ?_
  simp only [asS_slice]
  refine T_loop (fun vs H' => vs = [.int .i64 0, .int .i64 0] ∧ H = H') (fun _ => 0) ⟨rfl, rfl⟩ ?_
  rintro vs H' R ⟨rfl, rfl⟩ hR
  simp only [T_all, T_imp]
  intro n1 n2 heq
  simp only [List.cons.injEq, Value.int.injEq, true_and, and_true] at heq
  obtain ⟨rfl, rfl⟩ := heq
  exact T_xif_f (by simp) hk
theorem count_Sum_zero {z : Nat} (hk : T B (cl z (cB0 0) :: H) (K (.tuple #[.int .i64 0, .bool true]))) : T B (cl z (cB0 0) :: H) (callP P f_count_Book_Sum #[.pointer (some ⟨z, 0, none⟩)] K) := by
  refine T_of (call_count_Book_Sum _) ?_
  unfold F_count_Book_Sum
  refine count_All_zero fun c => ?_
  simp only [asS_slice]
  refine T_drop (T_loop (fun vs H' => vs = [.int .i64 0, .int .i64 0] ∧ cl z (cB0 0) :: H = H') (fun _ => 0) ⟨rfl, rfl⟩ ?_)
  rintro vs H' R ⟨rfl, rfl⟩ hR
  simp only [T_all, T_imp]
  intro n1 n2 heq
  simp only [List.cons.injEq, Value.int.injEq, true_and, and_true] at heq
  obtain ⟨rfl, rfl⟩ := heq
  exact T_xif_f (by simp) hk

theorem count_Sum (hk : T B (cbk b n xs :: H) (K (sumV xs))) : T B (cbk b n xs :: H) (callP P f_count_Book_Sum #[.pointer (some ⟨b, 0, none⟩)] K) := by
  refine cbk_facts fun g1 g2 g3 g4 => ?_
  have hn0 : ∀ x ∈ xs, 0 ≤ x := fun x hx => (g4 x hx).1
  refine T_of (call_count_Book_Sum _) ?_
  unfold F_count_Book_Sum
  refine count_All fun c => ?_
  simp only [asS_slice]
  refine T_loop (fun vs H' => ∃ i : Nat, i ≤ n ∧ vs = [.int .i64 (xs.take i).sum, .int .i64 (i : Int)] ∧ (xs.take i).sum ≤ maxI ∧ cl c (iv .i64 xs).toArray :: cbk b n xs :: H = H')
    (fun vs => match vs with | [_, .int _ i] => n - i.toNat | _ => 0) ⟨0, Nat.zero_le _, rfl, by simp, rfl⟩ ?_
  rintro vs H' R ⟨i, hi, rfl, hle, rfl⟩ hR
  simp only [T_all, T_imp]
  intro n27 n28 heq
  simp only [List.cons.injEq, Value.int.injEq, true_and, and_true] at heq
  obtain ⟨rfl, rfl⟩ := heq
  refine T_xif (fun hc => ?_) fun hc => ?_
  · have hlt : i < n := by simpa using hc
    obtain ⟨x, hx⟩ : ∃ x, xs[i]? = some x := ⟨_, List.getElem?_eq_getElem (by omega)⟩
    have hxb := g4 x (List.mem_of_getElem? hx)
    have hs0 := sum_nonneg (xs.take i) (fun y hy => hn0 y (List.mem_of_mem_take hy))
    have hstep : (xs.take (i + 1)).sum = (xs.take i).sum + x := by rw [take_succ_of hx, sum_snoc]
    refine T_idxI rfl hlt (by rw [List.getElem?_toArray, Nat.zero_add]; exact iv_get hx) ?_
    rcases Int.lt_or_le maxI ((xs.take i).sum + x) with h | h
    · have hw := wrap_over h (by simp only [mostC, maxI] at *; omega)
      have hbig : ¬ xs.sum ≤ maxI := by
        have := sum_take_le hn0 (i + 1)
        rw [hstep] at this; omega
      refine T_xif_t (by simp; omega) (T_drop (T_conv hk ?_))
      rw [sumV, if_neg hbig, decide_eq_false hbig]
    · rw [wrap_i64 (n := (xs.take i).sum + x) (by omega) h, wrap_succ (i := i) (by omega), ← hstep]
      exact T_xif_f (by simp; omega) (hR _ _ ⟨i + 1, by omega, rfl, by omega, rfl⟩ (by simp only [Int.toNat_natCast]; omega))
  · have : i = n := by simp at hc; omega
    subst this
    rw [List.take_of_length_le (by omega)] at *
    refine T_drop (T_conv hk ?_)
    rw [sumV, if_pos hle, decide_eq_true hle]

theorem ref14_Sum (hr : RdV B H q (iv .i64 xs)) (hl : l = xs.length) (hb : l ≤ 1000000) (hx0 : ∀ x ∈ xs, 0 ≤ x ∧ x ≤ mostC) (hk : T B H (K (sumV xs))) : T B H (callP P f_ref14_Sum #[.slice q l c] K) := by
  subst hl
  have hn0 : ∀ x ∈ xs, 0 ≤ x := fun x hx => (hx0 x hx).1
  refine T_of (call_ref14_Sum _ _ _) ?_
  unfold F_ref14_Sum
  refine T_loop (fun vs H' => ∃ i : Nat, i ≤ xs.length ∧ vs = [.int .i64 (xs.take i).sum, .int .i64 (i : Int)] ∧ (xs.take i).sum ≤ maxI ∧ H = H')
    (fun vs => match vs with | [_, .int _ i] => xs.length - i.toNat | _ => 0) ⟨0, Nat.zero_le _, rfl, by simp, rfl⟩ ?_
  rintro vs H' R ⟨i, hi, rfl, hle, rfl⟩ hR
  simp only [T_all, T_imp]
  intro n27 n28 heq
  simp only [List.cons.injEq, Value.int.injEq, true_and, and_true] at heq
  obtain ⟨rfl, rfl⟩ := heq
  refine T_xif (fun hc => ?_) fun hc => ?_
  · have hlt : i < xs.length := by simpa using hc
    obtain ⟨x, hx⟩ : ∃ x, xs[i]? = some x := ⟨_, List.getElem?_eq_getElem (by omega)⟩
    have hxb := hx0 x (List.mem_of_getElem? hx)
    have hs0 := sum_nonneg (xs.take i) (fun y hy => hn0 y (List.mem_of_mem_take hy))
    have hstep : (xs.take (i + 1)).sum = (xs.take i).sum + x := by rw [take_succ_of hx, sum_snoc]
    refine T_rowI hr rfl hlt (iv_get hx) (T_of (call_ref01_Add _ _) ?_)
    unfold F_ref01_Add
    have hno : ¬ x < 0 := by omega
    have hgo : (xs.take i).sum + x ≤ maxI → T B H (R [.int .i64 (IntKind.wrap .i64 ((xs.take i).sum + x)), .int .i64 (IntKind.wrap .i64 ((i : Int) + 1))]) := fun h => by
      rw [wrap_i64 (n := (xs.take i).sum + x) (by omega) h, wrap_succ (i := i) (by omega), ← hstep]
      exact hR _ _ ⟨i + 1, by omega, rfl, by omega, rfl⟩ (by simp only [Int.toNat_natCast]; omega)
    refine T_xif (fun hp => T_xif (fun h => T_ex _ (T_ex _ (T_and rfl (T_xif_t rfl (T_conv hk ?_))))) fun h => T_xif_f (by simpa using hno) (T_ex _ (T_ex _ (T_and rfl (T_xif_f rfl (hgo ?_)))))) fun hp => T_xif_f (by simpa using hno) (T_ex _ (T_ex _ (T_and rfl (T_xif_f rfl (hgo ?_)))))
    · rw [wrap_i64 (by simp only [mostC] at hxb; omega) (by omega)] at h
      have h : (xs.take i).sum > 9223372036854775807 - x := by simpa using h
      have hbig : ¬ xs.sum ≤ maxI := by
        have := sum_take_le hn0 (i + 1)
        rw [hstep] at this; simp only [maxI]; omega
      rw [sumV, if_neg hbig, decide_eq_false hbig]
    · rw [wrap_i64 (by simp only [mostC] at hxb; omega) (by omega)] at h
      have h : ¬ (xs.take i).sum > 9223372036854775807 - x := by simpa using h
      simp only [maxI]; omega
    · have hp : ¬ x > 0 := by simpa using hp
      omega
  · have : i = xs.length := by simp at hc; omega
    subst this
    rw [List.take_of_length_le (Nat.le_refl _)] at *
    refine T_conv hk ?_
    rw [sumV, if_pos hle, decide_eq_true hle]

theorem count_Top_nil (hk : T B H (K (.int .i64 (-1)))) : T B H (callP P f_count_Book_Top #[.pointer none] K) := by
  refine T_of (call_count_Book_Top _) ?_
  unfold F_count_Book_Top
  refine count_All_nil ?_
  simp only [asS_slice]
  refine T_loop (fun vs H' => vs = [.int .i64 (-1), .int .i64 (-1), .int .i64 0] ∧ H = H') (fun _ => 0) ⟨rfl, rfl⟩ ?_
  rintro vs H' R ⟨rfl, rfl⟩ hR
  simp only [T_all, T_imp]
  intro n1 n2 n3 heq
  simp only [List.cons.injEq, Value.int.injEq, true_and, and_true] at heq
  obtain ⟨rfl, rfl, rfl⟩ := heq
  exact T_xif_f (by simp) hk
theorem count_Top_zero {z : Nat} (hk : T B (cl z (cB0 0) :: H) (K (.int .i64 (-1)))) : T B (cl z (cB0 0) :: H) (callP P f_count_Book_Top #[.pointer (some ⟨z, 0, none⟩)] K) := by
  refine T_of (call_count_Book_Top _) ?_
  unfold F_count_Book_Top
  refine count_All_zero fun c => ?_
  simp only [asS_slice]
  refine T_drop (T_loop (fun vs H' => vs = [.int .i64 (-1), .int .i64 (-1), .int .i64 0] ∧ cl z (cB0 0) :: H = H') (fun _ => 0) ⟨rfl, rfl⟩ ?_)
  rintro vs H' R ⟨rfl, rfl⟩ hR
  simp only [T_all, T_imp]
  intro n1 n2 n3 heq
  simp only [List.cons.injEq, Value.int.injEq, true_and, and_true] at heq
  obtain ⟨rfl, rfl, rfl⟩ := heq
  exact T_xif_f (by simp) hk

theorem count_Top (hk : ∀ t, IsTop xs t → T B (cbk b n xs :: H) (K (.int .i64 t))) : T B (cbk b n xs :: H) (callP P f_count_Book_Top #[.pointer (some ⟨b, 0, none⟩)] K) := by
  refine cbk_facts fun g1 g2 g3 g4 => ?_
  refine T_of (call_count_Book_Top _) ?_
  unfold F_count_Book_Top
  refine count_All fun c => ?_
  simp only [asS_slice]
  refine T_loop (fun vs H' => ∃ (i : Nat) (t m : Int), i ≤ n ∧ vs = [.int .i64 t, .int .i64 m, .int .i64 (i : Int)] ∧ ((i = 0 ∧ t = -1 ∧ m = -1) ∨ ∃ j : Nat, j < i ∧ t = (j : Int) ∧ xs[j]? = some m ∧ ∀ (k : Nat) (y : Int), k < i → xs[k]? = some y → y ≤ m ∧ (k < j → y < m)) ∧ cl c (iv .i64 xs).toArray :: cbk b n xs :: H = H')
    (fun vs => match vs with | [_, _, .int _ i] => n - i.toNat | _ => 0) ⟨0, -1, -1, Nat.zero_le _, rfl, .inl ⟨rfl, rfl, rfl⟩, rfl⟩ ?_
  rintro vs H' R ⟨i, t, m, hi, rfl, hinv, rfl⟩ hR
  simp only [T_all, T_imp]
  intro n27 n28 n29 heq
  simp only [List.cons.injEq, Value.int.injEq, true_and, and_true] at heq
  obtain ⟨rfl, rfl, rfl⟩ := heq
  refine T_xif (fun hc => ?_) fun hc => ?_
  · have hlt : i < n := by simpa using hc
    obtain ⟨x, hx⟩ : ∃ x, xs[i]? = some x := ⟨_, List.getElem?_eq_getElem (by omega)⟩
    have hxb := g4 x (List.mem_of_getElem? hx)
    refine T_idxI rfl hlt (by rw [List.getElem?_toArray, Nat.zero_add]; exact iv_get hx) ?_
    rw [wrap_succ (i := i) (by omega)]
    refine T_xif (fun h => hR _ _ ⟨i + 1, _, _, by omega, rfl, .inr ⟨i, by omega, rfl, hx, fun k y hk hy => ?_⟩, rfl⟩ (by simp only [Int.toNat_natCast]; omega)) fun h => hR _ _ ⟨i + 1, _, _, by omega, rfl, .inr ?_, rfl⟩ (by simp only [Int.toNat_natCast]; omega)
    · have h : x > m := by simpa using h
      by_cases hki : k = i
      · subst hki; rw [hx] at hy; cases hy
        exact ⟨by omega, fun h' => by omega⟩
      · rcases hinv with ⟨h0, _, _⟩ | ⟨j, hj, _, hjm, hall⟩
        · omega
        · have := (hall k y (by omega) hy).1
          exact ⟨by omega, fun _ => by omega⟩
    · have h : ¬ x > m := by simpa using h
      rcases hinv with ⟨h0, _, h2⟩ | ⟨j, hj, rfl, hjm, hall⟩
      · omega
      · refine ⟨j, by omega, rfl, hjm, fun k y hk hy => ?_⟩
        by_cases hki : k = i
        · subst hki; rw [hx] at hy; cases hy
          exact ⟨by omega, fun h' => by omega⟩
        · exact hall k y (by omega) hy
  · have : i = n := by simp at hc; omega
    subst this
    refine T_drop (hk _ ?_)
    rcases hinv with ⟨h0, h1, h2⟩ | ⟨j, hj, ht, hjm, hall⟩
    · omega
    · exact .inr ⟨j, m, ht, hjm, fun k y hy => hall k y (by have := (List.getElem?_eq_some_iff.1 hy).1; omega) hy⟩

theorem ref14_Top (hr : RdV B H q (iv .i64 xs)) (hl : l = xs.length) (hb : l ≤ 1000000) (hk : ∀ t, IsTop xs t → T B H (K (.int .i64 t))) : T B H (callP P f_ref14_Top #[.slice q l c] K) := by
  subst hl
  refine T_of (call_ref14_Top _ _ _) ?_
  unfold F_ref14_Top
  refine T_loop (fun vs H' => ∃ (i : Nat) (t : Int), i ≤ xs.length ∧ vs = [.int .i64 t, .int .i64 ((i : Int) - 1)] ∧ ((i = xs.length ∧ t = -1) ∨ ∃ (j : Nat) (m : Int), i ≤ j ∧ t = (j : Int) ∧ xs[j]? = some m ∧ ∀ (k : Nat) (y : Int), i ≤ k → xs[k]? = some y → y ≤ m ∧ (k < j → y < m)) ∧ H = H')
    (fun vs => match vs with | [_, .int _ i] => (i + 1).toNat | _ => 0) ⟨xs.length, -1, Nat.le_refl _, by rw [wrap_i64 (by omega) (by omega)], .inl ⟨rfl, rfl⟩, rfl⟩ ?_
  rintro vs H' R ⟨i, t, hi, rfl, hinv, rfl⟩ hR
  simp only [T_all, T_imp]
  intro n23 n24 heq
  simp only [List.cons.injEq, Value.int.injEq, true_and, and_true] at heq
  obtain ⟨rfl, rfl⟩ := heq
  refine T_xif (fun hc => ?_) fun hc => ?_
  · have hc : 0 ≤ (i : Int) - 1 := by simpa using hc
    obtain ⟨a, rfl⟩ : ∃ a, i = a + 1 := ⟨i - 1, by omega⟩
    have e : ((a + 1 : Nat) : Int) - 1 = (a : Int) := by omega
    obtain ⟨x, hx⟩ : ∃ x, xs[a]? = some x := ⟨_, List.getElem?_eq_getElem (by omega)⟩
    rw [e, wrap_i64 (n := (a : Int) - 1) (by omega) (by omega)]
    refine T_xif (fun h => ?_) fun h => ?_
    · have h : t < 0 := by simpa using h
      rcases hinv with ⟨h0, _⟩ | ⟨j, m, hj, ht, _⟩
      · refine hR _ _ ⟨a, _, by omega, rfl, .inr ⟨a, x, Nat.le_refl _, rfl, hx, fun k y hk hy => ?_⟩, rfl⟩ (by simp only; omega)
        have := (List.getElem?_eq_some_iff.1 hy).1
        have hka : k = a := by omega
        subst hka; rw [hx] at hy; cases hy
        exact ⟨Int.le_refl _, fun h' => by omega⟩
      · omega
    · have h : ¬ t < 0 := by simpa using h
      rcases hinv with ⟨h0, ht⟩ | ⟨j, m, hj, rfl, hjm, hall⟩
      · omega
      have hjl := (List.getElem?_eq_some_iff.1 hjm).1
      refine T_rd_adr hr (by simp; omega) fun a25 h25 => T_req ⟨by omega, by omega⟩ (T_rd_adr hr (by simp; omega) fun a26 h26 => T_req ⟨by omega, by omega⟩ ?_)
      subst h25
      have h26 := Option.some.inj h26
      subst h26
      rw [Int.toNat_natCast, Int.toNat_natCast]
      refine T_rdI hr (iv_get hx) (T_rdI hr (iv_get hjm) (T_xif (fun h2 => hR _ _ ⟨a, _, by omega, rfl, .inr ⟨a, x, Nat.le_refl _, rfl, hx, fun k y hk hy => ?_⟩, rfl⟩ (by simp only; omega)) fun h2 => hR _ _ ⟨a, _, by omega, rfl, .inr ⟨j, m, by omega, rfl, hjm, fun k y hk hy => ?_⟩, rfl⟩ (by simp only; omega)))
      · have h2 : x ≥ m := by simpa using h2
        by_cases hka : k = a
        · subst hka; rw [hx] at hy; cases hy
          exact ⟨Int.le_refl _, fun h' => by omega⟩
        · have := (hall k y (by omega) hy).1
          exact ⟨by omega, fun h' => by omega⟩
      · have h2 : ¬ x ≥ m := by simpa using h2
        by_cases hka : k = a
        · subst hka; rw [hx] at hy; cases hy
          exact ⟨by omega, fun _ => by omega⟩
        · exact hall k y (by omega) hy
  · have hc : ¬ 0 ≤ (i : Int) - 1 := by simpa using hc
    have : i = 0 := by omega
    subst this
    refine hk _ ?_
    rcases hinv with ⟨h0, h1⟩ | ⟨j, m, _, ht, hjm, hall⟩
    · exact .inl ⟨List.length_eq_zero_iff.1 h0.symm, h1⟩
    · exact .inr ⟨j, m, ht, hjm, fun k y hy => hall k y (Nat.zero_le _) hy⟩

theorem count_works (hk : T B H (K (.bool true))) : T B H (callP P f_law14_works #[] K) := by
  refine T_of call_law14_works ?_
  unfold F_law14_works
  refine count_New (n := 3) (by omega) (by omega) fun b => ?_
  simp only [asP_ptr]
  refine count_Add ?_
  rw [show cadd (List.replicate 3 0) 1 5 = [0, 5, 0] by decide, show cerr (List.replicate 3 0) 1 5 = 0 by decide]
  simp only [asI_int]
  refine count_Add ?_
  rw [show cadd [0, 5, 0] 1 2 = [0, 7, 0] by decide, show cerr [0, 5, 0] 1 2 = 0 by decide]
  simp only [asI_int]
  refine count_Sum (T_ex _ (T_ex _ (T_and rfl (T_xif_t (by decide) (T_xif_t (by decide) (count_All fun c => ?_))))))
  simp only [asS_slice]
  refine T_al fun k2 => SameInts_eq (xs := [0, 7, 0]) rfl rfl (by decide) (RdV.tail (rd_cl rfl)) (rd_cl rfl) ?_
  simp only [asB_bool]
  refine T_xif_t rfl (T_drop (T_drop (count_Top fun t ht => ?_)))
  have e : t = 1 := ht.uniq (.inr ⟨1, 7, rfl, rfl, fun k y hy => by
    match k, hy with
    | 0, hy => cases hy; exact ⟨by decide, fun _ => by decide⟩
    | 1, hy => cases hy; exact ⟨by decide, fun h => by omega⟩
    | 2, hy => cases hy; exact ⟨by decide, fun h => by omega⟩
    | k + 3, hy => simp at hy⟩)
  subst e
  simp only [asI_int]
  refine T_xif_t (by decide) (T_xif_t (by decide) (T_xif_t (by decide) (count_Add ?_)))
  rw [show cerr [0, 7, 0] 3 0 = 2 by decide]
  simp only [asI_int]
  exact T_drop (T_conv hk (congrArg Value.bool (by decide)))

end
end Go.Proofs.Ytnhgcgjmmalebaa
