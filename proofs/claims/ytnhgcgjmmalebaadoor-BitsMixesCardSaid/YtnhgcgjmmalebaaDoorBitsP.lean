/- The document's answers on a row of booleans (layer 2); no condition. -/
import Derived.Test.YtnhgcgjmmalebaaDoorBitsLaw
set_option linter.unusedVariables false
set_option linter.unusedSimpArgs false
namespace Go.Proofs.YtnhgcgjmmalebaaDoor
open Go.XS

def bl (m : Nat → Bool) (n : Nat) : List Value := (List.range n).map fun j => .bool (m j)
@[simp] theorem bl_length (m : Nat → Bool) (n : Nat) : (bl m n).length = n := by simp [bl]
theorem bl_get {m : Nat → Bool} {n i : Nat} (h : i < n) : (bl m n)[i]? = some (.bool (m i)) := by
  simp [bl, List.getElem?_map, List.getElem?_range h]
theorem bl_set {m : Nat → Bool} {n i : Nat} {v : Bool} (h : i < n) : (bl m n).set i (.bool v) = bl (flip m i v) n := by
  apply List.ext_getElem?
  intro j
  rw [List.getElem?_set]
  by_cases hj : j < n
  · rw [bl_get hj, bl_get hj]
    by_cases e : i = j
    · subst e; simp [flip, h]
    · have : ¬ j = i := fun h' => e h'.symm
      simp [flip, e, this]
  · have e : ¬ i = j := by omega
    rw [if_neg e, List.getElem?_eq_none (by simp; omega), List.getElem?_eq_none (by simp; omega)]

section
variable {B : Heap} {H : List HProp} {K : Value → HP} {q : Option Addr} {n c : Nat} {m : Nat → Bool}

theorem T_rowB {p : Option Addr} {ys : List Value} (h : RdV B H p ys) {n : Int} {l i : Nat} (hn : n = (i : Int)) (hl : i < l) {x : Bool} {f : Bool → HP} (hc : ys[i]? = some (.bool x)) (t : T B H (f x)) :
    T B H (adr p fun a => req ((0 : Int) ≤ n ∧ n < (l : Int)) (ldB (Addr.add a n.toNat) f)) := by
  subst hn
  have hi : i < ys.length := (List.getElem?_eq_some_iff.1 hc).1
  refine T_rd_adr h (by omega) fun a ha => T_req ⟨by omega, by omega⟩ ?_
  subst ha
  rw [Int.toNat_natCast]
  exact T_rdB h hc t

theorem ref02_Next {x : Int} (hr : RdV B H q (bl m n)) (hb : n ≤ 1048576) (hout : ∀ k, n ≤ k → m k = false) (hk : ∀ r, IsNext m x r → T B H (K (.int .i64 r))) :
    T B H (callP P f_ref02_Next #[.slice q n c, .int .i64 x] K) := by
  refine T_of (call_ref02_Next _ _ _ _) ?_
  unfold F_ref02_Next
  refine T_loop (fun vs H' => ∃ i : Nat, i ≤ n ∧ vs = [.int .i64 (i : Int)] ∧ (∀ k : Nat, x < (k : Int) → k < i → m k = false) ∧ H = H')
    (fun vs => match vs with | [.int _ i] => n - i.toNat | _ => 0) ⟨0, Nat.zero_le _, rfl, fun k _ h => by omega, rfl⟩ ?_
  rintro vs H' R ⟨i, hi, rfl, hno, rfl⟩ hR
  simp only [T_all, T_imp]
  intro n23 heq
  simp only [List.cons.injEq, Value.int.injEq, true_and, and_true] at heq
  subst heq
  refine T_xif (fun hc => ?_) fun hc => ?_
  · have hlt : i < n := by simpa using hc
    refine T_rowB hr rfl hlt (bl_get hlt) ?_
    rw [wrap_succ (i := i) (by omega)]
    refine T_xif (fun h => T_xif (fun h2 => hk _ (.inr ⟨i, rfl, by simpa using h2, h, hno⟩)) fun h2 => ?_) fun h => ?_
    · have h2 : ¬ x < (i : Int) := by simpa using h2
      refine hR _ _ ⟨i + 1, by omega, rfl, fun k h3 h4 => ?_, rfl⟩ (by simp only [Int.toNat_natCast]; omega)
      exact hno k h3 (by omega)
    · refine hR _ _ ⟨i + 1, by omega, rfl, fun k h3 h4 => ?_, rfl⟩ (by simp only [Int.toNat_natCast]; omega)
      by_cases e : k = i
      · rw [e]; exact h
      · exact hno k h3 (by omega)
  · have : i = n := by simp at hc; omega
    subst this
    refine hk _ (.inl ⟨rfl, fun k h3 => ?_⟩)
    rcases Nat.lt_or_ge k i with h4 | h4
    · exact hno k h3 h4
    · exact hout k h4

theorem ref02_Last (hr : RdV B H q (bl m n)) (hb : n ≤ 1048576) (hout : ∀ k, n ≤ k → m k = false) (hk : ∀ r, IsLast m r → T B H (K (.int .i64 r))) :
    T B H (callP P f_ref02_Last #[.slice q n c] K) := by
  refine T_of (call_ref02_Last _ _ _) ?_
  unfold F_ref02_Last
  refine T_loop (fun vs H' => ∃ (i : Nat) (o : Int), i ≤ n ∧ vs = [.int .i64 o, .int .i64 (i : Int)] ∧ ((o = -1 ∧ ∀ k, k < i → m k = false) ∨ ∃ j : Nat, o = (j : Int) ∧ m j = true ∧ ∀ k, j < k → k < i → m k = false) ∧ H = H')
    (fun vs => match vs with | [_, .int _ i] => n - i.toNat | _ => 0) ⟨0, -1, Nat.zero_le _, rfl, .inl ⟨rfl, fun k h => by omega⟩, rfl⟩ ?_
  rintro vs H' R ⟨i, o, hi, rfl, hno, rfl⟩ hR
  simp only [T_all, T_imp]
  intro n23 n24 heq
  simp only [List.cons.injEq, Value.int.injEq, true_and, and_true] at heq
  obtain ⟨rfl, rfl⟩ := heq
  refine T_xif (fun hc => ?_) fun hc => ?_
  · have hlt : i < n := by simpa using hc
    refine T_rowB hr rfl hlt (bl_get hlt) ?_
    rw [wrap_succ (i := i) (by omega)]
    refine T_xif (fun h => hR _ _ ⟨i + 1, _, by omega, rfl, .inr ⟨i, rfl, h, fun k h3 h4 => by omega⟩, rfl⟩ (by simp only [Int.toNat_natCast]; omega)) fun h => ?_
    refine hR _ _ ⟨i + 1, _, by omega, rfl, ?_, rfl⟩ (by simp only [Int.toNat_natCast]; omega)
    rcases hno with ⟨e, hno⟩ | ⟨j, e, hj, hno⟩
    · refine .inl ⟨e, fun k h3 => ?_⟩
      by_cases e : k = i
      · rw [e]; exact h
      · exact hno k (by omega)
    · refine .inr ⟨j, e, hj, fun k h3 h4 => ?_⟩
      by_cases e : k = i
      · rw [e]; exact h
      · exact hno k h3 (by omega)
  · have : i = n := by simp at hc; omega
    subst this
    refine hk _ ?_
    rcases hno with ⟨e, hno⟩ | ⟨j, e, hj, hno⟩
    · refine .inl ⟨e, fun k => ?_⟩
      rcases Nat.lt_or_ge k i with h4 | h4
      · exact hno k h4
      · exact hout k h4
    · refine .inr ⟨j, e, hj, fun k h3 => ?_⟩
      rcases Nat.lt_or_ge k i with h4 | h4
      · exact hno k h3 h4
      · exact hout k h4

theorem ref02_List (hr : RdV B H q (bl m n)) (hb : n ≤ 1048576) (hk : ∀ p' c', T B (osl 1 p' (ml m n).length c' (iv .i64 (ml m n)) :: H) (K (.slice p' (ml m n).length c'))) :
    T B H (callP P f_ref02_List #[.slice q n c] K) := by
  refine T_of (call_ref02_List _ _ _) ?_
  unfold F_ref02_List
  refine T_oslNil 1 (T_loop (fun vs H' => ∃ (i : Nat) (p' : Option Addr) (c' : Nat), i ≤ n ∧ vs = [.slice p' (ml m i).length c', .int .i64 (i : Int)] ∧ osl 1 p' (ml m i).length c' (iv .i64 (ml m i)) :: H = H')
    (fun vs => match vs with | [_, .int _ i] => n - i.toNat | _ => 0) ⟨0, none, 0, Nat.zero_le _, rfl, rfl⟩ ?_)
  rintro vs H' R ⟨i, p', c', hi, rfl, rfl⟩ hR
  simp only [T_all, T_imp]
  intro p23 k24 k25 n26 heq
  simp only [List.cons.injEq, Value.int.injEq, Value.slice.injEq, true_and, and_true] at heq
  obtain ⟨⟨rfl, rfl, rfl⟩, rfl⟩ := heq
  have hml := ml_len (m := m) i
  refine T_xif (fun hc => ?_) fun hc => ?_
  · have hlt : i < n := by simpa using hc
    refine T_rowB hr.tail rfl hlt (bl_get hlt) ?_
    rw [wrap_succ (i := i) (by omega)]
    refine T_xif (fun h => snoc34 (by omega) fun p2 c2 => ?_) fun h => ?_
    · rw [← ml_in h]
      have hl : (ml m i).length + 1 = (ml m (i + 1)).length := by rw [ml_in h]; simp
      rw [hl]
      exact hR _ _ ⟨i + 1, p2, c2, by omega, rfl, rfl⟩ (by simp only [Int.toNat_natCast]; omega)
    · have e : ml m i = ml m (i + 1) := (ml_gap 1 fun k h3 h4 => by rw [show k = i by omega]; exact h).symm
      rw [e]
      exact hR _ _ ⟨i + 1, p', c', by omega, rfl, rfl⟩ (by simp only [Int.toNat_natCast]; omega)
  · have : i = n := by simp at hc; omega
    subst this
    exact hk _ _

theorem ref02_Run_low {x : Int} (h : x < 1) (hk : T B H (K (.int .i64 (-1)))) : T B H (callP P f_ref02_Run #[.slice q n c, .int .i64 x] K) := by
  refine T_of (call_ref02_Run _ _ _ _) ?_
  unfold F_ref02_Run
  refine T_loop (fun vs H' => vs = [.int .i64 0] ∧ H = H') (fun _ => 0) ⟨rfl, rfl⟩ ?_
  rintro vs H' R ⟨rfl, rfl⟩ hR
  simp only [T_all, T_imp]
  intro n23 heq
  simp only [List.cons.injEq, Value.int.injEq, true_and, and_true] at heq
  subst heq
  refine T_join (fun _ _ => False) (fun _ _ h => h.elim) fun R2 _ => T_xif_f (by simp; omega) hk

theorem ref02_Run {k : Nat} (hr : RdV B H q (bl m n)) (hb : n ≤ 1048576) (hout : ∀ k, n ≤ k → m k = false) (h1k : 1 ≤ k) (hk : ∀ r, IsRun m k r → T B H (K (.int .i64 r))) :
    T B H (callP P f_ref02_Run #[.slice q n c, .int .i64 (k : Int)] K) := by
  refine T_of (call_ref02_Run _ _ _ _) ?_
  unfold F_ref02_Run
  refine T_loop (fun vs H' => ∃ i : Nat, i ≤ n ∧ vs = [.int .i64 (i : Int)] ∧ (∀ i', i' < i → ¬ RunAt m k i') ∧ H = H')
    (fun vs => match vs with | [.int _ i] => n - i.toNat | _ => 0) ⟨0, Nat.zero_le _, rfl, fun k h => by omega, rfl⟩ ?_
  rintro vs H' R ⟨i, hi, rfl, hno, rfl⟩ hR
  simp only [T_all, T_imp]
  intro n23 heq
  simp only [List.cons.injEq, Value.int.injEq, true_and, and_true] at heq
  subst heq
  have hend : n < i + k → T B H (K (.int .i64 (-1))) := fun h => hk _ (.inl ⟨rfl, fun i' hra => by
    rcases Nat.lt_or_ge i' i with h3 | h3
    · exact hno i' h3 hra
    · have := hra (k - 1) (by omega)
      rw [hout _ (by omega)] at this
      cases this⟩)
  refine T_join (fun vs H' => vs = [] ∧ i < n ∧ i + k ≤ n ∧ H = H') ?_ fun R2 hR2 => ?_
  rotate_left
  · refine T_xif_t (by simp; omega) (T_xif (fun h => ?_) fun h => hend ?_)
    · have hlt : i < n := by simpa using h
      have hw : IntKind.wrap .i64 ((n : Int) - (i : Int)) = (n : Int) - (i : Int) := wrap_i64 (by omega) (by omega)
      rw [hw]
      refine T_xif (fun h => hR2 _ _ ⟨rfl, hlt, ?_, rfl⟩) fun h => hend ?_
      · have : (k : Int) ≤ (n : Int) - (i : Int) := by simpa using h
        omega
      · have : ¬ (k : Int) ≤ (n : Int) - (i : Int) := by simpa using h
        omega
    · have : ¬ i < n := by simpa using h
      omega
  rintro vs H' ⟨rfl, hlt, hik, rfl⟩
  simp only [T_imp]
  intro _
  have hw : IntKind.wrap .i64 ((i : Int) + (k : Int)) = ((i + k : Nat) : Int) := by rw [wrap_i64 (by omega) (by omega)]; omega
  rw [hw]
  refine T_loop (fun vs H' => ∃ j : Nat, i ≤ j ∧ j ≤ i + k ∧ (∃ bb : Bool, vs = [.bool bb, .int .i64 (j : Int)] ∧ (bb = true ↔ ∀ t, i ≤ t → t < j → m t = true)) ∧ H = H')
    (fun vs => match vs with | [_, .int _ j] => i + k - j.toNat | _ => 0) ⟨i, Nat.le_refl _, by omega, ⟨true, rfl, by simp; omega⟩, rfl⟩ ?_
  rintro vs H' R3 ⟨j, hij, hjk, ⟨bb, rfl, hbb⟩, rfl⟩ hR3
  simp only [T_all, T_imp]
  intro b41 n42 heq
  simp only [List.cons.injEq, Value.int.injEq, Value.bool.injEq, true_and, and_true] at heq
  obtain ⟨rfl, rfl⟩ := heq
  refine T_xif (fun hc2 => ?_) fun hc2 => ?_
  · have hlt : j < i + k := by simp at hc2; omega
    rw [wrap_succ (i := j) (by omega)]
    refine T_xif (fun hb => T_rowB hr rfl (by omega) (bl_get (by omega)) ?_) fun hb => hR3 _ _ ⟨j + 1, by omega, by omega, ⟨false, rfl, ?_⟩, rfl⟩ (by simp only [Int.toNat_natCast]; omega)
    · refine hR3 _ _ ⟨j + 1, by omega, by omega, ⟨m j, rfl, ?_⟩, rfl⟩ (by simp only [Int.toNat_natCast]; omega)
      constructor
      · intro h t h3 h4
        by_cases htj : t = j
        · rw [htj]; exact h
        · exact hbb.1 hb t h3 (by omega)
      · intro h
        exact h j hij (by omega)
    · constructor
      · intro h; cases h
      · intro h
        have := hbb.2 fun t h3 h4 => h t h3 (by omega)
        rw [hb] at this; cases this
  · have : j = i + k := by simp at hc2; omega
    subst this
    refine T_xif (fun hb => ?_) fun hb => ?_
    · exact hk _ (.inr ⟨i, rfl, fun t ht => hbb.1 hb (i + t) (by omega) (by omega), hno⟩)
    · rw [wrap_succ (i := i) (by omega)]
      refine hR _ _ ⟨i + 1, by omega, rfl, fun i' h3 => ?_, rfl⟩ (by simp only [Int.toNat_natCast]; omega)
      by_cases hii : i' = i
      · subst hii
        intro hra
        have := hbb.2 fun t h4 h5 => by
          have := hra (t - i') (by omega)
          rwa [show i' + (t - i') = t by omega] at this
        rw [hb] at this; cases this
      · exact hno i' (by omega)

end
end Go.Proofs.YtnhgcgjmmalebaaDoor
