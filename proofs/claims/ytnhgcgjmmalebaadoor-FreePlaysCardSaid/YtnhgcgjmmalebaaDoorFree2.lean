/- An index of free chunks (layer 17): its lists, one that New did not give; the reference's answers; no condition but that the library's table is as it is laid. -/
import Derived.Test.YtnhgcgjmmalebaaDoorFreeWorks
import Derived.Test.YtnhgcgjmmalebaaDoorBitsN
import Derived.Test.YtnhgcgjmmalebaaDoorStackRef
set_option linter.unusedVariables false
set_option linter.unusedSimpArgs false
namespace Go.Proofs.YtnhgcgjmmalebaaDoor
open Go.XS

section
variable {B : Heap} {H : List HProp} {K : Value → HP} {f n : Nat} {xs : List Int} {q : Option Addr} {l c : Nat} {x : Int}

theorem free_List_nil (hk : T B H (K (.slice none 0 0))) : T B H (callP P f_free_Index_List #[.pointer none] K) := by
  refine T_of (call_free_Index_List _) ?_
  unfold F_free_Index_List
  refine free_is_nil ?_
  simp only [asB_bool]
  exact T_xif_t rfl hk
theorem free_List (hT : Tab B) (hk : ∀ p' c', T B (osl 1 p' (ml (memOf xs) n).length c' (iv .i64 (ml (memOf xs) n)) :: fidx f n xs :: H) (K (.slice p' (ml (memOf xs) n).length c'))) :
    T B (fidx f n xs :: H) (callP P f_free_Index_List #[.pointer (some ⟨f, 0, none⟩)] K) := by
  refine T_of (call_free_Index_List _) ?_
  unfold F_free_Index_List
  refine free_is ?_
  simp only [asB_bool, adr_some, add_mk]
  refine T_xif_f rfl (fidx_open fun s b => T_ldP rfl (T_pull (.tail (.tail .head)) (bits_List hT fun p' c' => ?_)))
  simp only [asS_slice]
  refine T_perm (List.Perm.trans (.swap _ _ _) (.trans (.cons _ (.swap _ _ _)) (.trans (.swap _ _ _) (.trans (.cons _ (.cons _ (.swap _ _ _))) (.cons _ (.trans (.swap _ _ _) (.cons _ (.swap _ _ _)))))))) ?_
  refine T_perm ?_ (fidx_close (s := s) (b := b) (T_perm (List.Perm.swap _ _ _) (hk p' c')))
  exact .trans (.cons _ (.cons _ (.refl _))) (by
    refine .trans (.cons _ ?_) (.refl _)
    first
      | exact .refl _
      | exact .trans (.swap _ _ _) (.cons _ (.swap _ _ _))
      | exact .cons _ (.swap _ _ _)
      | exact .swap _ _ _)

theorem free_Order_zero {z : Nat} {v : Value} (hk : T B (cl z #[.pointer none, v] :: H) (K (.slice none 0 0))) : T B (cl z #[.pointer none, v] :: H) (callP P f_free_Index_Order #[.pointer (some ⟨z, 0, none⟩)] K) := by
  refine T_of (call_free_Index_Order _) ?_
  unfold F_free_Index_Order
  refine free_is_zero ?_
  simp only [asB_bool]
  exact T_xif_t rfl hk
theorem free_Order (hk : ∀ p' c', T B (osl 1 p' xs.length c' (iv .i64 xs) :: fidx f n xs :: H) (K (.slice p' xs.length c'))) :
    T B (fidx f n xs :: H) (callP P f_free_Index_Order #[.pointer (some ⟨f, 0, none⟩)] K) := by
  refine T_of (call_free_Index_Order _) ?_
  unfold F_free_Index_Order
  refine free_is ?_
  simp only [asB_bool, adr_some, add_mk]
  refine T_xif_f rfl (fidx_open fun s b => T_ldP rfl (T_perm (List.Perm.swap _ _ _) (stack_List fun p' c' => ?_)))
  simp only [asS_slice]
  refine T_perm (List.Perm.cons _ (List.Perm.swap _ _ _)) (T_perm (.trans (.swap _ _ _) (.cons _ (.trans (.swap _ _ _) (.cons _ (.swap _ _ _))))) ?_)
  exact fidx_close (s := s) (b := b) (T_perm (List.Perm.swap _ _ _) (hk p' c'))

theorem free_Peek_zero {z : Nat} {v : Value} (hk : T B (cl z #[.pointer none, v] :: H) (K (.tuple #[.int .i64 0, .bool false]))) : T B (cl z #[.pointer none, v] :: H) (callP P f_free_Index_Peek #[.pointer (some ⟨z, 0, none⟩)] K) := by
  refine T_of (call_free_Index_Peek _) ?_
  unfold F_free_Index_Peek
  refine free_is_zero ?_
  simp only [asB_bool]
  exact T_xif_t rfl hk
theorem free_Take_nil (hk : T B H (K (.tuple #[.int .i64 0, .bool false]))) : T B H (callP P f_free_Index_Take #[.pointer none] K) := by
  refine T_of (call_free_Index_Take _) ?_
  unfold F_free_Index_Take
  refine T_of (call_free_Index_Peek _) ?_
  unfold F_free_Index_Peek
  refine free_is_nil ?_
  simp only [asB_bool]
  exact T_xif_t rfl (T_ex _ (T_ex _ (T_and rfl (T_xif_f rfl hk))))
theorem free_Give_nil (hk : T B H (K (.bool false))) : T B H (callP P f_free_Index_Give #[.pointer none, .int .i64 x] K) := by
  refine T_of (call_free_Index_Give _ _) ?_
  unfold F_free_Index_Give
  refine free_is_nil ?_
  simp only [asB_bool]
  exact T_xif_f rfl hk
theorem free_Has_nil (hk : T B H (K (.bool false))) : T B H (callP P f_free_Index_Has #[.pointer none, .int .i64 x] K) := by
  refine T_of (call_free_Index_Has _ _) ?_
  unfold F_free_Index_Has
  refine free_is_nil ?_
  simp only [asB_bool]
  exact T_xif_f rfl hk
theorem free_Pick_zero {z : Nat} {v : Value} (hk : T B (cl z #[.pointer none, v] :: H) (K (.bool false))) : T B (cl z #[.pointer none, v] :: H) (callP P f_free_Index_Pick #[.pointer (some ⟨z, 0, none⟩), .int .i64 x] K) := by
  refine T_of (call_free_Index_Pick _ _) ?_
  unfold F_free_Index_Pick
  refine T_of (call_free_Index_Has _ _) ?_
  unfold F_free_Index_Has
  refine free_is_zero ?_
  simp only [asB_bool]
  exact T_xif_f rfl (T_xif_t rfl hk)
theorem free_Len_nil (hk : T B H (K (.int .i64 0))) : T B H (callP P f_free_Index_Len #[.pointer none] K) := by
  refine T_of (call_free_Index_Len _) ?_
  unfold F_free_Index_Len
  refine free_is_nil ?_
  simp only [asB_bool]
  exact T_xif_t rfl hk
theorem free_Len_zero {z : Nat} {v : Value} (hk : T B (cl z #[.pointer none, v] :: H) (K (.int .i64 0))) : T B (cl z #[.pointer none, v] :: H) (callP P f_free_Index_Len #[.pointer (some ⟨z, 0, none⟩)] K) := by
  refine T_of (call_free_Index_Len _) ?_
  unfold F_free_Index_Len
  refine free_is_zero ?_
  simp only [asB_bool]
  exact T_xif_t rfl hk

theorem ml_mem {m : Nat → Bool} {k : Nat} {y : Int} : y ∈ ml m k ↔ 0 ≤ y ∧ y < (k : Int) ∧ m y.toNat = true := by
  unfold ml
  simp only [List.mem_map, List.mem_filter, List.mem_range]
  constructor
  · rintro ⟨j, ⟨h1, h2⟩, rfl⟩; exact ⟨by omega, by omega, by simpa using h2⟩
  · rintro ⟨h1, h2, h3⟩; exact ⟨y.toNat, ⟨by omega, h3⟩, by omega⟩
theorem ml_nodup (m : Nat → Bool) (k : Nat) : (ml m k).Nodup := by
  unfold ml
  refine List.pairwise_map.2 ?_
  exact (List.nodup_range.filter _).imp fun h => by omega
theorem ml_perm (hn : xs.Nodup) (hb : ∀ x ∈ xs, 0 ≤ x ∧ x < (n : Int)) : (ml (memOf xs) n).Perm xs := by
  refine (List.perm_ext_iff_of_nodup (ml_nodup _ _) hn).2 fun y => ?_
  rw [ml_mem]
  unfold memOf
  constructor
  · rintro ⟨h1, h2, h3⟩
    have e : ((y.toNat : Nat) : Int) = y := by omega
    rw [e] at h3
    exact of_decide_eq_true h3
  · intro h
    have := hb y h
    have e : ((y.toNat : Nat) : Int) = y := by omega
    exact ⟨this.1, this.2, by rw [e]; exact decide_eq_true h⟩

theorem ref17_New (hn : n ≤ 1048576) (hk : ∀ p' c', T B (osl 1 p' (downTo n 0).length c' (iv .i64 (downTo n 0)) :: H) (K (.slice p' (downTo n 0).length c'))) : T B H (callP P f_ref17_New #[.int .i64 (n : Int)] K) := by
  refine T_of (call_ref17_New _) ?_
  unfold F_ref17_New
  refine T_oslNil 1 (T_loop (fun vs H' => ∃ (i : Nat) (p' : Option Addr) (c' : Nat), i ≤ n ∧ vs = [.slice p' (downTo n i).length c', .int .i64 ((i : Int) - 1)] ∧ osl 1 p' (downTo n i).length c' (iv .i64 (downTo n i)) :: H = H')
    (fun vs => match vs with | [_, .int _ i] => (i + 1).toNat | _ => 0) ⟨n, none, 0, Nat.le_refl _, by rw [wrap_i64 (by omega) (by omega), downTo_all]; rfl, by rw [downTo_all]; rfl⟩ ?_)
  rintro vs H' R ⟨i, p', c', hi, rfl, rfl⟩ hR
  simp only [T_all, T_imp]
  intro p k c n26 heq
  simp only [List.cons.injEq, Value.int.injEq, Value.slice.injEq, true_and, and_true] at heq
  obtain ⟨⟨rfl, rfl, rfl⟩, rfl⟩ := heq
  refine T_xif (fun hc => ?_) fun hc => ?_
  · have hc : 0 ≤ (i : Int) - 1 := by simpa using hc
    obtain ⟨j, rfl⟩ : ∃ j, i = j + 1 := ⟨i - 1, by omega⟩
    have e : ((j + 1 : Nat) : Int) - 1 = (j : Int) := by omega
    rw [e]
    have hl : (downTo n (j + 1)).length ≤ n := by simp [downTo]
    refine snoc34 (by omega) fun p2 c2 => ?_
    have hl2 : (downTo n (j + 1)).length + 1 = (downTo n j).length := by rw [downTo_step (show j < n by omega)]; simp
    rw [← downTo_step (by omega), hl2, wrap_i64 (by omega) (by omega)]
    exact hR _ _ ⟨j, p2, c2, by omega, rfl, rfl⟩ (by simp only; omega)
  · have hc : ¬ 0 ≤ (i : Int) - 1 := by simpa using hc
    have : i = 0 := by omega
    subst this
    exact hk _ _

theorem ref17_Sorted (hr : RdV B H q (iv .i64 xs)) (hl : l = xs.length) (hb : l ≤ 1000000) (hn : xs.Nodup) (hn2 : n ≤ 1000000) (hk : ∀ p' c', T B (osl 1 p' (ml (memOf xs) n).length c' (iv .i64 (ml (memOf xs) n)) :: H) (K (.slice p' (ml (memOf xs) n).length c'))) :
    T B H (callP P f_ref17_Sorted #[.slice q l c, .int .i64 (n : Int)] K) := by
  refine T_of (call_ref17_Sorted _ _ _ _) ?_
  unfold F_ref17_Sorted
  refine T_oslNil 1 (T_loop (fun vs H' => ∃ (i : Nat) (p' : Option Addr) (c' : Nat), i ≤ n ∧ vs = [.slice p' (ml (memOf xs) i).length c', .int .i64 (i : Int)] ∧ osl 1 p' (ml (memOf xs) i).length c' (iv .i64 (ml (memOf xs) i)) :: H = H')
    (fun vs => match vs with | [_, .int _ i] => n - i.toNat | _ => 0) ⟨0, none, 0, Nat.zero_le _, rfl, rfl⟩ ?_)
  rintro vs H' R ⟨i, p', c', hi, rfl, rfl⟩ hR
  simp only [T_all, T_imp]
  intro p k c n26 heq
  simp only [List.cons.injEq, Value.int.injEq, Value.slice.injEq, true_and, and_true] at heq
  obtain ⟨⟨rfl, rfl, rfl⟩, rfl⟩ := heq
  refine T_xif (fun hc => ?_) fun hc => ?_
  · have hlt : i < n := by simpa using hc
    have hml := ml_len (m := memOf xs) i
    refine ref03_Place hr.tail hl hb hn ?_
    simp only [asI_int]
    rw [wrap_succ (i := i) (by omega)]
    refine T_xif (fun h => ?_) fun h => ?_
    · have h : 0 ≤ posOf xs (i : Int) := by simpa using h
      have hm : memOf xs i = true := by
        refine decide_eq_true ?_
        rcases Classical.em ((i : Int) ∈ xs) with h' | h'
        · exact h'
        · have := pos_lt.2 h'; omega
      refine snoc34 (by omega) fun p2 c2 => ?_
      have hl2 : (ml (memOf xs) i).length + 1 = (ml (memOf xs) (i + 1)).length := by rw [ml_in hm]; simp
      rw [← ml_in hm, hl2]
      exact hR _ _ ⟨i + 1, p2, c2, by omega, rfl, rfl⟩ (by simp only [Int.toNat_natCast]; omega)
    · have h : posOf xs (i : Int) < 0 := by simpa using h
      have hm : memOf xs i = false := decide_eq_false (pos_lt.1 h)
      have e : ml (memOf xs) (i + 1) = ml (memOf xs) i := ml_gap 1 fun k h1 h2 => by rw [show k = i by omega]; exact hm
      exact hR _ _ ⟨i + 1, p', c', by omega, by rw [e], by rw [e]⟩ (by simp only [Int.toNat_natCast]; omega)
  · have : i = n := by simp at hc; omega
    subst this
    exact hk _ _

end
end Go.Proofs.YtnhgcgjmmalebaaDoor
