/- An index of free chunks (layer 17): what each function does, over the heap; no condition. -/
import Derived.Test.YtnhgcgjmmalebaaDoorBits
import Derived.Test.YtnhgcgjmmalebaaDoorStack
set_option linter.unusedVariables false
set_option linter.unusedSimpArgs false
namespace Go.Proofs.YtnhgcgjmmalebaaDoor
open Go.XS

/-- The numbers of a list, as a set. -/
def memOf (xs : List Int) : Nat → Bool := fun i => decide ((i : Int) ∈ xs)

/-- An index in block f of chunks below n: these are free. -/
def fidx (f n : Nat) (xs : List Int) : HProp :=
  exP fun s : Nat => exP fun b : Nat => packP [cl f #[.pointer (some ⟨s, 0, none⟩), .pointer (some ⟨b, 0, none⟩)], stk s n xs, bset b n (memOf xs)]

section
variable {B : Heap} {H : List HProp} {K : Value → HP} {f n : Nat} {xs : List Int}

theorem fidx_open {p : HP} (t : ∀ s b, T B (cl f #[.pointer (some ⟨s, 0, none⟩), .pointer (some ⟨b, 0, none⟩)] :: stk s n xs :: bset b n (memOf xs) :: H) p) : T B (fidx f n xs :: H) p :=
  T_unex fun s => T_unex fun b => T_unpack (t s b)
theorem fidx_close {p : HP} {s b : Nat} (t : T B (fidx f n xs :: H) p) : T B (cl f #[.pointer (some ⟨s, 0, none⟩), .pointer (some ⟨b, 0, none⟩)] :: stk s n xs :: bset b n (memOf xs) :: H) p :=
  T_topack (Hs := [cl f #[.pointer (some ⟨s, 0, none⟩), .pointer (some ⟨b, 0, none⟩)], stk s n xs, bset b n (memOf xs)])
    (T_toex (q := fun b => packP [cl f #[.pointer (some ⟨s, 0, none⟩), .pointer (some ⟨b, 0, none⟩)], stk s n xs, bset b n (memOf xs)]) b
      (T_toex (q := fun s => exP fun b => packP [cl f #[.pointer (some ⟨s, 0, none⟩), .pointer (some ⟨b, 0, none⟩)], stk s n xs, bset b n (memOf xs)]) s t))

theorem stk_factsF {s n : Nat} {xs : List Int} {p : HP} (t : xs.Nodup → (∀ x ∈ xs, 0 ≤ x ∧ x < (n : Int)) → n ≤ 1048576 → T B (stk s n xs :: H) p) : T B (stk s n xs :: H) p :=
  T_unpure fun hf => T_topure hf (t hf.1 hf.2.1 hf.2.2)
theorem fidx_facts {p : HP} (t : xs.Nodup → (∀ x ∈ xs, 0 ≤ x ∧ x < (n : Int)) → n ≤ 1048576 → T B (fidx f n xs :: H) p) : T B (fidx f n xs :: H) p :=
  fidx_open fun s b => T_perm (List.Perm.swap _ _ _) (stk_factsF fun h1 h2 h3 => T_perm (List.Perm.swap _ _ _) (fidx_close (t h1 h2 h3)))

theorem isIn_mem {x : Int} (hb : ∀ x ∈ xs, 0 ≤ x ∧ x < (n : Int)) : isIn n (memOf xs) x = decide (x ∈ xs) := by
  unfold isIn memOf
  by_cases h : x ∈ xs
  · have := hb x h
    have e : ((x.toNat : Nat) : Int) = x := by omega
    rw [e]
    simp [h, this]
  · by_cases h0 : 0 ≤ x ∧ x < (n : Int)
    · have e : ((x.toNat : Nat) : Int) = x := by omega
      rw [e]
      simp [h]
    · rw [decide_eq_false h0]; simp [h]
theorem posNeg {x : Int} : (decide (¬ posOf xs x < 0)) = decide (x ∈ xs) := by
  refine decide_eq_decide.2 ?_
  rw [pos_lt]
  exact Classical.not_not
theorem putOk_push {x : Int} (hb : ∀ x ∈ xs, 0 ≤ x ∧ x < (n : Int)) : putOk n (memOf xs) x = pushOk n xs x := by
  unfold putOk pushOk memOf
  by_cases h0 : 0 ≤ x ∧ x < (n : Int)
  · have e : ((x.toNat : Nat) : Int) = x := by omega
    rw [e, decide_eq_true h0, Bool.true_and]
    by_cases h : x ∈ xs
    · rw [decide_eq_true h, decide_eq_false]
      · rfl
      · rintro ⟨_, _, h3⟩; exact pos_lt.1 h3 h
    · rw [decide_eq_false h, decide_eq_true]
      · rfl
      · exact ⟨h0.1, h0.2, pos_lt.2 h⟩
  · rw [decide_eq_false h0, Bool.false_and]
    symm
    refine decide_eq_false ?_
    rintro ⟨h1, h2, _⟩; exact h0 ⟨h1, h2⟩
theorem mem_pushed {x : Int} (hb : ∀ x ∈ xs, 0 ≤ x ∧ x < (n : Int)) : putIn n (memOf xs) x = memOf (pushed n xs x) := by
  unfold putIn pushed
  rw [putOk_push hb]
  by_cases h : pushOk n xs x = true
  · rw [if_pos h, if_pos h]
    have h0 : 0 ≤ x := (of_decide_eq_true h).1
    funext i
    unfold flip memOf
    by_cases hi : i = x.toNat
    · rw [if_pos hi]
      have : (i : Int) = x := by omega
      simp [this]
    · rw [if_neg hi]
      have : ¬ (i : Int) = x := by omega
      simp [this]
  · rw [if_neg h, if_neg h]
theorem mem_dropped {x : Int} (hn : xs.Nodup) (hb : ∀ x ∈ xs, 0 ≤ x ∧ x < (n : Int)) : dropIn n (memOf xs) x = memOf (dropped xs x) := by
  unfold dropIn dropped
  rw [isIn_mem hb]
  by_cases h : x ∈ xs
  · rw [if_pos (by simpa using h), if_neg (by rw [pos_lt]; exact fun h' => h' h)]
    have h0 := (hb x h).1
    rcases pos_cases (xs := xs) x with ⟨k, hk, hp, hl⟩ | ⟨hno, hp⟩
    · rw [hp, Int.toNat_natCast]
      obtain ⟨top, ht⟩ : ∃ z, xs[xs.length - 1]? = some z := ⟨_, List.getElem?_eq_getElem (by omega)⟩
      funext i
      unfold flip memOf
      have hd := pos_drop hn hk ht (i : Int)
      by_cases hi : i = x.toNat
      · rw [if_pos hi]
        have e : (i : Int) = x := by omega
        rw [if_pos e] at hd
        symm
        refine decide_eq_false ?_
        rw [← pos_lt, hd]; decide
      · rw [if_neg hi]
        have e : ¬ (i : Int) = x := by omega
        rw [if_neg e] at hd
        refine decide_eq_decide.2 ?_
        rw [← Classical.not_not (a := (i : Int) ∈ xs), ← pos_lt, ← Classical.not_not (a := (i : Int) ∈ dropAt xs k), ← pos_lt, hd]
        split
        · rename_i htop
          have : top ∈ xs := List.mem_of_getElem? ht
          have h1 : ¬ posOf xs (i : Int) < 0 := by rw [pos_lt, htop]; exact fun h' => h' this
          constructor
          · intro _; omega
          · intro _; exact h1
        · exact Iff.rfl
    · exact absurd h hno
  · rw [if_neg (by simpa using h), if_pos (pos_lt.2 h)]

theorem free_is_nil (hk : T B H (K (.bool false))) : T B H (callP P f_free_Index_is #[.pointer none] K) := by
  refine T_of (call_free_Index_is _) ?_
  unfold F_free_Index_is
  exact T_xif_f rfl hk
theorem free_is_zero {z : Nat} {v : Value} (hk : T B (cl z #[.pointer none, v] :: H) (K (.bool false))) : T B (cl z #[.pointer none, v] :: H) (callP P f_free_Index_is #[.pointer (some ⟨z, 0, none⟩)] K) := by
  refine T_of (call_free_Index_is _) ?_
  unfold F_free_Index_is
  simp only [adr_some, add_mk]
  exact T_xif_t rfl (T_ldP (n := none) rfl hk)
theorem free_is (hk : T B (fidx f n xs :: H) (K (.bool true))) : T B (fidx f n xs :: H) (callP P f_free_Index_is #[.pointer (some ⟨f, 0, none⟩)] K) := by
  refine fidx_open fun s b => ?_
  refine T_of (call_free_Index_is _) ?_
  unfold F_free_Index_is
  simp only [adr_some, add_mk]
  exact T_xif_t rfl (T_ldP (n := some ⟨s, 0, none⟩) rfl (fidx_close hk))

theorem free_Has {x : Int} (hk : T B (fidx f n xs :: H) (K (.bool (decide (x ∈ xs))))) : T B (fidx f n xs :: H) (callP P f_free_Index_Has #[.pointer (some ⟨f, 0, none⟩), .int .i64 x] K) := by
  refine fidx_facts fun h1 h2 h3 => ?_
  refine T_of (call_free_Index_Has _ _) ?_
  unfold F_free_Index_Has
  refine free_is ?_
  simp only [asB_bool, adr_some, add_mk]
  refine T_xif_t rfl (fidx_open fun s b => T_ldP rfl (T_pull (.tail (.tail .head)) (bits_Has ?_)))
  simp only [asB_bool]
  refine T_perm (List.Perm.trans (List.Perm.swap _ _ _) (List.Perm.cons _ (List.Perm.swap _ _ _))) (fidx_close ?_)
  rw [isIn_mem h2]
  exact hk

theorem free_Pick {x : Int} (hk : T B (fidx f n (dropped xs x) :: H) (K (.bool (decide (x ∈ xs))))) : T B (fidx f n xs :: H) (callP P f_free_Index_Pick #[.pointer (some ⟨f, 0, none⟩), .int .i64 x] K) := by
  refine fidx_facts fun h1 h2 h3 => ?_
  refine T_of (call_free_Index_Pick _ _) ?_
  unfold F_free_Index_Pick
  refine free_Has ?_
  simp only [asB_bool, adr_some, add_mk]
  by_cases h : x ∈ xs
  · rw [decide_eq_true h] at *
    refine T_xif_f rfl (fidx_open fun s b => T_ldP rfl (T_pull (.tail (.tail .head)) (bits_Drop ?_)))
    rw [isIn_mem h2, decide_eq_true h, mem_dropped h1 h2]
    simp only [asB_bool]
    refine T_xif_t rfl (T_ldP rfl (T_pull (.tail (.tail .head)) (stack_Drop ?_)))
    rw [posNeg, decide_eq_true h]
    simp only [asB_bool]
    exact T_perm (List.Perm.trans (List.Perm.cons _ (List.Perm.swap _ _ _)) (List.Perm.swap _ _ _)) (T_perm (List.Perm.cons _ (List.Perm.refl _)) (fidx_close hk))
  · rw [decide_eq_false h] at *
    rw [dropped, if_pos (pos_lt.2 h)] at hk
    exact T_xif_t rfl hk

theorem free_Give {x : Int} (hk : T B (fidx f n (pushed n xs x) :: H) (K (.bool (pushOk n xs x)))) : T B (fidx f n xs :: H) (callP P f_free_Index_Give #[.pointer (some ⟨f, 0, none⟩), .int .i64 x] K) := by
  refine fidx_facts fun h1 h2 h3 => ?_
  refine T_of (call_free_Index_Give _ _) ?_
  unfold F_free_Index_Give
  refine free_is ?_
  simp only [asB_bool, adr_some, add_mk]
  refine T_xif_t rfl (fidx_open fun s b => T_ldP rfl (T_pull (.tail (.tail .head)) (bits_Put ?_)))
  rw [putOk_push h2, mem_pushed h2]
  simp only [asB_bool]
  by_cases h : pushOk n xs x = true
  · refine T_xif_t h (T_ldP rfl (T_pull (.tail (.tail .head)) (stack_Push ?_)))
    simp only [asB_bool]
    exact T_perm (List.Perm.trans (List.Perm.cons _ (List.Perm.swap _ _ _)) (List.Perm.swap _ _ _)) (T_perm (List.Perm.cons _ (List.Perm.refl _)) (fidx_close hk))
  · have h : pushOk n xs x = false := by simpa using h
    have hp : pushed n xs x = xs := by rw [pushed, h]; rfl
    rw [h, hp] at hk
    rw [hp]
    exact T_xif_f h (T_perm (List.Perm.trans (List.Perm.swap _ _ _) (List.Perm.cons _ (List.Perm.swap _ _ _))) (fidx_close hk))

theorem free_Peek (hk : T B (fidx f n xs :: H) (K (.tuple #[.int .i64 (xs.getLast?.getD 0), .bool (decide (0 < xs.length))]))) : T B (fidx f n xs :: H) (callP P f_free_Index_Peek #[.pointer (some ⟨f, 0, none⟩)] K) := by
  refine T_of (call_free_Index_Peek _) ?_
  unfold F_free_Index_Peek
  refine free_is ?_
  simp only [asB_bool, adr_some, add_mk]
  refine T_xif_f rfl (fidx_open fun s b => T_ldP rfl (T_perm (List.Perm.swap _ _ _) (stack_Top (T_ex _ (T_ex _ (T_and rfl (T_perm (List.Perm.swap _ _ _) (fidx_close hk))))))))

theorem free_Take (hk : T B (fidx f n xs.dropLast :: H) (K (.tuple #[.int .i64 (xs.getLast?.getD 0), .bool (decide (0 < xs.length))]))) : T B (fidx f n xs :: H) (callP P f_free_Index_Take #[.pointer (some ⟨f, 0, none⟩)] K) := by
  refine fidx_facts fun h1 h2 h3 => ?_
  refine T_of (call_free_Index_Take _) ?_
  unfold F_free_Index_Take
  refine free_Peek (T_ex _ (T_ex _ (T_and rfl ?_)))
  by_cases h : 0 < xs.length
  · rw [decide_eq_true h] at *
    refine T_xif_t rfl (free_Pick ?_)
    obtain ⟨hp, hd⟩ := last_pos h1 h
    rw [dropped, hp, if_neg (by omega), Int.toNat_natCast, hd]
    simp only [asB_bool]
    exact hk
  · rw [decide_eq_false h] at *
    have : xs = [] := List.length_eq_zero_iff.1 (by omega)
    subst this
    exact T_xif_f rfl hk

theorem free_Len (hk : T B (fidx f n xs :: H) (K (.int .i64 (xs.length : Int)))) : T B (fidx f n xs :: H) (callP P f_free_Index_Len #[.pointer (some ⟨f, 0, none⟩)] K) := by
  refine T_of (call_free_Index_Len _) ?_
  unfold F_free_Index_Len
  refine free_is ?_
  simp only [asB_bool, adr_some, add_mk]
  refine T_xif_f rfl (fidx_open fun s b => T_ldP rfl (T_perm (List.Perm.swap _ _ _) (stack_Len ?_)))
  simp only [asI_int]
  exact T_perm (List.Perm.swap _ _ _) (fidx_close hk)

/-- All below n, the greatest first, down to i. -/
def downTo (n i : Nat) : List Int := ((List.range' i (n - i)).reverse).map fun k : Nat => (k : Int)
theorem downTo_all (n : Nat) : downTo n n = [] := by simp [downTo]
theorem downTo_step {n i : Nat} (h : i < n) : downTo n i = downTo n (i + 1) ++ [(i : Int)] := by
  unfold downTo
  rw [show n - i = (n - (i + 1)) + 1 by omega, List.range'_succ, List.reverse_cons, List.map_append]
  rfl
theorem downTo_mem {n i : Nat} {x : Int} : x ∈ downTo n i ↔ (i : Int) ≤ x ∧ x < (n : Int) := by
  simp only [downTo, List.mem_map, List.mem_reverse, List.mem_range'_1]
  constructor
  · rintro ⟨k, hk, rfl⟩; omega
  · intro h; exact ⟨x.toNat, by omega, by omega⟩

theorem free_New (h1 : n ≤ 1048576) (hk : ∀ f, T B (fidx f n (downTo n 0) :: H) (K (.pointer (some ⟨f, 0, none⟩)))) : T B H (callP P f_free_New #[.int .i64 (n : Int)] K) := by
  refine T_of (call_free_New _) ?_
  unfold F_free_New
  refine stack_New (n := n) rfl h1 fun s => ?_
  simp only [asP_ptr]
  refine bits_New h1 fun b => ?_
  simp only [asP_ptr]
  refine T_join (fun vs H' => vs = [] ∧ bset b n (fun _ => false) :: stk s n [] :: H = H') ?_ fun R hR => T_xif_f rfl (T_xif_f rfl (hR _ _ ⟨rfl, rfl⟩))
  rintro vs H' ⟨rfl, rfl⟩
  simp only [T_imp]
  intro _
  refine T_loop (fun vs H' => ∃ i : Nat, i ≤ n ∧ vs = [.int .i64 ((i : Int) - 1)] ∧ bset b n (memOf (downTo n i)) :: stk s n (downTo n i) :: H = H')
    (fun vs => match vs with | [.int _ i] => (i + 1).toNat | _ => 0) ⟨n, Nat.le_refl _, by rw [wrap_i64 (by omega) (by omega)], by rw [downTo_all]; rfl⟩ ?_
  rintro vs H' R ⟨i, hi, rfl, rfl⟩ hR
  simp only [T_all, T_imp]
  intro n29 heq
  simp only [List.cons.injEq, Value.int.injEq, true_and, and_true] at heq
  subst heq
  refine T_xif (fun hc => ?_) fun hc => ?_
  · have hc : 0 ≤ (i : Int) - 1 := by simpa using hc
    obtain ⟨j, rfl⟩ : ∃ j, i = j + 1 := ⟨i - 1, by omega⟩
    have e : ((j + 1 : Nat) : Int) - 1 = (j : Int) := by omega
    rw [e]
    have hb : ∀ x ∈ downTo n (j + 1), 0 ≤ x ∧ x < (n : Int) := fun x hx => by have := downTo_mem.1 hx; omega
    have hok : pushOk n (downTo n (j + 1)) (j : Int) = true := by
      refine decide_eq_true ⟨by omega, by omega, ?_⟩
      rw [pos_lt, downTo_mem]; omega
    refine T_perm (List.Perm.swap _ _ _) (stack_Push ?_)
    simp only [asB_bool]
    refine T_perm (List.Perm.swap _ _ _) (bits_Put ?_)
    rw [mem_pushed hb, pushed, if_pos hok, ← downTo_step (by omega)]
    simp only [asB_bool]
    rw [wrap_i64 (by omega) (by omega)]
    exact hR _ _ ⟨j, by omega, rfl, rfl⟩ (by simp only; omega)
  · have hc : ¬ 0 ≤ (i : Int) - 1 := by simpa using hc
    have : i = 0 := by omega
    subst this
    refine T_al fun f => T_perm (List.Perm.cons _ (List.Perm.swap _ _ _)) (fidx_close (hk f))

theorem free_New_none {x : Int} (hm : x < 0 ∨ 1048576 < x) (hk : T B H (K (.pointer none))) : T B H (callP P f_free_New #[.int .i64 x] K) := by
  refine T_of (call_free_New _) ?_
  unfold F_free_New
  refine stack_New_none hm ?_
  simp only [asP_ptr]
  refine bits_New_none hm ?_
  simp only [asP_ptr]
  exact T_join (fun _ _ => False) (fun _ _ h => h.elim) fun R _ => T_xif_t rfl hk

end
end Go.Proofs.YtnhgcgjmmalebaaDoor
