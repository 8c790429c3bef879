/- What is in one of two sets, in both, in the first alone (layer 2); no condition but the forms of the arguments and that the library's table is as it is laid. -/
import Derived.Test.YtnhgcgjmmalebaaDoorBitsM
import Derived.Test.YtnhgcgjmmalebaaDoorGenM
set_option linter.unusedVariables false
set_option linter.unusedSimpArgs false
namespace Go.Proofs.YtnhgcgjmmalebaaDoor
open Go.XS

theorem ml_mem {m : Nat → Bool} {n i : Nat} : ((i : Int) ∈ ml m n) ↔ (i < n ∧ m i = true) := by
  unfold ml
  rw [List.mem_map]
  constructor
  · rintro ⟨j, hj, e⟩
    have : j = i := by omega
    subst this
    rw [List.mem_filter, List.mem_range] at hj
    exact hj
  · intro h
    exact ⟨i, by rw [List.mem_filter, List.mem_range]; exact h, rfl⟩
theorem ml_dec {m : Nat → Bool} {n i : Nat} (hout : ∀ k, n ≤ k → m k = false) : decide ((i : Int) ∈ ml m n) = m i := by
  cases hm : m i
  · rw [decide_eq_false]
    intro h
    rw [(ml_mem.1 h).2] at hm
    cases hm
  · rw [decide_eq_true]
    refine ml_mem.2 ⟨?_, hm⟩
    rcases Nat.lt_or_ge i n with h | h
    · exact h
    · rw [hout i h] at hm; cases hm
theorem ml_wide {m : Nat → Bool} {n k : Nat} (hout : ∀ i, n ≤ i → m i = false) (h : n ≤ k) : ml m k = ml m n := by
  obtain ⟨c, rfl⟩ : ∃ c, k = n + c := ⟨k - n, by omega⟩
  exact ml_gap c fun i h1 _ => hout i h1
theorem ml_same {m m' : Nat → Bool} {n n' : Nat} (h1 : ∀ i, n ≤ i → m i = false) (h2 : ∀ i, n' ≤ i → m' i = false) : ml m n = ml m' n' ↔ ∀ i, m i = m' i := by
  constructor
  · intro h i
    rw [← ml_dec h1, ← ml_dec h2, h]
  · intro h
    have e : m = m' := funext h
    subst e
    rw [← ml_wide h1 (Nat.le_max_left n n'), ← ml_wide h2 (Nat.le_max_right n n')]

section
variable {B : Heap} {H : List HProp} {K : Value → HP}

theorem law_BitsMixes (hT : Tab B) {p q : Option Addr} {l c l2 c2 : Nat} {zs ys : List Int} {x y : Int} (hr : Arg B p (iv .u8 zs)) (hl : l ≤ zs.length) (hz : ∀ z ∈ zs, 0 ≤ z ∧ z ≤ 255)
    (hr2 : Arg B q (iv .u8 ys)) (hl2 : l2 ≤ ys.length) (hz2 : ∀ z ∈ ys, 0 ≤ z ∧ z ≤ 255) (hx : 0 ≤ x ∧ x ≤ 255) (hy : 0 ≤ y ∧ y ≤ 255) (hk : T B H (K (.bool true))) :
    T B H (callP P f_law02_BitsMixes #[.slice p l c, .slice q l2 c2, .agg #[.int .u8 x, .int .u8 y]] K) := by
  refine T_of (call_law02_BitsMixes _ _ _ _ _ _ _) ?_
  unfold F_law02_BitsMixes
  have hworks : ∀ H', T B H' (K (.bool true)) → T B H' (callP P f_law02_works #[] fun v => asB v fun b => K (.bool b)) := fun H' h => bits_works hT (by simpa only [asB_bool] using h)
  obtain ⟨nx, rfl⟩ : ∃ n : Nat, x = (n : Int) := ⟨x.toNat, by omega⟩
  obtain ⟨ny, rfl⟩ : ∃ n : Nat, y = (n : Int) := ⟨y.toNat, by omega⟩
  have hwx : IntKind.wrap .i64 (nx : Int) = (nx : Int) := wrap_i64 (by omega) (by omega)
  have hwy : IntKind.wrap .i64 (ny : Int) = (ny : Int) := wrap_i64 (by omega) (by omega)
  refine T_al fun k => ?_
  have hk : T B (cl k #[.int .u8 (nx : Int), .int .u8 (ny : Int)] :: H) (K (.bool true)) := T_drop hk
  refine T_join (fun vs H' => vs = [] ∧ cl k #[.int .u8 (nx : Int), .int .u8 (ny : Int)] :: H = H' ∧ l ≤ 100 ∧ l2 ≤ 100) ?_ fun R hR => T_xif (fun _ => hworks _ hk) fun h1 => T_xif (fun _ => hworks _ hk) fun h2 => hR _ _ ⟨rfl, rfl, by simp at h1; omega, by simp at h2; omega⟩
  rintro vs H' ⟨rfl, rfl, hl100, hl2100⟩
  simp only [T_imp]
  intro _
  have esc : scale (Int.toNat 1) (Program.cellsOf Tryd.prog 5) = 1 := by kernel_rfl
  simp only [add_mk, esc]
  refine T_req (by decide) (T_req (by decide) (T_ldI rfl (T_ldI rfl ?_)))
  simp only [hwx, hwy]
  refine law02_made hr hl hz (by omega) (by omega) fun bx mx => ?_
  simp only [asP_ptr]
  refine T_andC rfl (law02_made hr2 hl2 hz2 (by omega) (by omega) fun by' my => ?_)
  simp only [asP_ptr]
  refine bset_facts fun _ hyo => T_pull (.tail .head) (bset_facts fun _ hxo => bits_List hT fun pl cl' => ?_)
  simp only [asS_slice]
  refine T_pull (.tail (.tail .head)) (bits_List hT fun pm cm => ?_)
  simp only [asS_slice]
  have hlx := ml_len (m := mx) nx
  have hly := ml_len (m := my) ny
  refine T_req (by decide) (T_ldI rfl (T_req (by decide) (T_ldI rfl ?_)))
  simp only [hwx, hwy]
  have hmx : (if (ny : Int) > (nx : Int) then (ny : Int) else (nx : Int)) = ((max nx ny : Nat) : Int) := by
    rw [Nat.max_def]
    split <;> split <;> omega
  simp only [hmx]
  refine bits_Or (.tail (.tail (.tail .head))) (.tail .head) (by omega) (by omega) hxo hyo fun bo => ?_
  simp only [asP_ptr]
  refine bits_And (.tail (.tail (.tail (.tail .head)))) (.tail (.tail .head)) (by omega) (by omega) hxo hyo fun bp => ?_
  simp only [asP_ptr]
  refine bits_Less (.tail (.tail (.tail (.tail (.tail .head))))) (.tail (.tail (.tail .head))) (by omega) (by omega) hxo hyo fun bq => ?_
  simp only [asP_ptr]
  refine SameInts_dec (by omega) (RdV.of_osl.tail.tail.tail.tail.tail) (RdV.of_osl.tail.tail.tail) ?_
  simp only [asB_bool]
  refine bits_Or .nil (.tail (.tail (.tail (.tail (.tail (.tail .head)))))) (by omega) (by omega) (fun _ _ => rfl) hxo fun bn => ?_
  simp only [asP_ptr]
  have hN : max nx ny ≤ 300 := by omega
  have hoo : ∀ i, max nx ny ≤ i → (mx i || my i) = false := fun i hi => by rw [hxo i (by omega), hyo i (by omega)]; rfl
  have hpo : ∀ i, max nx ny ≤ i → (mx i && my i) = false := fun i hi => by rw [hxo i (by omega), hyo i (by omega)]; rfl
  have hqo : ∀ i, max nx ny ≤ i → (mx i && !my i) = false := fun i hi => by rw [hxo i (by omega), hyo i (by omega)]; rfl
  -- what is in one of both
  refine T_pull (.tail (.tail (.tail .head))) (bits_List hT fun p1 c1 => ?_)
  simp only [asS_slice]
  refine ref02_Mix (f := fun i => mx i || my i) (RdV.of_osl.tail.tail.tail.tail.tail.tail.tail) (RdV.of_osl.tail.tail.tail.tail.tail) (by omega) (by omega) (fun i => ?_) fun p2 c2 => ?_
  · rw [ml_dec hxo, ml_dec hyo]; simp [mixB]
  rw [ml_wide hoo hN]
  simp only [asS_slice]
  have hlo := ml_len (m := fun i => mx i || my i) (max nx ny)
  refine SameInts_eq rfl rfl (by omega) RdV.of_osl.tail RdV.of_osl ?_
  simp only [asB_bool]
  refine T_xif_t rfl (T_drop (T_drop ?_))
  -- what is in both
  refine T_pull (.tail (.tail (.tail .head))) (bits_List hT fun p1 c1 => ?_)
  simp only [asS_slice]
  refine ref02_Mix (f := fun i => mx i && my i) (RdV.of_osl.tail.tail.tail.tail.tail.tail.tail) (RdV.of_osl.tail.tail.tail.tail.tail) (by omega) (by omega) (fun i => ?_) fun p2 c2 => ?_
  · rw [ml_dec hxo, ml_dec hyo]; simp [mixB]
  rw [ml_wide hpo hN]
  simp only [asS_slice]
  have hlp := ml_len (m := fun i => mx i && my i) (max nx ny)
  refine SameInts_eq rfl rfl (by omega) RdV.of_osl.tail RdV.of_osl ?_
  simp only [asB_bool]
  refine T_xif_t rfl (T_drop (T_drop ?_))
  -- what is in the first alone
  refine T_pull (.tail (.tail (.tail .head))) (bits_List hT fun p1 c1 => ?_)
  simp only [asS_slice]
  refine ref02_Mix (f := fun i => mx i && !my i) (RdV.of_osl.tail.tail.tail.tail.tail.tail.tail) (RdV.of_osl.tail.tail.tail.tail.tail) (by omega) (by omega) (fun i => ?_) fun p2 c2 => ?_
  · rw [ml_dec hxo, ml_dec hyo]; simp [mixB]
  rw [ml_wide hqo hN]
  simp only [asS_slice]
  have hlq := ml_len (m := fun i => mx i && !my i) (max nx ny)
  refine SameInts_eq rfl rfl (by omega) RdV.of_osl.tail RdV.of_osl ?_
  simp only [asB_bool]
  refine T_xif_t rfl (T_drop (T_drop ?_))
  -- the sizes
  refine T_pull (.tail (.tail .head)) (bits_Size ?_)
  simp only [asI_int]
  refine T_xif_t (by simp) (T_pull (.tail (.tail .head)) (bits_Size ?_))
  simp only [asI_int]
  refine T_xif_t (by simp) (T_pull (.tail (.tail .head)) (bits_Size ?_))
  simp only [asI_int]
  refine T_xif_t (by simp) ?_
  -- whether they are the same
  refine bits_Same hT (.tail (.tail (.tail (.tail (.tail (.tail (.tail .head))))))) (.tail (.tail (.tail (.tail (.tail .head))))) (by omega) (by omega) hxo hyo fun r hr => ?_
  simp only [asB_bool]
  refine T_xif_t ?_ ?_
  · rw [← ml_same hxo hyo] at hr
    by_cases h : ml mx nx = ml my ny
    · rw [hr.2 h, decide_eq_true h]; rfl
    · have : r = false := by
        cases r with
        | false => rfl
        | true => exact absurd (hr.1 rfl) h
      rw [this, decide_eq_false h]; rfl
  refine bits_Same hT (.tail (.tail .head)) (.tail (.tail .head)) (by omega) (by omega) hoo hoo fun r2 hr2 => ?_
  simp only [asB_bool]
  refine T_xif_t (hr2.2 fun _ => rfl) ?_
  -- neither is changed
  refine T_pull (.tail (.tail (.tail (.tail (.tail (.tail (.tail .head))))))) (bits_List hT fun p3 c3 => ?_)
  simp only [asS_slice]
  refine SameInts_eq rfl rfl (by omega) RdV.of_osl RdV.of_osl.tail.tail.tail.tail.tail.tail.tail.tail ?_
  simp only [asB_bool]
  refine T_xif_t rfl (T_drop ?_)
  refine T_pull (.tail (.tail (.tail (.tail (.tail (.tail .head)))))) (bits_List hT fun p4 c4 => ?_)
  simp only [asS_slice]
  refine SameInts_eq rfl rfl (by omega) RdV.of_osl RdV.of_osl.tail.tail.tail.tail.tail.tail.tail ?_
  simp only [asB_bool]
  refine T_xif_t rfl (T_drop ?_)
  refine T_pull (.tail (.tail (.tail (.tail (.tail .head))))) (bits_List hT fun p5 c5 => ?_)
  have e0 : ml (fun i => false || mx i) (max 0 nx) = ml mx nx := by simp
  simp only [e0]
  simp only [asS_slice]
  refine SameInts_eq rfl rfl (by omega) RdV.of_osl RdV.of_osl.tail.tail.tail.tail.tail.tail.tail.tail ?_
  simp only [asB_bool]
  refine T_xif_t rfl (hworks _ (T_drop (T_drop (T_drop (T_drop (T_drop (T_drop (T_drop (T_drop (T_drop hk))))))))))

end
end Go.Proofs.YtnhgcgjmmalebaaDoor
