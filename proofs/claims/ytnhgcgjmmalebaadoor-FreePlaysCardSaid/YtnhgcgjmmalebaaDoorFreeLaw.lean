/- The laws of the free chunks: both, plays (layer 17); no condition but the forms of the arguments and that the library's table is as it is laid. -/
import Derived.Test.YtnhgcgjmmalebaaDoorFree2
set_option linter.unusedVariables false
set_option linter.unusedSimpArgs false
namespace Go.Proofs.YtnhgcgjmmalebaaDoor
open Go.XS

section
variable {B : Heap} {H : List HProp} {K : Value → HP}

theorem bool_same (a : Bool) : (!(a == a)) = false := by cases a <;> rfl

theorem law_FreeBoth (hT : Tab B) {p : Option Addr} {l c : Nat} {zs : List Int} (hr : Arg B p (iv .u8 zs)) (hl : l ≤ zs.length) (hz : ∀ z ∈ zs, 0 ≤ z ∧ z ≤ 255) (hk : T B H (K (.bool true))) :
    T B H (callP P f_law17_FreeBoth #[.slice p l c] K) := by
  refine T_of (call_law17_FreeBoth _ _ _) ?_
  unfold F_law17_FreeBoth
  have hworks : ∀ H', T B H' (K (.bool true)) → T B H' (callP P f_law17_works #[] fun v => asB v fun b => K (.bool b)) := fun H' h => free_works (by simpa only [asB_bool] using h)
  refine T_xif (fun _ => hworks _ hk) fun hl100 => ?_
  have hl100 : l ≤ 100 := by simp at hl100; omega
  refine free_New (n := 20) (by omega) fun f => ?_
  simp only [asP_ptr]
  refine T_loop (fun vs H' => ∃ (i : Nat) (xs : List Int), i ≤ l ∧ vs = [.int .i64 (i : Int)] ∧ fidx f 20 xs :: H = H')
    (fun vs => match vs with | [.int _ i] => l - i.toNat | _ => 0) ⟨0, _, Nat.zero_le _, rfl, rfl⟩ ?_
  rintro vs H' R ⟨i, xs, hi, rfl, rfl⟩ hR
  simp only [T_all, T_imp]
  intro n27 heq
  simp only [List.cons.injEq, Value.int.injEq, true_and, and_true] at heq
  subst heq
  refine T_xif (fun hc => ?_) fun hc => ?_
  · have hlt : i < l := by simpa using hc
    obtain ⟨z, hzi⟩ : ∃ z, zs[i]? = some z := ⟨_, List.getElem?_eq_getElem (by omega)⟩
    have hzb := hz z (List.mem_of_getElem? hzi)
    rw [wrap_succ (i := i) (by omega)]
    have hnext : ∀ ys, T B (fidx f 20 ys :: H) (R [.int .i64 ((i + 1 : Nat) : Int)]) := fun ys => hR _ _ ⟨i + 1, ys, by omega, rfl, rfl⟩ (by simp only [Int.toNat_natCast]; omega)
    refine T_argI hr rfl hlt (iv_get hzi) (T_req (by decide) (T_argI hr rfl hlt (iv_get hzi) ?_))
    generalize Int.tmod (IntKind.wrap .i64 z) 25 = x
    refine T_xif (fun _ => free_Pick ?_) fun _ => free_Give ?_
    · simp only [asB_bool]
      exact hnext _
    · simp only [asB_bool]
      refine T_xif (fun h => free_Peek (T_ex _ (T_ex _ (T_and rfl ?_)))) fun h => hnext _
      rw [pushed, if_pos h]
      refine T_xif_f (by simp) (T_xif_f (by simp) ?_)
      have := hnext (xs ++ [x])
      exact this
  have : i = l := by simp at hc; omega
  clear hR
  refine fidx_facts fun hn hb _ => free_Order fun q d => ?_
  have hxl := nodup_len 20 xs hn hb
  simp only [asS_slice]
  refine T_loop (fun vs H' => ∃ j : Nat, j ≤ xs.length ∧ vs = [.int .i64 (j : Int)] ∧ osl 1 q xs.length d (iv .i64 xs) :: fidx f 20 xs :: H = H')
    (fun vs => match vs with | [.int _ j] => xs.length - j.toNat | _ => 0) ⟨0, Nat.zero_le _, rfl, rfl⟩ ?_
  rintro vs H' R ⟨j, hj, rfl, rfl⟩ hR
  simp only [T_all, T_imp]
  intro n47 heq
  simp only [List.cons.injEq, Value.int.injEq, true_and, and_true] at heq
  subst heq
  refine T_xif (fun hc => ?_) fun hc => ?_
  · have hlt : j < xs.length := by simpa using hc
    obtain ⟨x, hx⟩ : ∃ x, xs[j]? = some x := ⟨_, List.getElem?_eq_getElem hlt⟩
    refine T_rowI RdV.of_osl rfl hlt (iv_get hx) (T_perm (List.Perm.swap _ _ _) (free_Has (T_perm (List.Perm.swap _ _ _) ?_)))
    rw [decide_eq_true (List.mem_of_getElem? hx)]
    simp only [asB_bool]
    refine T_xif_f rfl (T_rowI RdV.of_osl rfl hlt (iv_get hx) (ref03_Place RdV.of_osl rfl (by omega) hn ?_))
    rw [pos_get hn hx]
    simp only [asI_int]
    rw [wrap_succ (i := j) (by omega)]
    exact T_xif_f (by simp) (hR _ _ ⟨j + 1, by omega, rfl, rfl⟩ (by simp only [Int.toNat_natCast]; omega))
  clear hR
  refine T_al fun z => free_Take_nil (T_ex _ (T_ex _ (T_and rfl (free_Peek_zero (T_ex _ (T_ex _ (T_and rfl (T_pull (.tail (.tail .head)) (free_Len ?_)))))))))
  simp only [asI_int]
  refine T_xif_t (by simp) (free_List hT fun q2 d2 => ?_)
  simp only [asS_slice]
  have hlen := (ml_perm hn hb).length_eq
  refine T_xif_t (by rw [hlen]; simp) (T_xif_t rfl (T_xif_t rfl (T_pull (.tail (.tail .head)) (free_Give_nil ?_))))
  simp only [asB_bool]
  refine T_xif_t rfl (free_Pick_zero ?_)
  simp only [asB_bool]
  refine T_xif_t rfl (free_Has_nil ?_)
  simp only [asB_bool]
  refine T_xif_t rfl (free_Len_nil ?_)
  simp only [asI_int]
  refine free_Len_zero ?_
  simp only [asI_int]
  refine T_xif_t (by decide) (free_List_nil ?_)
  simp only [asS_slice]
  refine free_Order_zero ?_
  simp only [asS_slice]
  exact T_xif_t (by decide) (hworks _ (T_drop (T_drop (T_drop (T_drop hk)))))

/-- A call of an index. -/
def faV (a : Int × Int) : List Value := [.int .i64 a.1, .int .i64 a.2]

theorem law_FreePlays (hT : Tab B) {size : Int} {p : Option Addr} {l c : Nat} {acts : List (Int × Int)} (hr : Arg B p (acts.flatMap faV)) (hl : l ≤ acts.length) (hk : T B H (K (.bool true))) :
    T B H (callP P f_law17_FreePlays #[.int .i64 size, .slice p l c] K) := by
  refine T_of (call_law17_FreePlays _ _ _ _) ?_
  unfold F_law17_FreePlays
  have hworks : ∀ H', T B H' (K (.bool true)) → T B H' (callP P f_law17_works #[] fun v => asB v fun b => K (.bool b)) := fun H' h => free_works (by simpa only [asB_bool] using h)
  refine T_join (fun vs H' => vs = [] ∧ H = H' ∧ l ≤ 60 ∧ (size ≤ 200 ∨ 1048576 < size)) ?_ fun R hR => ?_
  rotate_left
  · refine T_xif (fun _ => hworks _ hk) fun h => ?_
    have hl2 : l ≤ 60 := by simp at h; omega
    refine T_xif (fun h2 => T_xif (fun _ => hworks _ hk) fun h3 => hR _ _ ⟨rfl, rfl, hl2, .inr (by simp at h3; omega)⟩) fun h2 => hR _ _ ⟨rfl, rfl, hl2, .inl (by simp at h2; omega)⟩
  rintro vs H' ⟨rfl, rfl, hl2, hsz⟩
  simp only [T_imp]
  intro _
  rcases Classical.em (size < 0 ∨ 1048576 < size) with hs | hs
  · refine free_New_none hs ?_
    simp only [asP_ptr]
    refine T_join (fun _ _ => False) (fun _ _ h => h.elim) fun R _ => T_join (fun vs H' => vs = [.bool true] ∧ H = H') ?_ fun R2 hR2 => T_xif (fun h => hR2 _ _ ⟨rfl, rfl⟩) fun h => hR2 _ _ ⟨?_, rfl⟩
    · rintro vs H' ⟨rfl, rfl⟩
      simp only [T_all, T_imp]
      intro b heq
      simp only [List.cons.injEq, Value.bool.injEq, and_true] at heq
      subst heq
      exact T_xif_t rfl (T_xif_t rfl (hworks _ hk))
    · have : ¬ size < 0 := by simpa using h
      have : size > 1048576 := by omega
      simp [this]
  obtain ⟨n, rfl⟩ : ∃ n : Nat, size = (n : Int) := ⟨size.toNat, by omega⟩
  have hn200 : n ≤ 200 := by omega
  refine free_New (n := n) (by omega) fun s => ?_
  simp only [asP_ptr]
  refine T_join (fun vs H' => vs = [] ∧ H' = fidx s n (downTo n 0) :: H) ?_ fun R hR => T_join (fun vs H' => vs = [.bool false] ∧ H' = fidx s n (downTo n 0) :: H) ?_ fun R2 hR2 => T_xif_f (by simp) (hR2 _ _ ⟨by
      have : decide ((n : Int) > 1048576) = false := by simp; omega
      rw [this], rfl⟩)
  rotate_left
  · rintro vs H' ⟨rfl, rfl⟩
    simp only [T_all, T_imp]
    intro b heq
    simp only [List.cons.injEq, Value.bool.injEq, and_true] at heq
    subst heq
    exact T_xif_f rfl (hR _ _ ⟨rfl, rfl⟩)
  rintro vs H' ⟨rfl, rfl⟩
  simp only [T_imp]
  intro _
  refine T_xif_f rfl (ref17_New (by omega) fun q0 d0 => T_oslLe fun hd0 => ?_)
  simp only [asS_slice]
  refine T_perm (List.Perm.swap _ _ _) ?_
  refine T_loop (fun vs H' => ∃ (i : Nat) (xs : List Int) (q : Option Addr) (d : Nat) (H1 : List HProp), i ≤ l ∧ vs = [.slice q xs.length d, .int .i64 (i : Int)] ∧ xs.length ≤ d ∧ RdV B H1 q (iv .i64 xs) ∧ T B H1 (K (.bool true)) ∧ H' = fidx s n xs :: H1)
    (fun vs => match vs with | [_, .int _ i] => l - i.toNat | _ => 0) ⟨0, downTo n 0, q0, d0, _, Nat.zero_le _, rfl, hd0, RdV.of_osl, T_drop hk, rfl⟩ ?_
  rintro vs H' R ⟨i, xs, q, d, H1, hi, rfl, hd, hq, hk1, rfl⟩ hR
  simp only [T_all, T_imp]
  intro p33 k34 k35 n36 heq
  simp only [List.cons.injEq, Value.int.injEq, Value.slice.injEq, true_and, and_true] at heq
  obtain ⟨⟨rfl, rfl, rfl⟩, rfl⟩ := heq
  refine fidx_facts fun hn hb _ => ?_
  have hxl := nodup_len n xs hn hb
  refine T_xif (fun hc => ?_) fun hc => ?_
  rotate_left
  · refine free_Order fun q2 d2 => ?_
    simp only [asS_slice]
    refine SameInts_eq rfl rfl (by omega) RdV.of_osl hq.tail.tail ?_
    simp only [asB_bool]
    refine T_xif_t rfl (T_drop (free_List hT fun q3 d3 => ?_))
    simp only [asS_slice]
    refine ref17_Sorted hq.tail.tail rfl (by omega) hn (by omega) fun q4 d4 => ?_
    simp only [asS_slice]
    have hml := ml_len (m := memOf xs) n
    refine SameInts_eq rfl rfl (by omega) RdV.of_osl.tail RdV.of_osl ?_
    simp only [asB_bool]
    exact T_xif_t rfl (hworks _ (T_drop (T_drop (T_drop hk1))))
  have hlt : i < l := by simpa using hc
  obtain ⟨⟨kd, x⟩, ha⟩ : ∃ a, acts[i]? = some a := ⟨_, List.getElem?_eq_getElem (by omega)⟩
  have hg0 : (acts.flatMap faV)[i * 2 + 0]? = some (.int .i64 kd) := flat_get (s := 2) (fun _ => rfl) acts i _ ha 0 (by omega)
  have hg1 : (acts.flatMap faV)[i * 2 + 1]? = some (.int .i64 x) := flat_get (s := 2) (fun _ => rfl) acts i _ ha 1 (by omega)
  rw [wrap_succ (i := i) (by omega)]
  have after : ∀ (ys : List Int) (q' : Option Addr) (d' : Nat) (H2 : List HProp), ys.length ≤ d' → RdV B H2 q' (iv .i64 ys) → T B H2 (K (.bool true)) →
      T B (fidx s n ys :: H2) (callP P f_free_Index_Len #[.pointer (some ⟨s, 0, none⟩)] (fun v => asI .i64 v (fun m => xif (m != (ys.length : Int)) (K (.bool false)) (R [.slice q' ys.length d', .int .i64 ((i + 1 : Nat) : Int)])))) := by
    intro ys q' d' H2 hd' hq' hk2
    refine free_Len ?_
    simp only [asI_int]
    exact T_xif_f (by simp) (hR _ _ ⟨i + 1, ys, q', d', H2, by omega, rfl, hd', hq', hk2, rfl⟩ (by simp only [Int.toNat_natCast]; omega))
  have hpos : decide (posOf xs x ≥ 0) = decide (x ∈ xs) := by
    refine decide_eq_decide.2 ?_
    have := pos_lt (xs := xs) (x := x)
    constructor
    · intro h
      rcases Classical.em (x ∈ xs) with h' | h'
      · exact h'
      · have := this.2 h'; omega
    · intro h
      rcases Int.lt_or_le (posOf xs x) 0 with h' | h'
      · exact absurd h (this.1 h')
      · exact h'
  refine T_argFI hr rfl hlt hg1 (free_Has ?_)
  simp only [asB_bool]
  refine ref03_Place hq.tail rfl (by omega) hn ?_
  simp only [asI_int]
  rw [hpos]
  refine T_xif_f (bool_same _) (T_argFI hr rfl hlt hg0 ?_)
  refine T_xif (fun _ => ?_) fun _ => T_xif (fun _ => ?_) fun _ => T_xif (fun _ => ?_) fun _ => ?_
  · refine T_of (call_ref17_Take _ _ _) ?_
    unfold F_ref17_Take
    refine ref03_Pop hq.tail rfl hd (by omega) (T_ex _ (T_ex _ (T_ex _ (T_ex _ (T_ex _ (T_and rfl ?_))))))
    refine T_ex _ (T_ex _ (T_ex _ (T_ex _ (T_ex _ (T_and rfl ?_)))))
    refine free_Take (T_ex _ (T_ex _ (T_and rfl ?_)))
    refine T_xif_f (by simp) (T_xif_f (bool_same _) ?_)
    have hq2 : RdV B H1 q (iv .i64 xs.dropLast) := by
      have := hq.take (xs.length - 1) (by simp)
      rwa [iv_take, ← List.dropLast_eq_take] at this
    have := after xs.dropLast q d H1 (by simp; omega) hq2 hk1
    rw [List.length_dropLast] at this
    exact this
  · refine T_of (call_ref17_Pick _ _ _ _) ?_
    unfold F_ref17_Pick
    refine ref03_Drop hq.tail rfl hd (by omega) hn (fun hok => T_ex _ (T_ex _ (T_ex _ (T_ex _ (T_and rfl ?_))))) fun hok p' c' => T_oslLe fun hle => T_ex _ (T_ex _ (T_ex _ (T_ex _ (T_and rfl ?_))))
    · refine T_ex _ (T_ex _ (T_ex _ (T_ex _ (T_and rfl ?_))))
      refine free_Pick ?_
      rw [dropped, if_pos hok, decide_eq_false (pos_lt.1 hok)]
      simp only [asB_bool]
      exact T_xif_f rfl (after xs q d H1 hd hq hk1)
    · have hm : x ∈ xs := by
        rcases Classical.em (x ∈ xs) with h' | h'
        · exact h'
        · exact absurd (pos_lt.2 h') hok
      refine T_ex _ (T_ex _ (T_ex _ (T_ex _ (T_and rfl ?_))))
      refine T_perm (List.Perm.swap _ _ _) (free_Pick ?_)
      rw [dropped, if_neg hok, decide_eq_true hm]
      simp only [asB_bool]
      have := after (dropAt xs (posOf xs x).toNat) p' c' (osl 1 p' (xs.length - 1) c' (iv .i64 (dropAt xs (posOf xs x).toNat)) :: H1) (by rw [dropAt_len]; exact hle) RdV.of_osl (T_drop hk1)
      rw [dropAt_len] at this
      exact T_xif_f rfl this
  · refine T_of (call_ref17_Give _ _ _ _ _) ?_
    unfold F_ref17_Give
    refine ref03_Push hq.tail rfl hd (by omega) hn (fun hok => T_ex _ (T_ex _ (T_ex _ (T_ex _ (T_and rfl ?_))))) fun hok p' c' => T_oslLe fun hle => T_ex _ (T_ex _ (T_ex _ (T_ex _ (T_and rfl ?_))))
    · refine T_ex _ (T_ex _ (T_ex _ (T_ex _ (T_and rfl ?_))))
      refine free_Give ?_
      rw [pushed, hok]
      simp only [asB_bool]
      exact T_xif_f rfl (after xs q d H1 hd hq hk1)
    · refine T_ex _ (T_ex _ (T_ex _ (T_ex _ (T_and rfl ?_))))
      refine T_perm (List.Perm.swap _ _ _) (free_Give ?_)
      rw [pushed, hok, if_pos rfl]
      simp only [asB_bool]
      have := after (xs ++ [x]) p' c' (osl 1 p' (xs.length + 1) c' (iv .i64 (xs ++ [x])) :: H1) (by simpa using hle) RdV.of_osl (T_drop hk1)
      rw [List.length_append] at this
      exact T_xif_f rfl this
  · refine T_of (call_ref17_Take _ _ _) ?_
    unfold F_ref17_Take
    refine ref03_Pop hq.tail rfl hd (by omega) (T_ex _ (T_ex _ (T_ex _ (T_ex _ (T_ex _ (T_and rfl ?_))))))
    refine T_ex _ (T_ex _ (T_ex _ (T_ex _ (T_ex _ (T_and rfl ?_)))))
    refine free_Peek (T_ex _ (T_ex _ (T_and rfl ?_)))
    exact T_xif_f (by simp) (T_xif_f (bool_same _) (after xs q d H1 hd hq hk1))

end
end Go.Proofs.YtnhgcgjmmalebaaDoor
