/- Bytes (layer 10): the reference's runs and copies, copies, the law; no condition but the arguments' forms. -/
import Derived.Test.YtpnlldmmfbpmgaaCopies
set_option linter.unusedVariables false
set_option linter.unusedSimpArgs false
namespace Go.Proofs.Ytpnlldmmfbpmgaa
open Go.XS

/-- A run that grows. -/
theorem runsTo_grow {d : List UInt8} {i : Nat} {out : List (Nat × Nat)} (ho : runsTo d i = out) (hb : ∀ p, out.getLast? = some p → p.1 + p.2 < i) :
    ∀ m, (∀ j, j < m → d.getD (i + j) 0 ≠ 0) → runsTo d (i + m) = if m = 0 then out else out ++ [(i, m)]
  | 0, _ => by simpa using ho
  | m + 1, h => by
    have ih := runsTo_grow ho hb m fun j hj => h j (by omega)
    show runsTo d (i + m + 1) = _
    rw [runsTo, if_neg (h m (by omega)), ih, if_neg (Nat.succ_ne_zero m)]
    by_cases hm : m = 0
    · subst hm
      rw [if_pos rfl, more_new fun p hp => by have := hb p hp; omega]
      rfl
    · rw [if_neg hm, more_last (p := (i, m)) (by simp) rfl, List.dropLast_concat]

section
variable {B : Heap} {H : List HProp} {K : Value → HP} {b c r : Nat} {d e src : List UInt8}

theorem ref10_Runs (hd : d.length ≤ 1000000) (hk : ∀ p' c', T B (osl 2 p' (runsTo d d.length).length c' (sv (runsTo d d.length)) :: H) (K (.slice p' (runsTo d d.length).length c'))) :
    T B H (callP P f_ref10_Runs #[.string ⟨d.toArray⟩] K) := by
  refine T_of (call_ref10_Runs _) ?_
  unfold F_ref10_Runs
  simp only [ofL_size]
  refine T_oslNil 2 (T_loop (fun vs H' => ∃ (i : Nat) (p' : Option Addr) (c' : Nat), i ≤ d.length + 1 ∧ vs = [.slice p' (runsTo d i).length c', .int .i64 (i : Int)] ∧ (∀ p, (runsTo d i).getLast? = some p → p.1 + p.2 < i) ∧ osl 2 p' (runsTo d i).length c' (sv (runsTo d i)) :: H = H')
    (fun vs => match vs with | [_, .int _ i] => d.length + 1 - i.toNat | _ => 0) ⟨0, none, 0, by omega, rfl, by simp [runsTo], rfl⟩ ?_)
  rintro vs H' R ⟨i, p', c', hi, rfl, hlast, rfl⟩ hR
  simp only [T_all, T_imp]
  intro p k c n heq
  simp only [List.cons.injEq, Value.int.injEq, Value.slice.injEq, true_and, and_true] at heq
  obtain ⟨⟨rfl, rfl, rfl⟩, rfl⟩ := heq
  refine T_xif (fun hc => ?_) fun hc => ?_
  rotate_left
  · have : d.length ≤ i := by simpa using hc
    rw [runsTo_end this]
    exact hk _ _
  have hlt : i < d.length := by simpa using hc
  have hrl := runsTo_len d i
  refine T_join (fun vs H' => ∃ m : Nat, i + m ≤ d.length ∧ vs = [.int .i64 ((i + m : Nat) : Int)] ∧ (∀ j, j < m → d.getD (i + j) 0 ≠ 0) ∧ d.getD (i + m) 0 = 0 ∧ osl 2 p' (runsTo d i).length c' (sv (runsTo d i)) :: H = H') ?_ fun R2 hR2 => ?_
  · rintro vs H' ⟨m, hm, rfl, hnz, hz, rfl⟩
    simp only [T_all, T_imp]
    intro n29 heq
    simp only [List.cons.injEq, Value.int.injEq, true_and, and_true] at heq
    subst heq
    have hg := runsTo_grow rfl hlast m hnz
    have e1 : runsTo d (i + m + 1) = runsTo d (i + m) := by rw [runsTo, if_pos hz]
    rw [wrap_succ (i := i + m) (by omega)]
    refine T_xif (fun h => ?_) fun h => ?_
    · have hm0 : ¬ m = 0 := by simp at h; omega
      rw [if_neg hm0] at hg
      have ws : IntKind.wrap .i64 (((i + m : Nat) : Int) - (i : Int)) = (m : Int) := by rw [wrap_i64 (by omega) (by omega)]; omega
      rw [ws]
      refine T_req (by rw [zc111]; rfl) (snoc96 (x := i) (y := m) (by omega) fun p2 c2 => ?_)
      rw [← hg, ← e1]
      have el : (runsTo d i).length + 1 = (runsTo d (i + m + 1)).length := by rw [e1, hg]; simp
      rw [el]
      refine hR _ _ ⟨i + m + 1, p2, c2, by omega, rfl, ?_, rfl⟩ (by simp only [Int.toNat_natCast]; omega)
      intro q hq
      rw [e1, hg] at hq
      simp at hq
      subst hq
      simp only; omega
    · have hm0 : m = 0 := by simp at h; omega
      subst hm0
      have e2 : runsTo d (i + 0 + 1) = runsTo d i := by rw [e1]; rfl
      refine hR _ _ ⟨i + 0 + 1, p', c', by omega, by rw [e2], ?_, by rw [e2]⟩ (by simp only [Int.toNat_natCast]; omega)
      intro q hq
      rw [e2] at hq
      have := hlast q hq
      omega
  · refine T_loop (fun vs H' => ∃ m : Nat, i + m ≤ d.length ∧ vs = [.int .i64 ((i + m : Nat) : Int)] ∧ (∀ j, j < m → d.getD (i + j) 0 ≠ 0) ∧ osl 2 p' (runsTo d i).length c' (sv (runsTo d i)) :: H = H')
      (fun vs => match vs with | [.int _ i] => d.length - i.toNat | _ => 0) ⟨0, by omega, rfl, fun j h => by omega, rfl⟩ ?_
    rintro vs H' R3 ⟨m, hm, rfl, hnz, rfl⟩ hR3
    simp only [T_all, T_imp]
    intro n38 heq
    simp only [List.cons.injEq, Value.int.injEq, true_and, and_true] at heq
    subst heq
    refine T_xif (fun hc => ?_) fun hc => hR2 _ _ ⟨m, hm, rfl, hnz, ?_, rfl⟩
    · have hlt2 : i + m < d.length := by simp at hc; omega
      have hz : d[i + m]? = some (d.getD (i + m) 0) := by simp [List.getD, List.getElem?_eq_getElem hlt2]
      refine T_req ⟨by omega, by omega⟩ ?_
      rw [strAt_get hz, u8_ne, wrap_succ (i := i + m) (by omega)]
      refine T_xif (fun h => hR3 _ _ ⟨m + 1, by omega, rfl, fun j hj => ?_, rfl⟩ (by simp only [Int.toNat_natCast]; omega)) fun h => hR2 _ _ ⟨m, hm, rfl, hnz, by simpa using h, rfl⟩
      by_cases hjm : j = m
      · subst hjm; simpa using h
      · exact hnz j (by omega)
    · have : d.length ≤ i + m := by simp at hc; omega
      simp [List.getD, List.getElem?_eq_none this]

theorem flat111 (x y : Int) : flatEq P #[.int .i64 x, .int .i64 y] #[.int .i64 x, .int .i64 y] (P.fieldsOf 111).toList = some true := by
  have : flatEq P #[.int .i64 x, .int .i64 y] #[.int .i64 x, .int .i64 y] (P.fieldsOf 111).toList = some ((x == x) && ((y == y) && true)) := by kernel_rfl
  rw [this]; simp

theorem SameSpans_eq {p q : Option Addr} {l m c c2 : Nat} {out : List (Nat × Nat)} (hl : l = out.length) (hm : m = out.length) (hb : l ≤ 10000000) (hx : RdV B H p (sv out)) (hy : RdV B H q (sv out)) (hk : T B H (K (.bool true))) :
    T B H (callP P f_base_SameSpans #[.slice p l c, .slice q m c2] K) := by
  subst hl hm
  refine T_of (call_base_SameSpans _ _ _ _ _ _) ?_
  unfold F_base_SameSpans
  refine T_xif_f (by simp) ?_
  refine T_loop (fun vs H' => ∃ i : Nat, i ≤ out.length ∧ vs = [.int .i64 (i : Int)] ∧ H = H')
    (fun vs => match vs with | [.int _ i] => out.length - i.toNat | _ => 0) ⟨0, Nat.zero_le _, rfl, rfl⟩ ?_
  rintro s H' R ⟨i, hi, rfl, rfl⟩ hR
  simp only [T_all, T_imp]
  intro n heq
  simp only [List.cons.injEq, Value.int.injEq, true_and, and_true] at heq
  subst heq
  refine T_xif (fun hc => ?_) (fun _ => hk)
  have hlt : i < out.length := by simpa using hc
  obtain ⟨z, hz⟩ : ∃ z, out[i]? = some z := ⟨_, List.getElem?_eq_getElem hlt⟩
  have hsl := sv_len out
  refine T_rd_adr hx (by omega) fun a ha => T_req ⟨by omega, by omega⟩ (T_rd_adr hy (by omega) fun a2 ha2 => T_req ⟨by omega, by omega⟩ ?_)
  subst ha ha2
  rw [Int.toNat_natCast]
  have hg : ∀ j, j < 2 → (sv out)[i * 2 + j]? = (#[.int .i64 (z.1 : Int), .int .i64 (z.2 : Int)] : Array Value)[j]? := fun j hj => by
    rw [sv, flat_get (s := 2) (fun _ => rfl) out i z hz j hj]; simp
  refine T_rdA hx #[.int .i64 (z.1 : Int), .int .i64 (z.2 : Int)] rfl (by omega) hg (T_rdA hy #[.int .i64 (z.1 : Int), .int .i64 (z.2 : Int)] rfl (by omega) hg ?_)
  refine T_neqAgg (b := true) (by kernel_rfl) (by kernel_rfl) (by kernel_rfl) (flat111 _ _) ?_
  simp only [asB_bool]
  refine T_xif_f rfl ?_
  rw [wrap_succ (i := i) (by omega)]
  exact hR _ _ ⟨i + 1, by omega, rfl, rfl⟩ (by simp only [Int.toNat_natCast]; omega)

/-- The bytes behind a copy, and what it tells. -/
def copied (d : List UInt8) (a : Int) (e : List UInt8) (o n : Int) : List UInt8 := if within e.length o n then stored d a (loaded e o n) else d
def copyErr (d : List UInt8) (a : Int) (e : List UInt8) (o n : Int) : Int := if within e.length o n then errOf d.length a (loaded e o n).length else 15
theorem copied_len {a o n : Int} : (copied d a e o n).length = d.length := by
  unfold copied
  split
  · exact stored_len
  · rfl
theorem loaded_le {o n : Int} : (loaded e o n).length ≤ e.length := by
  unfold loaded
  split
  · simp; omega
  · simp
theorem errOf_00 (h : 1 ≤ d.length) : errOf d.length 0 0 = 0 := by rw [errOf, if_pos (by unfold within; omega)]

theorem ref10_Copy {a o n : Int} (hd : d.length ≤ 100000000) (he : e.length ≤ 100000000) (hk : T B H (K (.tuple #[.string ⟨(copied d a e o n).toArray⟩, .int .i64 (copyErr d a e o n)]))) :
    T B H (callP P f_ref10_Copy #[.string ⟨d.toArray⟩, .int .i64 a, .string ⟨e.toArray⟩, .int .i64 o, .int .i64 n] K) := by
  refine T_of (call_ref10_Copy _ _ _ _ _) ?_
  unfold F_ref10_Copy
  refine ref10_Load he (T_ex _ (T_ex _ (T_and rfl ?_)))
  by_cases hw : within e.length o n
  · rw [errOf, if_pos hw]
    rw [copied, if_pos hw, copyErr, if_pos hw] at hk
    exact T_xif_f rfl (ref10_Store hd (Nat.le_trans loaded_le he) (T_ex _ (T_ex _ (T_and rfl hk))))
  · rw [errOf, if_neg hw]
    rw [copied, if_neg hw, copyErr, if_neg hw] at hk
    exact T_xif_t rfl hk

theorem bytes_Copy {a o n : Int} (hk : T B (byt b (copied d a e o n) :: byt c e :: H) (K (.int .i64 (copyErr d a e o n)))) :
    T B (byt b d :: byt c e :: H) (callP P f_bytes_Bytes_Copy #[.pointer (some ⟨b, 0, none⟩), .int .i64 a, .pointer (some ⟨c, 0, none⟩), .int .i64 o, .int .i64 n] K) := by
  refine T_of (call_bytes_Bytes_Copy _ _ _ _ _) ?_
  unfold F_bytes_Bytes_Copy
  refine byt_facts fun h1 h2 => bytes_check ?_
  rw [errOf_00 h1]
  simp only [asI_int]
  refine T_xif_f rfl (T_perm (List.Perm.swap _ _ _) (bytes_Load (T_ex _ (T_ex _ (T_and rfl (T_perm (List.Perm.swap _ _ _) ?_))))))
  by_cases hw : within e.length o n
  · rw [errOf, if_pos hw]
    rw [copied, if_pos hw, copyErr, if_pos hw] at hk
    refine T_xif_f rfl (bytes_Store ?_)
    simp only [asI_int]
    exact hk
  · rw [errOf, if_neg hw]
    rw [copied, if_neg hw, copyErr, if_neg hw] at hk
    exact T_xif_t rfl hk

theorem bytes_CopySelf {a o n : Int} (hk : T B (byt b (copied d a d o n) :: H) (K (.int .i64 (copyErr d a d o n)))) :
    T B (byt b d :: H) (callP P f_bytes_Bytes_Copy #[.pointer (some ⟨b, 0, none⟩), .int .i64 a, .pointer (some ⟨b, 0, none⟩), .int .i64 o, .int .i64 n] K) := by
  refine T_of (call_bytes_Bytes_Copy _ _ _ _ _) ?_
  unfold F_bytes_Bytes_Copy
  refine byt_facts fun h1 h2 => bytes_check ?_
  rw [errOf_00 h1]
  simp only [asI_int]
  refine T_xif_f rfl (bytes_Load (T_ex _ (T_ex _ (T_and rfl ?_))))
  by_cases hw : within d.length o n
  · rw [errOf, if_pos hw]
    rw [copied, if_pos hw, copyErr, if_pos hw] at hk
    refine T_xif_f rfl (bytes_Store ?_)
    simp only [asI_int]
    exact hk
  · rw [errOf, if_neg hw]
    rw [copied, if_neg hw, copyErr, if_neg hw] at hk
    exact T_xif_t rfl hk

theorem bytes_Copy_nilTo {q : Option Addr} {a o n : Int} (hk : T B H (K (.int .i64 16))) : T B H (callP P f_bytes_Bytes_Copy #[.pointer none, .int .i64 a, .pointer q, .int .i64 o, .int .i64 n] K) := by
  refine T_of (call_bytes_Bytes_Copy _ _ _ _ _) ?_
  unfold F_bytes_Bytes_Copy
  refine bytes_check_nil ?_
  simp only [asI_int]
  exact T_xif_t rfl hk
theorem bytes_Copy_nilFrom {a o n : Int} (hk : T B (byt b d :: H) (K (.int .i64 16))) : T B (byt b d :: H) (callP P f_bytes_Bytes_Copy #[.pointer (some ⟨b, 0, none⟩), .int .i64 a, .pointer none, .int .i64 o, .int .i64 n] K) := by
  refine T_of (call_bytes_Bytes_Copy _ _ _ _ _) ?_
  unfold F_bytes_Bytes_Copy
  refine byt_facts fun h1 h2 => bytes_check ?_
  rw [errOf_00 h1]
  simp only [asI_int]
  exact T_xif_f rfl (bytes_Load_nil (T_ex _ (T_ex _ (T_and rfl (T_xif_t rfl hk)))))

theorem upd_whole (h : src.length = d.length) : upd d 0 src = src := by
  unfold upd
  rw [List.take_zero, List.nil_append, List.drop_of_length_le (by omega), List.append_nil]

theorem law_BytesCopies {s t : List UInt8} {x y z : Int} (hk : T B H (K (.bool true))) :
    T B H (callP P f_law10_BytesCopies #[.string ⟨s.toArray⟩, .string ⟨t.toArray⟩, .agg #[.int .i64 x, .int .i64 y, .int .i64 z]] K) := by
  refine T_of (call_law10_BytesCopies _ _ _) ?_
  unfold F_law10_BytesCopies
  have hworks : ∀ H', T B H' (K (.bool true)) → T B H' (callP P f_law10_works #[] fun v => asB v fun b => K (.bool b)) := fun H' h => bytes_works (by simpa only [asB_bool] using h)
  simp only [ofL_size, add_mk]
  refine T_al fun n => ?_
  have hk' := T_drop (q := cl n #[.int .i64 x, .int .i64 y, .int .i64 z]) hk
  refine T_join (fun vs H' => vs = [] ∧ cl n #[.int .i64 x, .int .i64 y, .int .i64 z] :: H = H' ∧ s.length ≤ 300 ∧ t.length ≤ 300 ∧ 1 ≤ s.length ∧ 1 ≤ t.length) ?_ fun R hR => ?_
  rotate_left
  · refine T_xif (fun _ => hworks _ hk') fun h => T_xif (fun _ => hworks _ hk') fun h2 => T_xif (fun _ => hworks _ hk') fun h3 => T_xif (fun _ => hworks _ hk') fun h4 => hR _ _ ⟨rfl, rfl, by simp at h; omega, by simp at h2; omega, ?_, ?_⟩
    · rcases Nat.eq_zero_or_pos s.length with h0 | h0
      · rw [h0] at h3; cases h3
      · exact h0
    · rcases Nat.eq_zero_or_pos t.length with h0 | h0
      · rw [h0] at h4; cases h4
      · exact h0
  rintro vs H' ⟨rfl, rfl, hs1, ht1, hs0, ht0⟩
  simp only [T_imp]
  intro _
  refine bytes_New hs0 (by omega) fun b => ?_
  simp only [asP_ptr]
  refine bytes_New ht0 (by omega) fun c => ?_
  simp only [asP_ptr]
  refine T_join (fun vs H' => vs = [] ∧ byt b s :: byt c t :: cl n #[.int .i64 x, .int .i64 y, .int .i64 z] :: H = H') ?_ fun R hR => ?_
  rotate_left
  · refine T_perm (List.Perm.swap _ _ _) (bytes_Store ?_)
    have e1 : errOf (List.replicate s.length (0 : UInt8)).length 0 (s.length : Int) = 0 := by rw [List.length_replicate]; exact err_in (a := 0) (by omega)
    have e2 : stored (List.replicate s.length (0 : UInt8)) 0 s = s := by
      have := stored_in (d := List.replicate s.length (0 : UInt8)) (src := s) (a := 0) (by simp)
      rw [show ((0 : Nat) : Int) = 0 from rfl] at this
      rw [this, upd_whole (by simp)]
    have e3 : errOf (List.replicate t.length (0 : UInt8)).length 0 (t.length : Int) = 0 := by rw [List.length_replicate]; exact err_in (a := 0) (by omega)
    have e4 : stored (List.replicate t.length (0 : UInt8)) 0 t = t := by
      have := stored_in (d := List.replicate t.length (0 : UInt8)) (src := t) (a := 0) (by simp)
      rw [show ((0 : Nat) : Int) = 0 from rfl] at this
      rw [this, upd_whole (by simp)]
    rw [e1, e2]
    simp only [asI_int]
    refine T_xif_f rfl (T_perm (List.Perm.swap _ _ _) (bytes_Store ?_))
    rw [e3, e4]
    simp only [asI_int]
    refine T_xif_f rfl (T_perm (List.Perm.swap _ _ _) (bytes_Runs fun p' c' => ?_))
    simp only [asS_slice]
    refine ref10_Runs (by omega) fun p2 c2 => ?_
    simp only [asS_slice]
    have hrl := runsTo_len s s.length
    refine SameSpans_eq rfl rfl (by omega) RdV.of_osl.tail RdV.of_osl ?_
    simp only [asB_bool]
    exact T_xif_f rfl (T_drop (T_drop (hR _ _ ⟨rfl, rfl⟩)))
  rintro vs H' ⟨rfl, rfl⟩
  simp only [T_imp]
  intro _
  refine T_req (by decide) (T_ldI rfl (T_req (by decide) (T_ldI rfl (T_req (by decide) (T_ldI rfl (ref10_Copy (by omega) (by omega) (T_ex _ (T_ex _ (T_and rfl ?_)))))))))
  refine T_req (by decide) (T_ldI rfl (T_req (by decide) (T_ldI rfl (T_req (by decide) (T_ldI rfl (bytes_Copy ?_))))))
  simp only [asI_int]
  have hl1 : (copied s x t y z).length = s.length := copied_len
  generalize copied s x t y z = u at *
  have ha : ∀ d : List UInt8, d.length = s.length → loaded d 0 (s.length : Int) = d := fun d hd => by have := loaded_all (d := d); rwa [hd] at this
  refine bytes_Load (T_ex _ (T_ex _ (T_and rfl ?_)))
  rw [ha u hl1]
  refine T_req (by decide) (T_ldI rfl (T_req (by decide) (T_ldI rfl (T_req (by decide) (T_ldI rfl (ref10_Copy (by omega) (by omega) (T_ex _ (T_ex _ (T_and rfl ?_)))))))))
  refine T_req (by decide) (T_ldI rfl (T_req (by decide) (T_ldI rfl (T_req (by decide) (T_ldI rfl (bytes_CopySelf ?_))))))
  simp only [asI_int]
  have hl2 : (copied u x u y z).length = s.length := copied_len.trans hl1
  refine bytes_Load (T_ex _ (T_ex _ (T_and rfl ?_)))
  rw [ha _ hl2]
  refine T_xif_t (by simp) (T_xif_t (beq_self_eq_true _) (T_xif_t (by simp) (T_xif_t (beq_self_eq_true _) (bytes_Copy_nilTo ?_))))
  simp only [asI_int]
  refine T_xif_t rfl (bytes_Copy_nilFrom ?_)
  simp only [asI_int]
  refine T_xif_t rfl (bytes_Runs_nil ?_)
  simp only [asS_slice]
  exact T_xif_t rfl (hworks _ (T_drop (T_drop hk')))

end
end Go.Proofs.Ytpnlldmmfbpmgaa
