/- The law of the trims: plays (layer 24); no condition but the forms of its arguments. -/
import Derived.Test.YtpnlldmmfbpmgaaTrimsLaw
import Derived.Test.YtpnlldmmfbpmgaaXs
set_option linter.unusedVariables false
set_option linter.unusedSimpArgs false
namespace Go.Proofs.Ytpnlldmmfbpmgaa
open Go.XS

/-- A call of a book. -/
structure TAct where
  pay : Bool
  lack : Int
  client : Int
  n : Int
  q : Option Addr
  pl : Nat
  pc : Nat
  ps : List Int
def TAct.cells (a : TAct) : List Value := [.bool a.pay, .int .i64 a.lack, .int .i64 a.client, .int .i64 a.n, .slice a.q a.pl a.pc]
structure TAct.Ok (B : Heap) (a : TAct) : Prop where
  lo : -9223372036854775808 ≤ a.lack
  hi : a.lack ≤ 9223372036854775807
  nlo : -9223372036854775808 ≤ a.n
  nhi : a.n ≤ 9223372036854775807
  len : a.pl ≤ a.ps.length
  arg : Arg B a.q (iv .i64 a.ps)

section
variable {B : Heap} {H : List HProp} {K : Value → HP}

theorem spread_mem {lack : Int} {ps : List Int} (hhi : lack ≤ 9223372036854775807) : ∀ y ∈ spread lack ps, 0 ≤ y ∧ y ≤ 9223372036854775807 := by
  intro y hy
  obtain ⟨j, hj, rfl⟩ := List.mem_iff_getElem.1 hy
  rw [spread_len] at hj
  obtain ⟨hg, _⟩ := spread_get lack ps j _ (List.getElem?_eq_getElem hj)
  rw [List.getElem?_eq_getElem (by rw [spread_len]; exact hj)] at hg
  rw [Option.some.inj hg]
  obtain ⟨a1, a2, a3⟩ := tk_bounds ps[j] (rest lack ps j)
  obtain ⟨b1, b2, b3⟩ := rest_bounds lack ps j
  omega

theorem law_TrimsPlays {size : Int} {p : Option Addr} {l c : Nat} {acts : List TAct} (hr : Arg B p (acts.flatMap TAct.cells)) (hok : ∀ a ∈ acts, a.Ok B) (hl : l ≤ acts.length) (hk : T B H (K (.bool true))) :
    T B H (callP P f_law24_TrimsPlays #[.int .i64 size, .slice p l c] K) := by
  refine T_of (call_law24_TrimsPlays _ _ _ _) ?_
  unfold F_law24_TrimsPlays
  have hworks : ∀ H', T B H' (K (.bool true)) → T B H' (callP P f_law24_works #[] fun v => asB v fun b => K (.bool b)) := fun H' h => trims_works (by simpa only [asB_bool] using h)
  refine T_xif (fun _ => hworks _ hk) fun hl30 => ?_
  have hl30 : l ≤ 30 := by simp at hl30; omega
  rcases Classical.em (size < 0 ∨ 64 < size) with hs | hs
  · refine trims_New_none hs ?_
    simp only [asP_ptr]
    refine T_join (fun _ _ => False) (fun _ _ h => h.elim) fun R _ => T_join (fun vs H' => vs = [.bool true] ∧ H = H') ?_ fun R2 hR2 => T_xif (fun h => hR2 _ _ ⟨rfl, rfl⟩) fun h => hR2 _ _ ⟨?_, rfl⟩
    · rintro vs H' ⟨rfl, rfl⟩
      simp only [T_all, T_imp]
      intro b heq
      simp only [List.cons.injEq, Value.bool.injEq, and_true] at heq
      subst heq
      exact T_xif_t rfl (T_xif_t rfl (hworks _ hk))
    · have : ¬ size < 0 := by simpa using h
      have : size > 64 := by omega
      simp [this]
  obtain ⟨n, rfl⟩ : ∃ n : Nat, size = (n : Int) := ⟨size.toNat, by omega⟩
  have hn64 : n ≤ 64 := by omega
  refine trims_New hn64 fun b => ?_
  simp only [asP_ptr]
  refine T_join (fun vs H' => vs = [] ∧ bk b (List.replicate n 0) :: H = H') ?_ fun R hR => T_join (fun vs H' => vs = [.bool false] ∧ bk b (List.replicate n 0) :: H = H') ?_ fun R2 hR2 => T_xif_f (by simp) (hR2 _ _ ⟨by
      have : decide ((n : Int) > 64) = false := by simp; omega
      rw [this], rfl⟩)
  rotate_left
  · rintro vs H' ⟨rfl, rfl⟩
    simp only [T_all, T_imp]
    intro b heq
    simp only [List.cons.injEq, Value.bool.injEq, and_true] at heq
    subst heq
    exact T_xif_f rfl (hR _ _ ⟨rfl, rfl⟩)
  rintro vs H' ⟨rfl, rfl⟩
  simp only [T_imp]
  intro _
  refine T_xif_f rfl (T_mkSl (by omega) (by omega) (by omega) (by rw [bytes3]; omega) (by kernel_rfl) (by kernel_rfl) fun w => ?_)
  rw [cells3, zc3, reps_one, Nat.mul_one, Int.toNat_natCast, iv_zeros]
  refine T_perm (List.Perm.swap _ _ _) ?_
  refine T_loop (fun vs H' => ∃ (i : Nat) (xs : List Int) (q : Option Addr) (d : Nat) (H1 : List HProp), i ≤ l ∧ vs = [.slice q n d, .int .i64 (i : Int)] ∧ xs.length = n ∧ (∀ x ∈ xs, 0 ≤ x ∧ x ≤ 9223372036854775807) ∧ RdV B H1 q (iv .i64 xs) ∧ T B H1 (K (.bool true)) ∧ bk b xs :: H1 = H')
    (fun vs => match vs with | [_, .int _ i] => l - i.toNat | _ => 0) ⟨0, List.replicate n 0, some ⟨w, 0, none⟩, n, _, Nat.zero_le _, rfl, by simp, fun x hx => by rw [List.eq_of_mem_replicate hx]; decide, rd_cl rfl, T_drop hk, rfl⟩ ?_
  rintro vs H' R ⟨i, xs, q, d, H1, hi, rfl, hxl, hxb, hq, hk1, rfl⟩ hR
  simp only [T_all, T_imp]
  intro p30 k31 k32 n33 heq
  simp only [List.cons.injEq, Value.int.injEq, Value.slice.injEq, true_and, and_true] at heq
  obtain ⟨⟨rfl, rfl, rfl⟩, rfl⟩ := heq
  refine T_xif (fun hc => ?_) (fun hc => hworks _ (T_drop hk1))
  have hlt : i < l := by simpa using hc
  obtain ⟨a, ha⟩ : ∃ a, acts[i]? = some a := ⟨_, List.getElem?_eq_getElem (by omega)⟩
  have aok := hok a (List.mem_of_getElem? ha)
  obtain ⟨pay, lack, client, m, aq, pl, pc, ps⟩ := a
  obtain ⟨alo, ahi, mlo, mhi, plen, parg⟩ := aok
  simp only at alo ahi mlo mhi plen parg
  refine T_argAI (f := TAct.cells) (fun _ => rfl) (by decide) hr rfl hlt ha (T_al fun k => T_stA0 rfl rfl (by simp [TAct.cells, Value.oneCell']) ?_)
  simp only [add_mk]
  refine T_ldS rfl (T_xif (fun _ => hworks _ (T_drop (T_drop hk1))) fun hp100 => ?_)
  have hp100 : pl ≤ 100 := by simp at hp100; omega
  have hrps : ∀ H, RdV B H aq (iv .i64 (ps.take pl)) := fun H => by
    have := (parg H).take pl (by simpa using plen)
    rwa [iv_take] at this
  have hplen : pl = (ps.take pl).length := by simp; omega
  refine T_join (fun vs H' => ∃ (ys : List Int) (q' : Option Addr) (d' : Nat) (H2 : List HProp), vs = [.slice q' n d'] ∧ ys.length = n ∧ (∀ x ∈ ys, 0 ≤ x ∧ x ≤ 9223372036854775807) ∧ RdV B H2 q' (iv .i64 ys) ∧ T B H2 (K (.bool true)) ∧ bk b ys :: H2 = H') ?_ fun R2 hR2 => ?_
  · rintro vs H' ⟨ys, q', d', H2, rfl, hyl, hyb, hq', hk2, rfl⟩
    simp only [T_all, T_imp]
    intro p44 k45 k46 heq
    simp only [List.cons.injEq, Value.slice.injEq, and_true] at heq
    obtain ⟨rfl, rfl, rfl⟩ := heq
    subst hyl
    refine T_loop (fun vs H' => ∃ j : Nat, j ≤ ys.length ∧ vs = [.int .i64 (wsum (ys.take j)), .int .i64 (j : Int)] ∧ bk b ys :: H2 = H')
      (fun vs => match vs with | [_, .int _ i] => ys.length - i.toNat | _ => 0) ⟨0, Nat.zero_le _, rfl, rfl⟩ ?_
    rintro vs H' R3 ⟨j, hj, rfl, rfl⟩ hR3
    simp only [T_all, T_imp]
    intro n50 n51 heq
    simp only [List.cons.injEq, Value.int.injEq, true_and, and_true] at heq
    obtain ⟨rfl, rfl⟩ := heq
    refine T_xif (fun hc => ?_) (fun hc => ?_)
    · have hjl : j < ys.length := by simpa using hc
      obtain ⟨z, hz⟩ : ∃ z, ys[j]? = some z := ⟨_, List.getElem?_eq_getElem hjl⟩
      refine T_rowI hq'.tail rfl hjl (iv_get hz) (T_rd_adr hq'.tail (by simp; omega) fun a54 ha54 => T_req ⟨by omega, by omega⟩ ?_)
      subst ha54
      rw [Int.toNat_natCast]
      refine T_rdI hq'.tail (iv_get hz) (trims_Want ?_)
      have hw : wantOf ys (j : Int) = z := by simp [wantOf, List.getD, hz]
      simp only [asI_int, hw]
      refine T_andRd hq'.tail rfl ?_ (T_xif_f (by simp) ?_)
      · exact iv_get hz
      rw [wrap_succ (i := j) (by omega), ← wsum_snoc, ← take_succ_of hz]
      exact hR3 _ _ ⟨j + 1, by omega, rfl, rfl⟩ (by simp only [Int.toNat_natCast]; omega)
    have : j = ys.length := by simp at hc; omega
    subst this
    rw [List.take_of_length_le (Nat.le_refl _)]
    refine trims_All (by omega) fun p' c' => ?_
    simp only [asS_slice]
    refine SameInts_eq rfl rfl (by omega) RdV.of_osl hq'.tail.tail ?_
    simp only [asB_bool]
    refine T_xif_f rfl (T_drop (trims_Total (by omega) ?_))
    simp only [asI_int]
    refine T_xif_f (by simp) (trims_Want ?_)
    simp only [asI_int]
    refine trims_Want ?_
    have hw1 : wantOf ys (-1) = 0 := rfl
    have hw2 : wantOf ys (ys.length : Int) = 0 := by simp [wantOf, List.getD]
    simp only [asI_int, hw1, hw2]
    refine T_xif_f (by decide) ?_
    rw [wrap_succ (i := i) (by omega)]
    exact hR _ _ ⟨i + 1, ys, q', d', H2, by omega, rfl, rfl, hyb, hq', hk2, rfl⟩ (by simp only [Int.toNat_natCast]; omega)
  subst hxl
  refine T_ldB rfl (T_xif (fun hpay => ?_) fun hpay => ?_)
  · clear hpay
    refine T_join (fun vs H' => vs = [.bool (decide (¬ payOk xs client m))] ∧ cl k (TAct.cells ⟨pay, lack, client, m, aq, pl, pc, ps⟩).toArray :: bk b xs :: H1 = H') ?_ fun R3 hR3 => ?_
    rotate_left
    · refine T_ldI rfl (T_xif (fun h => hR3 _ _ ⟨?_, rfl⟩) fun h => T_ldI rfl (T_xif (fun h2 => hR3 _ _ ⟨?_, rfl⟩) fun h2 => T_ldI rfl (hR3 _ _ ⟨?_, rfl⟩)))
      · have : ¬ payOk xs client m := by simp [payOk] at h ⊢; omega
        simp [this]
      · have : ¬ payOk xs client m := by simp [payOk] at h2 ⊢; omega
        simp [this]
      · have hcl : 0 ≤ client := by simpa using h
        have hcu : client < (xs.length : Int) := by simpa using h2
        have hpm : (¬ payOk xs client m) ↔ m < 0 := by
          refine ⟨fun hh => ?_, fun hh hp => by have := hp.2.2; omega⟩
          rcases Int.lt_or_le m 0 with hm | hm
          · exact hm
          · exact absurd ⟨hcl, hcu, hm⟩ hh
        simp only [hpm]
    rintro vs H' ⟨rfl, rfl⟩
    simp only [T_all, T_imp]
    intro b75 heq
    simp only [List.cons.injEq, Value.bool.injEq, and_true] at heq
    subst heq
    refine T_ldI rfl (T_ldI rfl (T_perm (List.Perm.swap _ _ _) ?_))
    by_cases hpo : payOk xs client m
    rotate_left
    · refine trims_Paid_bad hpo ?_
      simp only [asI_int]
      refine T_xif_f (by simp [hpo]) (T_xif_f (by simp [hpo]) (hR2 _ _ ⟨xs, q, d, cl k (TAct.cells ⟨pay, lack, client, m, aq, pl, pc, ps⟩).toArray :: H1, rfl, rfl, hxb, hq.tail, T_drop hk1, rfl⟩))
    have hpo' := hpo
    obtain ⟨hc0, hc1, hm0⟩ := hpo'
    obtain ⟨j, rfl⟩ : ∃ j : Nat, client = (j : Int) := ⟨client.toNat, by omega⟩
    have hj : j < xs.length := by omega
    obtain ⟨z, hz⟩ : ∃ z, xs[j]? = some z := ⟨_, List.getElem?_eq_getElem hj⟩
    have hzb := hxb z (List.mem_of_getElem? hz)
    refine trims_Paid hz hm0 mhi hzb.1 hzb.2 ?_
    simp only [asI_int]
    refine T_xif_f (by simp [hpo]) (T_xif_t (by simp [hpo]) (T_al fun k80 => T_oslOf 1 rfl (app34 (ys := iv .i64 xs) (by omega) hq.tail.tail.tail (by simp) (iv_one _ _) fun p81 c81 => ?_)))
    simp only [Nat.zero_add, List.nil_append]
    refine T_ldI rfl (T_ldI rfl (T_rowI RdV.of_osl rfl hj (iv_get hz) (T_ldI rfl (ref24_Paid hm0 mhi hzb.1 hzb.2 ?_))))
    simp only [asI_int]
    refine T_andC rfl (T_oslSt rfl hj rfl ?_)
    have e : (iv .i64 xs).set j (Value.int .i64 (paid z m)) = iv .i64 (xs.set j (paid z m)) := by simp [iv, List.map_set]
    rw [e]
    refine T_perm (List.Perm.swap _ _ _) (hR2 _ _ ⟨xs.set j (paid z m), p81, c81, _, rfl, by simp, ?_, RdV.of_osl, T_drop (T_drop hk1), rfl⟩)
    intro y hy
    rcases List.mem_or_eq_of_mem_set hy with h | rfl
    · exact hxb y h
    · unfold paid
      split <;> omega
  · clear hpay
    refine T_ldI rfl (T_ldS rfl (T_perm (List.Perm.swap _ _ _) (trims_Ask (ys := ps.take pl) (hrps _) hplen hn64 alo ahi ?_)))
    simp only [asI_int]
    refine T_ldS rfl ?_
    by_cases hle : pl ≤ xs.length
    rotate_left
    · have hle' : ¬ (ps.take pl).length ≤ xs.length := by omega
      rw [asked, if_neg hle', if_neg hle']
      exact T_xif_f (by simp; omega) (T_ldS rfl (T_xif_f (by simp; omega) (hR2 _ _ ⟨xs, q, d, cl k (TAct.cells ⟨pay, lack, client, m, aq, pl, pc, ps⟩).toArray :: H1, rfl, rfl, hxb, hq.tail, T_drop hk1, rfl⟩)))
    have hle' : (ps.take pl).length ≤ xs.length := by omega
    have hask : asked xs lack (ps.take pl) = spread lack (ps.take pl) ++ List.replicate (xs.length - pl) 0 := by rw [asked, if_pos hle', ← hplen]
    rw [hask, if_pos hle']
    refine T_xif_f (by simp; omega) (T_ldS rfl (T_xif_t (by simp; omega) (T_ldI rfl (T_ldS rfl (T_ldS rfl ?_)))))
    have hwn : IntKind.wrap .i64 ((xs.length : Int) - (pl : Int)) = ((xs.length - pl : Nat) : Int) := by rw [wrap_i64 (by omega) (by omega)]; omega
    have hmem : ∀ x ∈ spread lack (ps.take pl) ++ List.replicate (xs.length - pl) 0, 0 ≤ x ∧ x ≤ 9223372036854775807 := by
      intro y hy
      rcases List.mem_append.1 hy with h | h
      · exact spread_mem ahi y h
      · rw [List.eq_of_mem_replicate h]; decide
    have fin : ∀ (p122 : Option Addr) (c122 p126 c126), T B (osl 1 p126 (0 + pl) c126 ([] ++ iv .i64 (spread lack (ps.take pl))) :: osl 1 p122 pl c122 (iv .i64 (spread lack (ps.take pl))) :: bk b (spread lack (ps.take pl) ++ List.replicate (xs.length - pl) 0) :: cl k (TAct.cells ⟨pay, lack, client, m, aq, pl, pc, ps⟩).toArray :: H1)
        (semP P (Builtin.append_ #[34, 3] 34 #[.slice p126 (0 + pl) c126, .int .i64 (IntKind.wrap .i64 ((xs.length : Int) - (pl : Int)))]) fun v => asS v fun p131 k132 k133 => R2 [.slice p131 k132 k133]) := by
      intro p122 c122 p126 c126
      simp only [Nat.zero_add, List.nil_append]
      refine app_make (s := 1) (m := xs.length - pl) (ys := iv .i64 (List.replicate (xs.length - pl) 0)) (t0 := 34) (t1 := 3) (elem := 3) (k1 := .i64) rfl rfl (by kernel_rfl) (by kernel_rfl) (by kernel_rfl) (by kernel_rfl) (by kernel_rfl)
        (by rw [bytes3]; omega) (by rw [bytes3]; omega) (by kernel_rfl) (by rw [zc3, zeros_one, iv_zeros]) (iv_one _ _) hwn (by omega) fun p131 c131 => ?_
      simp only [asS_slice]
      rw [← iv_append, show pl + (xs.length - pl) = xs.length by omega]
      refine T_pull (.tail (.tail .head)) (hR2 _ _ ⟨_, p131, c131, _, rfl, ?_, hmem, RdV.of_osl, T_drop (T_drop (T_drop hk1)), rfl⟩)
      simp [spread_len]; omega
    refine T_both ?_ ?_
    · refine T_al fun k117 => T_andC rfl (T_andC rfl (T_andC rfl (ref24_Spread (hrps _) hplen (show pl ≤ 10000 by omega) alo ahi fun p122 c122 => ?_)))
      simp only [asS_slice]
      refine T_andC rfl (T_perm (List.Perm.swap _ _ _) (T_oslOf 1 rfl (app34 (ys := iv .i64 (spread lack (ps.take pl))) (by omega) RdV.of_osl.tail (by simp [spread_len]; omega) (iv_one _ _) fun p126 c126 => T_andC rfl ?_)))
      exact fin p122 c122 p126 c126
    · refine ref24_Spread (hrps _) hplen (show pl ≤ 10000 by omega) alo ahi fun p122 c122 => ?_
      simp only [asS_slice]
      refine T_andC rfl (T_al fun k117 => T_andC rfl (T_andC rfl (T_andC rfl (T_oslOf 1 rfl (app34 (ys := iv .i64 (spread lack (ps.take pl))) (by omega) RdV.of_osl.tail (by simp [spread_len]; omega) (iv_one _ _) fun p126 c126 => T_andC rfl ?_)))))
      exact fin p122 c122 p126 c126

end
end Go.Proofs.Ytpnlldmmfbpmgaa
