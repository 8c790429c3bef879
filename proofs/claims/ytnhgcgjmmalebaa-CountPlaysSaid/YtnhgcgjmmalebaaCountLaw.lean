/- The laws of the counts: parts, top (layer 14); no condition but the forms of the arguments. -/
import Derived.Test.YtnhgcgjmmalebaaCount2
set_option linter.unusedVariables false
set_option linter.unusedSimpArgs false
namespace Go.Proofs.Ytnhgcgjmmalebaa
open Go.XS

section
variable {B : Heap} {H : List HProp} {K : Value → HP}

theorem law_CountParts {p : Option Addr} {l c : Nat} {zs : List Int} (hr : Arg B p (iv .u16 zs)) (hl : l ≤ zs.length) (hz : ∀ z ∈ zs, 0 ≤ z ∧ z ≤ 65535) (hk : T B H (K (.bool true))) :
    T B H (callP P f_law14_CountParts #[.slice p l c] K) := by
  refine T_of (call_law14_CountParts _ _ _) ?_
  unfold F_law14_CountParts
  have hworks : ∀ H', T B H' (K (.bool true)) → T B H' (callP P f_law14_works #[] fun v => asB v fun b => K (.bool b)) := fun H' h => count_works (by simpa only [asB_bool] using h)
  refine T_xif (fun _ => hworks _ hk) fun hl100 => ?_
  have hl100 : l ≤ 100 := by simp at hl100; omega
  refine count_New (n := 2) (by omega) (by omega) fun b => ?_
  simp only [asP_ptr]
  refine T_loop (fun vs H' => ∃ (i : Nat) (s : Int), i ≤ l ∧ 0 ≤ s ∧ s ≤ i * 65535 ∧ vs = [.int .i64 s, .int .i64 s, .int .i64 (i : Int)] ∧ cbk b 2 [s, 0] :: H = H')
    (fun vs => match vs with | [_, _, .int _ i] => l - i.toNat | _ => 0) ⟨0, 0, Nat.zero_le _, by decide, by decide, rfl, rfl⟩ ?_
  rintro vs H' R ⟨i, s, hi, hs0, hs1, rfl, rfl⟩ hR
  simp only [T_all, T_imp]
  intro n27 n28 n29 heq
  simp only [List.cons.injEq, Value.int.injEq, true_and, and_true] at heq
  obtain ⟨rfl, rfl, rfl⟩ := heq
  refine T_xif (fun hc => ?_) fun hc => ?_
  · have hlt : i < l := by simpa using hc
    obtain ⟨z, hzi⟩ : ∃ z, zs[i]? = some z := ⟨_, List.getElem?_eq_getElem (by omega)⟩
    have hzb := hz z (List.mem_of_getElem? hzi)
    have hwz : IntKind.wrap .i64 z = z := wrap_i64 (by omega) (by omega)
    refine T_join (fun vs H' => vs = [] ∧ cbk b 2 [s + z, 0] :: H = H') ?_ fun R2 hR2 => T_argI hr rfl hlt (iv_get hzi) ?_
    · rintro vs H' ⟨rfl, rfl⟩
      simp only [T_imp]
      intro _
      refine count_Get ?_
      have hg : cget [s + z, 0] 0 = s + z := rfl
      rw [hg]
      simp only [asI_int]
      refine T_argI hr rfl hlt (iv_get hzi) ?_
      rw [hwz, wrap_succ (i := i) (by omega), wrap_i64 (n := s + z) (by omega) (by omega)]
      exact hR _ _ ⟨i + 1, s + z, by omega, by omega, by omega, rfl, rfl⟩ (by simp only [Int.toNat_natCast]; omega)
    · rw [hwz]
      refine count_Add ?_
      have he : cerr [s, 0] 0 z = 0 := by
        have hg : cget [s, 0] 0 = s := rfl
        rw [cerr, if_pos ⟨by decide, (show (0 : Int) < ((2 : Nat) : Int) by decide), hzb.1⟩, hg, if_neg (by simp only [mostC]; omega)]
      have ha : cadd [s, 0] 0 z = [s + z, 0] := by rw [cadd, if_pos he]; rfl
      rw [he, ha]
      simp only [asI_int]
      refine T_xif_f rfl (count_Get ?_)
      have hg : cget [s + z, 0] 0 = s + z := rfl
      rw [hg]
      simp only [asI_int]
      exact T_xif_f (by simp; omega) (hR2 _ _ ⟨rfl, rfl⟩)
  · refine T_al fun z => count_Sum_nil (T_ex _ (T_ex _ (T_and rfl (count_Sum_zero (T_ex _ (T_ex _ (T_and rfl (T_perm (List.Perm.swap _ _ _) (count_Add ?_)))))))))
    have he : cerr [s, 0] 1 s = 0 := by
      have hg : cget [s, 0] 1 = 0 := rfl
      rw [cerr, if_pos ⟨by decide, (show (1 : Int) < ((2 : Nat) : Int) by decide), hs0⟩, hg, if_neg (by simp only [mostC]; omega)]
    have ha : cadd [s, 0] 1 s = [s, s] := by
      rw [cadd, if_pos he]
      have hg : cget [s, 0] 1 + s = s := by
        have : cget [s, 0] 1 = 0 := rfl
        rw [this]; omega
      rw [hg]; rfl
    rw [he, ha]
    simp only [asI_int]
    refine T_xif_t rfl (count_Get ?_)
    simp only [asI_int]
    refine count_Get ?_
    simp only [asI_int]
    refine T_xif_t (by simp [cget]) (count_Add_nil ?_)
    simp only [asI_int]
    refine T_xif_t rfl (T_perm (List.Perm.swap _ _ _) (count_Add_zero ?_))
    simp only [asI_int]
    refine T_xif_t rfl (count_Get_nil ?_)
    simp only [asI_int]
    refine count_Get_zero ?_
    simp only [asI_int]
    refine T_xif_t (by decide) (T_xif_t rfl (T_xif_t rfl (count_Top_nil ?_)))
    simp only [asI_int]
    refine T_xif_t (by decide) (count_Top_zero ?_)
    simp only [asI_int]
    refine T_xif_t (by decide) (count_All_nil ?_)
    simp only [asS_slice]
    refine count_All_zero fun c2 => ?_
    simp only [asS_slice]
    exact T_xif_t (by decide) (hworks _ (T_drop (T_drop (T_drop hk))))

theorem law_CountTop {p : Option Addr} {l c : Nat} {zs : List Int} (hr : Arg B p (iv .u16 zs)) (hl : l ≤ zs.length) (hz : ∀ z ∈ zs, 0 ≤ z ∧ z ≤ 65535) (hk : T B H (K (.bool true))) :
    T B H (callP P f_law14_CountTop #[.slice p l c] K) := by
  refine T_of (call_law14_CountTop _ _ _) ?_
  unfold F_law14_CountTop
  have hworks : ∀ H', T B H' (K (.bool true)) → T B H' (callP P f_law14_works #[] fun v => asB v fun b => K (.bool b)) := fun H' h => count_works (by simpa only [asB_bool] using h)
  refine T_join (fun vs H' => vs = [] ∧ H = H' ∧ 1 ≤ l ∧ l ≤ 64) ?_ fun R hR => T_xif (fun _ => hworks _ hk) fun h => T_xif (fun _ => hworks _ hk) fun h2 => hR _ _ ⟨rfl, rfl, ?_, by simp at h; omega⟩
  rotate_left
  · rcases Nat.eq_zero_or_pos l with h0 | h0
    · rw [h0] at h2; cases h2
    · exact h0
  rintro vs H' ⟨rfl, rfl, hl1, hl64⟩
  simp only [T_imp]
  intro _
  refine count_New (n := l) hl1 hl64 fun b => ?_
  simp only [asP_ptr]
  refine T_loop (fun vs H' => ∃ i : Nat, i ≤ l ∧ vs = [.int .i64 (i : Int)] ∧ cbk b l (zs.take i ++ List.replicate (l - i) 0) :: H = H')
    (fun vs => match vs with | [.int _ i] => l - i.toNat | _ => 0) ⟨0, Nat.zero_le _, rfl, by simp⟩ ?_
  rintro vs H' R ⟨i, hi, rfl, rfl⟩ hR
  simp only [T_all, T_imp]
  intro n27 heq
  simp only [List.cons.injEq, Value.int.injEq, true_and, and_true] at heq
  subst heq
  refine T_xif (fun hc => ?_) fun hc => ?_
  · have hlt : i < l := by simpa using hc
    obtain ⟨z, hzi⟩ : ∃ z, zs[i]? = some z := ⟨_, List.getElem?_eq_getElem (by omega)⟩
    have hzb := hz z (List.mem_of_getElem? hzi)
    have hwz : IntKind.wrap .i64 z = z := wrap_i64 (by omega) (by omega)
    have htl : (zs.take i).length = i := by simp; omega
    have hg : cget (zs.take i ++ List.replicate (l - i) 0) (i : Int) = 0 := by
      rw [cget, if_pos (by omega), Int.toNat_natCast, List.getD, List.getElem?_append_right (by omega), List.getElem?_replicate, if_pos (by omega)]
      rfl
    have he : cerr (zs.take i ++ List.replicate (l - i) 0) (i : Int) z = 0 := by
      rw [cerr, if_pos ⟨by omega, by simp; omega, hzb.1⟩, hg, if_neg (by simp only [mostC]; omega)]
    have ha : cadd (zs.take i ++ List.replicate (l - i) 0) (i : Int) z = zs.take (i + 1) ++ List.replicate (l - (i + 1)) 0 := by
      rw [cadd, if_pos he, hg, Int.toNat_natCast, Int.zero_add, List.set_append_right _ _ (by omega), htl, Nat.sub_self, show l - i = (l - (i + 1)) + 1 by omega, List.replicate_succ, List.set_cons_zero, take_succ_of hzi]
      simp
    refine T_argI hr rfl hlt (iv_get hzi) ?_
    rw [hwz]
    refine count_Add ?_
    rw [ha]
    simp only [asI_int]
    rw [wrap_succ (i := i) (by omega)]
    exact hR _ _ ⟨i + 1, by omega, rfl, rfl⟩ (by simp only [Int.toNat_natCast]; omega)
  have : i = l := by simp at hc; omega
  subst this
  clear hR
  rw [Nat.sub_self, List.replicate_zero, List.append_nil]
  refine count_Top fun t ht => ?_
  simp only [asI_int]
  have hkd := T_drop (q := cbk b i (zs.take i)) hk
  rcases ht with ⟨h0, _⟩ | ⟨j, m, rfl, hj, hall⟩
  · have : (zs.take i).length = 0 := by rw [h0]; rfl
    rw [List.length_take] at this; omega
  have hji : j < i := by have := (List.getElem?_eq_some_iff.1 hj).1; rw [List.length_take] at this; omega
  have hzj : zs[j]? = some m := by rw [List.getElem?_take, if_pos hji] at hj; exact hj
  refine T_join (fun vs H' => vs = [] ∧ cbk b i (zs.take i) :: H = H') ?_ fun R hR => T_xif_f (by simp) (T_xif_f (by simp; omega) (hR _ _ ⟨rfl, rfl⟩))
  rintro vs H' ⟨rfl, rfl⟩
  simp only [T_imp]
  intro _
  refine T_loop (fun vs H' => ∃ k : Nat, k ≤ i ∧ vs = [.int .i64 (k : Int)] ∧ cbk b i (zs.take i) :: H = H')
    (fun vs => match vs with | [.int _ k] => i - k.toNat | _ => 0) ⟨0, Nat.zero_le _, rfl, rfl⟩ ?_
  rintro vs H' R ⟨k, hk2, rfl, rfl⟩ hR
  simp only [T_all, T_imp]
  intro n39 heq
  simp only [List.cons.injEq, Value.int.injEq, true_and, and_true] at heq
  subst heq
  refine T_xif (fun hc => ?_) fun hc => hworks _ hkd
  have hlt : k < i := by simpa using hc
  obtain ⟨y, hy⟩ : ∃ y, zs[k]? = some y := ⟨_, List.getElem?_eq_getElem (by omega)⟩
  obtain ⟨hle, hls⟩ := hall k y (by rw [List.getElem?_take, if_pos hlt]; exact hy)
  have rd2 : ∀ {f : Int → Int → HP} {H' : List HProp}, T B H' (f y m) → T B H' (adr p fun a => req ((0 : Int) ≤ (k : Int) ∧ (k : Int) < (i : Int)) (adr p fun a' => req ((0 : Int) ≤ (j : Int) ∧ (j : Int) < (i : Int)) (ldI .u16 (Addr.add a (k : Int).toNat) fun x => ldI .u16 (Addr.add a' (j : Int).toNat) fun x' => f x x'))) := by
    intro f H' h
    refine T_rd_adr (hr H') (by simp; omega) fun a ha => T_req ⟨by omega, by omega⟩ (T_rd_adr (hr H') (by simp; omega) fun a' ha' => T_req ⟨by omega, by omega⟩ ?_)
    subst ha
    have ha' := Option.some.inj ha'
    subst ha'
    rw [Int.toNat_natCast, Int.toNat_natCast]
    exact T_rdI (hr H') (iv_get hy) (T_rdI (hr H') (iv_get hzj) h)
  have hnext : T B (cbk b i (zs.take i) :: H) (R [.int .i64 (IntKind.wrap .i64 ((k : Int) + 1))]) := by
    rw [wrap_succ (i := k) (by omega)]
    exact hR _ _ ⟨k + 1, by omega, rfl, rfl⟩ (by simp only [Int.toNat_natCast]; omega)
  refine rd2 (T_xif_f (by simp; omega) (T_xif (fun h => rd2 (T_xif_f ?_ hnext)) fun h => hnext))
  have h : (k : Int) < (j : Int) := by simpa using h
  have := hls (by omega)
  exact beq_eq_false_iff_ne.2 (by omega)

end
end Go.Proofs.Ytnhgcgjmmalebaa
