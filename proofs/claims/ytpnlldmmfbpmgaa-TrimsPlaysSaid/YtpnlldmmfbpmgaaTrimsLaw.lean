/- The laws of the trims (layer 24): the example, how a lack is spread; no condition but the forms of the arguments. -/
import Derived.Test.YtpnlldmmfbpmgaaTrims
set_option linter.unusedVariables false
set_option linter.unusedSimpArgs false
namespace Go.Proofs.Ytpnlldmmfbpmgaa
open Go.XS

section
variable {B : Heap} {H : List HProp} {K : Value → HP}

theorem trims_works (hk : T B H (K (.bool true))) : T B H (callP P f_law24_works #[] K) := by
  refine T_of call_law24_works ?_
  unfold F_law24_works
  refine trims_New (n := 4) (by omega) fun b => ?_
  simp only [asP_ptr]
  refine T_al fun k => T_perm (List.Perm.swap _ _ _) (trims_Ask (ys := [2, 0, 4, 9]) (rd_cl rfl) rfl (by decide) (by decide) (by decide) ?_)
  rw [show asked (List.replicate 4 0) 5 [2, 0, 4, 9] = [2, 0, 3, 0] by decide]
  simp only [asI_int]
  refine trims_Paid (i := 2) (x := 3) rfl (by decide) (by decide) (by decide) (by decide) ?_
  rw [show ([2, 0, 3, 0] : List Int).set 2 (paid 3 1) = [2, 0, 2, 0] by decide]
  simp only [asI_int]
  refine T_xif_t (by decide) (T_xif_t (by decide) (trims_All (by decide) fun p' c' => ?_))
  simp only [asS_slice]
  refine T_al fun k2 => SameInts_eq (xs := [2, 0, 2, 0]) rfl rfl (by decide) RdV.of_osl.tail (rd_cl rfl) ?_
  simp only [asB_bool]
  refine T_xif_t rfl (T_drop (T_drop (trims_Total (by decide) ?_)))
  simp only [asI_int]
  refine T_xif_t (by decide) (trims_Want ?_)
  simp only [asI_int]
  refine T_xif_t (by decide) (T_al fun k3 => trims_Spread (xs := [0, 3]) (rd_cl rfl) rfl (by decide) (by decide) (by decide) fun k4 => ?_)
  rw [show spread 1 [0, 3] = [0, 1] by decide]
  simp only [asS_slice]
  refine T_al fun k5 => SameInts_eq (xs := [0, 1]) rfl rfl (by decide) (rd_cl rfl) (rd_cl rfl) ?_
  simp only [asB_bool]
  exact T_drop (T_drop (T_drop (T_drop (T_drop hk))))

theorem spread_sum : ∀ (xs : List Int) (lack : Int), (∀ x ∈ xs, 0 ≤ x) → 0 ≤ lack → (spread lack xs).sum = (if xs.sum < lack then xs.sum else lack)
  | [], lack, _, h => by simp [spread]; omega
  | p :: ps, lack, hp, h => by
    have hp0 := hp p (by simp)
    obtain ⟨h1, h2, h3⟩ := tk_bounds p lack
    have ih := spread_sum ps (lack - tk p lack) (fun x hx => hp x (by simp [hx])) (by have := h2 h; omega)
    have hs : 0 ≤ ps.sum := by
      clear ih
      induction ps with
      | nil => simp
      | cons q qs ih =>
        have := hp q (by simp)
        have := ih (fun x hx => hp x (by simp at hx ⊢; rcases hx with h | h <;> simp [h]))
        simp; omega
    have hc : (tk p lack = lack ∧ lack ≤ p) ∨ (tk p lack = p ∧ p ≤ lack) := by
      unfold tk
      repeat' split
      all_goals omega
    simp only [spread, List.sum_cons, ih]
    repeat' split
    all_goals omega

theorem sum_snoc (xs : List Int) (x : Int) : (xs ++ [x]).sum = xs.sum + x := by simp

theorem sum_take_bounds {xs : List Int} {m : Int} (hm : 0 ≤ m) (h : ∀ x ∈ xs, 0 ≤ x ∧ x ≤ m) : 0 ≤ xs.sum ∧ xs.sum ≤ xs.length * m := by
  induction xs with
  | nil => simp
  | cons x xs ih =>
    have := h x (by simp)
    have := ih (fun y hy => h y (by simp [hy]))
    simp only [List.sum_cons, List.length_cons]
    have e : ((xs.length + 1 : Nat) : Int) * m = xs.length * m + m := by rw [Int.natCast_add, Int.add_mul]; simp
    omega

theorem law_TrimsSpread {lack : Int} {p : Option Addr} {l c : Nat} {zs : List Int} (hr : Arg B p (iv .u16 zs)) (hl : l ≤ zs.length) (hw : ∀ z ∈ zs, 0 ≤ z ∧ z ≤ 65535) (h0 : 0 ≤ lack) (h1 : lack ≤ 65535) (hk : T B H (K (.bool true))) :
    T B H (callP P f_law24_TrimsSpread #[.int .u16 lack, .slice p l c] K) := by
  refine T_of (call_law24_TrimsSpread _ _ _ _) ?_
  unfold F_law24_TrimsSpread
  have hworks : ∀ H', T B H' (K (.bool true)) → T B H' (callP P f_law24_works #[] fun v => asB v fun b => K (.bool b)) := fun H' h => trims_works (by simpa only [asB_bool] using h)
  refine T_xif (fun _ => hworks _ hk) fun hl60 => ?_
  have hl60 : l ≤ 60 := by simp at hl60; omega
  have hwl : IntKind.wrap .i64 lack = lack := wrap_i64 (by omega) (by omega)
  have hsum : ∀ i, 0 ≤ (zs.take i).sum ∧ (zs.take i).sum ≤ (zs.take i).length * 65535 := fun i => sum_take_bounds (by omega) (fun x hx => hw x (List.mem_of_mem_take hx))
  rw [hwl]
  refine T_oslNil 1 (T_loop (fun vs H' => ∃ (i : Nat) (p' : Option Addr) (c' : Nat), i ≤ l ∧ vs = [.slice p' i c', .int .i64 (zs.take i).sum, .int .i64 (i : Int)] ∧ osl 1 p' i c' (iv .i64 (zs.take i)) :: H = H')
    (fun vs => match vs with | [_, _, .int _ i] => l - i.toNat | _ => 0) ⟨0, none, 0, Nat.zero_le _, rfl, rfl⟩ ?_)
  rintro vs H' R ⟨i, p', c', hi, rfl, rfl⟩ hR
  simp only [T_all, T_imp]
  intro p25 k26 k27 n28 n29 heq
  simp only [List.cons.injEq, Value.int.injEq, Value.slice.injEq, true_and, and_true] at heq
  obtain ⟨⟨rfl, rfl, rfl⟩, rfl, rfl⟩ := heq
  refine T_xif (fun hc => ?_) (fun hc => ?_)
  · have hlt : i < l := by simpa using hc
    obtain ⟨z, hz⟩ : ∃ z, zs[i]? = some z := ⟨_, List.getElem?_eq_getElem (by omega)⟩
    have hzb := hw z (List.mem_of_getElem? hz)
    have hs := hsum i
    simp only [List.length_take] at hs
    refine T_argI hr rfl hlt (iv_get hz) ?_
    have hwz : IntKind.wrap .i64 z = z := wrap_i64 (by omega) (by omega)
    rw [hwz]
    refine snoc34 (by omega) fun p2 c2 => T_argI hr rfl hlt (iv_get hz) ?_
    rw [hwz, wrap_succ (i := i) (by omega), wrap_i64 (n := _ + z) (by omega) (by omega), ← sum_snoc, ← take_succ_of hz]
    exact hR _ _ ⟨i + 1, p2, c2, by omega, rfl, rfl⟩ (by simp only [Int.toNat_natCast]; omega)
  have : i = l := by simp at hc; omega
  subst this
  clear hR
  have hlen : (zs.take i).length = i := by simp; omega
  have hwt : ∀ z ∈ zs.take i, 0 ≤ z ∧ z ≤ 65535 := fun z hz => hw z (List.mem_of_mem_take hz)
  revert hlen hwt
  generalize zs.take i = xs
  intro hlen hwt
  subst hlen
  refine trims_Spread RdV.of_osl rfl (by omega) (by omega) (by omega) fun k => ?_
  simp only [asS_slice]
  have hfull := spread_sum xs lack (fun x hx => (hwt x hx).1) h0
  have hxsum := sum_take_bounds (m := 65535) (by omega) hwt
  refine T_xif_f (by simp) (T_loop (fun vs H' => ∃ i : Nat, i ≤ xs.length ∧ vs = [.int .i64 ((spread lack xs).take i).sum, .int .i64 (i : Int)] ∧ cl k (iv .i64 (spread lack xs)).toArray :: osl 1 p' xs.length c' (iv .i64 xs) :: H = H')
    (fun vs => match vs with | [_, .int _ i] => xs.length - i.toNat | _ => 0) ⟨0, Nat.zero_le _, rfl, rfl⟩ ?_)
  have hmb : ∀ y ∈ spread lack xs, 0 ≤ y ∧ y ≤ 65535 := by
    intro y hy
    obtain ⟨j, hj, rfl⟩ := List.mem_iff_getElem.1 hy
    rw [spread_len] at hj
    obtain ⟨hg, _⟩ := spread_get lack xs j _ (List.getElem?_eq_getElem hj)
    rw [List.getElem?_eq_getElem (by rw [spread_len]; exact hj)] at hg
    rw [Option.some.inj hg]
    obtain ⟨a1, a2, a3⟩ := tk_bounds xs[j] (rest lack xs j)
    obtain ⟨b1, b2, b3⟩ := rest_bounds lack xs j
    have := b2 h0
    have := a2 this
    omega
  rintro vs H' R ⟨i, hi, rfl, rfl⟩ hR
  simp only [T_all, T_imp]
  intro n45 n46 heq
  simp only [List.cons.injEq, Value.int.injEq, true_and, and_true] at heq
  obtain ⟨rfl, rfl⟩ := heq
  refine T_xif (fun hc => ?_) (fun hc => ?_)
  · have hlt : i < xs.length := by simpa using hc
    obtain ⟨z, hz⟩ : ∃ z, xs[i]? = some z := ⟨_, List.getElem?_eq_getElem hlt⟩
    obtain ⟨hg, _⟩ := spread_get lack xs i z hz
    obtain ⟨a1, a2, a3⟩ := tk_bounds z (rest lack xs i)
    have a4 : 0 ≤ z → tk z (rest lack xs i) ≤ z := by
      intro hz0
      simp only [tk]
      repeat' split
      all_goals omega
    have a4 := a4 (hwt z (List.mem_of_getElem? hz)).1
    have hs := sum_take_bounds (xs := (spread lack xs).take i) (m := 65535) (by omega) (fun x hx => hmb x (List.mem_of_mem_take hx))
    simp only [List.length_take, spread_len] at hs
    have hb := hmb _ (List.mem_of_getElem? hg)
    have hget : (iv .i64 (spread lack xs)).toArray[0 + i]? = some (.int .i64 (tk z (rest lack xs i))) := by rw [List.getElem?_toArray, Nat.zero_add]; exact iv_get hg
    have hrk : RdV B (cl k (iv .i64 (spread lack xs)).toArray :: osl 1 p' xs.length c' (iv .i64 xs) :: H) (some ⟨k, 0, none⟩) (iv .i64 (spread lack xs)) := rd_cl rfl
    have hrx : RdV B (cl k (iv .i64 (spread lack xs)).toArray :: osl 1 p' xs.length c' (iv .i64 xs) :: H) p' (iv .i64 xs) := RdV.of_osl.tail
    refine T_idxI rfl hlt hget (T_xif_f (by simp; omega) (T_adr (T_req ⟨by omega, by omega⟩ (T_rd_adr hrx (by simp; omega) fun a ha => T_req ⟨by omega, by omega⟩ ?_))))
    subst ha
    rw [Int.toNat_natCast, add_mk]
    refine T_ldI hget (T_rdI hrx (iv_get hz) (T_xif_f (by simp; omega) (T_idxI rfl hlt hget ?_)))
    rw [wrap_succ (i := i) (by omega), wrap_i64 (n := _ + _) (by omega) (by omega), ← sum_snoc, ← take_succ_of hg]
    exact hR _ _ ⟨i + 1, by omega, rfl, rfl⟩ (by simp only [Int.toNat_natCast]; omega)
  have : i = xs.length := by simp at hc; omega
  subst this
  rw [List.take_of_length_le (by rw [spread_len]; exact Nat.le_refl _), hfull]
  refine T_al fun z => T_xif_t (by simp) ?_
  refine trims_Ask_nil ?_
  simp only [asI_int]
  refine T_xif_t rfl (trims_Ask_zero ?_)
  simp only [asI_int]
  refine T_xif_t rfl (trims_Paid_nil ?_)
  simp only [asI_int]
  refine T_xif_t rfl (trims_Paid_zero ?_)
  simp only [asI_int]
  refine T_xif_t rfl (trims_Want_nil ?_)
  simp only [asI_int]
  refine trims_Want_zero ?_
  simp only [asI_int]
  refine trims_Total_nil ?_
  simp only [asI_int]
  refine trims_Total_zero ?_
  simp only [asI_int]
  refine T_xif_t (by decide) (trims_All_nil ?_)
  simp only [asS_slice]
  refine trims_All_zero ?_
  simp only [asS_slice]
  exact T_xif_t (by decide) (hworks _ (T_drop (T_drop (T_drop hk))))

end
end Go.Proofs.Ytpnlldmmfbpmgaa
