/- The laws of bytes (layer 10): halves, back; no condition but the forms of the arguments. -/
import Derived.Test.YtpnlldmmfbpmgaaBytes3
set_option linter.unusedVariables false
set_option linter.unusedSimpArgs false
namespace Go.Proofs.Ytpnlldmmfbpmgaa
open Go.XS

section
variable {B : Heap} {H : List HProp} {K : Value → HP} {b r : Nat} {d src : List UInt8}

theorem upd_upd {xs ys : List UInt8} {a : Nat} (h : a + (xs.length + ys.length) ≤ d.length) : upd (upd d a xs) (a + xs.length) ys = upd d a (xs ++ ys) := by
  have h1 : a + xs.length ≤ d.length := by omega
  apply List.ext_getElem?
  intro p
  rw [upd_get (by rw [upd_len h1]; omega), upd_get h1, upd_get (by simp; omega)]
  simp only [List.length_append]
  by_cases h2 : a + xs.length ≤ p ∧ p < a + xs.length + ys.length
  · rw [if_pos h2, if_pos (by omega), List.getElem?_append_right (by omega)]
    congr 1; omega
  · rw [if_neg h2]
    by_cases h3 : a ≤ p ∧ p < a + xs.length
    · rw [if_pos h3, if_pos (by omega), List.getElem?_append_left (by omega)]
    · rw [if_neg h3, if_neg (by omega)]

theorem loaded_all : loaded d 0 (d.length : Int) = d := by
  rw [loaded, if_pos (by unfold within; omega)]
  simp

theorem stored_in {a : Nat} (h : a + src.length ≤ d.length) : stored d (a : Int) src = upd d a src := by
  rw [stored, if_pos (by unfold within; omega)]; simp
theorem err_in {len : Nat} {a n : Nat} (h : a + n ≤ len) : errOf len (a : Int) (n : Int) = 0 := by
  rw [errOf, if_pos (by unfold within; omega)]

theorem law_BytesHalves {at' : Int} {s : List UInt8} {kk : Int} (ha0 : 0 ≤ at') (ha1 : at' ≤ 255) (hk0 : 0 ≤ kk) (hk1 : kk ≤ 255) (hk : T B H (K (.bool true))) :
    T B H (callP P f_law10_BytesHalves #[.int .u8 at', .string ⟨s.toArray⟩, .int .u8 kk] K) := by
  refine T_of (call_law10_BytesHalves _ _ _) ?_
  unfold F_law10_BytesHalves
  have hworks : ∀ H', T B H' (K (.bool true)) → T B H' (callP P f_law10_works #[] fun v => asB v fun b => K (.bool b)) := fun H' h => bytes_works (by simpa only [asB_bool] using h)
  rw [ofL_size]
  refine T_xif (fun _ => hworks _ hk) fun hl => ?_
  have hl : s.length ≤ 200 := by simp at hl; omega
  obtain ⟨x, rfl⟩ : ∃ x : Nat, at' = (x : Int) := ⟨at'.toNat, by omega⟩
  obtain ⟨y, rfl⟩ : ∃ y : Nat, kk = (y : Int) := ⟨kk.toNat, by omega⟩
  have w1 : IntKind.wrap .i64 (x : Int) = (x : Int) := wrap_i64 (by omega) (by omega)
  have w2 : IntKind.wrap .i64 (y : Int) = (y : Int) := wrap_i64 (by omega) (by omega)
  let n : Nat := if s.length < y then s.length else y
  have w3 : (if (s.length : Int) < (y : Int) then (s.length : Int) else (y : Int)) = (n : Int) := by simp only [n]; split <;> split <;> omega
  have hn : n ≤ s.length := by simp only [n]; split <;> omega
  have w4 : IntKind.wrap .i64 ((x : Int) + (n : Int)) = ((x + n : Nat) : Int) := by rw [wrap_i64 (by omega) (by omega)]; omega
  simp only [w1, w2, w3, w4, Int.toNat_natCast, ofL_extract]
  refine bytes_New (n := 512) (by omega) (by omega) fun b1 => ?_
  simp only [asP_ptr]
  refine bytes_New (n := 512) (by omega) (by omega) fun b2 => ?_
  simp only [asP_ptr]
  have hz : (List.replicate 512 (0 : UInt8)).length = 512 := List.length_replicate
  generalize hdz : List.replicate 512 (0 : UInt8) = dz at *
  have hlt : (s.take n).length = n := by simp; omega
  have hld : ((s.take s.length).drop n).length = s.length - n := by simp
  refine T_req ⟨by omega, by omega⟩ (T_req ⟨by omega, by omega⟩ (T_perm (List.Perm.swap _ _ _) (bytes_Store (src := s.take n) ?_)))
  rw [hlt, hz, err_in (by omega), stored_in (by omega)]
  simp only [asI_int]
  refine bytes_Store (src := (s.take s.length).drop n) ?_
  have hl1 : (upd dz x (s.take n)).length = 512 := by rw [upd_len (by omega), hz]
  have e2 : upd (upd dz x (s.take n)) (x + n) ((s.take s.length).drop n) = upd dz x s := by
    have := upd_upd (d := dz) (xs := s.take n) (ys := (s.take s.length).drop n) (a := x) (by omega)
    rw [hlt] at this
    rw [this, List.take_length, List.take_append_drop]
  rw [hld, hl1, err_in (by omega), stored_in (by omega), e2]
  simp only [asI_int]
  refine T_perm (List.Perm.swap _ _ _) (bytes_Store (src := s) ?_)
  rw [hz, err_in (by omega), stored_in (by omega)]
  have hl3 : (upd dz x s).length = 512 := by rw [upd_len (by omega), hz]
  generalize upd dz x s = d at *
  have hload : loaded d 0 512 = d := by have := loaded_all (d := d); rwa [hl3] at this
  simp only [asI_int]
  refine T_perm (List.Perm.swap _ _ _) (bytes_Load (T_ex _ (T_ex _ (T_and rfl (T_perm (List.Perm.swap _ _ _) (bytes_Load (T_ex _ (T_ex _ (T_and rfl ?_)))))))))
  rw [hload]
  refine T_xif_t (by decide) (T_xif_t (by decide) (T_xif_t (by decide) (T_xif_t (beq_self_eq_true _) (T_xif_t (by rw [ofL_size, hl3]; decide) ?_))))
  refine T_perm (List.Perm.swap _ _ _) (bytes_Dirty ?_)
  simp only [asI_int]
  refine T_perm (List.Perm.swap _ _ _) (bytes_Dirty ?_)
  simp only [asI_int]
  exact T_xif_t (by simp) (hworks _ (T_drop (T_drop hk)))

/-- All bytes of a row are x. -/
theorem fill_step {d : List UInt8} {i : Nat} {x : UInt8} (hi : i < d.length) (hd : d.take i = List.replicate i x) : (upd d i [x]).take (i + 1) = List.replicate (i + 1) x := by
  unfold upd
  rw [List.take_append, List.length_take, List.take_of_length_le (by simp; omega), hd, List.replicate_succ', show i + 1 - min i d.length = 1 by omega]
  rfl

theorem loaded_back {a : Nat} (h : a + src.length ≤ d.length) : loaded (upd d a src) (a : Int) (src.length : Int) = src := by
  rw [loaded, if_pos (by unfold within; rw [upd_len h]; omega)]
  simp only [Int.toNat_natCast]
  apply List.ext_getElem?
  intro j
  rw [List.getElem?_take]
  by_cases hj : j < src.length
  · rw [if_pos hj, List.getElem?_drop, upd_get h, if_pos (by omega)]
    congr 1; omega
  · rw [if_neg hj, List.getElem?_eq_none (by omega)]

theorem loaded_one {p : Nat} {x : UInt8} (h : d[p]? = some x) : loaded d (p : Int) 1 = [x] := by
  have hp : p < d.length := (List.getElem?_eq_some_iff.1 h).1
  rw [loaded, if_pos (by unfold within; omega)]
  simp only [Int.toNat_natCast]
  rw [List.drop_eq_getElem_cons hp]
  have : d[p] = x := (List.getElem?_eq_some_iff.1 h).2
  simp [this]

theorem wiped_all : cnt (wiped d 0 (d.length : Int)) = 0 := by
  rw [wiped, if_pos (by unfold within; omega)]
  have : upd d (0 : Int).toNat (List.replicate (d.length : Int).toNat 0) = List.replicate d.length 0 := by
    simp [upd]
  rw [this, cnt_zeros]

theorem law_BytesBack {at' : Int} {s : List UInt8} {o : Int} (ha0 : 0 ≤ at') (ha1 : at' ≤ 255) (hk0 : 0 ≤ o) (hk1 : o ≤ 255) (hk : T B H (K (.bool true))) :
    T B H (callP P f_law10_BytesBack #[.int .u8 at', .string ⟨s.toArray⟩, .int .u8 o] K) := by
  refine T_of (call_law10_BytesBack _ _ _) ?_
  unfold F_law10_BytesBack
  have hworks : ∀ H', T B H' (K (.bool true)) → T B H' (callP P f_law10_works #[] fun v => asB v fun b => K (.bool b)) := fun H' h => bytes_works (by simpa only [asB_bool] using h)
  rw [ofL_size]
  refine T_xif (fun _ => hworks _ hk) fun hl => ?_
  have hl : s.length ≤ 255 := by simp at hl; omega
  obtain ⟨x, rfl⟩ : ∃ x : Nat, at' = (x : Int) := ⟨at'.toNat, by omega⟩
  obtain ⟨y, rfl⟩ : ∃ y : Nat, o = (y : Int) := ⟨o.toNat, by omega⟩
  have w1 : IntKind.wrap .i64 (x : Int) = (x : Int) := wrap_i64 (by omega) (by omega)
  have w2 : IntKind.wrap .i64 (y : Int) = (y : Int) := wrap_i64 (by omega) (by omega)
  have w3 : IntKind.wrap .i64 (2 * (y : Int)) = ((2 * y : Nat) : Int) := by rw [wrap_i64 (by omega) (by omega)]; omega
  have w4 : IntKind.wrap .i64 (((2 * y : Nat) : Int) - (x : Int)) = ((2 * y : Nat) : Int) - (x : Int) := wrap_i64 (by omega) (by omega)
  simp only [w1, w2, w3, w4]
  refine bytes_New (n := 512) (by omega) (by omega) fun b => ?_
  simp only [asP_ptr]
  refine T_xif_f rfl (T_loop (fun vs H' => ∃ (i : Nat) (d : List UInt8), i ≤ 512 ∧ vs = [.int .i64 (i : Int)] ∧ d.length = 512 ∧ d.take i = List.replicate i 120 ∧ byt b d :: H = H')
    (fun vs => match vs with | [.int _ i] => 512 - i.toNat | _ => 0) ⟨0, _, Nat.zero_le _, rfl, List.length_replicate, rfl, rfl⟩ ?_)
  rintro vs H' R ⟨i, d, hi, rfl, hdl, hdi, rfl⟩ hR
  simp only [T_all, T_imp]
  intro n27 heq
  simp only [List.cons.injEq, Value.int.injEq, true_and, and_true] at heq
  subst heq
  refine T_xif (fun hc => ?_) (fun hc => ?_)
  · have hlt : i < 512 := by simp at hc; omega
    refine bytes_Store (src := [120]) ?_
    have h1 : i + ([120] : List UInt8).length ≤ d.length := by simp; omega
    have h2 := err_in (len := d.length) (a := i) (n := ([120] : List UInt8).length) h1
    rw [h2, stored_in h1]
    simp only [asI_int]
    rw [wrap_succ (i := i) (by omega)]
    exact T_xif_f (by decide) (hR _ _ ⟨i + 1, _, by omega, rfl, by rw [upd_len h1, hdl], fill_step (by omega) hdi, rfl⟩ (by simp only [Int.toNat_natCast]; omega))
  have : i = 512 := by simp at hc; omega
  subst this
  have hd : d = List.replicate 512 120 := by rw [← hdi, List.take_of_length_le (by omega)]
  clear hR hdi
  have hin : x + s.length ≤ d.length := by omega
  refine bytes_Store (src := s) ?_
  rw [err_in hin, stored_in hin]
  have hl2 : (upd d x s).length = 512 := by rw [upd_len hin, hdl]
  simp only [asI_int]
  refine bytes_Load (T_ex _ (T_ex _ (T_and rfl ?_)))
  rw [loaded_back hin, err_in (by rw [hl2]; omega)]
  refine bytes_Load (T_ex _ (T_ex _ (T_and rfl ?_)))
  have h1e : errOf (upd d x s).length ((2 * y : Nat) : Int) 1 = 0 := err_in (n := 1) (by rw [hl2]; omega)
  rw [h1e]
  refine T_join (fun vs H' => vs = [] ∧ byt b (upd d x s) :: H = H') ?_ fun R hR => ?_
  rotate_left
  · refine T_xif_f (by decide) (T_xif_f (by decide) (T_xif_f (by decide) (T_xif_f (by simp) ?_)))
    have hout : (2 * y < x ∨ x + s.length ≤ 2 * y) → T B (byt b (upd d x s) :: H) (xif (!ByteArray.toList ⟨(loaded (upd d x s) ((2 * y : Nat) : Int) 1).toArray⟩ == ByteArray.toList (ByteArray.mk #[120])) (K (.bool false)) (R [])) := by
      intro ho
      have hg : (upd d x s)[2 * y]? = some 120 := by
        rw [upd_get hin, if_neg (by omega), hd, List.getElem?_replicate, if_pos (by omega)]
      rw [loaded_one hg]
      exact T_xif_f (by rw [Bool.not_eq_false']; exact beq_self_eq_true _) (hR _ _ ⟨rfl, rfl⟩)
    refine T_xif (fun h => hout (.inl ?_)) fun h => T_xif (fun h2 => hout (.inr ?_)) fun h2 => hR _ _ ⟨rfl, rfl⟩
    · simp at h; omega
    · simp at h2; omega
  rintro vs H' ⟨rfl, rfl⟩
  simp only [T_imp]
  intro _
  refine bytes_Wipe ?_
  have h512 : ((upd d x s).length : Int) = 512 := by rw [hl2]; rfl
  have he : errOf (upd d x s).length 0 512 = 0 := by rw [hl2]; decide
  rw [he]
  have hc0 := wiped_all (d := upd d x s)
  rw [h512] at hc0
  simp only [asI_int]
  refine T_al fun z => bytes_Load_nil (T_ex _ (T_ex _ (T_and rfl (T_xif_t (by decide) (T_perm (List.Perm.swap _ _ _) (bytes_Clean ?_))))))
  rw [hc0]
  simp only [asB_bool]
  refine T_xif_t (by decide) (T_xif_t (by decide) (T_perm (List.Perm.swap _ _ _) (bytes_Store_zero (src := []) ?_)))
  simp only [asI_int]
  refine T_xif_t (by decide) (bytes_Wipe_zero ?_)
  simp only [asI_int]
  refine T_xif_t (by decide) (bytes_Clean_nil ?_)
  simp only [asB_bool]
  refine T_xif_t rfl (bytes_Clean_zero ?_)
  simp only [asB_bool]
  refine T_xif_t rfl (bytes_Dirty_nil ?_)
  simp only [asI_int]
  refine bytes_Dirty_zero ?_
  simp only [asI_int]
  refine bytes_Size_nil ?_
  simp only [asI_int]
  refine bytes_Size_zero ?_
  simp only [asI_int]
  exact T_xif_t (by decide) (hworks _ (T_drop (T_drop hk)))

end
end Go.Proofs.Ytpnlldmmfbpmgaa
