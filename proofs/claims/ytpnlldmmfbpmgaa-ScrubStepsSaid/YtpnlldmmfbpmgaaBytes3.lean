/- Bytes (layer 10): the reference's answers, the example; no condition. -/
import Derived.Test.YtpnlldmmfbpmgaaBytes2
set_option linter.unusedVariables false
set_option linter.unusedSimpArgs false
namespace Go.Proofs.Ytpnlldmmfbpmgaa
open Go.XS

section
variable {B : Heap} {H : List HProp} {K : Value → HP} {b r : Nat} {d src : List UInt8}

theorem ref10_New {n : Nat} (h : n ≤ 1048576) (hk : T B H (K (.string ⟨(List.replicate n (0 : UInt8)).toArray⟩))) : T B H (callP P f_ref10_New #[.int .i64 (n : Int)] K) := by
  refine T_of (call_ref10_New _) ?_
  unfold F_ref10_New
  refine T_mkSl (by omega) (by omega) (by omega) (by rw [bytes5]; omega) (by kernel_rfl) (by kernel_rfl) fun c => ?_
  rw [cells5, zc5, reps_one, Nat.mul_one, Int.toNat_natCast]
  refine T_convB (e := 5) (l := List.replicate n 0) (by kernel_rfl) (by kernel_rfl) (by kernel_rfl) (RdV.of_cl fun j hj => by simp [bv, Array.getElem?_replicate, List.getElem?_replicate]) rfl (by simp) ?_
  simp only [asT_str]
  exact T_drop hk

theorem ref10_out {a n : Int} (hd : d.length ≤ 1000000000) (hk : T B H (K (.bool (decide (¬ within d.length a n))))) : T B H (callP P f_ref10_out #[.string ⟨d.toArray⟩, .int .i64 a, .int .i64 n] K) := by
  refine T_of (call_ref10_out _ _ _) ?_
  unfold F_ref10_out
  rw [ofL_size]
  refine T_xif (fun h => T_conv hk ?_) fun h3 => T_xif (fun h => T_conv hk ?_) fun h4 => T_xif (fun h => T_conv hk ?_) fun h5 => T_conv hk ?_
  · have h : a < 0 := by simpa using h
    have : ¬ within d.length a n := by unfold within; omega
    simp [this]
  · have h : n < 0 := by simpa using h
    have : ¬ within d.length a n := by unfold within; omega
    simp [this]
  · have h : a > (d.length : Int) := by simpa using h
    have h4 : 0 ≤ n := by simpa using h4
    have : ¬ within d.length a n := by unfold within; omega
    simp [this]
  · have h3 : 0 ≤ a := by simpa using h3
    have h4 : 0 ≤ n := by simpa using h4
    have h5 : a ≤ (d.length : Int) := by simpa using h5
    rw [wrap_i64 (by omega) (by omega)]
    congr 1
    refine decide_eq_decide.2 ?_
    unfold within
    omega

theorem take_drop0 {α : Type} (l : List α) (x : Nat) : (l.take x).drop 0 = l.take x := rfl

theorem ref10_Store {a : Int} (hd : d.length ≤ 100000000) (hs : src.length ≤ 100000000) (hk : T B H (K (.tuple #[.string ⟨(stored d a src).toArray⟩, .int .i64 (errOf d.length a src.length)]))) :
    T B H (callP P f_ref10_Store #[.string ⟨d.toArray⟩, .int .i64 a, .string ⟨src.toArray⟩] K) := by
  refine T_of (call_ref10_Store _ _ _) ?_
  unfold F_ref10_Store
  refine ref10_out (by omega) ?_
  simp only [asB_bool, ofL_size]
  by_cases hw : within d.length a src.length
  rotate_left
  · rw [errOf, if_neg hw, stored, if_neg hw] at hk
    exact T_xif_t (by simp [hw]) hk
  rw [errOf, if_pos hw, stored, if_pos hw] at hk
  obtain ⟨x, y, rfl, hy, hl⟩ := within_nat hw
  have hy : y = src.length := by omega
  subst hy
  have w : IntKind.wrap .i64 ((x : Int) + (src.length : Int)) = ((x + src.length : Nat) : Int) := by rw [wrap_i64 (by omega) (by omega)]; omega
  simp only [w, Int.toNat_natCast, ofL_extract, take_drop0] at hk ⊢
  refine T_xif_f (by simp [hw]) (T_req ⟨by omega, by omega⟩ (T_req ⟨by omega, by omega⟩ (T_addS (a := d.take x) (b := src) (by simp; omega) ?_)))
  simp only [asT_str]
  refine T_addS (a := d.take x ++ src) (b := (d.take d.length).drop (x + src.length)) (by simp; omega) ?_
  simp only [asT_str]
  rw [List.take_length, List.append_assoc]
  exact hk

theorem ref10_Wipe {a n : Int} (hd : d.length ≤ 1048576) (hk : T B H (K (.tuple #[.string ⟨(wiped d a n).toArray⟩, .int .i64 (errOf d.length a n)]))) :
    T B H (callP P f_ref10_Wipe #[.string ⟨d.toArray⟩, .int .i64 a, .int .i64 n] K) := by
  refine T_of (call_ref10_Wipe _ _ _) ?_
  unfold F_ref10_Wipe
  refine ref10_out (by omega) ?_
  simp only [asB_bool, ofL_size]
  by_cases hw : within d.length a n
  rotate_left
  · rw [errOf, if_neg hw, wiped, if_neg hw] at hk
    exact T_xif_t (by simp [hw]) hk
  rw [errOf, if_pos hw, wiped, if_pos hw] at hk
  obtain ⟨x, y, rfl, rfl, hl⟩ := within_nat hw
  have w : IntKind.wrap .i64 ((x : Int) + (y : Int)) = ((x + y : Nat) : Int) := by rw [wrap_i64 (by omega) (by omega)]; omega
  simp only [w, Int.toNat_natCast, ofL_extract, take_drop0] at hk ⊢
  refine T_xif_f (by simp [hw]) (T_req ⟨by omega, by omega⟩ (T_req ⟨by omega, by omega⟩ (ref10_New (by omega) ?_)))
  simp only [asT_str]
  refine T_addS (a := d.take x) (b := List.replicate y 0) (by simp; omega) ?_
  simp only [asT_str]
  refine T_addS (a := d.take x ++ List.replicate y 0) (b := (d.take d.length).drop (x + y)) (by simp; omega) ?_
  simp only [asT_str]
  rw [List.take_length, List.append_assoc]
  simpa [upd] using hk

theorem ref10_Load {a n : Int} (hd : d.length ≤ 100000000) (hk : T B H (K (.tuple #[.string ⟨(loaded d a n).toArray⟩, .int .i64 (errOf d.length a n)]))) :
    T B H (callP P f_ref10_Load #[.string ⟨d.toArray⟩, .int .i64 a, .int .i64 n] K) := by
  refine T_of (call_ref10_Load _ _ _) ?_
  unfold F_ref10_Load
  refine ref10_out (by omega) ?_
  simp only [asB_bool, ofL_size]
  by_cases hw : within d.length a n
  rotate_left
  · rw [errOf, if_neg hw, loaded, if_neg hw] at hk
    exact T_xif_t (by simp [hw]) hk
  rw [errOf, if_pos hw, loaded, if_pos hw] at hk
  obtain ⟨x, y, rfl, rfl, hl⟩ := within_nat hw
  have w : IntKind.wrap .i64 ((x : Int) + (y : Int)) = ((x + y : Nat) : Int) := by rw [wrap_i64 (by omega) (by omega)]; omega
  simp only [w, Int.toNat_natCast, ofL_extract] at hk ⊢
  refine T_xif_f (by simp [hw]) (T_req ⟨by omega, by omega⟩ (T_req ⟨by omega, by omega⟩ ?_))
  have e : (d.take (x + y)).drop x = (d.drop x).take y := by rw [List.drop_take]; congr 1; omega
  rw [e]
  exact hk

theorem strAt_get {i : Nat} {z : UInt8} (h : d[i]? = some z) : strAt ⟨d.toArray⟩ (i : Int) = (z.toNat : Int) := by
  simp [strAt, h]

theorem u8_ne (z : UInt8) : (((z.toNat : Nat) : Int) != 0) = (z != 0) := by
  by_cases h : z = 0
  · subst h; rfl
  · have h1 : z.toNat ≠ 0 := fun h' => h (UInt8.toNat_inj.1 (by simpa using h'))
    have h2 : (z != 0) = true := by simpa using h
    rw [h2]; simp; omega

theorem ref10_Dirty (hd : d.length ≤ 100000000) (hk : T B H (K (.int .i64 (cnt d : Int)))) : T B H (callP P f_ref10_Dirty #[.string ⟨d.toArray⟩] K) := by
  refine T_of (call_ref10_Dirty _) ?_
  unfold F_ref10_Dirty
  simp only [ofL_size]
  refine T_loop (fun vs H' => ∃ j : Nat, j ≤ d.length ∧ vs = [.int .i64 ((cnt (d.take j) : Nat) : Int), .int .i64 (j : Int)] ∧ H = H')
    (fun vs => match vs with | [_, .int _ i] => d.length - i.toNat | _ => 0) ⟨0, Nat.zero_le _, rfl, rfl⟩ ?_
  rintro vs H' R ⟨j, hj, rfl, rfl⟩ hR
  simp only [T_all, T_imp]
  intro n36 n37 heq
  simp only [List.cons.injEq, Value.int.injEq, true_and, and_true] at heq
  obtain ⟨rfl, rfl⟩ := heq
  refine T_xif (fun hc => ?_) (fun hc => ?_)
  · have hlt : j < d.length := by simpa using hc
    obtain ⟨z, hz⟩ : ∃ z, d[j]? = some z := ⟨_, List.getElem?_eq_getElem (by omega)⟩
    have hcl : cnt (d.take j) ≤ j := by have := cnt_le (d.take j); simp at this; omega
    have hstep : cnt (d.take (j + 1)) = cnt (d.take j) + if z != 0 then 1 else 0 := by
      rw [take_succ_of hz, cnt_append]
      simp [cnt, List.countP_cons]
    refine T_req ⟨by omega, by omega⟩ ?_
    rw [strAt_get hz, u8_ne, wrap_succ (i := j) (by omega), wrap_succ (i := cnt (d.take j)) (by omega)]
    refine T_xif (fun h => hR _ _ ⟨j + 1, by omega, ?_, rfl⟩ (by simp only [Int.toNat_natCast]; omega)) fun h => hR _ _ ⟨j + 1, by omega, ?_, rfl⟩ (by simp only [Int.toNat_natCast]; omega)
    · rw [hstep, h]; simp
    · rw [hstep, h]; simp
  · have : j = d.length := by simp at hc; omega
    subst this
    rw [List.take_of_length_le (Nat.le_refl _)] at *
    exact hk

theorem bytes_works (hk : T B H (K (.bool true))) : T B H (callP P f_law10_works #[] K) := by
  refine T_of call_law10_works ?_
  unfold F_law10_works
  refine bytes_New (n := 128) (by omega) (by omega) fun b => ?_
  simp only [asP_ptr]
  refine bytes_Store (src := [97, 98, 99, 100]) ?_
  rw [show errOf (List.replicate 128 (0 : UInt8)).length 62 ([97, 98, 99, 100] : List UInt8).length = 0 by rw [List.length_replicate]; decide]
  generalize hd : stored (List.replicate 128 (0 : UInt8)) 62 [97, 98, 99, 100] = d
  have hl : d.length = 128 := by rw [← hd, stored_len]; simp
  simp only [asI_int]
  refine bytes_Load (T_ex _ (T_ex _ (T_and rfl ?_)))
  have e1 : loaded d 61 6 = [0, 97, 98, 99, 100, 0] := by rw [← hd]; kernel_rfl
  have e2 : cnt d = 4 := by rw [← hd]; kernel_rfl
  rw [e1, hl, show errOf 128 61 6 = 0 by decide]
  refine T_xif_t (by decide) (T_xif_t (beq_self_eq_true _) (T_xif_t (by decide) (bytes_Dirty ?_)))
  simp only [asI_int]
  refine T_xif_t (by rw [e2]; decide) (bytes_Clean ?_)
  simp only [asB_bool]
  refine T_xif_t (by rw [e2]; decide) (bytes_Store (src := [97, 98, 99, 100]) ?_)
  rw [hl, show errOf 128 125 ([97, 98, 99, 100] : List UInt8).length = 15 by decide]
  simp only [asI_int]
  refine T_xif_t (by decide) (bytes_Size ?_)
  simp only [asI_int]
  rw [stored_len, hl]
  exact T_drop hk

end
end Go.Proofs.Ytpnlldmmfbpmgaa
