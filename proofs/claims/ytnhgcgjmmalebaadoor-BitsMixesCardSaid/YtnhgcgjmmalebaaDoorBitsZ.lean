/- A set that New did not give: of none; no condition. -/
import Derived.Test.YtnhgcgjmmalebaaDoorBitsLaw
set_option linter.unusedVariables false
set_option linter.unusedSimpArgs false
namespace Go.Proofs.YtnhgcgjmmalebaaDoor
open Go.XS

def bsZ (oc : List Value) : Array Value := (.slice none 0 0 :: .int .i64 0 :: oc).toArray
def fZ (f : Nat → Nat) : Array Value := bsZ (.int .u32 0 :: .int .i32 1 :: .int .u32 0 :: onesF f)
theorem zc_set : zc P 73 = bsZ (onceC false) := by kernel_rfl

section
variable {B : Heap} {H : List HProp} {K : Value → HP} {b : Nat} {dn : Bool}

theorem fZ_get {f : Nat → Nat} {i : Nat} (h : i < 256) : (fZ f)[0 + 5 + i]? = some (.int .u8 (f i : Int)) := by
  unfold fZ bsZ
  rw [List.getElem?_toArray, show 0 + 5 + i = i + 1 + 1 + 1 + 1 + 1 by omega]
  simp only [List.getElem?_cons_succ]
  exact onesF_get h
theorem fZ_set {f : Nat → Nat} {i v : Nat} (h : i < 256) : (fZ f).setIfInBounds (0 + 5 + i) (.int .u8 (v : Int)) = fZ fun j => if j = i then v else f j := by
  unfold fZ bsZ
  rw [List.setIfInBounds_toArray, show 0 + 5 + i = i + 1 + 1 + 1 + 1 + 1 by omega]
  simp only [List.set_cons_succ]
  rw [onesF_set h]
theorem fZ_size {f : Nat → Nat} : (fZ f).size = 261 := by
  unfold fZ bsZ
  rw [List.size_toArray]
  simp only [List.length_cons, onesF_len]

set_option maxRecDepth 100000 in
theorem bits_fillZ (hk : T B (cl b (fZ (pops 8)) :: H) (K (.tuple #[]))) : T B (cl b (fZ fun _ => 0) :: H) (callP P f_bits_Set_fill #[.pointer (some ⟨b, 0, none⟩)] K) := by
  refine T_of (call_bits_Set_fill _) ?_
  unfold F_bits_Set_fill
  simp only [adr_some, add_mk]
  refine T_loop (fun vs H' => ∃ i : Nat, i ≤ 256 ∧ vs = [.int .i64 (i : Int)] ∧ cl b (fZ fun j => if j < i then pops 8 j else 0) :: H = H')
    (fun vs => match vs with | [.int _ i] => 256 - i.toNat | _ => 0) ⟨0, Nat.zero_le _, rfl, rfl⟩ ?_
  rintro vs H' R ⟨i, hi, rfl, rfl⟩ hR
  simp only [T_all, T_imp]
  intro n23 heq
  simp only [List.cons.injEq, Value.int.injEq, true_and, and_true] at heq
  subst heq
  refine T_xif (fun hc => ?_) fun hc => ?_
  rotate_left
  · have : i = 256 := by simp at hc; omega
    subst this
    have e : (fZ fun j => if j < 256 then pops 8 j else 0) = fZ (pops 8) := by
      unfold fZ
      rw [onesF_congr (g := pops 8) fun j hj => if_pos hj]
    rw [e]
    exact hk
  have hlt : i < 256 := by simp at hc; omega
  refine T_loop (fun vs H' => ∃ c t : Nat, c ≤ 255 ∧ vs = [.int .i64 (c : Int)] ∧ t + pops 8 c = pops 8 i ∧ cl b (fZ fun j => if j = i then t else if j < i then pops 8 j else 0) :: H = H')
    (fun vs => match vs with | [.int _ i] => i.toNat | _ => 0) ⟨i, 0, by omega, rfl, by omega, ?_⟩ ?_
  · congr 2
    unfold fZ
    rw [onesF_congr fun j hj => ?_]
    by_cases h : j = i
    · rw [if_pos h, if_neg (by omega)]
    · rw [if_neg h]
  rintro vs H' R2 ⟨c, t, hc255, rfl, ht, rfl⟩ hR2
  simp only [T_all, T_imp]
  intro n27 heq
  simp only [List.cons.injEq, Value.int.injEq, true_and, and_true] at heq
  subst heq
  have hp8 := pops_le 8 i
  refine T_xif (fun hc => ?_) fun hc => ?_
  · have hc0 : c ≠ 0 := by simp at hc; omega
    obtain ⟨h1, h2⟩ := clear_low ⟨c, by omega⟩ hc0
    simp only at h1 h2
    have hw : IntKind.wrap .i64 ((c : Int) - 1) = ((c - 1 : Nat) : Int) := by rw [wrap_i64 (by omega) (by omega)]; omega
    simp only [Int.toNat_natCast, hw]
    refine T_req ⟨by omega, by omega⟩ (T_ldI (fZ_get hlt) (T_req ⟨by omega, by omega⟩ ?_))
    rw [if_pos rfl]
    have hwu : IntKind.wrap .u8 ((t : Int) + 1) = ((t + 1 : Nat) : Int) := by
      have := wrap_u8 (x := t + 1) (by omega)
      rw [← this]; congr 1
    rw [hwu, ibits_small (by omega)]
    refine T_st (by rw [fZ_size]; omega) rfl ?_
    rw [fZ_set hlt]
    refine hR2 _ _ ⟨nbits .and c (c - 1), t + 1, by omega, rfl, by omega, ?_⟩ (by simp only [Int.toNat_natCast]; omega)
    congr 3
    funext j
    by_cases h : j = i
    · rw [if_pos h, if_pos h]
    · rw [if_neg h, if_neg h, if_neg h]
  · have hc0 : c = 0 := by simp at hc; omega
    subst hc0
    have hp0 : pops 8 0 = 0 := by decide
    rw [wrap_succ (i := i) (by omega)]
    refine hR _ _ ⟨i + 1, by omega, rfl, ?_⟩ (by simp only [Int.toNat_natCast]; omega)
    congr 3
    funext j
    by_cases h : j = i
    · subst h
      rw [if_pos rfl, if_pos (by omega)]
      omega
    · rw [if_neg h]
      by_cases h2 : j < i
      · rw [if_pos h2, if_pos (by omega)]
      · rw [if_neg h2, if_neg (by omega)]


set_option maxRecDepth 100000 in
theorem zero_Count (hk : T B (cl b (bsZ (onceC true)) :: H) (K (.int .i64 0))) : T B (cl b (bsZ (onceC false)) :: H) (callP P f_bits_Set_Count #[.pointer (some ⟨b, 0, none⟩)] K) := by
  refine T_of (call_bits_Set_Count _) ?_
  unfold F_bits_Set_Count
  simp only [adr_some, add_mk]
  refine T_xif_f rfl ?_
  refine once_Do (α := Unit) (o := 0 + 2) (cs2 := fun _ => fZ (pops 8)) (H2 := fun _ => H) rfl rfl (fun _ => rfl) (fun _ => rfl) (fun Kf hKf => ?_) fun _ => T_and rfl ?_
  · have e : (bsZ (onceC false)).setIfInBounds (0 + 2 + 1) (Value.int IntKind.i32 1) = fZ fun _ => 0 := by
      unfold fZ onceC bsZ
      rw [ones_false]
      rfl
    rw [e]
    exact bits_fillZ (hKf ())
  · have e : ((fZ (pops 8)).setIfInBounds (0 + 2) (Value.int IntKind.u32 1)).setIfInBounds (0 + 2 + 1) (Value.int IntKind.i32 0) = bsZ (onceC true) := by
      unfold fZ onceC bsZ
      rw [ones_true]
      rfl
    rw [e]
    refine T_ldS rfl (T_loop (fun vs H' => vs = [.int .i64 0, .int .i64 0] ∧ cl b (bsZ (onceC true)) :: H = H') (fun _ => 0) ⟨rfl, rfl⟩ ?_)
    rintro vs H' R ⟨rfl, rfl⟩ hR
    simp only [T_all, T_imp]
    intro n30 n31 heq
    simp only [List.cons.injEq, Value.int.injEq, true_and, and_true] at heq
    obtain ⟨rfl, rfl⟩ := heq
    exact T_xif_f (by decide) hk

theorem zero_Size (hk : T B (cl b (bsZ (onceC dn)) :: H) (K (.int .i64 0))) : T B (cl b (bsZ (onceC dn)) :: H) (callP P f_bits_Set_Size #[.pointer (some ⟨b, 0, none⟩)] K) := by
  refine T_of (call_bits_Set_Size _) ?_
  unfold F_bits_Set_Size
  simp only [adr_some, add_mk]
  exact T_xif_f rfl (T_ldI rfl hk)

theorem zero_Next {x : Int} (hx : x ≤ 0) (hlo : -2 ≤ x) (hk : T B (cl b (bsZ (onceC dn)) :: H) (K (.int .i64 (-1)))) : T B (cl b (bsZ (onceC dn)) :: H) (callP P f_bits_Set_Next #[.pointer (some ⟨b, 0, none⟩), .int .i64 x] K) := by
  refine T_of (call_bits_Set_Next _ _) ?_
  unfold F_bits_Set_Next
  simp only [adr_some, add_mk]
  refine T_join (fun vs H' => vs = [] ∧ cl b (bsZ (onceC dn)) :: H = H' ∧ x < 0) ?_ fun R hR => T_xif_f rfl (T_ldI (n := 0) rfl (T_xif (fun _ => hk) fun h => hR _ _ ⟨rfl, rfl, by simpa using h⟩))
  rintro vs H' ⟨rfl, rfl, h0⟩
  simp only [T_imp]
  intro _
  have e : (if 0 > IntKind.wrap .i64 (x + 1) then 0 else IntKind.wrap .i64 (x + 1)) = 0 := by
    rw [wrap_i64 (by omega) (by omega)]
    split <;> omega
  simp only [e]
  refine T_req (by decide) (T_loop (fun vs H' => vs = [.int .i64 0] ∧ cl b (bsZ (onceC dn)) :: H = H') (fun _ => 0) ⟨rfl, rfl⟩ ?_)
  rintro vs H' R ⟨rfl, rfl⟩ hR
  simp only [T_all, T_imp]
  intro n25 heq
  simp only [List.cons.injEq, Value.int.injEq, true_and, and_true] at heq
  subst heq
  exact T_ldS (p := none) (l := 0) (c := 0) rfl (T_xif_f (by decide) hk)

theorem zero_First (hk : T B (cl b (bsZ (onceC dn)) :: H) (K (.int .i64 (-1)))) : T B (cl b (bsZ (onceC dn)) :: H) (callP P f_bits_Set_First #[.pointer (some ⟨b, 0, none⟩)] K) := by
  refine T_of (call_bits_Set_First _) ?_
  unfold F_bits_Set_First
  refine zero_Next (by decide) (by decide) ?_
  simp only [asI_int]
  exact hk

theorem zero_List (hk : T B (cl b (bsZ (onceC dn)) :: H) (K (.slice none 0 0))) : T B (cl b (bsZ (onceC dn)) :: H) (callP P f_bits_Set_List #[.pointer (some ⟨b, 0, none⟩)] K) := by
  refine T_of (call_bits_Set_List _) ?_
  unfold F_bits_Set_List
  refine zero_First ?_
  simp only [asI_int]
  refine T_loop (fun vs H' => vs = [.slice none 0 0, .int .i64 (-1)] ∧ cl b (bsZ (onceC dn)) :: H = H') (fun _ => 0) ⟨rfl, rfl⟩ ?_
  rintro vs H' R ⟨rfl, rfl⟩ hR
  simp only [T_all, T_imp]
  intro p k c n heq
  simp only [List.cons.injEq, Value.int.injEq, Value.slice.injEq, true_and, and_true] at heq
  obtain ⟨⟨rfl, rfl, rfl⟩, rfl⟩ := heq
  exact T_xif_f (by decide) hk

theorem zero_within (hk : T B (cl b (bsZ (onceC dn)) :: H) (K (.bool false))) : T B (cl b (bsZ (onceC dn)) :: H) (callP P f_bits_Set_within #[.pointer (some ⟨b, 0, none⟩), .int .i64 0] K) := by
  refine T_of (call_bits_Set_within _ _) ?_
  unfold F_bits_Set_within
  simp only [adr_some, add_mk]
  exact T_xif_t rfl (T_xif_t (by decide) (T_ldI (n := 0) rfl hk))
theorem zero_Has (hk : T B (cl b (bsZ (onceC dn)) :: H) (K (.bool false))) : T B (cl b (bsZ (onceC dn)) :: H) (callP P f_bits_Set_Has #[.pointer (some ⟨b, 0, none⟩), .int .i64 0] K) := by
  refine T_of (call_bits_Set_Has _ _) ?_
  unfold F_bits_Set_Has
  refine zero_within ?_
  simp only [asB_bool]
  exact T_xif_f rfl hk
theorem zero_Put (hk : T B (cl b (bsZ (onceC dn)) :: H) (K (.bool false))) : T B (cl b (bsZ (onceC dn)) :: H) (callP P f_bits_Set_Put #[.pointer (some ⟨b, 0, none⟩), .int .i64 0] K) := by
  refine T_of (call_bits_Set_Put _ _) ?_
  unfold F_bits_Set_Put
  refine T_join (fun _ _ => False) (fun _ _ h => h.elim) fun R _ => zero_within ?_
  simp only [asB_bool]
  exact T_xif_t rfl hk
theorem zero_Drop (hk : T B (cl b (bsZ (onceC dn)) :: H) (K (.bool false))) : T B (cl b (bsZ (onceC dn)) :: H) (callP P f_bits_Set_Drop #[.pointer (some ⟨b, 0, none⟩), .int .i64 0] K) := by
  refine T_of (call_bits_Set_Drop _ _) ?_
  unfold F_bits_Set_Drop
  refine zero_Has ?_
  simp only [asB_bool]
  exact T_xif_t rfl hk

theorem nil_within {x : Int} (hk : T B H (K (.bool false))) : T B H (callP P f_bits_Set_within #[.pointer none, .int .i64 x] K) := by
  refine T_of (call_bits_Set_within _ _) ?_
  unfold F_bits_Set_within
  exact T_xif_f rfl hk
theorem nil_Has {x : Int} (hk : T B H (K (.bool false))) : T B H (callP P f_bits_Set_Has #[.pointer none, .int .i64 x] K) := by
  refine T_of (call_bits_Set_Has _ _) ?_
  unfold F_bits_Set_Has
  refine nil_within ?_
  simp only [asB_bool]
  exact T_xif_f rfl hk
theorem nil_Put {x : Int} (hk : T B H (K (.bool false))) : T B H (callP P f_bits_Set_Put #[.pointer none, .int .i64 x] K) := by
  refine T_of (call_bits_Set_Put _ _) ?_
  unfold F_bits_Set_Put
  refine T_join (fun _ _ => False) (fun _ _ h => h.elim) fun R _ => nil_within ?_
  simp only [asB_bool]
  exact T_xif_t rfl hk

end
end Go.Proofs.YtnhgcgjmmalebaaDoor
