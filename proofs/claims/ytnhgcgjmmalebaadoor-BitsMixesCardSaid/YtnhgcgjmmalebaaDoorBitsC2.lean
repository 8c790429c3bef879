/- A set of bits (layer 2): the table of bytes is filled, how many are in it; over the heap; no condition. -/
import Derived.Test.YtnhgcgjmmalebaaDoorBitsC
set_option linter.unusedVariables false
set_option linter.unusedSimpArgs false
namespace Go.Proofs.YtnhgcgjmmalebaaDoor
open Go.XS

theorem ibits_small {w v : Nat} (h : nbits .and w v ≤ 255) : ibits .and .i64 (w : Int) (v : Int) = (nbits .and w v : Int) := by
  have h1 : ∀ x : Nat, BitVec.ofInt IntKind.i64.bits (x : Int) = BitVec.ofNat 64 x := fun x => BitVec.ofInt_natCast 64 x
  unfold ibits
  rw [h1, h1]
  show IntKind.i64.wrap ((nbits .and w v : Nat) : Int) = _
  exact wrap_i64 (by omega) (by omega)

def onesF (f : Nat → Nat) : List Value := (List.range 256).map fun b : Nat => .int .u8 (f b : Int)
theorem onesF_len (f : Nat → Nat) : (onesF f).length = 256 := by unfold onesF; rw [List.length_map, List.length_range]
theorem onesF_get {f : Nat → Nat} {i : Nat} (h : i < 256) : (onesF f)[i]? = some (.int .u8 (f i : Int)) := by
  unfold onesF
  rw [List.getElem?_map, List.getElem?_range h]; rfl
theorem onesF_set {f : Nat → Nat} {i v : Nat} (h : i < 256) : (onesF f).set i (.int .u8 (v : Int)) = onesF fun j => if j = i then v else f j := by
  apply List.ext_getElem?
  intro j
  rw [List.getElem?_set]
  by_cases hj : j < 256
  · by_cases e : i = j
    · subst e
      rw [if_pos rfl, if_pos (by rw [onesF_len]; exact h), onesF_get hj, if_pos rfl]
    · rw [if_neg e, onesF_get hj, onesF_get hj, if_neg (fun h => e h.symm)]
  · have h1 : (onesF fun j => if j = i then v else f j)[j]? = none := List.getElem?_eq_none (by rw [onesF_len]; omega)
    rw [h1, if_neg (by omega)]
    exact List.getElem?_eq_none (by rw [onesF_len]; omega)
theorem onesF_congr {f g : Nat → Nat} (h : ∀ i, i < 256 → f i = g i) : onesF f = onesF g := by
  unfold onesF
  apply List.map_congr_left
  intro i hi
  rw [h i (List.mem_range.1 hi)]
theorem ones_true : ones true = onesF (pops 8) := rfl
theorem ones_false : ones false = onesF fun _ => 0 := by
  unfold ones onesF
  rw [if_neg (by decide)]
  apply List.ext_getElem?
  intro i
  by_cases hi : i < 256
  · rw [List.getElem?_map, List.getElem?_range hi, List.getElem?_replicate, if_pos hi]; rfl
  · rw [List.getElem?_eq_none (by rw [List.length_replicate]; omega), List.getElem?_eq_none (by rw [List.length_map, List.length_range]; omega)]

def fS (rw nw n : Nat) (f : Nat → Nat) : Array Value := bsS rw nw n (.int .u32 0 :: .int .i32 1 :: .int .u32 0 :: onesF f)

section
variable {B : Heap} {H : List HProp} {K : Value → HP} {b n rw nw : Nat} {m : Nat → Bool} {ws : List Nat} {dn : Bool}

theorem fS_get {f : Nat → Nat} {i : Nat} (h : i < 256) : (fS rw nw n f)[0 + 5 + i]? = some (.int .u8 (f i : Int)) := by
  unfold fS bsS
  rw [List.getElem?_toArray, show 0 + 5 + i = i + 1 + 1 + 1 + 1 + 1 by omega]
  simp only [List.getElem?_cons_succ]
  exact onesF_get h
theorem fS_set {f : Nat → Nat} {i v : Nat} (h : i < 256) : (fS rw nw n f).setIfInBounds (0 + 5 + i) (.int .u8 (v : Int)) = fS rw nw n fun j => if j = i then v else f j := by
  unfold fS bsS
  rw [List.setIfInBounds_toArray, show 0 + 5 + i = i + 1 + 1 + 1 + 1 + 1 by omega]
  simp only [List.set_cons_succ]
  rw [onesF_set h]
theorem fS_size {f : Nat → Nat} : (fS rw nw n f).size = 261 := by
  unfold fS bsS
  rw [List.size_toArray]
  simp only [List.length_cons, onesF_len]

theorem wrap_u8 {x : Nat} (h : x ≤ 255) : IntKind.wrap .u8 (x : Int) = (x : Int) := IntWalk.u8_in _ (by omega)

set_option maxRecDepth 100000 in
theorem bits_fill (hk : T B (cl b (fS rw nw n (pops 8)) :: H) (K (.tuple #[]))) : T B (cl b (fS rw nw n fun _ => 0) :: H) (callP P f_bits_Set_fill #[.pointer (some ⟨b, 0, none⟩)] K) := by
  refine T_of (call_bits_Set_fill _) ?_
  unfold F_bits_Set_fill
  simp only [adr_some, add_mk]
  refine T_loop (fun vs H' => ∃ i : Nat, i ≤ 256 ∧ vs = [.int .i64 (i : Int)] ∧ cl b (fS rw nw n fun j => if j < i then pops 8 j else 0) :: H = H')
    (fun vs => match vs with | [.int _ i] => 256 - i.toNat | _ => 0) ⟨0, Nat.zero_le _, rfl, rfl⟩ ?_
  rintro vs H' R ⟨i, hi, rfl, rfl⟩ hR
  simp only [T_all, T_imp]
  intro n23 heq
  simp only [List.cons.injEq, Value.int.injEq, true_and, and_true] at heq
  subst heq
  refine T_xif (fun hc => ?_) fun hc => ?_
  rotate_left
  · have : i = 256 := by simp at hc; omega
    subst this
    have e : (fS rw nw n fun j => if j < 256 then pops 8 j else 0) = fS rw nw n (pops 8) := by
      unfold fS
      rw [onesF_congr (g := pops 8) fun j hj => if_pos hj]
    rw [e]
    exact hk
  have hlt : i < 256 := by simp at hc; omega
  refine T_loop (fun vs H' => ∃ c t : Nat, c ≤ 255 ∧ vs = [.int .i64 (c : Int)] ∧ t + pops 8 c = pops 8 i ∧ cl b (fS rw nw n fun j => if j = i then t else if j < i then pops 8 j else 0) :: H = H')
    (fun vs => match vs with | [.int _ i] => i.toNat | _ => 0) ⟨i, 0, by omega, rfl, by omega, ?_⟩ ?_
  · congr 2
    unfold fS
    rw [onesF_congr fun j hj => ?_]
    by_cases h : j = i
    · rw [if_pos h, if_neg (by omega)]
    · rw [if_neg h]
  rintro vs H' R2 ⟨c, t, hc255, rfl, ht, rfl⟩ hR2
  simp only [T_all, T_imp]
  intro n27 heq
  simp only [List.cons.injEq, Value.int.injEq, true_and, and_true] at heq
  subst heq
  have hp8 := pops_le 8 i
  refine T_xif (fun hc => ?_) fun hc => ?_
  · have hc0 : c ≠ 0 := by simp at hc; omega
    obtain ⟨h1, h2⟩ := clear_low ⟨c, by omega⟩ hc0
    simp only at h1 h2
    have hw : IntKind.wrap .i64 ((c : Int) - 1) = ((c - 1 : Nat) : Int) := by rw [wrap_i64 (by omega) (by omega)]; omega
    simp only [Int.toNat_natCast, hw]
    refine T_req ⟨by omega, by omega⟩ (T_ldI (fS_get hlt) (T_req ⟨by omega, by omega⟩ ?_))
    rw [if_pos rfl]
    have hwu : IntKind.wrap .u8 ((t : Int) + 1) = ((t + 1 : Nat) : Int) := by
      have := wrap_u8 (x := t + 1) (by omega)
      rw [← this]; congr 1
    rw [hwu, ibits_small (by omega)]
    refine T_st (by rw [fS_size]; omega) rfl ?_
    rw [fS_set hlt]
    refine hR2 _ _ ⟨nbits .and c (c - 1), t + 1, by omega, rfl, by omega, ?_⟩ (by simp only [Int.toNat_natCast]; omega)
    congr 3
    funext j
    by_cases h : j = i
    · rw [if_pos h, if_pos h]
    · rw [if_neg h, if_neg h, if_neg h]
  · have hc0 : c = 0 := by simp at hc; omega
    subst hc0
    have hp0 : pops 8 0 = 0 := by decide
    rw [wrap_succ (i := i) (by omega)]
    refine hR _ _ ⟨i + 1, by omega, rfl, ?_⟩ (by simp only [Int.toNat_natCast]; omega)
    congr 3
    funext j
    by_cases h : j = i
    · subst h
      rw [if_pos rfl, if_pos (by omega)]
      omega
    · rw [if_neg h]
      by_cases h2 : j < i
      · rw [if_pos h2, if_pos (by omega)]
      · rw [if_neg h2, if_neg (by omega)]

theorem bits_Count_nil (hk : T B H (K (.int .i64 0))) : T B H (callP P f_bits_Set_Count #[.pointer none] K) := by
  refine T_of (call_bits_Set_Count _) ?_
  unfold F_bits_Set_Count
  exact T_xif_t rfl hk

set_option maxRecDepth 100000 in
/-- Counted off the table. -/
theorem count_words (h1 : n ≤ 1048576) (h2 : BRep ws n m) (hk : T B (bset b n m :: H) (K (.int .i64 (pop m n : Int)))) {body : List Value → (List Value → HP) → HP}
    (hb : body = fun vs27 => (fun R28 => fun σ29 => ∀ n30, ∀ n31, (vs27 = [Value.int IntKind.i64 n30, Value.int IntKind.i64 n31]) → ((xif (Decidable.decide (n31 < (↑ws.length : Int))) (adr (some ⟨rw, 0, none⟩) (fun a32 => req (((0 : Int) ≤ n31) ∧ (n31 < (↑ws.length : Int))) (ldI IntKind.u64 (Addr.add a32 (Int.toNat n31)) (fun n33 => loopH (fun vs34 => (fun R35 => fun σ36 => ∀ n37, ∀ n38, (vs34 = [Value.int IntKind.i64 n37, Value.int IntKind.i64 n38]) → ((xif (Decidable.decide (n38 < 8)) (req ((0 : Int) ≤ IntKind.wrap IntKind.i64 ((8 : Int) * n38)) (req (((0 : Int) ≤ ibits BinOp.and IntKind.u64 (ishr IntKind.u64 n33 (IntKind.wrap IntKind.i64 ((8 : Int) * n38))) (255 : Int)) ∧ (ibits BinOp.and IntKind.u64 (ishr IntKind.u64 n33 (IntKind.wrap IntKind.i64 ((8 : Int) * n38))) (255 : Int) < (↑(256 : Nat) : Int))) (ldI IntKind.u8 ⟨b, 0 + 5 + (Int.toNat (ibits BinOp.and IntKind.u64 (ishr IntKind.u64 n33 (IntKind.wrap IntKind.i64 (8 * n38))) 255)), none⟩ (fun n40 => R35 [Value.int IntKind.i64 (IntKind.wrap IntKind.i64 (n37 + IntKind.wrap IntKind.i64 n40)), Value.int IntKind.i64 (IntKind.wrap IntKind.i64 (n38 + 1))])))) (R28 [Value.int IntKind.i64 n37, Value.int IntKind.i64 (IntKind.wrap IntKind.i64 (n31 + 1))])) σ36))) [Value.int IntKind.i64 n30, Value.int IntKind.i64 0])))) (K (Value.int IntKind.i64 n30))) σ29))) :
    T B (cl b (bsS rw ws.length n (onceC true)) :: cl rw (uv ws).toArray :: H) (loopH body [.int .i64 0, .int .i64 0]) := by
  subst hb
  have hlen := h2.len
  have hpopn : ∀ k, n ≤ k → pop m k = pop m n := by
    intro k hk
    obtain ⟨c, rfl⟩ : ∃ c, k = n + c := ⟨k - n, by omega⟩
    rw [pop_ml, pop_ml, ml_gap c fun j h3 h4 => h2.out j h3]
  refine T_loop (fun vs H' => ∃ i : Nat, i ≤ ws.length ∧ vs = [.int .i64 (pop m (64 * i) : Int), .int .i64 (i : Int)] ∧ cl b (bsS rw ws.length n (onceC true)) :: cl rw (uv ws).toArray :: H = H')
    (fun vs => match vs with | [_, .int _ i] => ws.length - i.toNat | _ => 0) ⟨0, Nat.zero_le _, rfl, rfl⟩ ?_
  rintro vs H' R ⟨i, hi, rfl, rfl⟩ hR
  simp only [T_all, T_imp]
  intro n30 n31 heq
  simp only [List.cons.injEq, Value.int.injEq, true_and, and_true] at heq
  obtain ⟨rfl, rfl⟩ := heq
  refine T_xif (fun hc => ?_) fun hc => ?_
  rotate_left
  · have : i = ws.length := by simp at hc; omega
    rw [hpopn (64 * i) (by omega)]
    exact bset_close h1 h2 hk
  have hlt : i < ws.length := by simpa using hc
  obtain ⟨w, hw⟩ : ∃ w, ws[i]? = some w := ⟨_, List.getElem?_eq_getElem hlt⟩
  have hw64 := h2.lt w (List.mem_of_getElem? hw)
  have hbits := h2.bit i w hw
  refine T_idxI rfl hlt (by rw [List.getElem?_toArray, Nat.zero_add]; exact uv_get hw) ?_
  refine T_loop (fun vs H' => ∃ k : Nat, k ≤ 8 ∧ vs = [.int .i64 (pop m (64 * i + 8 * k) : Int), .int .i64 (k : Int)] ∧ cl b (bsS rw ws.length n (onceC true)) :: cl rw (uv ws).toArray :: H = H')
    (fun vs => match vs with | [_, .int _ i] => 8 - i.toNat | _ => 0) ⟨0, Nat.zero_le _, rfl, rfl⟩ ?_
  rintro vs H' R2 ⟨k, hk8, rfl, rfl⟩ hR2
  simp only [T_all, T_imp]
  intro n37 n38 heq
  simp only [List.cons.injEq, Value.int.injEq, true_and, and_true] at heq
  obtain ⟨rfl, rfl⟩ := heq
  have hpl := pop_le m (64 * i + 8 * k)
  refine T_xif (fun hc => ?_) fun hc => ?_
  · have hk : k < 8 := by simp at hc; omega
    have hw8 : IntKind.wrap .i64 ((8 : Int) * (k : Int)) = ((8 * k : Nat) : Int) := by rw [wrap_i64 (by omega) (by omega)]; omega
    have hbyte : ibits BinOp.and IntKind.u64 (ishr IntKind.u64 (w : Int) ((8 * k : Nat) : Int)) (255 : Int) = ((w / 2 ^ (8 * k) % 2 ^ 8 : Nat) : Int) := by
      rw [ishr_nat (by omega), show (255 : Int) = ((255 : Nat) : Int) from rfl, ibits_nat]
      congr 1
      have hd : w / 2 ^ (8 * k) < 2 ^ 64 := Nat.lt_of_le_of_lt (Nat.div_le_self _ _) hw64
      apply Nat.eq_of_testBit_eq
      intro j
      rw [nbits_and hd (by decide), Nat.testBit_mod_two_pow, show (255 : Nat) = 2 ^ 8 - 1 from rfl, Nat.testBit_two_pow_sub_one, Bool.and_comm]
    have hbl : w / 2 ^ (8 * k) % 2 ^ 8 < 256 := Nat.mod_lt _ (by decide)
    have hpb := pops_bits (w := w / 2 ^ (8 * k)) (m := m) (a := 64 * i + 8 * k) 8 fun j hj => by
      rw [Nat.testBit_div_two_pow, hbits _ (by omega)]
      congr 1; omega
    have hpp := pops_le 8 (w / 2 ^ (8 * k) % 2 ^ 8)
    simp only [hw8, hbyte, Int.toNat_natCast]
    generalize w / 2 ^ (8 * k) % 2 ^ 8 = y at *
    have hget : (bsS rw ws.length n (onceC true))[0 + 5 + y]? = some (.int .u8 (pops 8 y : Int)) := by
      unfold bsS onceC
      rw [List.getElem?_toArray, show 0 + 5 + y = y + 1 + 1 + 1 + 1 + 1 by omega]
      simp only [List.getElem?_cons_succ]
      rw [ones_true]
      exact onesF_get hbl
    refine T_req (by omega) (T_req ⟨by omega, by omega⟩ (T_ldI hget ?_))
    rw [wrap_i64 (n := (pops 8 y : Int)) (by omega) (by omega), wrap_succ (i := k) (by omega)]
    have hs : IntKind.wrap .i64 ((pop m (64 * i + 8 * k) : Int) + (pops 8 y : Int)) = (pop m (64 * i + 8 * (k + 1)) : Int) := by
      rw [wrap_i64 (by omega) (by omega), show 64 * i + 8 * (k + 1) = 64 * i + 8 * k + 8 by omega, ← hpb]; omega
    rw [hs]
    exact hR2 _ _ ⟨k + 1, by omega, rfl, rfl⟩ (by simp only [Int.toNat_natCast]; omega)
  · have : k = 8 := by simp at hc; omega
    subst this
    rw [wrap_succ (i := i) (by omega)]
    exact hR _ _ ⟨i + 1, by omega, by rw [show 64 * (i + 1) = 64 * i + 8 * 8 by omega], rfl⟩ (by simp only [Int.toNat_natCast]; omega)

set_option maxRecDepth 100000 in
theorem bits_Count (hk : T B (bset b n m :: H) (K (.int .i64 (pop m n : Int)))) : T B (bset b n m :: H) (callP P f_bits_Set_Count #[.pointer (some ⟨b, 0, none⟩)] K) := by
  refine bset_open fun h1 rw ws dn h2 => ?_
  refine T_of (call_bits_Set_Count _) ?_
  unfold F_bits_Set_Count
  simp only [adr_some, add_mk]
  refine T_xif_f rfl ?_
  cases dn with
  | true =>
    exact once_Done (o := 0 + 2) rfl (T_and rfl (T_ldS rfl (count_words h1 h2 hk rfl)))
  | false =>
    refine once_Do (α := Unit) (o := 0 + 2) (cs2 := fun _ => fS rw ws.length n (pops 8)) (H2 := fun _ => cl rw (uv ws).toArray :: H) rfl rfl (fun _ => rfl) (fun _ => rfl) (fun Kf hKf => ?_) fun _ => T_and rfl ?_
    · have e : (bsS rw ws.length n (onceC false)).setIfInBounds (0 + 2 + 1) (Value.int IntKind.i32 1) = fS rw ws.length n fun _ => 0 := by
        unfold fS onceC bsS
        rw [ones_false]
        rfl
      rw [e]
      exact bits_fill (hKf ())
    · have e : ((fS rw ws.length n (pops 8)).setIfInBounds (0 + 2) (Value.int IntKind.u32 1)).setIfInBounds (0 + 2 + 1) (Value.int IntKind.i32 0) = bsS rw ws.length n (onceC true) := by
        unfold fS onceC bsS
        rw [ones_true]
        rfl
      rw [e]
      exact T_ldS rfl (count_words h1 h2 hk rfl)

end
end Go.Proofs.YtnhgcgjmmalebaaDoor
