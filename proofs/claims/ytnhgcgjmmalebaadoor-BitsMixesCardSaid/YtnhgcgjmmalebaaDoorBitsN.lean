/- A set of bits (layer 2): the next one, the first one, its list; over the heap; no condition but that the library's table is as it is laid. -/
import Derived.Test.YtnhgcgjmmalebaaDoorBits
import Derived.Test.YtnhgcgjmmalebaaDoorTz
set_option linter.unusedVariables false
set_option linter.unusedSimpArgs false
namespace Go.Proofs.YtnhgcgjmmalebaaDoor
open Go.XS

/-- The library's table lies in its variable. -/
def Tab (B : Heap) : Prop := ∀ j, j < 64 → hcell B ⟨0, j, none⟩ = some (.int .u8 (Lib.deBruijn64tab.getD j 0))

theorem ctz_bit {w : Nat} (h0 : w ≠ 0) (h : w < 2 ^ 64) : Lib.ctz 64 w < 64 ∧ w.testBit (Lib.ctz 64 w) = true ∧ ∀ j, j < Lib.ctz 64 w → w.testBit j = false := by
  obtain ⟨m, hm, hk⟩ := Lib.ctzFrom_spec 64 w (by omega) h
  have e : Lib.ctz 64 w = Lib.ctzFrom 64 w := by simp [Lib.ctz, h0]
  rw [e]
  generalize Lib.ctzFrom 64 w = c at *
  refine ⟨hk, ?_, fun j hj => ?_⟩
  · rw [hm, Nat.testBit_two_pow_mul]
    simp
  · rw [hm, Nat.testBit_two_pow_mul]
    simp; omega

/-- r is the least one above x. -/
def IsNext (m : Nat → Bool) (x r : Int) : Prop := (r = -1 ∧ ∀ k : Nat, x < (k : Int) → m k = false) ∨ ∃ j : Nat, r = (j : Int) ∧ x < (j : Int) ∧ m j = true ∧ ∀ k : Nat, x < (k : Int) → k < j → m k = false

section
variable {B : Heap} {H : List HProp} {K : Value → HP} {b n rw : Nat} {m : Nat → Bool} {ws : List Nat} {dn : Bool}

theorem bits_tz (hT : Tab B) {x : Nat} (hx : x < 2 ^ 64) (hk : T B H (K (.int .i64 (Lib.ctz 64 x : Int)))) : T B H (callP P f_math_bits_TrailingZeros64 #[.int .u64 (x : Int)] K) := by
  intro σ o w hw
  refine (tz64 x (by omega) w fun j hj => ?_).mono ?_
  · rw [cell_eq, hw]
    exact base_cell o (hT j hj)
  · rintro e w' ⟨rfl, rfl⟩
    exact ⟨_, rfl, by rw [hw]; exact hk σ o, rfl, rfl, rfl⟩

/-- A word without its low bits. -/
theorem mask_bit {w s j : Nat} (hs : s < 64) : (w / 2 ^ s * 2 ^ s).testBit j = (decide (s ≤ j) && w.testBit j) := by
  rw [Nat.testBit_mul_two_pow]
  by_cases h : s ≤ j
  · simp only [h, decide_true, Bool.true_and, Nat.testBit_div_two_pow]
    congr 1; omega
  · simp [h]
theorem mask_le (w s : Nat) : w / 2 ^ s * 2 ^ s ≤ w := Nat.div_mul_le_self _ _
theorem ishl_mask {w s : Nat} (hw : w < 2 ^ 64) (hs : s < 64) : ishl .u64 (ishr .u64 (w : Int) (s : Int)) (s : Int) = ((w / 2 ^ s * 2 ^ s : Nat) : Int) := by
  rw [ishr_nat hs]
  unfold ishl
  have e : min (s : Int).toNat IntKind.u64.bits = s := by
    have : IntKind.u64.bits = 64 := rfl
    rw [this]; simp; omega
  rw [e]
  have e2 : ((w / 2 ^ s : Nat) : Int) * 2 ^ s = ((w / 2 ^ s * 2 ^ s : Nat) : Int) := by
    rw [Int.natCast_mul]; congr 1
  rw [e2]
  exact wrap_u64 (Nat.lt_of_le_of_lt (mask_le w s) hw)

theorem bits_Next_nil {x : Int} (hk : T B H (K (.int .i64 (-1)))) : T B H (callP P f_bits_Set_Next #[.pointer none, .int .i64 x] K) := by
  refine T_of (call_bits_Set_Next _ _) ?_
  unfold F_bits_Set_Next
  exact T_join (fun _ _ => False) (fun _ _ h => h.elim) fun R _ => T_xif_t rfl hk

theorem bits_Next (hT : Tab B) {x : Int} (hlo : -9223372036854775808 ≤ x) (hk : ∀ r, IsNext m x r → T B (bset b n m :: H) (K (.int .i64 r))) :
    T B (bset b n m :: H) (callP P f_bits_Set_Next #[.pointer (some ⟨b, 0, none⟩), .int .i64 x] K) := by
  refine bset_open fun h1 rw ws dn h2 => ?_
  have hk := fun r hr => bset_close (rw := rw) (dn := dn) h1 h2 (hk r hr)
  refine T_of (call_bits_Set_Next _ _) ?_
  unfold F_bits_Set_Next
  simp only [adr_some, add_mk]
  refine T_join (fun vs H' => vs = [] ∧ cl b (bsS rw ws.length n (onceC dn)) :: cl rw (uv ws).toArray :: H = H' ∧ x < (n : Int)) ?_ fun R hR => T_xif_f rfl (T_ldI rfl (T_xif (fun h => hk _ (.inl ⟨rfl, fun k hk => ?_⟩)) fun h => hR _ _ ⟨rfl, rfl, by simpa using h⟩))
  rotate_left
  · have h : x ≥ (n : Int) := by simpa using h
    exact h2.out k (by omega)
  rintro vs H' ⟨rfl, rfl, hxn⟩
  simp only [T_imp]
  intro _
  -- where the search begins
  obtain ⟨fr, hfr⟩ : ∃ fr : Nat, (if 0 > IntKind.wrap .i64 (x + 1) then 0 else IntKind.wrap .i64 (x + 1)) = (fr : Int) ∧ fr ≤ n ∧ ∀ k : Nat, x < (k : Int) ↔ fr ≤ k := by
    rw [wrap_i64 (n := x + 1) (by omega) (by omega)]
    by_cases h : 0 > x + 1
    · exact ⟨0, by rw [if_pos h]; rfl, by omega, fun k => by omega⟩
    · exact ⟨(x + 1).toNat, by rw [if_neg h]; omega, by omega, fun k => by omega⟩
  obtain ⟨hfr, hfn, hfk⟩ := hfr
  obtain ⟨e1, e2⟩ := div_mod64 (x := fr) (by omega)
  simp only [hfr, e1, e2]
  refine T_req (by decide) (T_loop (fun vs H' => ∃ k : Nat, fr / 64 ≤ k ∧ vs = [.int .i64 (k : Int)] ∧ (∀ j, fr ≤ j → j < 64 * k → m j = false) ∧ cl b (bsS rw ws.length n (onceC dn)) :: cl rw (uv ws).toArray :: H = H')
    (fun vs => match vs with | [.int _ i] => ws.length - i.toNat | _ => 0) ⟨fr / 64, Nat.le_refl _, rfl, fun j h3 h4 => by omega, rfl⟩ ?_)
  rintro vs H' R ⟨k, hkl, rfl, hno, rfl⟩ hR
  simp only [T_all, T_imp]
  intro n25 heq
  simp only [List.cons.injEq, Value.int.injEq, true_and, and_true] at heq
  subst heq
  have hlen := h2.len
  refine T_ldS rfl (T_xif (fun hc => ?_) fun hc => hk _ (.inl ⟨rfl, fun j hj => ?_⟩))
  rotate_left
  · have hc : ws.length ≤ k := by simpa using hc
    rcases Nat.lt_or_ge j (64 * k) with h | h
    · exact hno j ((hfk j).1 hj) h
    · exact h2.out j (by omega)
  have hlt : k < ws.length := by simpa using hc
  obtain ⟨w, hw⟩ : ∃ w, ws[k]? = some w := ⟨_, List.getElem?_eq_getElem hlt⟩
  have hw64 := h2.lt w (List.mem_of_getElem? hw)
  have hbits := h2.bit k w hw
  refine T_ldS rfl (T_idxI rfl hlt (by rw [List.getElem?_toArray, Nat.zero_add]; exact uv_get hw) ?_)
  refine T_join (fun vs H' => ∃ v : Nat, vs = [.int .u64 (v : Int)] ∧ v < 2 ^ 64 ∧ (∀ j, j < 64 → v.testBit j = (decide (fr ≤ 64 * k + j) && m (64 * k + j))) ∧ cl b (bsS rw ws.length n (onceC dn)) :: cl rw (uv ws).toArray :: H = H') ?_ fun R2 hR2 => T_req (by decide) (T_xif (fun h => T_req (by decide) (T_req (by omega) (T_req (by decide) (T_req (by omega) (hR2 _ _ ⟨w / 2 ^ (fr % 64) * 2 ^ (fr % 64), ?_, Nat.lt_of_le_of_lt (mask_le _ _) hw64, fun j hj => ?_, rfl⟩))))) fun h => hR2 _ _ ⟨w, rfl, hw64, fun j hj => ?_, rfl⟩)
  rotate_left
  · rw [ishl_mask hw64 (by omega)]
  · have h : (k : Int) = ((fr / 64 : Nat) : Int) := by simpa using h
    have h : k = fr / 64 := by omega
    rw [mask_bit (by omega), hbits j hj]
    congr 1
    refine decide_eq_decide.2 ?_
    omega
  · have h : ¬ (k : Int) = ((fr / 64 : Nat) : Int) := by simpa using h
    have h : fr / 64 < k := by omega
    rw [hbits j hj, decide_eq_true (show fr ≤ 64 * k + j by omega), Bool.true_and]
  rintro vs H' ⟨v, rfl, hv64, hvb, rfl⟩
  simp only [T_all, T_imp]
  intro n38 heq
  simp only [List.cons.injEq, Value.int.injEq, true_and, and_true] at heq
  subst heq
  refine T_xif (fun h => ?_) fun h => ?_
  · have hv0 : v ≠ 0 := by
      intro h0; subst h0; simp at h
    obtain ⟨c1, c2, c3⟩ := ctz_bit hv0 hv64
    refine bits_tz hT hv64 ?_
    simp only [asI_int]
    have hw : IntKind.wrap .i64 (IntKind.wrap .i64 ((k : Int) * 64) + (Lib.ctz 64 v : Int)) = ((64 * k + Lib.ctz 64 v : Nat) : Int) := by
      rw [wrap_i64 (n := (k : Int) * 64) (by omega) (by omega), wrap_i64 (by omega) (by omega)]; omega
    rw [hw]
    rw [hvb _ c1, Bool.and_eq_true, decide_eq_true_eq] at c2
    refine hk _ (.inr ⟨_, rfl, (hfk _).2 c2.1, c2.2, fun j hj hj2 => ?_⟩)
    have hj := (hfk j).1 hj
    rcases Nat.lt_or_ge j (64 * k) with h3 | h3
    · exact hno j hj h3
    · have := c3 (j - 64 * k) (by omega)
      rw [hvb _ (by omega), show 64 * k + (j - 64 * k) = j by omega, decide_eq_true hj, Bool.true_and] at this
      exact this
  · have hv0 : v = 0 := by
      have : ((v : Int) != 0) = false := h
      simp at this
      exact this
    subst hv0
    rw [wrap_succ (i := k) (by omega)]
    refine hR _ _ ⟨k + 1, by omega, rfl, fun j hj hj2 => ?_, rfl⟩ (by simp only [Int.toNat_natCast]; omega)
    rcases Nat.lt_or_ge j (64 * k) with h3 | h3
    · exact hno j hj h3
    · have := hvb (j - 64 * k) (by omega)
      rw [Nat.zero_testBit, show 64 * k + (j - 64 * k) = j by omega, decide_eq_true hj, Bool.true_and] at this
      exact this.symm

theorem bits_First_nil (hk : T B H (K (.int .i64 (-1)))) : T B H (callP P f_bits_Set_First #[.pointer none] K) := by
  refine T_of (call_bits_Set_First _) ?_
  unfold F_bits_Set_First
  refine bits_Next_nil ?_
  simp only [asI_int]
  exact hk
theorem bits_First (hT : Tab B) (hk : ∀ r, IsNext m (-1) r → T B (bset b n m :: H) (K (.int .i64 r))) : T B (bset b n m :: H) (callP P f_bits_Set_First #[.pointer (some ⟨b, 0, none⟩)] K) := by
  refine T_of (call_bits_Set_First _) ?_
  unfold F_bits_Set_First
  refine bits_Next hT (by decide) fun r hr => ?_
  simp only [asI_int]
  exact hk r hr

/-- The numbers below k that are in it, rising. -/
def ml (m : Nat → Bool) (k : Nat) : List Int := ((List.range k).filter m).map fun j : Nat => (j : Int)
theorem ml_gap {a : Nat} : ∀ (c : Nat), (∀ k, a ≤ k → k < a + c → m k = false) → ml m (a + c) = ml m a
  | 0, _ => rfl
  | c + 1, h => by
    have ih := ml_gap c fun k h1 h2 => h k h1 (by omega)
    rw [← ih]
    unfold ml
    rw [show a + (c + 1) = a + c + 1 by omega, List.range_succ, List.filter_append]
    simp [h (a + c) (by omega) (by omega)]
theorem ml_in {a : Nat} (h : m a = true) : ml m (a + 1) = ml m a ++ [(a : Int)] := by
  unfold ml
  rw [List.range_succ, List.filter_append]
  simp [h]
theorem ml_len (a : Nat) : (ml m a).length ≤ a := by
  unfold ml
  rw [List.length_map]
  have := List.length_filter_le m (List.range a)
  simpa using this
theorem ml_next {a : Nat} {r : Int} (hout : ∀ k, n ≤ k → m k = false) (han : a ≤ n) (h : IsNext m ((a : Int) - 1) r) : (r = -1 ∧ ml m n = ml m a) ∨ ∃ j : Nat, r = (j : Int) ∧ a ≤ j ∧ j < n ∧ m j = true ∧ ml m j = ml m a := by
  rcases h with ⟨rfl, hno⟩ | ⟨j, rfl, hj, hmj, hno⟩
  · refine .inl ⟨rfl, ?_⟩
    obtain ⟨c, rfl⟩ : ∃ c, n = a + c := ⟨n - a, by omega⟩
    exact ml_gap c fun k h1 h2 => hno k (by omega)
  · have hjn : j < n := by
      rcases Nat.lt_or_ge j n with h | h
      · exact h
      · rw [hout j h] at hmj; cases hmj
    refine .inr ⟨j, rfl, by omega, hjn, hmj, ?_⟩
    obtain ⟨c, rfl⟩ : ∃ c, j = a + c := ⟨j - a, by omega⟩
    exact ml_gap c fun k h1 h2 => hno k (by omega) (by omega)

theorem bset_facts {p : HP} (t : n ≤ 1048576 → (∀ k, n ≤ k → m k = false) → T B (bset b n m :: H) p) : T B (bset b n m :: H) p :=
  bset_open fun h1 rw ws dn h2 => bset_close h1 h2 (t h1 h2.out)

theorem bits_List_nil (hk : T B H (K (.slice none 0 0))) : T B H (callP P f_bits_Set_List #[.pointer none] K) := by
  refine T_of (call_bits_Set_List _) ?_
  unfold F_bits_Set_List
  refine bits_First_nil ?_
  simp only [asI_int]
  refine T_loop (fun vs H' => vs = [.slice none 0 0, .int .i64 (-1)] ∧ H = H') (fun _ => 0) ⟨rfl, rfl⟩ ?_
  rintro vs H' R ⟨rfl, rfl⟩ hR
  simp only [T_all, T_imp]
  intro p k c n heq
  simp only [List.cons.injEq, Value.int.injEq, Value.slice.injEq, true_and, and_true] at heq
  obtain ⟨⟨rfl, rfl, rfl⟩, rfl⟩ := heq
  exact T_xif_f (by decide) hk

theorem bits_List (hT : Tab B) (hk : ∀ p' c', T B (osl 1 p' (ml m n).length c' (iv .i64 (ml m n)) :: bset b n m :: H) (K (.slice p' (ml m n).length c'))) :
    T B (bset b n m :: H) (callP P f_bits_Set_List #[.pointer (some ⟨b, 0, none⟩)] K) := by
  refine bset_facts fun h1 hout => ?_
  refine T_of (call_bits_Set_List _) ?_
  unfold F_bits_Set_List
  refine bits_First hT fun r hr => ?_
  simp only [asI_int]
  have start := ml_next (a := 0) hout (Nat.zero_le _) (by simpa using hr)
  refine T_oslNil 1 (T_loop (fun vs H' => ∃ (r : Int) (out : List Int) (p' : Option Addr) (c' : Nat), vs = [.slice p' out.length c', .int .i64 r] ∧ ((r = -1 ∧ out = ml m n) ∨ ∃ j : Nat, r = (j : Int) ∧ j < n ∧ m j = true ∧ out = ml m j) ∧ osl 1 p' out.length c' (iv .i64 out) :: bset b n m :: H = H')
    (fun vs => match vs with | [_, .int _ i] => if i < 0 then 0 else n + 1 - i.toNat | _ => 0) ⟨r, [], none, 0, rfl, ?_, rfl⟩ ?_)
  · rcases start with ⟨h3, h4⟩ | ⟨j, h3, h4, h5, h6, h7⟩
    · exact .inl ⟨h3, by rw [h4]; rfl⟩
    · exact .inr ⟨j, h3, h5, h6, by rw [h7]; rfl⟩
  rintro vs H' R ⟨r, out, p', c', rfl, hout', rfl⟩ hR
  simp only [T_all, T_imp]
  intro p k c n28 heq
  simp only [List.cons.injEq, Value.int.injEq, Value.slice.injEq, true_and, and_true] at heq
  obtain ⟨⟨rfl, rfl, rfl⟩, rfl⟩ := heq
  rcases hout' with ⟨rfl, rfl⟩ | ⟨j, rfl, hjn, hmj, rfl⟩
  · exact T_xif_f (by decide) (hk _ _)
  · have hml := ml_len (m := m) j
    refine T_xif_t (by simp) (snoc34 (by omega) fun p2 c2 => T_perm (List.Perm.swap _ _ _) (bits_Next hT (by omega) fun r hr => T_perm (List.Perm.swap _ _ _) ?_))
    simp only [asI_int]
    rw [← ml_in hmj]
    have hl : (ml m j).length + 1 = (ml m (j + 1)).length := by rw [ml_in hmj]; simp
    rw [hl]
    have hnx := ml_next (a := j + 1) (r := r) hout (by omega) (by
      have : ((j + 1 : Nat) : Int) - 1 = (j : Int) := by omega
      rw [this]; exact hr)
    refine hR _ _ ⟨r, ml m (j + 1), p2, c2, rfl, ?_, rfl⟩ ?_
    · rcases hnx with ⟨h3, h4⟩ | ⟨i, h3, h4, h5, h6, h7⟩
      · exact .inl ⟨h3, h4.symm⟩
      · exact .inr ⟨i, h3, h5, h6, h7.symm⟩
    · rcases hnx with ⟨h3, h4⟩ | ⟨i, h3, h4, h5, h6, h7⟩
      · subst h3
        simp only [show ((-1 : Int) < 0) = True by simp, if_true]
        rw [if_neg (by omega), Int.toNat_natCast]; omega
      · subst h3
        simp only
        rw [if_neg (by omega), if_neg (by omega), Int.toNat_natCast, Int.toNat_natCast]; omega

end
end Go.Proofs.YtnhgcgjmmalebaaDoor
