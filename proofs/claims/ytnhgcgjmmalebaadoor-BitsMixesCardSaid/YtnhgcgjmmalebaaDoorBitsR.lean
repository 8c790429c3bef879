/- A set of bits (layer 2): the last one, runs, the example; over the heap; no condition but that the library's table is as it is laid. -/
import Derived.Test.YtnhgcgjmmalebaaDoorBitsC2
import Derived.Test.YtnhgcgjmmalebaaDoorLen
set_option linter.unusedVariables false
set_option linter.unusedSimpArgs false
namespace Go.Proofs.YtnhgcgjmmalebaaDoor
open Go.XS

theorem bitLen_spec : ∀ (f x : Nat), x < 2 ^ f → f ≤ 64 → x < 2 ^ Lib.bitLen x ∧ Lib.bitLen x ≤ f ∧ (x ≠ 0 → 0 < Lib.bitLen x ∧ 2 ^ (Lib.bitLen x - 1) ≤ x)
  | 0, x, h, _ => by
    have : x = 0 := by simpa using h
    subst this
    exact ⟨by decide, by decide, fun h => absurd rfl h⟩
  | f + 1, x, h, hf => by
    by_cases h0 : x = 0
    · subst h0
      exact ⟨by decide, by have : Lib.bitLen 0 = 0 := by decide
                           omega, fun h => absurd rfl h⟩
    · have hx64 : x < 2 ^ 64 := Nat.lt_of_lt_of_le h (Nat.pow_le_pow_right (by decide) hf)
      have e := Lib.bitLen_half x h0 hx64
      obtain ⟨h1, h2, h3⟩ := bitLen_spec f (x / 2) (by rw [Nat.pow_succ] at h; omega) (by omega)
      rw [e, Nat.add_comm 1]
      refine ⟨by rw [Nat.pow_succ]; omega, by omega, fun _ => ⟨by omega, ?_⟩⟩
      rw [Nat.add_sub_cancel]
      by_cases hh : x / 2 = 0
      · have : x = 1 := by omega
        subst this
        decide
      · obtain ⟨h4, h5⟩ := h3 hh
        obtain ⟨c, hc⟩ : ∃ c, Lib.bitLen (x / 2) = c + 1 := ⟨Lib.bitLen (x / 2) - 1, by omega⟩
        rw [hc] at h5 ⊢
        rw [Nat.add_sub_cancel] at h5
        rw [Nat.pow_succ]; omega

theorem bitLen_bit {x : Nat} (h0 : x ≠ 0) (h : x < 2 ^ 64) : ∃ t, Lib.bitLen x = t + 1 ∧ t < 64 ∧ x.testBit t = true ∧ ∀ j, t < j → x.testBit j = false := by
  obtain ⟨h1, h2, h3⟩ := bitLen_spec 64 x h (Nat.le_refl _)
  obtain ⟨h4, h5⟩ := h3 h0
  refine ⟨Lib.bitLen x - 1, by omega, by omega, ?_, fun j hj => Nat.testBit_lt_two_pow (Nat.lt_of_lt_of_le h1 (Nat.pow_le_pow_right (by decide) (by omega)))⟩
  generalize hc : Lib.bitLen x - 1 = c at *
  have e : Lib.bitLen x = c + 1 := by omega
  rw [e, Nat.pow_succ] at h1
  rw [Nat.testBit_eq_decide_div_mod_eq]
  have : x / 2 ^ c = 1 := Nat.div_eq_of_lt_le (by omega) (by omega)
  rw [this]; rfl

def IsLast (m : Nat → Bool) (r : Int) : Prop := (r = -1 ∧ ∀ k, m k = false) ∨ ∃ j : Nat, r = (j : Int) ∧ m j = true ∧ ∀ k, j < k → m k = false

/-- At i stand k side by side. -/
def RunAt (m : Nat → Bool) (k i : Nat) : Prop := ∀ j, j < k → m (i + j) = true
def IsRun (m : Nat → Bool) (k : Nat) (r : Int) : Prop := (r = -1 ∧ ∀ i, ¬ RunAt m k i) ∨ ∃ i : Nat, r = (i : Int) ∧ RunAt m k i ∧ ∀ i', i' < i → ¬ RunAt m k i'

theorem IsNext.uniq {m : Nat → Bool} {x r s : Int} (h : IsNext m x r) (h' : IsNext m x s) : r = s := by
  rcases h with ⟨rfl, h1⟩ | ⟨j, rfl, h1, h2, h3⟩
  · rcases h' with ⟨rfl, _⟩ | ⟨j, rfl, h4, h5, _⟩
    · rfl
    · rw [h1 j h4] at h5; cases h5
  · rcases h' with ⟨rfl, h4⟩ | ⟨i, rfl, h4, h5, h6⟩
    · rw [h4 j h1] at h2; cases h2
    · rcases Nat.lt_trichotomy i j with h | h | h
      · rw [h3 i h4 h] at h5; cases h5
      · rw [h]
      · rw [h6 j h1 h] at h2; cases h2
theorem IsLast.uniq {m : Nat → Bool} {r s : Int} (h : IsLast m r) (h' : IsLast m s) : r = s := by
  rcases h with ⟨rfl, h1⟩ | ⟨j, rfl, h2, h3⟩
  · rcases h' with ⟨rfl, _⟩ | ⟨j, rfl, h5, _⟩
    · rfl
    · rw [h1 j] at h5; cases h5
  · rcases h' with ⟨rfl, h4⟩ | ⟨i, rfl, h5, h6⟩
    · rw [h4 j] at h2; cases h2
    · rcases Nat.lt_trichotomy i j with h | h | h
      · rw [h6 j h] at h2; cases h2
      · rw [h]
      · rw [h3 i h] at h5; cases h5
theorem IsRun.uniq {m : Nat → Bool} {k : Nat} {r s : Int} (h : IsRun m k r) (h' : IsRun m k s) : r = s := by
  rcases h with ⟨rfl, h1⟩ | ⟨j, rfl, h2, h3⟩
  · rcases h' with ⟨rfl, _⟩ | ⟨j, rfl, h5, _⟩
    · rfl
    · exact absurd h5 (h1 j)
  · rcases h' with ⟨rfl, h4⟩ | ⟨i, rfl, h5, h6⟩
    · exact absurd h2 (h4 j)
    · rcases Nat.lt_trichotomy i j with h | h | h
      · exact absurd h5 (h3 i h)
      · rw [h]
      · exact absurd h2 (h6 j h)

section
variable {B : Heap} {H : List HProp} {K : Value → HP} {b n rw : Nat} {m : Nat → Bool} {ws : List Nat} {dn : Bool}

theorem bits_len64 {x : Nat} (hx : x < 2 ^ 64) (hk : T B H (K (.int .i64 (Lib.bitLen x : Int)))) : T B H (callP P f_math_bits_Len64 #[.int .u64 (x : Int)] K) := by
  intro σ o w hw
  refine (len64 (x : Int) w (by omega) (by omega)).mono ?_
  rintro e w' ⟨rfl, rfl⟩
  rw [Int.toNat_natCast]
  exact ⟨_, rfl, by rw [hw]; exact hk σ o, rfl, rfl, rfl⟩

theorem bits_Size_nil (hk : T B H (K (.int .i64 0))) : T B H (callP P f_bits_Set_Size #[.pointer none] K) := by
  refine T_of (call_bits_Set_Size _) ?_
  unfold F_bits_Set_Size
  exact T_xif_t rfl hk
theorem bits_Size (hk : T B (bset b n m :: H) (K (.int .i64 (n : Int)))) : T B (bset b n m :: H) (callP P f_bits_Set_Size #[.pointer (some ⟨b, 0, none⟩)] K) := by
  refine bset_open fun h1 rw ws dn h2 => ?_
  have hk := bset_close (rw := rw) (dn := dn) h1 h2 hk
  refine T_of (call_bits_Set_Size _) ?_
  unfold F_bits_Set_Size
  simp only [adr_some, add_mk]
  exact T_xif_f rfl (T_ldI rfl hk)

theorem bits_Last_nil (hk : T B H (K (.int .i64 (-1)))) : T B H (callP P f_bits_Set_Last #[.pointer none] K) := by
  refine T_of (call_bits_Set_Last _) ?_
  unfold F_bits_Set_Last
  exact T_xif_t rfl hk

theorem bits_Last (hk : ∀ r, IsLast m r → T B (bset b n m :: H) (K (.int .i64 r))) : T B (bset b n m :: H) (callP P f_bits_Set_Last #[.pointer (some ⟨b, 0, none⟩)] K) := by
  refine bset_open fun h1 rw ws dn h2 => ?_
  have hk := fun r hr => bset_close (rw := rw) (dn := dn) h1 h2 (hk r hr)
  refine T_of (call_bits_Set_Last _) ?_
  unfold F_bits_Set_Last
  simp only [adr_some, add_mk]
  have hlen := h2.len
  refine T_xif_f rfl (T_ldS rfl ?_)
  refine T_loop (fun vs H' => ∃ k : Nat, k ≤ ws.length ∧ vs = [.int .i64 ((k : Int) - 1)] ∧ (∀ j, 64 * k ≤ j → m j = false) ∧ cl b (bsS rw ws.length n (onceC dn)) :: cl rw (uv ws).toArray :: H = H')
    (fun vs => match vs with | [.int _ i] => (i + 1).toNat | _ => 0) ⟨ws.length, Nat.le_refl _, by rw [wrap_i64 (by omega) (by omega)], fun j hj => h2.out j (by omega), rfl⟩ ?_
  rintro vs H' R ⟨k, hkl, rfl, hno, rfl⟩ hR
  simp only [T_all, T_imp]
  intro n27 heq
  simp only [List.cons.injEq, Value.int.injEq, true_and, and_true] at heq
  subst heq
  refine T_xif (fun hc => ?_) fun hc => ?_
  rotate_left
  · have hc : ¬ 0 ≤ (k : Int) - 1 := by simpa using hc
    have : k = 0 := by omega
    subst this
    exact hk _ (.inl ⟨rfl, fun j => hno j (by omega)⟩)
  have hc : 0 ≤ (k : Int) - 1 := by simpa using hc
  obtain ⟨a, rfl⟩ : ∃ a, k = a + 1 := ⟨k - 1, by omega⟩
  have e : ((a + 1 : Nat) : Int) - 1 = (a : Int) := by omega
  obtain ⟨w, hw⟩ : ∃ w, ws[a]? = some w := ⟨_, List.getElem?_eq_getElem (by omega)⟩
  have hw64 := h2.lt w (List.mem_of_getElem? hw)
  have hbits := h2.bit a w hw
  rw [e]
  refine T_ldS rfl (T_idxI rfl (by omega) (by rw [List.getElem?_toArray, Nat.zero_add]; exact uv_get hw) (T_xif (fun h => ?_) fun h => ?_))
  · have hv0 : w ≠ 0 := by
      intro h0; subst h0; simp at h
    obtain ⟨t, ht, ht64, hbt, hab⟩ := bitLen_bit hv0 hw64
    refine T_ldS rfl (T_idxI rfl (by omega) (by rw [List.getElem?_toArray, Nat.zero_add]; exact uv_get hw) (bits_len64 hw64 ?_))
    simp only [asI_int]
    rw [ht]
    have hwr : IntKind.wrap .i64 (IntKind.wrap .i64 (IntKind.wrap .i64 ((a : Int) * 64) + ((t + 1 : Nat) : Int)) - 1) = ((64 * a + t : Nat) : Int) := by
      rw [wrap_i64 (n := (a : Int) * 64) (by omega) (by omega), wrap_i64 (n := (a : Int) * 64 + ((t + 1 : Nat) : Int)) (by omega) (by omega), wrap_i64 (by omega) (by omega)]; omega
    rw [hwr]
    refine hk _ (.inr ⟨_, rfl, by rw [← hbits t ht64]; exact hbt, fun j hj => ?_⟩)
    rcases Nat.lt_or_ge j (64 * (a + 1)) with h3 | h3
    · have := hab (j - 64 * a) (by omega)
      rw [hbits _ (by omega), show 64 * a + (j - 64 * a) = j by omega] at this
      exact this
    · exact hno j h3
  · have hv0 : w = 0 := by
      have : ((w : Int) != 0) = false := h
      simp at this
      exact this
    subst hv0
    rw [wrap_i64 (n := (a : Int) - 1) (by omega) (by omega)]
    refine hR _ _ ⟨a, by omega, rfl, fun j hj => ?_, rfl⟩ (by simp only; omega)
    rcases Nat.lt_or_ge j (64 * (a + 1)) with h3 | h3
    · have := hbits (j - 64 * a) (by omega)
      rw [Nat.zero_testBit, show 64 * a + (j - 64 * a) = j by omega] at this
      exact this.symm
    · exact hno j h3

theorem bits_Run_low {q : Option Addr} {k : Int} (h : k < 1) (hk : T B H (K (.int .i64 (-1)))) : T B H (callP P f_bits_Set_Run #[.pointer q, .int .i64 k] K) := by
  refine T_of (call_bits_Set_Run _ _) ?_
  unfold F_bits_Set_Run
  exact T_xif_t (by simpa using h) hk
theorem bits_Run_nil {k : Int} (hk : T B H (K (.int .i64 (-1)))) : T B H (callP P f_bits_Set_Run #[.pointer none, .int .i64 k] K) := by
  refine T_of (call_bits_Set_Run _ _) ?_
  unfold F_bits_Set_Run
  refine T_xif (fun _ => hk) fun _ => bits_First_nil ?_
  simp only [asI_int]
  refine T_loop (fun vs H' => vs = [.int .i64 (-1), .int .i64 (-2), .int .i64 (-1)] ∧ H = H') (fun _ => 0) ⟨rfl, rfl⟩ ?_
  rintro vs H' R ⟨rfl, rfl⟩ hR
  simp only [T_all, T_imp]
  intro a1 a2 a3 heq
  simp only [List.cons.injEq, Value.int.injEq, true_and, and_true] at heq
  obtain ⟨rfl, rfl, rfl⟩ := heq
  exact T_xif_f (by decide) hk

theorem bits_Run (hT : Tab B) {k : Nat} (h1k : 1 ≤ k) (hk : ∀ r, IsRun m k r → T B (bset b n m :: H) (K (.int .i64 r))) : T B (bset b n m :: H) (callP P f_bits_Set_Run #[.pointer (some ⟨b, 0, none⟩), .int .i64 (k : Int)] K) := by
  refine bset_facts fun h1 hout => ?_
  refine T_of (call_bits_Set_Run _ _) ?_
  unfold F_bits_Set_Run
  refine T_xif_f (by simp; omega) (bits_First hT fun r0 hr0 => ?_)
  simp only [asI_int]
  have hin : ∀ j, m j = true → j < n := fun j hj => by
    rcases Nat.lt_or_ge j n with h | h
    · exact h
    · rw [hout j h] at hj; cases hj
  refine T_loop (fun vs H' => ∃ fr la i : Int, vs = [.int .i64 fr, .int .i64 la, .int .i64 i] ∧ ((fr = -1 ∧ la = -2 ∧ IsNext m (-1) i) ∨ ∃ f l : Nat, fr = (f : Int) ∧ la = (l : Int) ∧ f ≤ l ∧ (∀ j, f ≤ j → j ≤ l → m j = true) ∧ l + 1 < f + k ∧ (∀ i', i' < f → ¬ RunAt m k i') ∧ IsNext m (l : Int) i) ∧ bset b n m :: H = H')
    (fun vs => match vs with | [_, _, .int _ i] => if i < 0 then 0 else n + 1 - i.toNat | _ => 0) ⟨-1, -2, r0, rfl, .inl ⟨rfl, rfl, hr0⟩, rfl⟩ ?_
  rintro vs H' R ⟨fr, la, i, rfl, hinv, rfl⟩ hR
  simp only [T_all, T_imp]
  intro n25 n26 n27 heq
  simp only [List.cons.injEq, Value.int.injEq, true_and, and_true] at heq
  obtain ⟨rfl, rfl, rfl⟩ := heq
  have hrunHit : ∀ (i' g : Nat), i' ≤ g → g < i' + k → m g = false → ¬ RunAt m k i' := fun i' g h3 h4 h5 h6 => by
    have := h6 (g - i') (by omega)
    rw [show i' + (g - i') = g by omega, h5] at this
    cases this
  refine T_xif (fun hc => ?_) fun hc => ?_
  rotate_left
  · have hc : ¬ 0 ≤ i := by simpa using hc
    refine hk _ (.inl ⟨rfl, fun i' => ?_⟩)
    rcases hinv with ⟨rfl, rfl, hnx⟩ | ⟨f, l, rfl, rfl, hfl, hall, hlen, hnr, hnx⟩
    · rcases hnx with ⟨_, hno⟩ | ⟨j, hj, _⟩
      · exact hrunHit i' i' (Nat.le_refl _) (by omega) (hno i' (by omega))
      · omega
    · rcases hnx with ⟨_, hno⟩ | ⟨j, hj, _⟩
      · rcases Nat.lt_or_ge i' f with h3 | h3
        · exact hnr i' h3
        · rcases Nat.lt_or_ge l i' with h4 | h4
          · exact hrunHit i' i' (Nat.le_refl _) (by omega) (hno i' (by omega))
          · exact hrunHit i' (l + 1) (by omega) (by omega) (hno (l + 1) (by omega))
      · omega
  have hc : 0 ≤ i := by simpa using hc
  obtain ⟨a, rfl⟩ : ∃ a : Nat, i = (a : Int) := ⟨i.toNat, by omega⟩
  -- where the run of a begins
  refine T_join (fun vs H' => ∃ f : Nat, vs = [.int .i64 (f : Int)] ∧ f ≤ a ∧ a < n ∧ (∀ j, f ≤ j → j ≤ a → m j = true) ∧ a < f + k ∧ (∀ i', i' < f → ¬ RunAt m k i') ∧ bset b n m :: H = H') ?_ fun R2 hR2 => ?_
  · rintro vs H' ⟨f, rfl, hfa, han, hall, hlen, hnr, rfl⟩
    simp only [T_all, T_imp]
    intro n30 heq
    simp only [List.cons.injEq, Value.int.injEq, true_and, and_true] at heq
    subst heq
    have hwr : IntKind.wrap .i64 (IntKind.wrap .i64 ((a : Int) - (f : Int)) + 1) = (a : Int) - (f : Int) + 1 := by
      rw [wrap_i64 (n := (a : Int) - (f : Int)) (by omega) (by omega), wrap_i64 (by omega) (by omega)]
    rw [hwr]
    refine T_xif (fun h => ?_) fun h => bits_Next hT (by omega) fun r hr => ?_
    · have h : (a : Int) - (f : Int) + 1 ≥ (k : Int) := by simpa using h
      exact hk _ (.inr ⟨f, rfl, fun j hj => hall (f + j) (by omega) (by omega), hnr⟩)
    · have h : ¬ (a : Int) - (f : Int) + 1 ≥ (k : Int) := by simpa using h
      simp only [asI_int]
      refine hR _ _ ⟨_, _, _, rfl, .inr ⟨f, a, rfl, rfl, hfa, hall, by omega, hnr, hr⟩, rfl⟩ ?_
      rcases hr with ⟨rfl, _⟩ | ⟨j, rfl, hj, hmj, _⟩
      · simp only [show ((-1 : Int) < 0) = True by simp, if_true]
        rw [if_neg (by omega), Int.toNat_natCast]; omega
      · simp only
        rw [if_neg (by omega), if_neg (by omega), Int.toNat_natCast, Int.toNat_natCast]; omega
  · rcases hinv with ⟨rfl, rfl, hnx⟩ | ⟨f, l, rfl, rfl, hfl, hall, hlen, hnr, hnx⟩
    · rcases hnx with ⟨h, _⟩ | ⟨j, hj, _, hmj, hno⟩
      · omega
      · have hj : a = j := by omega
        subst hj
        refine T_xif_t ?_ (hR2 _ _ ⟨a, rfl, Nat.le_refl _, hin a hmj, fun j h3 h4 => by rw [show j = a by omega]; exact hmj, by omega, fun i' h3 => hrunHit i' i' (Nat.le_refl _) (by omega) (hno i' (by omega) h3), rfl⟩)
        rw [wrap_i64 (by omega) (by omega)]
        simp
    · rcases hnx with ⟨h, _⟩ | ⟨j, hj, hlj, hmj, hno⟩
      · omega
      · have hj : a = j := by omega
        subst hj
        have hln := hin l (hall l hfl (Nat.le_refl _))
        rw [wrap_succ (i := l) (by omega)]
        refine T_xif (fun h => ?_) fun h => ?_
        · have h : ¬ a = l + 1 := by
            intro h'; subst h'; simp at h
          refine hR2 _ _ ⟨a, rfl, Nat.le_refl _, hin a hmj, fun j h3 h4 => by rw [show j = a by omega]; exact hmj, by omega, fun i' h3 => ?_, rfl⟩
          rcases Nat.lt_or_ge i' f with h4 | h4
          · exact hnr i' h4
          · rcases Nat.lt_or_ge l i' with h5 | h5
            · exact hrunHit i' i' (Nat.le_refl _) (by omega) (hno i' (by omega) h3)
            · exact hrunHit i' (l + 1) (by omega) (by omega) (hno (l + 1) (by omega) (by omega))
        · have h : a = l + 1 := by
            have : ((a : Int) != ((l + 1 : Nat) : Int)) = false := h
            simp at this; omega
          subst h
          exact hR2 _ _ ⟨f, rfl, by omega, hin _ hmj, fun j h3 h4 => by
            rcases Nat.lt_or_ge j (l + 1) with h5 | h5
            · exact hall j h3 (by omega)
            · rw [show j = l + 1 by omega]; exact hmj, by omega, hnr, rfl⟩

end
end Go.Proofs.YtnhgcgjmmalebaaDoor
