/- A set of bits (layer 2): a new one, is a number in it, put, drop; over the heap; no condition. -/
import Derived.Test.YtnhgcgjmmalebaaDoorBitsL
set_option linter.unusedVariables false
set_option linter.unusedSimpArgs false
namespace Go.Proofs.YtnhgcgjmmalebaaDoor
open Go.XS

theorem zcU : zc P 81 = #[.int .u64 0] := by kernel_rfl
theorem cellsU : P.cellsOf 81 = 1 := by kernel_rfl
theorem bytesU : P.bytesOf 81 = 8 := by kernel_rfl

/-- How many of a byte's bits are set, as the machine counts them. -/
def pops : Nat → Nat → Nat
  | 0, _ => 0
  | k + 1, b => b % 2 + pops k (b / 2)
def ones (dn : Bool) : List Value := if dn then (List.range 256).map (fun b : Nat => .int .u8 (pops 8 b : Int)) else List.replicate 256 (.int .u8 0)
theorem ones_len (dn : Bool) : (ones dn).length = 256 := by
  unfold ones
  split
  · rw [List.length_map, List.length_range]
  · rw [List.length_replicate]
def onceC (dn : Bool) : List Value := .int .u32 (if dn then 1 else 0) :: .int .i32 0 :: .int .u32 0 :: ones dn
def bsS (rw nw n : Nat) (oc : List Value) : Array Value := (.slice (some ⟨rw, 0, none⟩) nw nw :: .int .i64 (n : Int) :: oc).toArray

/-- A set in block b, of those below n that are in m. -/
def bset (b n : Nat) (m : Nat → Bool) : HProp :=
  pureP (n ≤ 1048576) <| exP fun rw : Nat => exP fun ws : List Nat => exP fun dn : Bool => pureP (BRep ws n m) <| packP [cl b (bsS rw ws.length n (onceC dn)), cl rw (uv ws).toArray]

section
variable {B : Heap} {H : List HProp} {K : Value → HP} {b n rw : Nat} {m : Nat → Bool} {ws : List Nat} {dn : Bool}

theorem bset_open {p : HP} (t : n ≤ 1048576 → ∀ rw ws dn, BRep ws n m → T B (cl b (bsS rw ws.length n (onceC dn)) :: cl rw (uv ws).toArray :: H) p) : T B (bset b n m :: H) p :=
  T_unpure fun h1 => T_unex fun rw => T_unex fun ws => T_unex fun dn => T_unpure fun h2 => T_unpack (t h1 rw ws dn h2)
theorem bset_close {p : HP} (h1 : n ≤ 1048576) (h2 : BRep ws n m) (t : T B (bset b n m :: H) p) : T B (cl b (bsS rw ws.length n (onceC dn)) :: cl rw (uv ws).toArray :: H) p :=
  T_topack (Hs := [cl b (bsS rw ws.length n (onceC dn)), cl rw (uv ws).toArray]) (T_topure h2 (T_toex (q := fun dn => pureP (BRep ws n m) (packP [cl b (bsS rw ws.length n (onceC dn)), cl rw (uv ws).toArray])) dn
    (T_toex (q := fun ws => exP fun dn => pureP (BRep ws n m) (packP [cl b (bsS rw ws.length n (onceC dn)), cl rw (uv ws).toArray])) ws
      (T_toex (q := fun rw => exP fun ws => exP fun dn => pureP (BRep ws n m) (packP [cl b (bsS rw ws.length n (onceC dn)), cl rw (uv ws).toArray])) rw (T_topure h1 t)))))

theorem T_alE {cs cs' : Array Value} {t : TypeId} {f : Nat → HP} (e : cs = cs') (h : ∀ b, T B (cl b cs' :: H) (f b)) : T B H (al cs t f) := T_al (by rw [e]; exact h)

theorem bits_New_none {x : Int} (hm : x < 0 ∨ 1048576 < x) (hk : T B H (K (.pointer none))) : T B H (callP P f_bits_New #[.int .i64 x] K) := by
  refine T_of (call_bits_New _) ?_
  unfold F_bits_New
  refine T_join (fun _ _ => False) (fun _ _ h => h.elim) fun R _ => T_xif (fun _ => hk) fun h => T_xif_t ?_ hk
  simp at h ⊢; omega

theorem bits_New (h1 : n ≤ 1048576) (hk : ∀ b, T B (bset b n (fun _ => false) :: H) (K (.pointer (some ⟨b, 0, none⟩)))) : T B H (callP P f_bits_New #[.int .i64 (n : Int)] K) := by
  refine T_of (call_bits_New _) ?_
  unfold F_bits_New
  refine T_join (fun vs H' => vs = [] ∧ H = H') ?_ fun R hR => T_xif_f (by simp) (T_xif_f (by simp; omega) (hR _ _ ⟨rfl, rfl⟩))
  rintro vs H' ⟨rfl, rfl⟩
  have hw : IntKind.wrap .i64 (Int.tdiv (IntKind.wrap .i64 (IntKind.wrap .i64 ((n : Int) + 64) - 1)) 64) = (((n + 63) / 64 : Nat) : Int) := by
    rw [wrap_i64 (n := (n : Int) + 64) (by omega) (by omega), wrap_i64 (n := (n : Int) + 64 - 1) (by omega) (by omega), Int.tdiv_eq_ediv_of_nonneg (by omega), wrap_i64 (by omega) (by omega)]
    omega
  simp only [T_imp, hw, Int.toNat_natCast]
  intro _
  refine T_req (by decide) (T_mkSl (by omega) (by omega) (by omega) (by rw [bytesU]; omega) (by kernel_rfl) (by kernel_rfl) fun rw => ?_)
  rw [cellsU, zcU, reps_one, Nat.mul_one, Int.toNat_natCast]
  refine T_alE (cs' := bsS rw ((n + 63) / 64) n (onceC false)) (by kernel_rfl) fun b => ?_
  have e : List.replicate ((n + 63) / 64) (Value.int .u64 0) = uv (List.replicate ((n + 63) / 64) 0) := by simp [uv]
  rw [e]
  have := bset_close (b := b) (rw := rw) (dn := false) h1 (BRep.zeros n) (hk b)
  rw [List.length_replicate] at this
  exact this

theorem bits_within {x : Int} (hk : T B (bset b n m :: H) (K (.bool (decide (0 ≤ x ∧ x < (n : Int)))))) : T B (bset b n m :: H) (callP P f_bits_Set_within #[.pointer (some ⟨b, 0, none⟩), .int .i64 x] K) := by
  refine bset_open fun h1 rw ws dn h2 => ?_
  have hk := bset_close (rw := rw) (dn := dn) h1 h2 hk
  refine T_of (call_bits_Set_within _ _) ?_
  unfold F_bits_Set_within
  simp only [adr_some, add_mk]
  refine T_xif_t rfl (T_xif (fun h => T_ldI rfl (T_conv hk ?_)) fun h => T_conv hk ?_)
  · have : 0 ≤ x := by simpa using h
    simp [this]
  · have : ¬ 0 ≤ x := by simpa using h
    simp [this]

/-- Is x in it? -/
def isIn (n : Nat) (m : Nat → Bool) (x : Int) : Bool := decide (0 ≤ x ∧ x < (n : Int)) && m x.toNat

theorem div_mod64 {x : Nat} (h : x ≤ 1048576) : IntKind.wrap .i64 (Int.tdiv (x : Int) 64) = ((x / 64 : Nat) : Int) ∧ Int.tmod (x : Int) 64 = ((x % 64 : Nat) : Int) := by
  refine ⟨?_, ?_⟩
  · rw [Int.tdiv_eq_ediv_of_nonneg (by omega), wrap_i64 (by omega) (by omega)]; omega
  · rw [Int.tmod_eq_emod_of_nonneg (by omega)]; omega

theorem bits_Has {x : Int} (hk : T B (bset b n m :: H) (K (.bool (isIn n m x)))) : T B (bset b n m :: H) (callP P f_bits_Set_Has #[.pointer (some ⟨b, 0, none⟩), .int .i64 x] K) := by
  refine T_of (call_bits_Set_Has _ _) ?_
  unfold F_bits_Set_Has
  refine bits_within ?_
  simp only [asB_bool, adr_some, add_mk]
  refine T_xif (fun h => ?_) fun h => T_conv hk ?_
  · have hx := of_decide_eq_true h
    obtain ⟨y, rfl⟩ : ∃ y : Nat, x = (y : Int) := ⟨x.toNat, by omega⟩
    refine bset_open fun h1 rw ws dn h2 => ?_
    have hk := bset_close (rw := rw) (dn := dn) h1 h2 hk
    obtain ⟨w, hw, hlt, hbit⟩ := h2.word (i := y) (by omega)
    obtain ⟨e1, e2⟩ := div_mod64 (x := y) (by omega)
    have hl : y / 64 < ws.length := (List.getElem?_eq_some_iff.1 hw).1
    simp only [e1, e2]
    refine T_ldS rfl (T_req (by decide) (T_idxI rfl hl (by rw [List.getElem?_toArray, Nat.zero_add]; exact uv_get hw) (T_req (by decide) (T_req (by omega) (T_conv hk ?_)))))
    rw [bit_test hlt (by omega), hbit]
    simp only [isIn, Int.toNat_natCast, decide_eq_true hx, Bool.true_and]
  · simp only [isIn, h, Bool.false_and]

theorem flip_true {ws : List Nat} {y w : Nat} (h2 : BRep ws n m) (hy : y < n) (hw : ws[y / 64]? = some w) (hlt : w < 2 ^ 64) : BRep (ws.set (y / 64) (nbits .or w (2 ^ (y % 64)))) n (flip m y true) := by
  refine h2.put hy hw (nbits_lt _ _ _) fun j hj => ?_
  rw [nbits_or hlt (Nat.pow_lt_pow_right (by decide) (by omega)), Nat.testBit_two_pow]
  by_cases h : j = y % 64
  · subst h; simp
  · rw [if_neg h]
    have : ¬ y % 64 = j := fun h' => h h'.symm
    simp [this]
theorem flip_false {ws : List Nat} {y w : Nat} (h2 : BRep ws n m) (hy : y < n) (hw : ws[y / 64]? = some w) (hlt : w < 2 ^ 64) : BRep (ws.set (y / 64) (nbits .andNot w (2 ^ (y % 64)))) n (flip m y false) := by
  refine h2.put hy hw (nbits_lt _ _ _) fun j hj => ?_
  rw [nbits_not hlt (Nat.pow_lt_pow_right (by decide) (by omega)), Nat.testBit_two_pow]
  by_cases h : j = y % 64
  · subst h; simp
  · rw [if_neg h]
    have : ¬ y % 64 = j := fun h' => h h'.symm
    simp [this]

/-- May x be put in? -/
def putOk (n : Nat) (m : Nat → Bool) (x : Int) : Bool := decide (0 ≤ x ∧ x < (n : Int)) && !m x.toNat
def putIn (n : Nat) (m : Nat → Bool) (x : Int) : Nat → Bool := if putOk n m x then flip m x.toNat true else m
def dropIn (n : Nat) (m : Nat → Bool) (x : Int) : Nat → Bool := if isIn n m x then flip m x.toNat false else m

theorem bits_Put {x : Int} (hk : T B (bset b n (putIn n m x) :: H) (K (.bool (putOk n m x)))) : T B (bset b n m :: H) (callP P f_bits_Set_Put #[.pointer (some ⟨b, 0, none⟩), .int .i64 x] K) := by
  refine T_of (call_bits_Set_Put _ _) ?_
  unfold F_bits_Set_Put
  simp only [adr_some, add_mk]
  refine T_join (fun vs H' => vs = [] ∧ bset b n m :: H = H' ∧ putOk n m x = true) ?_ fun R hR => bits_within ?_
  · rintro vs H' ⟨rfl, rfl, hok⟩
    simp only [T_imp]
    intro _
    rw [putIn, hok, if_pos rfl] at hk
    have hx : 0 ≤ x ∧ x < (n : Int) := by
      simp only [putOk, Bool.and_eq_true, decide_eq_true_eq] at hok
      exact hok.1
    obtain ⟨y, rfl⟩ : ∃ y : Nat, x = (y : Int) := ⟨x.toNat, by omega⟩
    refine bset_open fun h1 rw ws dn h2 => ?_
    obtain ⟨w, hw, hlt, hbit⟩ := h2.word (i := y) (by omega)
    obtain ⟨e1, e2⟩ := div_mod64 (x := y) (by omega)
    have hl : y / 64 < ws.length := (List.getElem?_eq_some_iff.1 hw).1
    simp only [e1, e2]
    refine T_req (by decide) (T_req (by decide) (T_req (by omega) (T_ldS rfl (T_idxI rfl hl (by rw [List.getElem?_toArray, Nat.zero_add]; exact uv_get hw) (T_idxSt rfl hl (by simp; omega) rfl ?_)))))
    rw [ishl_one (by omega), ibits_nat]
    simp only [Nat.zero_add, List.setIfInBounds_toArray, uv_set]
    have := bset_close (b := b) (rw := rw) (dn := dn) h1 (flip_true h2 (by omega) hw hlt) hk
    rw [List.length_set] at this
    exact this
  · simp only [asB_bool]
    have hno : putOk n m x = false → T B (bset b n m :: H) (K (.bool false)) := by
      intro h
      rw [putIn, h] at hk
      exact hk
    refine T_xif (fun h => hno ?_) fun h => bits_Has ?_
    · simp only [Bool.not_eq_true'] at h
      simp only [putOk, h, Bool.false_and]
    · simp only [Bool.not_eq_false'] at h
      simp only [asB_bool]
      refine T_xif (fun h' => hno ?_) fun h' => hR _ _ ⟨rfl, rfl, ?_⟩
      · simp only [isIn, h, Bool.true_and] at h'
        simp only [putOk, h, h', Bool.not_true, Bool.and_false]
      · simp only [isIn, h, Bool.true_and] at h'
        simp only [putOk, h, h', Bool.not_false, Bool.and_true]

theorem bits_Drop {x : Int} (hk : T B (bset b n (dropIn n m x) :: H) (K (.bool (isIn n m x)))) : T B (bset b n m :: H) (callP P f_bits_Set_Drop #[.pointer (some ⟨b, 0, none⟩), .int .i64 x] K) := by
  refine T_of (call_bits_Set_Drop _ _) ?_
  unfold F_bits_Set_Drop
  simp only [adr_some, add_mk]
  refine bits_Has ?_
  simp only [asB_bool]
  refine T_xif (fun h => ?_) fun h => ?_
  · simp only [Bool.not_eq_true'] at h
    rw [dropIn, h] at hk
    exact hk
  · simp only [Bool.not_eq_false'] at h
    rw [dropIn, h, if_pos rfl] at hk
    have hx : 0 ≤ x ∧ x < (n : Int) := by
      simp only [isIn, Bool.and_eq_true, decide_eq_true_eq] at h
      exact h.1
    obtain ⟨y, rfl⟩ : ∃ y : Nat, x = (y : Int) := ⟨x.toNat, by omega⟩
    refine bset_open fun h1 rw ws dn h2 => ?_
    obtain ⟨w, hw, hlt, hbit⟩ := h2.word (i := y) (by omega)
    obtain ⟨e1, e2⟩ := div_mod64 (x := y) (by omega)
    have hl : y / 64 < ws.length := (List.getElem?_eq_some_iff.1 hw).1
    simp only [e1, e2]
    refine T_req (by decide) (T_req (by decide) (T_req (by omega) (T_ldS rfl (T_idxI rfl hl (by rw [List.getElem?_toArray, Nat.zero_add]; exact uv_get hw) (T_idxSt rfl hl (by simp; omega) rfl ?_)))))
    rw [ishl_one (by omega), ibits_nat]
    simp only [Nat.zero_add, List.setIfInBounds_toArray, uv_set]
    have := bset_close (b := b) (rw := rw) (dn := dn) h1 (flip_false h2 (by omega) hw hlt) hk
    rw [List.length_set] at this
    exact this

end
end Go.Proofs.YtnhgcgjmmalebaaDoor
