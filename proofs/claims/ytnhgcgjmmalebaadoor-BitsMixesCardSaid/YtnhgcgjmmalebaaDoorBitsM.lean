/- Two sets of bits, mixed word by word (layer 2); the document's answer; no condition but that the library's table is as it is laid. -/
import Derived.Test.YtnhgcgjmmalebaaDoorBitsZ
import Derived.Test.YtnhgcgjmmalebaaDoorBitsP
set_option linter.unusedVariables false
set_option linter.unusedSimpArgs false
namespace Go.Proofs.YtnhgcgjmmalebaaDoor
open Go.XS

theorem BRep.word_set {ws : List Nat} {n : Nat} {m m' : Nat → Bool} (h : BRep ws n m) {k w : Nat} (hk : k < ws.length) (hw : w < 2 ^ 64) (hb : ∀ j, j < 64 → w.testBit j = m' (64 * k + j)) (ho : ∀ i, i / 64 ≠ k → m' i = m i) (hout : ∀ i, n ≤ i → m' i = false) :
    BRep (ws.set k w) n m' where
  len := by simp [h.len]
  lt := by
    intro x hx
    rcases List.mem_or_eq_of_mem_set hx with h1 | rfl
    · exact h.lt x h1
    · exact hw
  bit := by
    intro i x hi j hj
    rw [List.getElem?_set] at hi
    by_cases hki : k = i
    · subst hki
      rw [if_pos rfl, if_pos hk] at hi
      cases hi
      exact hb j hj
    · rw [if_neg hki] at hi
      rw [ho _ (by omega)]
      exact h.bit i x hi j hj
  out := hout

section
variable {B : Heap} {H : List HProp} {K : Value → HP} {b n : Nat} {m : Nat → Bool}

theorem bits_word {k : Nat} (hk : ∀ w : Nat, w < 2 ^ 64 → (∀ j, j < 64 → w.testBit j = m (64 * k + j)) → T B (bset b n m :: H) (K (.int .u64 (w : Int)))) : T B (bset b n m :: H) (callP P f_bits_Set_word #[.pointer (some ⟨b, 0, none⟩), .int .i64 (k : Int)] K) := by
  refine bset_open fun h1 rw ws dn h2 => ?_
  have hk := fun w hw hb => bset_close (rw := rw) (dn := dn) h1 h2 (hk w hw hb)
  refine T_of (call_bits_Set_word _ _) ?_
  unfold F_bits_Set_word
  simp only [adr_some, add_mk]
  have hlen := h2.len
  refine T_join (fun vs H' => vs = [] ∧ cl b (bsS rw ws.length n (onceC dn)) :: cl rw (uv ws).toArray :: H = H' ∧ k < ws.length) ?_ fun R hR => T_xif_f rfl (T_ldS rfl (T_xif (fun h => hk 0 (by decide) fun j hj => ?_) fun h => hR _ _ ⟨rfl, rfl, by simpa using h⟩))
  · rintro vs H' ⟨rfl, rfl, hlt⟩
    simp only [T_imp]
    intro _
    obtain ⟨w, hw⟩ : ∃ w, ws[k]? = some w := ⟨_, List.getElem?_eq_getElem hlt⟩
    exact T_ldS rfl (T_idxI rfl hlt (by rw [List.getElem?_toArray, Nat.zero_add]; exact uv_get hw) (hk w (h2.lt w (List.mem_of_getElem? hw)) (h2.bit k w hw)))
  · have h : ws.length ≤ k := by simpa using h
    rw [Nat.zero_testBit, h2.out _ (by omega)]

theorem nil_word {x : Int} (hk : T B H (K (.int .u64 0))) : T B H (callP P f_bits_Set_word #[.pointer none, .int .i64 x] K) := by
  refine T_of (call_bits_Set_word _ _) ?_
  unfold F_bits_Set_word
  exact T_join (fun _ _ => False) (fun _ _ h => h.elim) fun R _ => T_xif_t rfl hk

/-- What one may ask of a set beside others. -/
def Words (B : Heap) (H : List HProp) (p : Option Addr) (n : Nat) (m : Nat → Bool) : Prop :=
  (∀ (Hx : List HProp) (K : Value → HP) (k : Nat), (∀ w : Nat, w < 2 ^ 64 → (∀ j, j < 64 → w.testBit j = m (64 * k + j)) → T B (Hx ++ H) (K (.int .u64 (w : Int)))) → T B (Hx ++ H) (callP P f_bits_Set_word #[.pointer p, .int .i64 (k : Int)] K)) ∧
  (∀ (Hx : List HProp) (K : Value → HP), T B (Hx ++ H) (K (.int .i64 (n : Int))) → T B (Hx ++ H) (callP P f_bits_Set_Size #[.pointer p] K))

theorem Words.head : Words B (bset b n m :: H) (some ⟨b, 0, none⟩) n m :=
  ⟨fun Hx K k hk => T_perm List.perm_middle (bits_word fun w hw hb => T_perm List.perm_middle.symm (hk w hw hb)), fun Hx K hk => T_perm List.perm_middle (bits_Size (T_perm List.perm_middle.symm hk))⟩
theorem Words.tail {p : Option Addr} {q : HProp} (h : Words B H p n m) : Words B (q :: H) p n m := by
  refine ⟨fun Hx K k hk => ?_, fun Hx K hk => ?_⟩
  · have := h.1 (Hx ++ [q]) K k
    simp only [List.append_assoc, List.singleton_append] at this
    exact this hk
  · have := h.2 (Hx ++ [q]) K
    simp only [List.append_assoc, List.singleton_append] at this
    exact this hk
theorem Words.nil : Words B H none 0 (fun _ => false) :=
  ⟨fun Hx K k hk => nil_word (hk 0 (by decide) fun j _ => Nat.zero_testBit j), fun Hx K hk => bits_Size_nil hk⟩

theorem bits_mix {p q : Option Addr} {na nb g : Nat} {ma mb : Nat → Bool} {op : BinOp} {f : Bool → Bool → Bool} (ha : Words B H p na ma) (hb : Words B H q nb mb) (hna : na ≤ 1048576) (hnb : nb ≤ 1048576)
    (hao : ∀ i, na ≤ i → ma i = false) (hbo : ∀ i, nb ≤ i → mb i = false)
    (hg : ∀ (H' : List HProp) (K : Value → HP) (x y : Nat), T B H' (K (.int .u64 (nbits op x y : Int))) → T B H' (callV P g #[.int .u64 (x : Int), .int .u64 (y : Int)] K))
    (hf : ∀ x y j : Nat, x < 2 ^ 64 → y < 2 ^ 64 → (nbits op x y).testBit j = f (x.testBit j) (y.testBit j)) (hff : f false false = false)
    (hk : ∀ c, T B (bset c (max na nb) (fun i => f (ma i) (mb i)) :: H) (K (.pointer (some ⟨c, 0, none⟩)))) :
    T B H (callP P f_bits_mix #[.pointer p, .pointer q, .func (.func g) #[] #[]] K) := by
  refine T_of (call_bits_mix _ _ _ _) ?_
  unfold F_bits_mix
  refine ha.2 [] _ ?_
  simp only [List.nil_append, asI_int]
  refine hb.2 [] _ ?_
  simp only [List.nil_append, asI_int]
  have hmx : (if (nb : Int) > (na : Int) then (nb : Int) else (na : Int)) = ((max na nb : Nat) : Int) := by
    rw [Nat.max_def]
    split <;> split <;> omega
  rw [hmx]
  generalize hN : max na nb = N at *
  have hNa : na ≤ N := by omega
  have hNb : nb ≤ N := by omega
  refine bits_New (n := N) (by omega) fun c => ?_
  simp only [asP_ptr, adr_some, add_mk]
  refine bset_open fun h1 rw ws dn h2 => T_ldS rfl ?_
  have hlen := h2.len
  have hout : ∀ i, N ≤ i → f (ma i) (mb i) = false := fun i hi => by rw [hao i (by omega), hbo i (by omega)]; exact hff
  refine T_loop (fun vs H' => ∃ (k : Nat) (us : List Nat), k ≤ ws.length ∧ us.length = ws.length ∧ vs = [.int .i64 (k : Int)] ∧ BRep us N (fun i => if i < 64 * k then f (ma i) (mb i) else false) ∧ cl c (bsS rw ws.length N (onceC dn)) :: cl rw (uv us).toArray :: H = H')
    (fun vs => match vs with | [.int _ i] => ws.length - i.toNat | _ => 0) ⟨0, ws, Nat.zero_le _, rfl, rfl, by simpa using h2, rfl⟩ ?_
  rintro vs H' R ⟨k, us, hkl, hul, rfl, hrep, rfl⟩ hR
  simp only [T_all, T_imp]
  intro n33 heq
  simp only [List.cons.injEq, Value.int.injEq, true_and, and_true] at heq
  subst heq
  refine T_xif (fun hc => ?_) fun hc => ?_
  rotate_left
  · have : k = ws.length := by simp at hc; omega
    subst this
    rw [← hul]
    refine bset_close h1 ?_ (hk c)
    have e : (fun i => if i < 64 * ws.length then f (ma i) (mb i) else false) = fun i => f (ma i) (mb i) := by
      funext i
      split
      · rfl
      · exact (hout i (by omega)).symm
    rw [e] at hrep
    exact hrep
  have hlt : k < ws.length := by simpa using hc
  refine T_ldS rfl (ha.1 [cl c (bsS rw ws.length N (onceC dn)), cl rw (uv us).toArray] _ k fun w hw hwb => ?_)
  simp only [asI_int, List.cons_append, List.nil_append]
  refine T_andC rfl (hb.1 [cl c (bsS rw ws.length N (onceC dn)), cl rw (uv us).toArray] _ k fun v hv hvb => ?_)
  simp only [asI_int, List.cons_append, List.nil_append]
  refine T_andC rfl (hg _ _ w v ?_)
  simp only [asI_int]
  refine T_andC rfl (T_idxSt rfl hlt (by simp; omega) rfl ?_)
  simp only [Nat.zero_add, List.setIfInBounds_toArray, uv_set]
  rw [wrap_succ (i := k) (by omega)]
  refine hR _ _ ⟨k + 1, us.set k (nbits op w v), by omega, by simp [hul], rfl, hrep.word_set (by omega) (nbits_lt _ _ _) (fun j hj => ?_) (fun i hi => ?_) (fun i hi => ?_), rfl⟩ (by simp only [Int.toNat_natCast]; omega)
  · rw [hf w v j hw hv, hwb j hj, hvb j hj, if_pos (by omega)]
  · by_cases h : i < 64 * k
    · rw [if_pos h, if_pos (by omega)]
    · rw [if_neg h, if_neg (by omega)]
  · rw [hout i hi]
    split <;> rfl

theorem or_fn (H' : List HProp) (K : Value → HP) (x y : Nat) (h : T B H' (K (.int .u64 (nbits .or x y : Int)))) : T B H' (callV P 64 #[.int .u64 (x : Int), .int .u64 (y : Int)] K) := by
  refine T_callV (by kernel_rfl) (T_of (call_bits_Orc1 _ _) ?_)
  unfold F_bits_Orc1
  rw [ibits_nat]; exact h
theorem and_fn (H' : List HProp) (K : Value → HP) (x y : Nat) (h : T B H' (K (.int .u64 (nbits .and x y : Int)))) : T B H' (callV P 65 #[.int .u64 (x : Int), .int .u64 (y : Int)] K) := by
  refine T_callV (by kernel_rfl) (T_of (call_bits_Andc1 _ _) ?_)
  unfold F_bits_Andc1
  rw [ibits_nat]; exact h
theorem less_fn (H' : List HProp) (K : Value → HP) (x y : Nat) (h : T B H' (K (.int .u64 (nbits .andNot x y : Int)))) : T B H' (callV P 66 #[.int .u64 (x : Int), .int .u64 (y : Int)] K) := by
  refine T_callV (by kernel_rfl) (T_of (call_bits_Lessc1 _ _) ?_)
  unfold F_bits_Lessc1
  rw [ibits_nat]; exact h
theorem xor_fn (H' : List HProp) (K : Value → HP) (x y : Nat) (h : T B H' (K (.int .u64 (nbits .xor x y : Int)))) : T B H' (callV P 68 #[.int .u64 (x : Int), .int .u64 (y : Int)] K) := by
  refine T_callV (by kernel_rfl) (T_of (call_bits_Samec1 _ _) ?_)
  unfold F_bits_Samec1
  rw [ibits_nat]; exact h

section
variable {p q : Option Addr} {na nb : Nat} {ma mb : Nat → Bool}
theorem bits_Or (ha : Words B H p na ma) (hb : Words B H q nb mb) (hna : na ≤ 1048576) (hnb : nb ≤ 1048576) (hao : ∀ i, na ≤ i → ma i = false) (hbo : ∀ i, nb ≤ i → mb i = false)
    (hk : ∀ c, T B (bset c (max na nb) (fun i => ma i || mb i) :: H) (K (.pointer (some ⟨c, 0, none⟩)))) : T B H (callP P f_bits_Or #[.pointer p, .pointer q] K) := by
  refine T_of (call_bits_Or _ _) ?_
  unfold F_bits_Or
  refine bits_mix (f := or) ha hb hna hnb hao hbo or_fn (fun x y j hx hy => nbits_or hx hy) rfl fun c => ?_
  simp only [asP_ptr]
  exact hk c
theorem bits_And (ha : Words B H p na ma) (hb : Words B H q nb mb) (hna : na ≤ 1048576) (hnb : nb ≤ 1048576) (hao : ∀ i, na ≤ i → ma i = false) (hbo : ∀ i, nb ≤ i → mb i = false)
    (hk : ∀ c, T B (bset c (max na nb) (fun i => ma i && mb i) :: H) (K (.pointer (some ⟨c, 0, none⟩)))) : T B H (callP P f_bits_And #[.pointer p, .pointer q] K) := by
  refine T_of (call_bits_And _ _) ?_
  unfold F_bits_And
  refine bits_mix (f := and) ha hb hna hnb hao hbo and_fn (fun x y j hx hy => nbits_and hx hy) rfl fun c => ?_
  simp only [asP_ptr]
  exact hk c
theorem bits_Less (ha : Words B H p na ma) (hb : Words B H q nb mb) (hna : na ≤ 1048576) (hnb : nb ≤ 1048576) (hao : ∀ i, na ≤ i → ma i = false) (hbo : ∀ i, nb ≤ i → mb i = false)
    (hk : ∀ c, T B (bset c (max na nb) (fun i => ma i && !mb i) :: H) (K (.pointer (some ⟨c, 0, none⟩)))) : T B H (callP P f_bits_Less #[.pointer p, .pointer q] K) := by
  refine T_of (call_bits_Less _ _) ?_
  unfold F_bits_Less
  refine bits_mix (f := fun x y => x && !y) ha hb hna hnb hao hbo less_fn (fun x y j hx hy => nbits_not hx hy) rfl fun c => ?_
  simp only [asP_ptr]
  exact hk c
theorem bits_Same (hT : Tab B) (ha : Words B H p na ma) (hb : Words B H q nb mb) (hna : na ≤ 1048576) (hnb : nb ≤ 1048576) (hao : ∀ i, na ≤ i → ma i = false) (hbo : ∀ i, nb ≤ i → mb i = false)
    (hk : ∀ r : Bool, (r = true ↔ ∀ i, ma i = mb i) → T B H (K (.bool r))) : T B H (callP P f_bits_Same #[.pointer p, .pointer q] K) := by
  refine T_of (call_bits_Same _ _) ?_
  unfold F_bits_Same
  refine bits_mix (f := xor) ha hb hna hnb hao hbo xor_fn (fun x y j hx hy => nbits_xor hx hy) rfl fun c => ?_
  simp only [asP_ptr]
  refine bits_First hT fun r hr => ?_
  simp only [asI_int]
  refine T_drop (hk _ ?_)
  rw [decide_eq_true_iff]
  rcases hr with ⟨rfl, hno⟩ | ⟨j, rfl, _, hj, _⟩
  · refine ⟨fun _ i => ?_, fun _ => by omega⟩
    have h : (ma i ^^ mb i) = false := hno i (by omega)
    generalize ma i = x at *
    generalize mb i = y at *
    revert h
    cases x <;> cases y <;> simp
  · refine ⟨fun h => by omega, fun h => ?_⟩
    have hj : (ma j ^^ mb j) = true := hj
    rw [h j] at hj
    simp at hj
end

/-- The numbers of a row, put into a new set. -/
theorem law02_made {p : Option Addr} {l c : Nat} {zs : List Int} (hr : Arg B p (iv .u8 zs)) (hl : l ≤ zs.length) (hz : ∀ z ∈ zs, 0 ≤ z ∧ z ≤ 255) (hn : n ≤ 1048576) (hl2 : l ≤ 1000000)
    (hk : ∀ b m, T B (bset b n m :: H) (K (.pointer (some ⟨b, 0, none⟩)))) : T B H (callP P f_law02_made #[.int .i64 (n : Int), .slice p l c] K) := by
  refine T_of (call_law02_made _ _ _ _) ?_
  unfold F_law02_made
  refine bits_New hn fun b => ?_
  simp only [asP_ptr]
  refine T_loop (fun vs H' => ∃ (i : Nat) (m : Nat → Bool), i ≤ l ∧ vs = [.int .i64 (i : Int)] ∧ bset b n m :: H = H')
    (fun vs => match vs with | [.int _ i] => l - i.toNat | _ => 0) ⟨0, _, Nat.zero_le _, rfl, rfl⟩ ?_
  rintro vs H' R ⟨i, m, hi, rfl, rfl⟩ hR
  simp only [T_all, T_imp]
  intro n27 heq
  simp only [List.cons.injEq, Value.int.injEq, true_and, and_true] at heq
  subst heq
  refine T_xif (fun hc => ?_) fun hc => hk b m
  have hlt : i < l := by simpa using hc
  obtain ⟨z, hzi⟩ : ∃ z, zs[i]? = some z := ⟨_, List.getElem?_eq_getElem (by omega)⟩
  refine T_argI hr rfl hlt (iv_get hzi) (bits_Put ?_)
  simp only [asB_bool]
  rw [wrap_succ (i := i) (by omega)]
  exact hR _ _ ⟨i + 1, _, by omega, rfl, rfl⟩ (by simp only [Int.toNat_natCast]; omega)

theorem ref02_has {q : Option Addr} {c : Nat} {xs : List Int} {x : Int} (hr : RdV B H q (iv .i64 xs)) (hb : xs.length ≤ 1000000) (hk : T B H (K (.bool (decide (x ∈ xs))))) :
    T B H (callP P f_ref02_has #[.slice q xs.length c, .int .i64 x] K) := by
  refine T_of (call_ref02_has _ _ _ _) ?_
  unfold F_ref02_has
  refine T_loop (fun vs H' => ∃ i : Nat, i ≤ xs.length ∧ vs = [.int .i64 (i : Int)] ∧ H = H' ∧ ∀ j : Nat, j < i → xs[j]? ≠ some x)
    (fun vs => match vs with | [.int _ i] => xs.length - i.toNat | _ => 0) ⟨0, Nat.zero_le _, rfl, rfl, fun j h => by omega⟩ ?_
  rintro vs H' R ⟨i, hi, rfl, rfl, hno⟩ hR
  simp only [T_all, T_imp]
  intro n heq
  simp only [List.cons.injEq, Value.int.injEq, true_and, and_true] at heq
  subst heq
  refine T_xif (fun hc => ?_) (fun hc => ?_)
  · have hlt : i < xs.length := by simpa using hc
    obtain ⟨z, hz⟩ : ∃ z, xs[i]? = some z := ⟨_, List.getElem?_eq_getElem hlt⟩
    refine T_rowI hr rfl hlt (iv_get hz) (T_xif (fun h => T_conv hk ?_) fun h => ?_)
    · have : z = x := by simpa using h
      subst this
      rw [decide_eq_true (List.mem_of_getElem? hz)]
    · have hzx : ¬ z = x := by simpa using h
      rw [wrap_succ (i := i) (by omega)]
      refine hR _ _ ⟨i + 1, by omega, rfl, rfl, fun j hj => ?_⟩ (by simp only [Int.toNat_natCast]; omega)
      by_cases e : j = i
      · subst e; rw [hz]; intro h; cases h; exact hzx rfl
      · exact hno j (by omega)
  · have : i = xs.length := by simp at hc; omega
    subst this
    refine T_conv hk ?_
    rw [decide_eq_false]
    intro hm
    obtain ⟨j, hj, he⟩ := List.mem_iff_getElem.1 hm
    exact hno j hj (by rw [List.getElem?_eq_getElem hj, he])

def mixB (how : Int) (a b : Bool) : Bool := how == 1 && (a || b) || how == 2 && (a && b) || how == 3 && (a && !b)

theorem ref02_Mix {p q : Option Addr} {c d : Nat} {xs ys : List Int} {how : Int} (hx : RdV B H p (iv .i64 xs)) (hy : RdV B H q (iv .i64 ys)) (hxb : xs.length ≤ 1000000) (hyb : ys.length ≤ 1000000)
    {f : Nat → Bool} (hf : ∀ i : Nat, f i = mixB how (decide ((i : Int) ∈ xs)) (decide ((i : Int) ∈ ys)))
    (hk : ∀ p' c', T B (osl 1 p' (ml f 300).length c' (iv .i64 (ml f 300)) :: H) (K (.slice p' (ml f 300).length c'))) :
    T B H (callP P f_ref02_Mix #[.slice p xs.length c, .slice q ys.length d, .int .i64 how] K) := by
  refine T_of (call_ref02_Mix _ _ _ _ _ _ _) ?_
  unfold F_ref02_Mix
  refine T_oslNil 1 (T_loop (fun vs H' => ∃ (i : Nat) (p' : Option Addr) (c' : Nat), i ≤ 300 ∧ vs = [.slice p' (ml f i).length c', .int .i64 (i : Int)] ∧ osl 1 p' (ml f i).length c' (iv .i64 (ml f i)) :: H = H')
    (fun vs => match vs with | [_, .int _ i] => 300 - i.toNat | _ => 0) ⟨0, none, 0, Nat.zero_le _, rfl, rfl⟩ ?_)
  rintro vs H' R ⟨i, p', c', hi, rfl, rfl⟩ hR
  simp only [T_all, T_imp]
  intro p23 k24 k25 n26 heq
  simp only [List.cons.injEq, Value.int.injEq, Value.slice.injEq, true_and, and_true] at heq
  obtain ⟨⟨rfl, rfl, rfl⟩, rfl⟩ := heq
  have hml := ml_len (m := f) i
  refine T_xif (fun hc => ?_) fun hc => ?_
  rotate_left
  · have : i = 300 := by simp at hc; omega
    subst this
    exact hk _ _
  have hlt : i < 300 := by simp at hc; omega
  refine ref02_has hx.tail hxb ?_
  simp only [asB_bool]
  refine ref02_has hy.tail hyb ?_
  simp only [asB_bool]
  have hfi := hf i
  generalize decide ((i : Int) ∈ xs) = b28 at *
  generalize decide ((i : Int) ∈ ys) = b30 at *
  rw [wrap_succ (i := i) (by omega)]
  have happ : mixB how b28 b30 = true → T B (osl 1 p' (ml f i).length c' (iv .i64 (ml f i)) :: H)
      (al #[.int .i64 (i : Int)] 3 fun k => appS P #[32, 32] p' (ml f i).length c' (some ⟨k, 0, none⟩) 1 1 fun p2 l2 c2 => R [.slice p2 l2 c2, .int .i64 ((i + 1 : Nat) : Int)]) := by
    intro h
    rw [← hfi] at h
    refine snoc34 (by omega) fun p2 c2 => ?_
    rw [← ml_in h]
    have hl : (ml f i).length + 1 = (ml f (i + 1)).length := by rw [ml_in h]; simp
    rw [hl]
    exact hR _ _ ⟨i + 1, p2, c2, by omega, rfl, rfl⟩ (by simp only [Int.toNat_natCast]; omega)
  have hskip : mixB how b28 b30 = false → T B (osl 1 p' (ml f i).length c' (iv .i64 (ml f i)) :: H) (R [.slice p' (ml f i).length c', .int .i64 ((i + 1 : Nat) : Int)]) := by
    intro h
    rw [← hfi] at h
    have e : ml f i = ml f (i + 1) := (ml_gap 1 fun k h3 h4 => by rw [show k = i by omega]; exact h).symm
    rw [e]
    exact hR _ _ ⟨i + 1, p', c', by omega, rfl, rfl⟩ (by simp only [Int.toNat_natCast]; omega)
  clear hfi hf hR hk
  repeat' (first | refine T_xif (fun _ => ?_) (fun _ => ?_) | refine happ ?_ | refine hskip ?_)
  all_goals
    clear happ hskip
    simp_all [mixB]

theorem SameInts_dec {p q : Option Addr} {c d : Nat} {xs ys : List Int} (hb : xs.length ≤ 10000000) (hx : RdV B H p (iv .i64 xs)) (hy : RdV B H q (iv .i64 ys)) (hk : T B H (K (.bool (decide (xs = ys))))) :
    T B H (callP P f_base_SameInts #[.slice p xs.length c, .slice q ys.length d] K) := by
  refine T_of (call_base_SameInts _ _ _ _ _ _) ?_
  unfold F_base_SameInts
  refine T_xif (fun h => T_conv hk ?_) fun h => ?_
  · rw [decide_eq_false]
    rintro rfl
    simp at h
  have hlen : xs.length = ys.length := by
    have : ((xs.length : Int) != (ys.length : Int)) = false := h
    simp at this; omega
  refine T_loop (fun vs H' => ∃ i : Nat, i ≤ xs.length ∧ vs = [.int .i64 (i : Int)] ∧ H = H' ∧ ∀ j, j < i → xs[j]? = ys[j]?)
    (fun vs => match vs with | [.int _ i] => xs.length - i.toNat | _ => 0) ⟨0, Nat.zero_le _, rfl, rfl, fun j h => by omega⟩ ?_
  rintro s H' R ⟨i, hi, rfl, rfl, heqs⟩ hR
  simp only [T_all, T_imp]
  intro n heq
  simp only [List.cons.injEq, Value.int.injEq, true_and, and_true] at heq
  subst heq
  refine T_xif (fun hc => ?_) fun hc => T_conv hk ?_
  · have hlt : i < xs.length := by simpa using hc
    obtain ⟨z, hz⟩ : ∃ z, xs[i]? = some z := ⟨_, List.getElem?_eq_getElem hlt⟩
    obtain ⟨z2, hz2⟩ : ∃ z, ys[i]? = some z := ⟨_, List.getElem?_eq_getElem (by omega)⟩
    refine T_rd_adr hx (by simp; omega) fun a ha => T_req ⟨by omega, by omega⟩ (T_rd_adr hy (by simp; omega) fun a2 ha2 => T_req ⟨by omega, by omega⟩ ?_)
    subst ha ha2
    rw [Int.toNat_natCast]
    refine T_rdI hx (iv_get hz) (T_rdI hy (iv_get hz2) (T_xif (fun h => T_conv hk ?_) fun h => ?_))
    · rw [decide_eq_false]
      rintro rfl
      rw [hz] at hz2
      cases hz2
      simp at h
    · have e : z = z2 := by
        have : (z != z2) = false := h
        simpa using this
      rw [wrap_succ (i := i) (by omega)]
      refine hR _ _ ⟨i + 1, by omega, rfl, rfl, fun j hj => ?_⟩ (by simp only [Int.toNat_natCast]; omega)
      by_cases hji : j = i
      · subst hji; rw [hz, hz2, e]
      · exact heqs j (by omega)
  · have : i = xs.length := by simp at hc; omega
    subst this
    rw [decide_eq_true]
    apply List.ext_getElem?
    intro j
    rcases Nat.lt_or_ge j xs.length with h3 | h3
    · exact heqs j h3
    · rw [List.getElem?_eq_none h3, List.getElem?_eq_none (by omega)]

end
end Go.Proofs.YtnhgcgjmmalebaaDoor
