/- The plays of the stack (layer 3): the reference's answers, the law; no condition but the arguments' forms. -/
import Derived.Test.YtnhgcgjmmalebaaDoorStackList
set_option linter.unusedVariables false
set_option linter.unusedSimpArgs false
namespace Go.Proofs.YtnhgcgjmmalebaaDoor
open Go.XS

section
variable {B : Heap} {H : List HProp} {K : Value → HP} {q : Option Addr} {l c : Nat} {xs : List Int} {x : Int}

theorem T_oslLe {s : Nat} {ys : List Value} {p : HP} (t : l ≤ c → T B (osl s q l c ys :: H) p) : T B (osl s q l c ys :: H) p := by
  intro σ o
  obtain ⟨ch, ⟨l1, l2, hp, ⟨hx, hlc, h⟩, h2⟩, hn, hc⟩ := o.own
  exact t hlc σ o

theorem ref03_Place (hr : RdV B H q (iv .i64 xs)) (hl : l = xs.length) (hb : l ≤ 1000000) (hn : xs.Nodup) (hk : T B H (K (.int .i64 (posOf xs x)))) :
    T B H (callP P f_ref03_Place #[.slice q l c, .int .i64 x] K) := by
  subst hl
  refine T_of (call_ref03_Place _ _ _ _) ?_
  unfold F_ref03_Place
  refine T_loop (fun vs H' => ∃ i : Nat, i ≤ xs.length ∧ vs = [.int .i64 (i : Int)] ∧ H = H' ∧ ∀ j : Nat, j < i → xs[j]? ≠ some x)
    (fun vs => match vs with | [.int _ i] => xs.length - i.toNat | _ => 0) ⟨0, Nat.zero_le _, rfl, rfl, fun j h => by omega⟩ ?_
  rintro vs H' R ⟨i, hi, rfl, rfl, hno⟩ hR
  simp only [T_all, T_imp]
  intro n heq
  simp only [List.cons.injEq, Value.int.injEq, true_and, and_true] at heq
  subst heq
  refine T_xif (fun hc => ?_) (fun hc => ?_)
  · have hlt : i < xs.length := by simpa using hc
    obtain ⟨z, hz⟩ : ∃ z, xs[i]? = some z := ⟨_, List.getElem?_eq_getElem hlt⟩
    refine T_rowI hr rfl hlt (iv_get hz) (T_xif (fun h => T_conv hk ?_) fun h => ?_)
    · have : z = x := by simpa using h
      subst this
      rw [pos_get hn hz]
    · have hzx : ¬ z = x := by simpa using h
      rw [wrap_succ (i := i) (by omega)]
      refine hR _ _ ⟨i + 1, by omega, rfl, rfl, fun j hj => ?_⟩ (by simp only [Int.toNat_natCast]; omega)
      by_cases e : j = i
      · subst e; rw [hz]; intro h; cases h; exact hzx rfl
      · exact hno j (by omega)
  · have : i = xs.length := by simp at hc; omega
    subst this
    refine T_conv hk ?_
    rw [pos_not]
    intro hm
    obtain ⟨j, hj, he⟩ := List.mem_iff_getElem.1 hm
    exact hno j hj (by rw [List.getElem?_eq_getElem hj, he])

theorem ref03_Push {n : Nat} (hr : RdV B H q (iv .i64 xs)) (hl : l = xs.length) (hlc : l ≤ c) (hb : l ≤ 1000000) (hn : xs.Nodup)
    (hk0 : pushOk n xs x = false → T B H (K (.tuple #[.slice q l c, .bool false])))
    (hk1 : pushOk n xs x = true → ∀ p' c', T B (osl 1 p' (l + 1) c' (iv .i64 (xs ++ [x])) :: H) (K (.tuple #[.slice p' (l + 1) c', .bool true]))) :
    T B H (callP P f_ref03_Push #[.slice q l c, .int .i64 (n : Int), .int .i64 x] K) := by
  refine T_of (call_ref03_Push _ _ _ _ _) ?_
  unfold F_ref03_Push
  refine T_join (fun vs H' => vs = [] ∧ H = H' ∧ pushOk n xs x = true) ?_ fun R hR => ?_
  · rintro vs H' ⟨rfl, rfl, hok⟩
    simp only [T_imp]
    intro _
    refine T_al fun k => T_oslOf 1 rfl (app34 (ys := iv .i64 xs) (by omega) hr.tail (by simpa using hl.symm) (iv_one _ _) fun p' c' => ?_)
    simp only [Nat.zero_add, List.nil_append]
    exact snoc34 (by omega) fun p2 c2 => hk1 hok p2 c2
  · refine T_xif (fun h => hk0 ?_) fun h => T_xif (fun h2 => hk0 ?_) fun h2 => ref03_Place hr hl hb hn ?_
    · have : x < 0 := by simpa using h
      simp [pushOk]; omega
    · have : (n : Int) ≤ x := by simpa using h2
      simp [pushOk]; omega
    simp only [asI_int]
    have hx0 : 0 ≤ x := by simpa using h
    have hxn : x < (n : Int) := by simpa using h2
    refine T_xif (fun h5 => hk0 ?_) fun h5 => hR _ _ ⟨rfl, rfl, ?_⟩
    · have : posOf xs x ≥ 0 := by simpa using h5
      simp [pushOk]; omega
    · have : ¬ posOf xs x ≥ 0 := by simpa using h5
      simp [pushOk]; omega

theorem ref03_Pop (hr : RdV B H q (iv .i64 xs)) (hl : l = xs.length) (hlc : l ≤ c) (hb : l ≤ 1000000)
    (hk : T B H (K (.tuple #[.slice q (l - 1) c, .int .i64 (xs.getLast?.getD 0), .bool (decide (0 < xs.length))]))) :
    T B H (callP P f_ref03_Pop #[.slice q l c] K) := by
  refine T_of (call_ref03_Pop _ _ _) ?_
  unfold F_ref03_Pop
  by_cases h0 : xs = []
  · subst h0
    subst hl
    exact T_xif_t rfl hk
  · have hpos : 0 < xs.length := List.length_pos_iff.2 h0
    obtain ⟨z, hz⟩ : ∃ z, xs[xs.length - 1]? = some z := ⟨_, List.getElem?_eq_getElem (by omega)⟩
    have hlast : xs.getLast?.getD 0 = z := by rw [List.getLast?_eq_getElem?, hz]; rfl
    have hw : IntKind.wrap .i64 ((l : Int) - 1) = ((xs.length - 1 : Nat) : Int) := by rw [wrap_i64 (by omega) (by omega)]; omega
    refine T_xif_f (by simp; omega) ?_
    simp only [hw, slBase_zero, Int.toNat_natCast, Nat.sub_zero]
    refine T_req ⟨by omega, by omega⟩ (T_rd_adr hr (by simp; omega) fun a ha => T_req ⟨by omega, by omega⟩ ?_)
    subst ha
    refine T_rdI hr (iv_get hz) (T_conv hk ?_)
    simp [hlast, hpos, hl]

theorem ref03_Drop (hr : RdV B H q (iv .i64 xs)) (hl : l = xs.length) (hlc : l ≤ c) (hb : l ≤ 1000000) (hn : xs.Nodup)
    (hk0 : posOf xs x < 0 → T B H (K (.tuple #[.slice q l c, .bool false])))
    (hk1 : ¬ posOf xs x < 0 → ∀ p' c', T B (osl 1 p' (l - 1) c' (iv .i64 (dropAt xs (posOf xs x).toNat)) :: H) (K (.tuple #[.slice p' (l - 1) c', .bool true]))) :
    T B H (callP P f_ref03_Drop #[.slice q l c, .int .i64 x] K) := by
  refine T_of (call_ref03_Drop _ _ _ _) ?_
  unfold F_ref03_Drop
  refine ref03_Place hr hl hb hn ?_
  simp only [asI_int]
  refine T_xif (fun h => hk0 (by simpa using h)) fun h => ?_
  have hneg : ¬ posOf xs x < 0 := by simpa using h
  have hk1 := hk1 hneg
  rcases pos_cases (xs := xs) x with ⟨at', hat, hp, hlt⟩ | ⟨_, hp⟩
  rotate_left
  · omega
  rw [hp, Int.toNat_natCast] at hk1
  rw [hp]
  have hw : IntKind.wrap .i64 ((l : Int) - 1) = ((xs.length - 1 : Nat) : Int) := by rw [wrap_i64 (by omega) (by omega)]; omega
  simp only [hw]
  refine T_oslNil 1 ?_
  refine T_loop (fun vs H' => ∃ (j : Nat) (p' : Option Addr) (c' : Nat), j ≤ xs.length - 1 ∧ vs = [.slice p' j c', .int .i64 (j : Int)] ∧ osl 1 p' j c' (iv .i64 ((dropAt xs at').take j)) :: H = H')
    (fun vs => match vs with | [_, .int _ i] => xs.length - i.toNat | _ => 0) ⟨0, none, 0, Nat.zero_le _, rfl, rfl⟩ ?_
  rintro vs H' R ⟨j, p', c', hj, rfl, rfl⟩ hR
  simp only [T_all, T_imp]
  intro p25 k26 k27 n28 heq
  simp only [List.cons.injEq, Value.int.injEq, Value.slice.injEq, true_and, and_true] at heq
  obtain ⟨⟨rfl, rfl, rfl⟩, rfl⟩ := heq
  refine T_xif (fun hc => ?_) (fun hc => ?_)
  · have hjl : j < xs.length - 1 := by simp at hc; omega
    have hget := dropAt_get hlt hjl
    rw [wrap_succ (i := j) (by omega)]
    have hgo : ∀ z, (dropAt xs at')[j]? = some z → T B (osl 1 p' j c' (iv .i64 ((dropAt xs at').take j)) :: H)
        (al #[.int .i64 z] 3 fun k => appS P #[32, 32] p' j c' (some ⟨k, 0, none⟩) 1 1 fun p2 l2 c2 => R [.slice p2 l2 c2, .int .i64 ((j + 1 : Nat) : Int)]) := by
      intro z hz
      refine snoc34 (by omega) fun p2 c2 => ?_
      rw [← take_succ_of hz]
      exact hR _ _ ⟨j + 1, p2, c2, by omega, rfl, rfl⟩ (by simp only [Int.toNat_natCast]; omega)
    refine T_xif (fun h => ?_) (fun h => ?_)
    · have e : j = at' := by simp at h; omega
      rw [if_pos e] at hget
      obtain ⟨z, hz⟩ : ∃ z, xs[xs.length - 1]? = some z := ⟨_, List.getElem?_eq_getElem (by omega)⟩
      refine T_rowI hr.tail rfl (by omega) (iv_get hz) (hgo z (hget.trans hz))
    · have e : ¬ j = at' := by simp at h; omega
      rw [if_neg e] at hget
      obtain ⟨z, hz⟩ : ∃ z, xs[j]? = some z := ⟨_, List.getElem?_eq_getElem (by omega)⟩
      refine T_rowI hr.tail rfl (by omega) (iv_get hz) (hgo z (hget.trans hz))
  · have : j = xs.length - 1 := by simp at hc; omega
    subst this
    rw [List.take_of_length_le (by rw [dropAt_len]; exact Nat.le_refl _), ← hl]
    exact hk1 _ _

end
end Go.Proofs.YtnhgcgjmmalebaaDoor
