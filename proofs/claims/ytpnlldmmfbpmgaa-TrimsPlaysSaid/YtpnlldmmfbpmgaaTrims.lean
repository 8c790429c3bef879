/- A book of trims (layer 24): what each function does, over the heap; the reference's answers; no condition but the arguments' forms. -/
import Derived.Test.YtpnlldmmfbpmgaaBase
set_option linter.unusedVariables false
set_option linter.unusedSimpArgs false
namespace Go.Proofs.Ytpnlldmmfbpmgaa
open Go.XS

theorem zc3 : zc P 3 = #[.int .i64 0] := by kernel_rfl
theorem bytes3 : P.bytesOf 3 = 8 := by kernel_rfl

/-- What one is asked for. -/
def tk (p lack : Int) : Int := if 0 > (if lack < p then lack else p) then 0 else (if lack < p then lack else p)
def spread : Int → List Int → List Int
  | _, [] => []
  | lack, p :: ps => tk p lack :: spread (lack - tk p lack) ps
/-- What is lacking yet, behind the first i. -/
def rest : Int → List Int → Nat → Int
  | lack, [], _ => lack
  | lack, _, 0 => lack
  | lack, p :: ps, i + 1 => rest (lack - tk p lack) ps i

theorem tk_bounds (p lack : Int) : 0 ≤ tk p lack ∧ (0 ≤ lack → tk p lack ≤ lack) ∧ (lack ≤ 0 → tk p lack = 0) := by
  unfold tk
  refine ⟨?_, fun h => ?_, fun h => ?_⟩ <;> split <;> split <;> omega
theorem spread_len : ∀ (lack : Int) (xs : List Int), (spread lack xs).length = xs.length
  | _, [] => rfl
  | lack, p :: ps => by simp [spread, spread_len]
theorem rest_zero (lack : Int) (xs : List Int) : rest lack xs 0 = lack := by cases xs <;> rfl
theorem spread_get : ∀ (lack : Int) (xs : List Int) (i : Nat) (x : Int), xs[i]? = some x → (spread lack xs)[i]? = some (tk x (rest lack xs i)) ∧ rest lack xs (i + 1) = rest lack xs i - tk x (rest lack xs i)
  | _, [], i, x, h => by simp at h
  | lack, p :: ps, 0, x, h => by
    simp at h; subst h
    exact ⟨rfl, rest_zero _ _⟩
  | lack, p :: ps, i + 1, x, h => spread_get (lack - tk p lack) ps i x (by simpa using h)
theorem rest_bounds : ∀ (lack : Int) (xs : List Int) (i : Nat), rest lack xs i ≤ lack ∧ (0 ≤ lack → 0 ≤ rest lack xs i) ∧ (lack ≤ 0 → rest lack xs i = lack)
  | lack, [], i => by simp [rest]
  | lack, p :: ps, 0 => by simp [rest]
  | lack, p :: ps, i + 1 => by
    obtain ⟨h1, h2, h3⟩ := tk_bounds p lack
    obtain ⟨h4, h5, h6⟩ := rest_bounds (lack - tk p lack) ps i
    simp only [rest]
    refine ⟨by omega, fun h => h5 (by have := h2 h; omega), fun h => ?_⟩
    have := h3 h
    rw [h6 (by omega)]; omega
theorem spread_max : ∀ (lack : Int) (xs : List Int), spread (if 0 > lack then 0 else lack) xs = spread lack xs
  | lack, [] => rfl
  | lack, p :: ps => by
    by_cases h : 0 > lack
    · rw [if_pos h]
      have h1 := (tk_bounds p 0).2.2 (by omega)
      have h2 := (tk_bounds p lack).2.2 (by omega)
      simp only [spread, h1, h2]
      have := spread_max lack ps
      rw [if_pos h] at this
      simpa using this
    · rw [if_neg h]

/-- A book in block b, in which these are asked. -/
def bk (b : Nat) (xs : List Int) : HProp := exP fun w : Nat => packP [cl b #[.slice (some ⟨w, 0, none⟩) xs.length xs.length], cl w (iv .i64 xs).toArray]

section
variable {B : Heap} {H : List HProp} {K : Value → HP} {b : Nat} {xs ys : List Int} {lack : Int} {q : Option Addr} {l c : Nat}

theorem bk_open {p : HP} (t : ∀ w, T B (cl b #[.slice (some ⟨w, 0, none⟩) xs.length xs.length] :: cl w (iv .i64 xs).toArray :: H) p) : T B (bk b xs :: H) p :=
  T_unex fun w => T_unpack (t w)
theorem bk_close {p : HP} (w : Nat) (t : T B (bk b xs :: H) p) : T B (cl b #[.slice (some ⟨w, 0, none⟩) xs.length xs.length] :: cl w (iv .i64 xs).toArray :: H) p :=
  T_topack (Hs := [cl b #[.slice (some ⟨w, 0, none⟩) xs.length xs.length], cl w (iv .i64 xs).toArray]) (T_toex (q := fun w => packP [cl b #[.slice (some ⟨w, 0, none⟩) xs.length xs.length], cl w (iv .i64 xs).toArray]) w t)

theorem trims_New_none {m : Int} (hm : m < 0 ∨ 64 < m) (hk : T B H (K (.pointer none))) : T B H (callP P f_trims_New #[.int .i64 m] K) := by
  refine T_of (call_trims_New _) ?_
  unfold F_trims_New
  refine T_xif (fun _ => hk) fun h => T_xif_t ?_ hk
  simp at h ⊢; omega

theorem iv_zeros (n : Nat) : (List.replicate n (Value.int .i64 0)) = iv .i64 (List.replicate n 0) := by simp [iv]

theorem trims_New {n : Nat} (h1 : n ≤ 64) (hk : ∀ b, T B (bk b (List.replicate n 0) :: H) (K (.pointer (some ⟨b, 0, none⟩)))) : T B H (callP P f_trims_New #[.int .i64 (n : Int)] K) := by
  refine T_of (call_trims_New _) ?_
  unfold F_trims_New
  refine T_xif_f (by simp) (T_xif_f (by simp; omega) (T_mkSl (by omega) (by omega) (by omega) (by rw [bytes3]; omega) (by kernel_rfl) (by kernel_rfl) fun w => T_al fun b => ?_))
  rw [cells3, zc3, reps_one, Nat.mul_one, Int.toNat_natCast, iv_zeros]
  have := bk_close w (hk b)
  rw [List.length_replicate] at this
  exact this

theorem take1 {k : Nat} {p : Int} (hlo : -9223372036854775808 ≤ lack) (hhi : lack ≤ 9223372036854775807) (hk : T B (cl k #[.int .i64 (lack - tk p lack)] :: H) (K (.int .i64 (tk p lack)))) :
    T B (cl k #[.int .i64 lack] :: H) (callP P f_trims_Spreadc1 #[.int .i64 p, .pointer (some ⟨k, 0, none⟩)] K) := by
  refine T_of (call_trims_Spreadc1 _ _) ?_
  unfold F_trims_Spreadc1
  simp only [adr_some]
  refine T_ldI rfl (T_ldI rfl (T_st (by simp) rfl ?_))
  show T B (cl k #[.int .i64 (IntKind.wrap .i64 (lack - tk p lack))] :: H) (K (.int .i64 (tk p lack)))
  obtain ⟨h1, h2, h3⟩ := tk_bounds p lack
  rw [wrap_i64 (by omega) (by omega)]
  exact hk

theorem trims_Spread (hr : RdV B H q (iv .i64 xs)) (hl : l = xs.length) (hb : l ≤ 10000) (hlo : -9223372036854775808 ≤ lack) (hhi : lack ≤ 9223372036854775807)
    (hk : ∀ k, T B (cl k (iv .i64 (spread lack xs)).toArray :: H) (K (.slice (some ⟨k, 0, none⟩) l l))) : T B H (callP P f_trims_Spread #[.int .i64 lack, .slice q l c] K) := by
  subst hl
  refine T_of (call_trims_Spread _ _ _ _) ?_
  unfold F_trims_Spread
  refine T_al fun k0 => T_mkSl (by omega) (by omega) (by omega) (by rw [bytes3]; omega) (by kernel_rfl) (by kernel_rfl) fun k1 => ?_
  rw [cells3, zc3, reps_one, Nat.mul_one, Int.toNat_natCast]
  refine T_loop (fun vs H' => ∃ i : Nat, i ≤ xs.length ∧ vs = [.int .i64 (i : Int)] ∧ H' = cl k1 ((iv .i64 (spread lack xs)).take i ++ List.replicate (xs.length - i) (Value.int .i64 0)).toArray :: cl k0 #[.int .i64 (rest lack xs i)] :: H)
    (fun vs => match vs with | [.int _ i] => xs.length - i.toNat | _ => 0) ⟨0, Nat.zero_le _, rfl, by simp [rest_zero]⟩ ?_
  rintro vs H' R ⟨i, hi, rfl, rfl⟩ hR
  simp only [T_all, T_imp]
  intro n heq
  simp only [List.cons.injEq, Value.int.injEq, true_and, and_true] at heq
  subst heq
  refine T_xif (fun hc => ?_) (fun hc => ?_)
  · have hlt : i < xs.length := by simpa using hc
    obtain ⟨z, hz⟩ : ∃ z, xs[i]? = some z := ⟨_, List.getElem?_eq_getElem hlt⟩
    obtain ⟨hg, hn⟩ := spread_get lack xs i z hz
    obtain ⟨hb1, hb2, hb3⟩ := rest_bounds lack xs i
    refine T_rowI hr.tail.tail rfl hlt (iv_get hz) (T_perm (List.Perm.swap _ _ _) (take1 (by omega) (by omega) ?_))
    simp only [asI_int, add_mk, Int.toNat_natCast]
    refine T_req ⟨by omega, by omega⟩ (T_st (by simp [spread_len]; omega) rfl (T_perm (List.Perm.swap _ _ _) ?_))
    rw [wrap_succ (i := i) (by omega)]
    refine hR _ _ ⟨i + 1, by omega, rfl, ?_⟩ (by simp only [Int.toNat_natCast]; omega)
    simp only [Nat.zero_add, List.setIfInBounds_toArray]
    rw [set_take (by simp [spread_len]) hlt (iv_get hg), hn]
  · have : i = xs.length := by simp at hc; omega
    subst this
    rw [List.take_of_length_le (by simp [spread_len]), Nat.sub_self, List.replicate_zero, List.append_nil]
    exact T_perm (List.Perm.swap _ _ _) (T_drop (hk k1))

theorem trims_Ask_nil {x : Int} (hk : T B H (K (.int .i64 16))) : T B H (callP P f_trims_Book_Ask #[.pointer none, .int .i64 x, .slice q l c] K) := by
  refine T_of (call_trims_Book_Ask _ _ _ _ _) ?_
  unfold F_trims_Book_Ask
  refine T_join (fun _ _ => False) (fun _ _ h => h.elim) fun R hR => T_join (fun vs H' => vs = [.bool true] ∧ H = H') ?_ fun R2 hR2 => T_xif_t rfl (hR2 _ _ ⟨rfl, rfl⟩)
  rintro vs H' ⟨rfl, rfl⟩
  simp only [T_all, T_imp]
  intro b heq
  simp only [List.cons.injEq, Value.bool.injEq, and_true] at heq
  subst heq
  exact T_xif_t rfl hk

theorem trims_Ask_zero {x : Int} {z : Nat} (hk : T B (cl z #[.slice none 0 0] :: H) (K (.int .i64 16))) : T B (cl z #[.slice none 0 0] :: H) (callP P f_trims_Book_Ask #[.pointer (some ⟨z, 0, none⟩), .int .i64 x, .slice q l c] K) := by
  refine T_of (call_trims_Book_Ask _ _ _ _ _) ?_
  unfold F_trims_Book_Ask
  refine T_join (fun _ _ => False) (fun _ _ h => h.elim) fun R hR => T_join (fun vs H' => vs = [.bool true] ∧ cl z #[.slice none 0 0] :: H = H') ?_ fun R2 hR2 => T_xif_f rfl ?_
  · rintro vs H' ⟨rfl, rfl⟩
    simp only [T_all, T_imp]
    intro b heq
    simp only [List.cons.injEq, Value.bool.injEq, and_true] at heq
    subst heq
    exact T_xif_t rfl hk
  · simp only [adr_some, add_mk]
    exact T_ldS rfl (hR2 _ _ ⟨rfl, rfl⟩)

/-- What a book is asked for behind a call of Ask. -/
def asked (xs : List Int) (lack : Int) (ys : List Int) : List Int := if ys.length ≤ xs.length then spread lack ys ++ List.replicate (xs.length - ys.length) 0 else xs

theorem trims_Ask (hr : RdV B H q (iv .i64 ys)) (hl : l = ys.length) (hb : xs.length ≤ 64) (hlo : -9223372036854775808 ≤ lack) (hhi : lack ≤ 9223372036854775807)
    (hk : T B (bk b (asked xs lack ys) :: H) (K (.int .i64 (if ys.length ≤ xs.length then 0 else 2)))) :
    T B (bk b xs :: H) (callP P f_trims_Book_Ask #[.pointer (some ⟨b, 0, none⟩), .int .i64 lack, .slice q l c] K) := by
  subst hl
  refine bk_open fun w => ?_
  refine T_of (call_trims_Book_Ask _ _ _ _ _) ?_
  unfold F_trims_Book_Ask
  simp only [adr_some, add_mk]
  refine T_join (fun vs H' => vs = [] ∧ cl b #[.slice (some ⟨w, 0, none⟩) xs.length xs.length] :: cl w (iv .i64 xs).toArray :: H = H' ∧ ys.length ≤ xs.length) ?_ fun R hR =>
    T_join (fun vs H' => vs = [.bool false] ∧ cl b #[.slice (some ⟨w, 0, none⟩) xs.length xs.length] :: cl w (iv .i64 xs).toArray :: H = H') ?_ fun R2 hR2 => T_xif_f rfl (T_ldS rfl (hR2 _ _ ⟨rfl, rfl⟩))
  rotate_left
  · rintro vs H' ⟨rfl, rfl⟩
    simp only [T_all, T_imp]
    intro b heq
    simp only [List.cons.injEq, Value.bool.injEq, and_true] at heq
    subst heq
    refine T_xif_f rfl (T_ldS rfl (T_xif (fun h => ?_) fun h => hR _ _ ⟨rfl, rfl, by simp at h; omega⟩))
    have h : ¬ ys.length ≤ xs.length := by simp at h; omega
    rw [asked, if_neg h, if_neg h] at hk
    exact bk_close w hk
  rintro vs H' ⟨rfl, rfl, hle⟩
  rw [asked, if_pos hle, if_pos hle] at hk
  simp only [T_imp]
  intro _
  refine T_ldS rfl (T_clear (b := w) (o := 0) (cs := (iv .i64 xs).toArray) (H' := fun ds => cl b #[.slice (some ⟨w, 0, none⟩) xs.length xs.length] :: cl w ds :: H) (t0 := 34) (elem := 3) (s := 1) rfl (by kernel_rfl) (by kernel_rfl) (by rw [zc3]; rfl) ?_ (by simp) (T_and rfl (T_ldS rfl ?_)))
  · rw [zc3, zeros_one]
    intro v hv
    rw [List.eq_of_mem_replicate hv]
    rfl
  rw [zc3, zeros_one, setCells_at _ _ _ (by simp), List.take_zero, List.nil_append, List.drop_of_length_le (by simp), List.append_nil]
  refine trims_Spread hr.tail.tail rfl (by omega) hlo hhi fun k => ?_
  simp only [asS_slice]
  refine T_andC rfl (T_copy (b := w) (o := 0) (H' := fun ds => cl k (iv .i64 (spread lack ys)).toArray :: cl b #[.slice (some ⟨w, 0, none⟩) xs.length xs.length] :: cl w ds :: H) (s := 1) (t0 := 34) (elem := 3) (ys := iv .i64 (spread lack ys)) rfl (by kernel_rfl) (by kernel_rfl) (by kernel_rfl)
    (rd_cl rfl) ?_ (iv_one _ _) ?_ ?_)
  · have : Nat.min ys.length xs.length = ys.length := Nat.min_eq_left hle
    rw [this]; simp [spread_len]
  · have : Nat.min ys.length xs.length = ys.length := Nat.min_eq_left hle
    rw [this]; simp; omega
  simp only [asI_int]
  rw [setCells_at _ _ _ (by simp [spread_len]; omega)]
  refine T_drop ?_
  have e : List.take 0 (List.replicate xs.length (Value.int .i64 0)) ++ (iv .i64 (spread lack ys) ++ List.drop (0 + (iv .i64 (spread lack ys)).length) (List.replicate xs.length (Value.int .i64 0))) =
      iv .i64 (spread lack ys ++ List.replicate (xs.length - ys.length) 0) := by
    simp [iv, spread_len]
  rw [e]
  have := bk_close w hk
  have hlen : (spread lack ys ++ List.replicate (xs.length - ys.length) (0 : Int)).length = xs.length := by simp [spread_len]; omega
  rw [hlen] at this
  exact this

/-- What one is asked for behind a payment. -/
def paid (x n : Int) : Int := if 0 > x - n then 0 else x - n

theorem trims_Paid_nil {x y : Int} (hk : T B H (K (.int .i64 16))) : T B H (callP P f_trims_Book_Paid #[.pointer none, .int .i64 x, .int .i64 y] K) := by
  refine T_of (call_trims_Book_Paid _ _ _) ?_
  unfold F_trims_Book_Paid
  refine T_join (fun _ _ => False) (fun _ _ h => h.elim) fun R hR => T_join (fun vs H' => vs = [.bool true] ∧ H = H') ?_ fun R2 hR2 => T_xif_t rfl (hR2 _ _ ⟨rfl, rfl⟩)
  rintro vs H' ⟨rfl, rfl⟩
  simp only [T_all, T_imp]
  intro b heq
  simp only [List.cons.injEq, Value.bool.injEq, and_true] at heq
  subst heq
  exact T_xif_t rfl hk

theorem trims_Paid_zero {x y : Int} {z : Nat} (hk : T B (cl z #[.slice none 0 0] :: H) (K (.int .i64 16))) : T B (cl z #[.slice none 0 0] :: H) (callP P f_trims_Book_Paid #[.pointer (some ⟨z, 0, none⟩), .int .i64 x, .int .i64 y] K) := by
  refine T_of (call_trims_Book_Paid _ _ _) ?_
  unfold F_trims_Book_Paid
  refine T_join (fun _ _ => False) (fun _ _ h => h.elim) fun R hR => T_join (fun vs H' => vs = [.bool true] ∧ cl z #[.slice none 0 0] :: H = H') ?_ fun R2 hR2 => T_xif_f rfl ?_
  · rintro vs H' ⟨rfl, rfl⟩
    simp only [T_all, T_imp]
    intro b heq
    simp only [List.cons.injEq, Value.bool.injEq, and_true] at heq
    subst heq
    exact T_xif_t rfl hk
  · simp only [adr_some, add_mk]
    exact T_ldS rfl (hR2 _ _ ⟨rfl, rfl⟩)

def payOk (xs : List Int) (i n : Int) : Prop := 0 ≤ i ∧ i < (xs.length : Int) ∧ 0 ≤ n
instance (xs : List Int) (i n : Int) : Decidable (payOk xs i n) := by unfold payOk; exact inferInstance

theorem trims_Paid_bad {i n : Int} (hb : ¬ payOk xs i n) (hk : T B (bk b xs :: H) (K (.int .i64 2))) : T B (bk b xs :: H) (callP P f_trims_Book_Paid #[.pointer (some ⟨b, 0, none⟩), .int .i64 i, .int .i64 n] K) := by
  refine bk_open fun w => ?_
  have hk := bk_close w hk
  refine T_of (call_trims_Book_Paid _ _ _) ?_
  unfold F_trims_Book_Paid
  simp only [adr_some, add_mk]
  refine T_join (fun _ _ => False) (fun _ _ h => h.elim) fun R hR => T_join (fun vs H' => vs = [.bool false] ∧ cl b #[.slice (some ⟨w, 0, none⟩) xs.length xs.length] :: cl w (iv .i64 xs).toArray :: H = H') ?_ fun R2 hR2 => T_xif_f rfl (T_ldS rfl (hR2 _ _ ⟨rfl, rfl⟩))
  rintro vs H' ⟨rfl, rfl⟩
  simp only [T_all, T_imp]
  intro b heq
  simp only [List.cons.injEq, Value.bool.injEq, and_true] at heq
  subst heq
  refine T_xif_f rfl (T_xif (fun _ => hk) fun h1 => T_ldS rfl (T_xif (fun _ => hk) fun h2 => T_xif_t ?_ hk))
  simp [payOk] at h1 h2 hb ⊢
  exact hb (by omega) (by omega)

theorem trims_Paid {i : Nat} {n x : Int} (hx : xs[i]? = some x) (hn : 0 ≤ n) (hn2 : n ≤ 9223372036854775807) (h0 : 0 ≤ x) (h1 : x ≤ 9223372036854775807) (hk : T B (bk b (xs.set i (paid x n)) :: H) (K (.int .i64 0))) :
    T B (bk b xs :: H) (callP P f_trims_Book_Paid #[.pointer (some ⟨b, 0, none⟩), .int .i64 (i : Int), .int .i64 n] K) := by
  have hi : i < xs.length := (List.getElem?_eq_some_iff.1 hx).1
  refine bk_open fun w => ?_
  have hk := bk_close w hk
  refine T_of (call_trims_Book_Paid _ _ _) ?_
  unfold F_trims_Book_Paid
  simp only [adr_some, add_mk]
  refine T_join (fun vs H' => vs = [] ∧ cl b #[.slice (some ⟨w, 0, none⟩) xs.length xs.length] :: cl w (iv .i64 xs).toArray :: H = H') ?_ fun R hR => T_join (fun vs H' => vs = [.bool false] ∧ cl b #[.slice (some ⟨w, 0, none⟩) xs.length xs.length] :: cl w (iv .i64 xs).toArray :: H = H') ?_ fun R2 hR2 => T_xif_f rfl (T_ldS rfl (hR2 _ _ ⟨rfl, rfl⟩))
  · rintro vs H' ⟨rfl, rfl⟩
    simp only [T_imp]
    intro _
    refine T_ldS rfl (T_ldS rfl (T_idxI rfl hi (by rw [List.getElem?_toArray, Nat.zero_add]; exact iv_get hx) (T_idxSt rfl hi (by simp; omega) rfl ?_)))
    rw [wrap_i64 (n := x - n) (by omega) (by omega)]
    simp only [Nat.zero_add, List.setIfInBounds_toArray]
    have e : (iv .i64 xs).set i (Value.int .i64 (if 0 > x - n then 0 else x - n)) = iv .i64 (xs.set i (paid x n)) := by simp [iv, paid, List.map_set]
    rw [e]
    simpa using hk
  · rintro vs H' ⟨rfl, rfl⟩
    simp only [T_all, T_imp]
    intro b heq
    simp only [List.cons.injEq, Value.bool.injEq, and_true] at heq
    subst heq
    exact T_xif_f rfl (T_xif_f (by simp) (T_ldS rfl (T_xif_f (by simp; omega) (T_xif_f (by simp; omega) (hR _ _ ⟨rfl, rfl⟩)))))

/-- What client i is asked for. -/
def wantOf (xs : List Int) (i : Int) : Int := if 0 ≤ i then xs.getD i.toNat 0 else 0

theorem trims_Want_nil {i : Int} (hk : T B H (K (.int .i64 0))) : T B H (callP P f_trims_Book_Want #[.pointer none, .int .i64 i] K) := by
  refine T_of (call_trims_Book_Want _ _) ?_
  unfold F_trims_Book_Want
  exact T_join (fun _ _ => False) (fun _ _ h => h.elim) fun R hR => T_xif_t rfl hk

theorem trims_Want_zero {z : Nat} {i : Int} (hk : T B (cl z #[.slice none 0 0] :: H) (K (.int .i64 0))) : T B (cl z #[.slice none 0 0] :: H) (callP P f_trims_Book_Want #[.pointer (some ⟨z, 0, none⟩), .int .i64 i] K) := by
  refine T_of (call_trims_Book_Want _ _) ?_
  unfold F_trims_Book_Want
  simp only [adr_some, add_mk]
  exact T_join (fun _ _ => False) (fun _ _ h => h.elim) fun R hR => T_xif_f rfl (T_xif (fun _ => hk) fun h => T_ldS rfl (T_xif_t (by simp at h ⊢; omega) hk))

theorem trims_Want {i : Int} (hk : T B (bk b xs :: H) (K (.int .i64 (wantOf xs i)))) : T B (bk b xs :: H) (callP P f_trims_Book_Want #[.pointer (some ⟨b, 0, none⟩), .int .i64 i] K) := by
  refine bk_open fun w => ?_
  have hk := bk_close w hk
  refine T_of (call_trims_Book_Want _ _) ?_
  unfold F_trims_Book_Want
  simp only [adr_some, add_mk]
  refine T_join (fun vs H' => vs = [] ∧ cl b #[.slice (some ⟨w, 0, none⟩) xs.length xs.length] :: cl w (iv .i64 xs).toArray :: H = H' ∧ 0 ≤ i ∧ i < (xs.length : Int)) ?_ fun R hR => T_xif_f rfl (T_xif (fun h => T_conv hk ?_) fun h => T_ldS rfl (T_xif (fun h2 => T_conv hk ?_) fun h2 => hR _ _ ⟨rfl, rfl, ?_, ?_⟩))
  · rintro vs H' ⟨rfl, rfl, h0, h1⟩
    simp only [T_imp]
    intro _
    obtain ⟨j, rfl⟩ : ∃ j : Nat, i = (j : Int) := ⟨i.toNat, by omega⟩
    obtain ⟨z, hz⟩ : ∃ z, xs[j]? = some z := ⟨_, List.getElem?_eq_getElem (by omega)⟩
    refine T_ldS rfl (T_idxI rfl (by omega) (by rw [List.getElem?_toArray, Nat.zero_add]; exact iv_get hz) (T_conv hk ?_))
    simp [wantOf, List.getD, hz]
  · have : ¬ 0 ≤ i := by simp at h; omega
    rw [wantOf, if_neg this]
  · have : (xs.length : Int) ≤ i := by simpa using h2
    rw [wantOf, if_pos (by omega), List.getD, List.getElem?_eq_none (by omega)]
    rfl
  · simp at h; omega
  · simp at h2; omega

theorem trims_All_nil (hk : T B H (K (.slice none 0 0))) : T B H (callP P f_trims_Book_All #[.pointer none] K) := by
  refine T_of (call_trims_Book_All _) ?_
  unfold F_trims_Book_All
  exact T_xif_t rfl hk

theorem trims_All_zero {z : Nat} (hk : T B (cl z #[.slice none 0 0] :: H) (K (.slice none 0 0))) : T B (cl z #[.slice none 0 0] :: H) (callP P f_trims_Book_All #[.pointer (some ⟨z, 0, none⟩)] K) := by
  refine T_of (call_trims_Book_All _) ?_
  unfold F_trims_Book_All
  simp only [adr_some, add_mk]
  refine T_xif_f rfl (T_ldS rfl (clone_nil ?_))
  simp only [asS_slice]
  exact hk

theorem trims_All (hb : xs.length ≤ 1000) (hk : ∀ p' c', T B (osl 1 p' xs.length c' (iv .i64 xs) :: bk b xs :: H) (K (.slice p' xs.length c'))) : T B (bk b xs :: H) (callP P f_trims_Book_All #[.pointer (some ⟨b, 0, none⟩)] K) := by
  refine bk_open fun w => ?_
  refine T_of (call_trims_Book_All _) ?_
  unfold F_trims_Book_All
  simp only [adr_some, add_mk]
  refine T_xif_f rfl (T_ldS rfl (clone_int rfl (by omega) (RdV.tail (rd_cl rfl)) fun p' c' => ?_))
  simp only [asS_slice]
  refine T_perm (.trans (.swap _ _ _) (.cons _ (.swap _ _ _))) ?_
  exact bk_close w (T_perm (List.Perm.swap _ _ _) (hk p' c'))

/-- All together, as the machine adds. -/
def wsum (xs : List Int) : Int := xs.foldl (fun s x => IntKind.wrap .i64 (s + x)) 0
theorem wsum_snoc (xs : List Int) (x : Int) : wsum (xs ++ [x]) = IntKind.wrap .i64 (wsum xs + x) := by simp [wsum]

theorem trims_Total_nil (hk : T B H (K (.int .i64 0))) : T B H (callP P f_trims_Book_Total #[.pointer none] K) := by
  refine T_of (call_trims_Book_Total _) ?_
  unfold F_trims_Book_Total
  exact T_xif_f rfl hk

theorem trims_Total_zero {z : Nat} (hk : T B (cl z #[.slice none 0 0] :: H) (K (.int .i64 0))) : T B (cl z #[.slice none 0 0] :: H) (callP P f_trims_Book_Total #[.pointer (some ⟨z, 0, none⟩)] K) := by
  refine T_of (call_trims_Book_Total _) ?_
  unfold F_trims_Book_Total
  simp only [adr_some, add_mk]
  refine T_xif_t rfl (T_ldS rfl (T_loop (fun vs H' => vs = [.int .i64 0, .int .i64 0] ∧ cl z #[.slice none 0 0] :: H = H') (fun _ => 0) ⟨rfl, rfl⟩ ?_))
  rintro vs H' R ⟨rfl, rfl⟩ hR
  simp only [T_all, T_imp]
  intro n1 n2 heq
  simp only [List.cons.injEq, Value.int.injEq, true_and, and_true] at heq
  obtain ⟨rfl, rfl⟩ := heq
  exact T_xif_f (by simp) hk

theorem trims_Total (hb : xs.length ≤ 1000) (hk : T B (bk b xs :: H) (K (.int .i64 (wsum xs)))) : T B (bk b xs :: H) (callP P f_trims_Book_Total #[.pointer (some ⟨b, 0, none⟩)] K) := by
  refine bk_open fun w => ?_
  have hk := bk_close w hk
  refine T_of (call_trims_Book_Total _) ?_
  unfold F_trims_Book_Total
  simp only [adr_some, add_mk]
  refine T_xif_t rfl (T_ldS rfl (T_loop (fun vs H' => ∃ i : Nat, i ≤ xs.length ∧ vs = [.int .i64 (wsum (xs.take i)), .int .i64 (i : Int)] ∧ cl b #[.slice (some ⟨w, 0, none⟩) xs.length xs.length] :: cl w (iv .i64 xs).toArray :: H = H')
    (fun vs => match vs with | [_, .int _ i] => xs.length - i.toNat | _ => 0) ⟨0, Nat.zero_le _, rfl, rfl⟩ ?_))
  rintro vs H' R ⟨i, hi, rfl, rfl⟩ hR
  simp only [T_all, T_imp]
  intro n1 n2 heq
  simp only [List.cons.injEq, Value.int.injEq, true_and, and_true] at heq
  obtain ⟨rfl, rfl⟩ := heq
  refine T_xif (fun hc => ?_) (fun hc => ?_)
  · have hlt : i < xs.length := by simpa using hc
    obtain ⟨z, hz⟩ : ∃ z, xs[i]? = some z := ⟨_, List.getElem?_eq_getElem hlt⟩
    refine T_idxI rfl hlt (by rw [List.getElem?_toArray, Nat.zero_add]; exact iv_get hz) ?_
    rw [wrap_succ (i := i) (by omega), ← wsum_snoc, ← take_succ_of hz]
    exact hR _ _ ⟨i + 1, by omega, rfl, rfl⟩ (by simp only [Int.toNat_natCast]; omega)
  · have : i = xs.length := by simp at hc; omega
    subst this
    rw [List.take_of_length_le (Nat.le_refl _)]
    exact hk

theorem ref24_Paid {x n : Int} (hn : 0 ≤ n) (hn2 : n ≤ 9223372036854775807) (h0 : 0 ≤ x) (h1 : x ≤ 9223372036854775807) (hk : T B H (K (.int .i64 (paid x n)))) : T B H (callP P f_ref24_Paid #[.int .i64 x, .int .i64 n] K) := by
  refine T_of (call_ref24_Paid _ _) ?_
  unfold F_ref24_Paid
  rw [wrap_i64 (n := x - n) (by omega) (by omega)]
  refine T_xif (fun h => T_conv hk ?_) fun h => T_conv hk ?_
  · rw [paid, if_pos (by simp at h; omega)]
  · rw [paid, if_neg (by simp at h; omega)]

theorem ref24_Spread (hr : RdV B H q (iv .i64 xs)) (hl : l = xs.length) (hb : l ≤ 10000) (hlo : -9223372036854775808 ≤ lack) (hhi : lack ≤ 9223372036854775807)
    (hk : ∀ p' c', T B (osl 1 p' l c' (iv .i64 (spread lack xs)) :: H) (K (.slice p' l c'))) : T B H (callP P f_ref24_Spread #[.int .i64 lack, .slice q l c] K) := by
  subst hl
  refine T_of (call_ref24_Spread _ _ _ _) ?_
  unfold F_ref24_Spread
  rw [← spread_max] at hk
  have hz0 : 0 ≤ (if 0 > lack then 0 else lack) := by split <;> omega
  have hz1 : (if 0 > lack then 0 else lack) ≤ 9223372036854775807 := by split <;> omega
  revert hz0 hz1 hk
  generalize (if 0 > lack then 0 else lack) = left
  intro hk hz0 hz1
  refine T_oslNil 1 (T_loop (fun vs H' => ∃ (i : Nat) (p' : Option Addr) (c' : Nat), i ≤ xs.length ∧ vs = [.int .i64 (rest left xs i), .slice p' i c', .int .i64 (i : Int)] ∧ osl 1 p' i c' (iv .i64 ((spread left xs).take i)) :: H = H')
    (fun vs => match vs with | [_, _, .int _ i] => xs.length - i.toNat | _ => 0) ⟨0, none, 0, Nat.zero_le _, by rw [rest_zero]; rfl, rfl⟩ ?_)
  rintro vs H' R ⟨i, p', c', hi, rfl, rfl⟩ hR
  simp only [T_all, T_imp]
  intro n23 p24 k25 k26 n27 heq
  simp only [List.cons.injEq, Value.int.injEq, Value.slice.injEq, true_and, and_true] at heq
  obtain ⟨rfl, ⟨rfl, rfl, rfl⟩, rfl⟩ := heq
  refine T_xif (fun hc => ?_) (fun hc => ?_)
  · have hlt : i < xs.length := by simpa using hc
    obtain ⟨z, hz⟩ : ∃ z, xs[i]? = some z := ⟨_, List.getElem?_eq_getElem hlt⟩
    obtain ⟨hg, hn⟩ := spread_get left xs i z hz
    obtain ⟨hb1, hb2, hb3⟩ := rest_bounds left xs i
    have hb2 := hb2 hz0
    refine T_rowI hr.tail rfl hlt (iv_get hz) ?_
    have hcont : T B (osl 1 p' i c' (iv .i64 ((spread left xs).take i)) :: H) (al #[.int .i64 (tk z (rest left xs i))] 3 fun k => appS P #[34, 34] p' i c' (some ⟨k, 0, none⟩) 1 1 fun p2 l2 c2 =>
        R [.int .i64 (IntKind.wrap .i64 (rest left xs i - tk z (rest left xs i))), .slice p2 l2 c2, .int .i64 (IntKind.wrap .i64 ((i : Int) + 1))]) := by
      obtain ⟨h1, h2, h3⟩ := tk_bounds z (rest left xs i)
      rw [wrap_succ (i := i) (by omega), wrap_i64 (n := _ - _) (by omega) (by omega), ← hn]
      refine snoc34 (by omega) fun p2 c2 => ?_
      rw [← take_succ_of hg]
      exact hR _ _ ⟨i + 1, p2, c2, by omega, rfl, rfl⟩ (by simp only [Int.toNat_natCast]; omega)
    let m : Int := if z < 0 then 0 else z
    have key : tk z (rest left xs i) = if m > rest left xs i then rest left xs i else m := by
      simp only [tk, m]
      repeat' split
      all_goals omega
    refine T_join (fun vs H' => vs = [.int .i64 m] ∧ osl 1 p' i c' (iv .i64 ((spread left xs).take i)) :: H = H') ?_ fun R2 hR2 => T_xif (fun h => hR2 _ _ ⟨?_, rfl⟩) fun h => hR2 _ _ ⟨?_, rfl⟩
    · rintro vs H' ⟨rfl, rfl⟩
      simp only [T_all, T_imp]
      intro n32 heq
      simp only [List.cons.injEq, Value.int.injEq, true_and, and_true] at heq
      subst heq
      refine T_join (fun vs H' => vs = [.int .i64 (tk z (rest left xs i))] ∧ osl 1 p' i c' (iv .i64 ((spread left xs).take i)) :: H = H') ?_ fun R3 hR3 => T_xif (fun h => hR3 _ _ ⟨?_, rfl⟩) fun h => hR3 _ _ ⟨?_, rfl⟩
      · rintro vs H' ⟨rfl, rfl⟩
        simp only [T_all, T_imp]
        intro n35 heq
        simp only [List.cons.injEq, Value.int.injEq, true_and, and_true] at heq
        subst heq
        exact hcont
      · rw [key, if_pos (by simpa using h)]
      · rw [key, if_neg (by simpa using h)]
    · have : z < 0 := by simpa using h
      simp only [m, if_pos this]
    · have : ¬ z < 0 := by simpa using h
      simp only [m, if_neg this]
  · have : i = xs.length := by simp at hc; omega
    subst this
    rw [List.take_of_length_le (by rw [spread_len]; exact Nat.le_refl _)]
    exact hk p' c'

end
end Go.Proofs.Ytpnlldmmfbpmgaa
