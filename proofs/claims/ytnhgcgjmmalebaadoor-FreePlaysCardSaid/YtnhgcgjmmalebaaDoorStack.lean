/- A stack (layer 3): what each function does, over the heap; no condition. -/
import Derived.Test.YtnhgcgjmmalebaaDoorStackL
import Derived.Test.YtnhgcgjmmalebaaDoorBase
set_option linter.unusedVariables false
set_option linter.unusedSimpArgs false
namespace Go.Proofs.YtnhgcgjmmalebaaDoor
open Go.XS

/-- The table of places. -/
def tab (n : Nat) (xs : List Int) : List Value := (List.range n).map fun (y : Nat) => .int .i64 (posOf xs (y : Int))
@[simp] theorem tab_len (n : Nat) (xs : List Int) : (tab n xs).length = n := by simp [tab]
theorem tab_get {n : Nat} {xs : List Int} {i : Nat} (h : i < n) : (tab n xs)[i]? = some (.int .i64 (posOf xs (i : Int))) := by simp [tab, h]

def stCells (n : Nat) (xs : List Int) (junk : List Value) : List Value := tab n xs ++ (iv .i64 xs ++ junk)
theorem stCells_len {n : Nat} {xs : List Int} {junk : List Value} : (stCells n xs junk).length = n + (xs.length + junk.length) := by simp [stCells]

def stS (rm n len : Nat) : Array Value := #[.slice (some ⟨rm, n, none⟩) len n, .slice (some ⟨rm, 0, none⟩) n n]

/-- A stack of 'xs' in block 's', for numbers below 'n'. -/
def stk (s n : Nat) (xs : List Int) : HProp :=
  pureP (xs.Nodup ∧ (∀ x ∈ xs, 0 ≤ x ∧ x < (n : Int)) ∧ n ≤ 1048576) <| exP fun rm : Nat => exP fun junk : List Value => pureP (xs.length + junk.length = n) <|
    packP [cl s (stS rm n xs.length), cl rm (stCells n xs junk).toArray]

section
variable {B : Heap} {H : List HProp} {K : Value → HP} {s n : Nat} {xs : List Int}

theorem stk_open {p : HP} (t : xs.Nodup → (∀ x ∈ xs, 0 ≤ x ∧ x < (n : Int)) → n ≤ 1048576 → ∀ rm junk, xs.length + junk.length = n → T B (cl s (stS rm n xs.length) :: cl rm (stCells n xs junk).toArray :: H) p) : T B (stk s n xs :: H) p :=
  T_unpure fun ⟨h1, h2, h3⟩ => T_unex fun rm => T_unex fun junk => T_unpure fun h4 => T_unpack (t h1 h2 h3 rm junk h4)
theorem stk_close {p : HP} (h1 : xs.Nodup) (h2 : ∀ x ∈ xs, 0 ≤ x ∧ x < (n : Int)) (h3 : n ≤ 1048576) {rm : Nat} {junk : List Value} (h4 : xs.length + junk.length = n) (t : T B (stk s n xs :: H) p) :
    T B (cl s (stS rm n xs.length) :: cl rm (stCells n xs junk).toArray :: H) p :=
  T_topack (Hs := [cl s (stS rm n xs.length), cl rm (stCells n xs junk).toArray]) (T_topure h4 (T_toex (q := fun junk => pureP (xs.length + junk.length = n) (packP [cl s (stS rm n xs.length), cl rm (stCells n xs junk).toArray])) junk (T_toex rm (T_topure ⟨h1, h2, h3⟩ t))))

theorem get_place {junk : List Value} {i : Nat} (h : i < n) : (stCells n xs junk).toArray[0 + i]? = some (.int .i64 (posOf xs (i : Int))) := by
  simp only [List.getElem?_toArray, Nat.zero_add, stCells]
  rw [List.getElem?_append_left (by simpa using h)]
  exact tab_get h
theorem get_list {junk : List Value} {i : Nat} {z : Int} (h : xs[i]? = some z) : (stCells n xs junk).toArray[n + i]? = some (.int .i64 z) := by
  have hl : i < xs.length := (List.getElem?_eq_some_iff.1 h).1
  simp only [List.getElem?_toArray, stCells]
  rw [List.getElem?_append_right (by simp), List.getElem?_append_left (by simpa using hl)]
  simp only [tab_len, Nat.add_sub_cancel_left]
  exact iv_get h

theorem stack_New_none {m : Int} (hm : m < 0 ∨ 1048576 < m) (hk : T B H (K (.pointer none))) : T B H (callP P f_stack_New #[.int .i64 m] K) := by
  refine T_of (call_stack_New _) ?_
  unfold F_stack_New
  refine T_join (fun _ _ => False) (fun _ _ h => h.elim) fun R _ => T_xif (fun _ => hk) fun h => T_xif_t ?_ hk
  simp at h ⊢; omega

theorem stack_New {m : Int} (h0 : m = (n : Int)) (h1 : n ≤ 1048576) (hk : ∀ s, T B (stk s n [] :: H) (K (.pointer (some ⟨s, 0, none⟩)))) : T B H (callP P f_stack_New #[.int .i64 m] K) := by
  subst h0
  refine T_of (call_stack_New _) ?_
  unfold F_stack_New
  refine T_join (fun vs H' => vs = [] ∧ H = H') ?_ fun R hR => T_xif_f (by simp) (T_xif_f (by simp; omega) (hR _ _ ⟨rfl, rfl⟩))
  rintro vs H' ⟨rfl, rfl⟩
  have hw : IntKind.wrap .i64 (2 * (n : Int)) = ((2 * n : Nat) : Int) := by rw [wrap_i64 (by omega) (by omega)]; omega
  simp only [T_imp, hw, Int.toNat_natCast]
  intro _
  refine T_mkSl (by omega) (by omega) (by omega) (by rw [bytes3]; omega) (by kernel_rfl) (by kernel_rfl) fun rm => ?_
  refine T_req ⟨by omega, by omega⟩ (T_req ⟨by omega, by omega⟩ (T_req ⟨by omega, by omega⟩ (T_req ⟨by omega, by omega⟩ (T_req ⟨by omega, by omega⟩ ?_))))
  rw [cells3, zc3, reps_one, Nat.mul_one, Int.toNat_natCast]
  have e1 : slBase (some ⟨rm, 0, none⟩) 1 n (2 * n) = some ⟨rm, n, none⟩ := by
    unfold slBase
    split
    · have : n = 0 := by omega
      subst this; rfl
    · simp [add_mk]
  rw [e1, slBase_zero, Nat.sub_self, Nat.sub_zero, show 2 * n - n = n by omega]
  refine T_al fun s => ?_
  simp only [add_mk]
  refine T_ldS rfl ?_
  refine T_loop (fun vs H' => ∃ i : Nat, i ≤ n ∧ vs = [.int .i64 (i : Int)] ∧ H' = cl s (stS rm n 0) :: cl rm ((List.replicate i (Value.int .i64 (-1)) ++ (List.replicate (n - i) (Value.int .i64 0) ++ List.replicate n (Value.int .i64 0)))).toArray :: H)
    (fun vs => match vs with | [.int _ i] => n - i.toNat | _ => 0) ⟨0, Nat.zero_le _, rfl, ?_⟩ ?_
  · simp only [List.replicate_zero, List.nil_append, Nat.sub_zero, List.replicate_append_replicate]
    rw [show n + n = 2 * n by omega]; rfl
  rintro vs H' R ⟨i, hi, rfl, rfl⟩ hR
  simp only [T_all, T_imp]
  intro n30 heq
  simp only [List.cons.injEq, Value.int.injEq, true_and, and_true] at heq
  subst heq
  refine T_xif (fun hc => ?_) (fun hc => ?_)
  · have hlt : i < n := by simpa using hc
    refine T_ldS rfl (T_idxSt rfl hlt (by simp; omega) rfl ?_)
    rw [wrap_succ (i := i) (by omega)]
    refine hR _ _ ⟨i + 1, by omega, rfl, ?_⟩ (by simp only [Int.toNat_natCast]; omega)
    congr 3
    simp only [Nat.zero_add, List.setIfInBounds_toArray]
    congr 1
    rw [List.set_append_right _ _ (by simp), List.set_append_left _ _ (by simp; omega)]
    simp only [List.length_replicate, Nat.sub_self]
    rw [show n - i = (n - (i + 1)) + 1 by omega, List.replicate_succ, List.set_cons_zero, List.replicate_succ']
    simp
  · have : i = n := by simp at hc; omega
    subst this
    rw [show (List.replicate i (Value.int .i64 (-1)) ++ (List.replicate (i - i) (Value.int .i64 0) ++ List.replicate i (Value.int .i64 0))) = stCells i [] (List.replicate i (Value.int .i64 0)) by
      simp only [stCells, Nat.sub_self, List.replicate_zero, List.nil_append, iv, List.map_nil]
      congr 1
      apply List.ext_getElem?
      intro j
      by_cases h : j < i
      · simp [tab, h, posOf]
      · simp [tab, h]]
    exact stk_close (by simp) (by simp) h1 (by simp) (hk s)

theorem stack_Place {x : Int} (hk : T B (stk s n xs :: H) (K (.int .i64 (posOf xs x)))) : T B (stk s n xs :: H) (callP P f_stack_Stack_Place #[.pointer (some ⟨s, 0, none⟩), .int .i64 x] K) := by
  refine stk_open fun h1 h2 h3 rm junk h4 => ?_
  have hk' := stk_close h1 h2 h3 (rm := rm) (junk := junk) h4 hk
  refine T_of (call_stack_Stack_Place _ _) ?_
  unfold F_stack_Stack_Place
  simp only [adr_some, add_mk]
  have hout : (x < 0 ∨ (n : Int) ≤ x) → posOf xs x = -1 := fun h => pos_not fun hm => by have := h2 x hm; omega
  refine T_join (fun vs H' => vs = [] ∧ H' = cl s (stS rm n xs.length) :: cl rm (stCells n xs junk).toArray :: H ∧ 0 ≤ x ∧ x < (n : Int)) ?_ fun R hR => ?_
  · rintro vs H' ⟨rfl, rfl, hx0, hxn⟩
    refine T_imp.2 fun _ => T_ldS rfl (T_idxI (i := x.toNat) (by omega) (by omega) (get_place (by omega)) ?_)
    rw [Int.toNat_of_nonneg hx0]
    exact hk'
  · refine T_xif_f rfl (T_xif (fun h => T_conv hk' ?_) fun h => T_ldS rfl (T_xif (fun h' => T_conv hk' ?_) fun h' => hR _ _ ⟨rfl, rfl, ?_, ?_⟩))
    · rw [hout (.inl (by simpa using h))]
    · rw [hout (.inr (by simpa using h'))]
    · simpa using h
    · simpa using h'

theorem stack_Len (hk : T B (stk s n xs :: H) (K (.int .i64 (xs.length : Int)))) : T B (stk s n xs :: H) (callP P f_stack_Stack_Len #[.pointer (some ⟨s, 0, none⟩)] K) := by
  refine stk_open fun h1 h2 h3 rm junk h4 => ?_
  have hk' := stk_close h1 h2 h3 (rm := rm) (junk := junk) h4 hk
  refine T_of (call_stack_Stack_Len _) ?_
  unfold F_stack_Stack_Len
  simp only [adr_some, add_mk]
  exact T_xif_f rfl (T_ldS rfl hk')

theorem stack_Top (hk : T B (stk s n xs :: H) (K (.tuple #[.int .i64 (xs.getLast?.getD 0), .bool (decide (0 < xs.length))]))) : T B (stk s n xs :: H) (callP P f_stack_Stack_Top #[.pointer (some ⟨s, 0, none⟩)] K) := by
  refine stk_open fun h1 h2 h3 rm junk h4 => ?_
  have hk' := stk_close h1 h2 h3 (rm := rm) (junk := junk) h4 hk
  refine T_of (call_stack_Stack_Top _) ?_
  unfold F_stack_Stack_Top
  simp only [adr_some, add_mk]
  refine T_join (fun vs H' => vs = [] ∧ H' = cl s (stS rm n xs.length) :: cl rm (stCells n xs junk).toArray :: H ∧ 0 < xs.length) ?_ fun R hR => ?_
  · rintro vs H' ⟨rfl, rfl, hl⟩
    obtain ⟨z, hz⟩ : ∃ z, xs[xs.length - 1]? = some z := ⟨_, List.getElem?_eq_getElem (by omega)⟩
    have hlast : xs.getLast?.getD 0 = z := by rw [List.getLast?_eq_getElem?, hz]; rfl
    have hw : IntKind.wrap .i64 ((xs.length : Int) - 1) = ((xs.length - 1 : Nat) : Int) := by rw [wrap_i64 (by omega) (by omega)]; omega
    refine T_imp.2 fun _ => T_ldS rfl (T_ldS rfl ?_)
    rw [hw]
    refine T_idxI rfl (by omega) (get_list hz) (T_conv hk' ?_)
    simp [hlast, hl]
  · refine T_xif_f rfl (T_ldS rfl (T_xif (fun h => T_conv hk' ?_) fun h => hR _ _ ⟨rfl, rfl, ?_⟩))
    · have : xs = [] := by simpa using h
      simp [this]
    · have : ¬ xs = [] := by simpa using h
      exact List.length_pos_iff.2 this

theorem set_tab {n : Nat} {xs ys : List Int} {i : Nat} {v : Int} (h : ∀ j : Nat, j < n → posOf ys (j : Int) = if j = i then v else posOf xs (j : Int)) : (tab n xs).set i (.int .i64 v) = tab n ys := by
  apply List.ext_getElem?
  intro j
  rw [List.getElem?_set]
  by_cases hj : j < n
  · rw [tab_get (xs := xs) hj, tab_get (xs := ys) hj, h j hj]
    by_cases e : i = j
    · subst e; simp [hj]
    · have e' : ¬ j = i := fun h => e h.symm
      simp [e, e']
  · have h1 : (tab n xs)[j]? = none := by simp [tab]; omega
    have h2 : (tab n ys)[j]? = none := by simp [tab]; omega
    rw [h1, h2]
    split
    · split
      · rename_i h3 h4; simp at h4; omega
      · rfl
    · rfl

def pushOk (n : Nat) (xs : List Int) (x : Int) : Bool := decide (0 ≤ x ∧ x < (n : Int) ∧ posOf xs x < 0)
def pushed (n : Nat) (xs : List Int) (x : Int) : List Int := if pushOk n xs x then xs ++ [x] else xs

theorem push_cells {n : Nat} {xs : List Int} {x : Nat} {junk : List Value} (hn : xs.Nodup) (hx : (x : Int) ∉ xs) (hxn : x < n) (hj : 1 ≤ junk.length) :
    setCells ((stCells n xs junk).toArray.setIfInBounds (0 + x) (.int .i64 (xs.length : Int))) (n + xs.length * 1) [.int .i64 (x : Int)] = (stCells n (xs ++ [(x : Int)]) (junk.drop 1)).toArray := by
  apply Array.ext'
  have hset : ((stCells n xs junk).toArray.setIfInBounds (0 + x) (.int .i64 (xs.length : Int))).toList = tab n (xs ++ [(x : Int)]) ++ (iv .i64 xs ++ junk) := by
    simp only [Nat.zero_add, List.setIfInBounds_toArray, stCells]
    rw [List.set_append_left _ _ (by simpa using hxn)]
    rw [set_tab (ys := xs ++ [(x : Int)]) (fun j hj => ?_)]
    rw [pos_push hn hx]
    by_cases e : j = x
    · subst e; simp
    · have e' : ¬ ((j : Int) = (x : Int)) := by omega
      simp [e, e']
  rw [setCells_list _ _ _ (by simp [stCells]; omega), hset]
  simp only [stCells, Nat.mul_one, List.length_cons, List.length_nil]
  rw [List.take_append, List.drop_append]
  simp only [tab_len, Nat.add_sub_cancel_left, iv_append]
  rw [List.take_of_length_le (by simp), List.drop_of_length_le (by simp; omega), show n + xs.length + (0 + 1) - n = xs.length + 1 by omega]
  rw [List.take_append, List.drop_append]
  simp [iv]
  rw [List.drop_of_length_le (by simp), List.take_of_length_le (by simp)]
  simp

theorem stack_Push {x : Int} (hk : T B (stk s n (pushed n xs x) :: H) (K (.bool (pushOk n xs x)))) : T B (stk s n xs :: H) (callP P f_stack_Stack_Push #[.pointer (some ⟨s, 0, none⟩), .int .i64 x] K) := by
  refine stk_open fun h1 h2 h3 rm junk h4 => ?_
  refine T_of (call_stack_Stack_Push _ _) ?_
  unfold F_stack_Stack_Push
  simp only [adr_some, add_mk]
  have hno : pushOk n xs x = false → T B (cl s (stS rm n xs.length) :: cl rm (stCells n xs junk).toArray :: H) (K (.bool false)) := by
    intro h
    rw [pushed, h] at hk
    exact stk_close h1 h2 h3 h4 hk
  refine T_join (fun vs H' => vs = [] ∧ H' = cl s (stS rm n xs.length) :: cl rm (stCells n xs junk).toArray :: H ∧ 0 ≤ x ∧ x < (n : Int) ∧ x ∉ xs) ?_ fun R hR => ?_
  · rintro vs H' ⟨rfl, rfl, hx0, hxn, hx⟩
    obtain ⟨y, rfl⟩ : ∃ y : Nat, x = (y : Int) := ⟨x.toNat, by omega⟩
    have hroom := nodup_room h1 h2 hx hx0 hxn
    have hok : pushOk n xs (y : Int) = true := by
      refine decide_eq_true ⟨hx0, hxn, ?_⟩
      exact pos_lt.2 hx
    rw [pushed, hok, if_pos rfl] at hk
    refine T_imp.2 fun _ => T_ldS rfl (T_ldS rfl (T_idxSt (i := y) rfl (by omega) (by simp [stCells]; omega) rfl (T_ldS rfl (T_al fun k => ?_))))
    refine T_perm (.trans (.swap _ _ _) (.cons _ (.swap _ _ _))) ?_
    refine app_fit (b := rm) (ys := [.int .i64 (y : Int)]) (s := 1) (t0 := 32) (t1 := 32) (elem := 3) rfl rfl (by kernel_rfl) (by kernel_rfl) (by kernel_rfl) (by kernel_rfl)
      (RdV.tail (RdV.tail (RdV.of_cl fun i hi => by simp only [List.length_cons, List.length_nil] at hi; obtain rfl : i = 0 := by omega
                                                    rfl))) rfl (by simp [Value.oneCell']) (by omega) (by simp [stCells]; omega) ?_
    rw [push_cells h1 hx (by omega) (by omega)]
    refine T_st (by simp [stS]) rfl ?_
    refine T_perm (.trans (.cons _ (.swap _ _ _)) (.trans (.swap _ _ _) (.refl _))) (T_drop ?_)
    have e : (stS rm n xs.length).setIfInBounds 0 (.slice (some ⟨rm, n, none⟩) (xs.length + 1) n) = stS rm n (xs ++ [(y : Int)]).length := by simp [stS]
    rw [e]
    refine stk_close (nodup_push h1 hx) ?_ h3 (by simp; omega) hk
    intro z hz
    rcases List.mem_append.1 hz with hz | hz
    · exact h2 z hz
    · simp at hz; subst hz; exact ⟨hx0, hxn⟩
  · refine T_xif_f rfl (T_xif (fun h => hno ?_) fun h => T_ldS rfl (T_xif (fun h' => hno ?_) fun h' => T_ldS rfl ?_))
    · have : x < 0 := by simpa using h
      simp [pushOk]; omega
    · have : (n : Int) ≤ x := by simpa using h'
      simp [pushOk]; omega
    have hx0 : 0 ≤ x := by simpa using h
    have hxn : x < (n : Int) := by simpa using h'
    refine T_idxI (i := x.toNat) (by omega) (by omega) (get_place (by omega)) ?_
    rw [Int.toNat_of_nonneg hx0]
    refine T_xif (fun h5 => hno ?_) fun h5 => hR _ _ ⟨rfl, rfl, hx0, hxn, ?_⟩
    · have : posOf xs x ≥ 0 := by simpa using h5
      simp [pushOk]; omega
    · have : ¬ posOf xs x ≥ 0 := by simpa using h5
      exact pos_lt.1 (by omega)

def tabF (n : Nat) (f : Nat → Int) : List Value := (List.range n).map fun (y : Nat) => .int .i64 (f y)
theorem tabF_set (n : Nat) (f : Nat → Int) (i : Nat) (v : Int) : (tabF n f).set i (.int .i64 v) = tabF n fun y => if y = i then v else f y := by
  apply List.ext_getElem?
  intro j
  rw [List.getElem?_set]
  by_cases hj : j < n
  · by_cases e : i = j
    · subst e; simp [tabF, hj]
    · have e' : ¬ j = i := fun h => e h.symm
      simp [tabF, e, e', hj]
  · have h1 : (tabF n f)[j]? = none := by simp [tabF]; omega
    by_cases e : i = j
    · subst e; simp [tabF, hj]
    · simp [tabF, e, hj]
theorem tabF_congr {n : Nat} {f g : Nat → Int} (h : ∀ j, j < n → f j = g j) : tabF n f = tabF n g := by
  apply List.map_congr_left
  intro j hj
  rw [h j (List.mem_range.1 hj)]

def dropped (xs : List Int) (x : Int) : List Int := if posOf xs x < 0 then xs else dropAt xs (posOf xs x).toNat

theorem drop_cells {n : Nat} {xs : List Int} {x top i : Nat} {junk : List Value} (hn : xs.Nodup) (hx : xs[i]? = some (x : Int)) (ht : xs[xs.length - 1]? = some (top : Int)) (hxn : x < n) (htn : top < n) :
    (((stCells n xs junk).toArray.setIfInBounds (n + i) (.int .i64 (top : Int))).setIfInBounds (0 + top) (.int .i64 (i : Int))).setIfInBounds (0 + x) (.int .i64 (-1)) =
      (stCells n (dropAt xs i) (.int .i64 (top : Int) :: junk)).toArray := by
  have hi : i < xs.length := (List.getElem?_eq_some_iff.1 hx).1
  simp only [Nat.zero_add, List.setIfInBounds_toArray, stCells]
  congr 1
  rw [List.set_append_right _ _ (by simp), List.set_append_left _ _ (by simpa using htn), List.set_append_left _ _ (by simpa using hxn), List.set_append_left _ _ (by simp; omega)]
  simp only [tab_len, Nat.add_sub_cancel_left]
  congr 1
  · show ((tabF n fun y => posOf xs (y : Int)).set top (.int .i64 (i : Int))).set x (.int .i64 (-1)) = tabF n fun y => posOf (dropAt xs i) (y : Int)
    rw [tabF_set, tabF_set]
    refine tabF_congr fun j hj => ?_
    rw [pos_drop hn hx ht]
    by_cases e : j = x
    · subst e; simp
    · have e' : ¬ ((j : Int) = (x : Int)) := by omega
      simp only [e, e', if_false]
      by_cases e2 : j = top
      · subst e2; simp
      · have e2' : ¬ ((j : Int) = (top : Int)) := by omega
        simp only [e2, e2', if_false]
  · have hg : xs.getD (xs.length - 1) 0 = (top : Int) := by simp [List.getD, ht]
    have h1 : (iv .i64 xs).set i (.int .i64 (top : Int)) = iv .i64 (xs.set i (top : Int)) := by simp [iv, List.map_set]
    have h2 : xs.set i (top : Int) = dropAt xs i ++ [(top : Int)] := by
      have hl : xs.length - 1 < (xs.set i (top : Int)).length := by simp; omega
      have h3 : (xs.set i (top : Int))[xs.length - 1]? = some (top : Int) := by
        rw [List.getElem?_set]
        split
        · rfl
        · exact ht
      rw [dropAt, hg, ← take_succ_of h3, List.take_of_length_le (by simp; omega)]
    rw [h1, h2, iv_append]
    simp [iv]

theorem stack_Drop {x : Int} (hk : T B (stk s n (dropped xs x) :: H) (K (.bool (decide (¬ posOf xs x < 0))))) : T B (stk s n xs :: H) (callP P f_stack_Stack_Drop #[.pointer (some ⟨s, 0, none⟩), .int .i64 x] K) := by
  refine T_of (call_stack_Stack_Drop _ _) ?_
  unfold F_stack_Stack_Drop
  simp only [adr_some, add_mk]
  refine stack_Place ?_
  simp only [asI_int]
  refine T_xif (fun h => ?_) (fun h => ?_)
  · have h : posOf xs x < 0 := by simpa using h
    rw [dropped, if_pos h] at hk
    exact T_conv hk (by simp [h])
  have hneg : ¬ posOf xs x < 0 := by simpa using h
  rw [dropped, if_neg hneg] at hk
  refine stk_open fun h1 h2 h3 rm junk h4 => ?_
  rcases pos_cases (xs := xs) x with ⟨i, hi, hp, hl⟩ | ⟨_, hp⟩
  · rw [hp, Int.toNat_natCast] at hk
    rw [hp]
    obtain ⟨top, ht⟩ : ∃ z, xs[xs.length - 1]? = some z := ⟨_, List.getElem?_eq_getElem (by omega)⟩
    have hxb := h2 x (List.mem_of_getElem? hi)
    have htb := h2 top (List.mem_of_getElem? ht)
    obtain ⟨x, rfl⟩ : ∃ y : Nat, x = (y : Int) := ⟨x.toNat, by omega⟩
    obtain ⟨top, rfl⟩ : ∃ y : Nat, top = (y : Int) := ⟨top.toNat, by omega⟩
    have hw : IntKind.wrap .i64 ((xs.length : Int) - 1) = ((xs.length - 1 : Nat) : Int) := by rw [wrap_i64 (by omega) (by omega)]; omega
    refine T_ldS rfl (T_ldS rfl ?_)
    simp only [hw]
    refine T_idxI rfl (by omega) (get_list ht) ?_
    refine T_ldS rfl (T_ldS rfl (T_idxSt rfl (by omega) (by simp [stCells]; omega) rfl (T_idxSt rfl (by omega) (by simp [stCells]; omega) rfl ?_)))
    refine T_ldS rfl (T_ldS rfl (T_req ⟨by omega, by omega⟩ ?_))
    simp only [slBase_zero, Nat.sub_zero, Int.toNat_natCast]
    refine T_st (by simp [stS]) rfl (T_idxSt rfl (by omega) (by simp [stCells]; omega) rfl ?_)
    rw [drop_cells h1 hi ht (by omega) (by omega)]
    have e : (stS rm n xs.length).setIfInBounds 0 (.slice (some ⟨rm, n, none⟩) (xs.length - 1) n) = stS rm n (dropAt xs i).length := by simp [stS, dropAt_len]
    rw [e]
    refine stk_close (dropAt_nodup h1 hl) (fun z hz => h2 z (dropAt_mem hl hz)) h3 (by rw [dropAt_len, List.length_cons]; omega) (T_conv hk ?_)
    simp [hp]
  · omega

theorem last_pos {xs : List Int} (hn : xs.Nodup) (h : 0 < xs.length) : posOf xs (xs.getLast?.getD 0) = ((xs.length - 1 : Nat) : Int) ∧ dropAt xs (xs.length - 1) = xs.dropLast := by
  obtain ⟨z, hz⟩ : ∃ z, xs[xs.length - 1]? = some z := ⟨_, List.getElem?_eq_getElem (by omega)⟩
  have e : xs.getLast?.getD 0 = z := by rw [List.getLast?_eq_getElem?, hz]; rfl
  refine ⟨by rw [e]; exact pos_get hn hz, ?_⟩
  apply List.ext_getElem?
  intro j
  by_cases hj : j < xs.length - 1
  · rw [dropAt_get (by omega) hj, if_neg (by omega), List.getElem?_dropLast, if_pos hj]
  · rw [List.getElem?_eq_none (by rw [dropAt_len]; omega), List.getElem?_eq_none (by simp; omega)]


end
end Go.Proofs.YtnhgcgjmmalebaaDoor
