/- A book of counts (layer 14): what each function does, over the heap; the reference's answers; no condition but the arguments' forms. -/
import Derived.Test.YtnhgcgjmmalebaaOnceT
import Derived.Test.YtnhgcgjmmalebaaBase
set_option linter.unusedVariables false
set_option linter.unusedSimpArgs false
namespace Go.Proofs.Ytnhgcgjmmalebaa
open Go.XS

theorem zc84 : zc P 84 = #[.int .i64 0] := by kernel_rfl
theorem cells84 : P.cellsOf 84 = 1 := by kernel_rfl
theorem bytes84 : P.bytesOf 84 = 8 := by kernel_rfl
theorem addE : ExtIs P 44 (Extern.Atomic.update (Op.intArith .add) .i64 true) := ext_of noCount Try.func44 (by kernel_rfl) (by kernel_rfl) (by kernel_rfl)
theorem loadE : ExtIs P 43 (Extern.Atomic.loadT (.int .i64)) := ext_of noCount Try.func43 (by kernel_rfl) (by kernel_rfl) (by kernel_rfl)

def cB0 (n : Nat) : Array Value := #[.int .i64 (n : Int), .int .u32 0, .int .i32 0, .int .u32 0, .slice none 0 0]
def cB1 (n rw : Nat) : Array Value := #[.int .i64 (n : Int), .int .u32 1, .int .i32 0, .int .u32 0, .slice (some ⟨rw, 0, none⟩) n n]

/-- The greatest count. -/
abbrev mostC : Int := 4611686018427387904

def cbkM (b n : Nat) (xs : List Int) : Option Nat → HProp
  | none => pureP (xs = List.replicate n 0) (cl b (cB0 n))
  | some rw => packP [cl b (cB1 n rw), cl rw (iv .i64 xs).toArray]
/-- A book in block b of these counts. -/
def cbk (b n : Nat) (xs : List Int) : HProp :=
  pureP (1 ≤ n ∧ n ≤ 64 ∧ xs.length = n ∧ ∀ x ∈ xs, 0 ≤ x ∧ x ≤ mostC) <| exP (cbkM b n xs)

section
variable {B : Heap} {H : List HProp} {K : Value → HP} {b n rw : Nat} {xs : List Int}

theorem atomic_Load {b i : Nat} {cs : Array Value} {n : Int} [h : HasC B H b cs] (hc : cs[i]? = some (.int .i64 n)) (hk : T B H (K (.int .i64 n))) :
    T B H (callP P f_sync_atomic_Int64_Load #[.pointer (some ⟨b, i, none⟩)] K) := by
  refine T_of (call_sync_atomic_Int64_Load _) ?_
  unfold F_sync_atomic_Int64_Load
  simp only [adr_some, add_mk, Nat.add_zero]
  refine T_ext loadE (T_aload hc ?_)
  simp only [asI_int]
  exact hk
theorem atomic_Add {b i : Nat} {cs : Array Value} {n y : Int} {H' : Array Value → List HProp} [h : UpdC H b cs H'] (hc : cs[i]? = some (.int .i64 n)) (hk : T B (H' (cs.setIfInBounds i (.int .i64 (IntKind.wrap .i64 (n + y))))) (K (.int .i64 (IntKind.wrap .i64 (n + y))))) :
    T B H (callP P f_sync_atomic_Int64_Add #[.pointer (some ⟨b, i, none⟩), .int .i64 y] K) := by
  refine T_of (call_sync_atomic_Int64_Add _ _) ?_
  unfold F_sync_atomic_Int64_Add
  simp only [adr_some, add_mk, Nat.add_zero]
  refine T_ext addE (T_aadd hc ?_)
  simp only [asI_int]
  exact hk

theorem cbk_facts {p : HP} (t : 1 ≤ n → n ≤ 64 → xs.length = n → (∀ x ∈ xs, 0 ≤ x ∧ x ≤ mostC) → T B (cbk b n xs :: H) p) : T B (cbk b n xs :: H) p :=
  T_unpure fun h => T_topure h (t h.1 h.2.1 h.2.2.1 h.2.2.2)

theorem cbk_close1 {p : HP} (h1 : 1 ≤ n) (h2 : n ≤ 64) (h3 : xs.length = n) (h4 : ∀ x ∈ xs, 0 ≤ x ∧ x ≤ mostC) (t : T B (cbk b n xs :: H) p) : T B (cl b (cB1 n rw) :: cl rw (iv .i64 xs).toArray :: H) p := by
  have t1 : T B (cbkM b n xs (some rw) :: H) p := T_toex (q := cbkM b n xs) (some rw) (T_topure ⟨h1, h2, h3, h4⟩ t)
  rw [cbkM] at t1
  exact T_topack (Hs := [cl b (cB1 n rw), cl rw (iv .i64 xs).toArray]) t1
theorem cbk_close0 {p : HP} (h1 : 1 ≤ n) (h2 : n ≤ 64) (t : T B (cbk b n (List.replicate n 0) :: H) p) : T B (cl b (cB0 n) :: H) p := by
  have t1 : T B (cbkM b n (List.replicate n 0) none :: H) p := T_toex (q := cbkM b n (List.replicate n 0)) none (T_topure ⟨h1, h2, by simp, fun x hx => by rw [List.eq_of_mem_replicate hx]; decide⟩ t)
  rw [cbkM] at t1
  exact T_topure rfl t1

/-- Either not yet laid, or laid. -/
theorem cbk_cases {p : HP} (h0 : 1 ≤ n → n ≤ 64 → xs = List.replicate n 0 → T B (cl b (cB0 n) :: H) p) (h1 : 1 ≤ n → n ≤ 64 → xs.length = n → (∀ x ∈ xs, 0 ≤ x ∧ x ≤ mostC) → ∀ rw, T B (cl b (cB1 n rw) :: cl rw (iv .i64 xs).toArray :: H) p) :
    T B (cbk b n xs :: H) p :=
  T_unpure fun h => T_unex fun o => match o with
    | none => T_unpure fun hx => h0 h.1 h.2.1 hx
    | some rw => T_unpack (h1 h.1 h.2.1 h.2.2.1 h.2.2.2 rw)

theorem count_lay {cs : Array Value} (hn : n ≤ 64) (h0 : cs[0]? = some (.int .i64 (n : Int))) (h4 : 4 < cs.size)
    (hk : ∀ rw, T B (cl b (cs.setIfInBounds 4 (.slice (some ⟨rw, 0, none⟩) n n)) :: cl rw (iv .i64 (List.replicate n 0)).toArray :: H) (K (.tuple #[]))) :
    T B (cl b cs :: H) (callP P f_count_Book_lay #[.pointer (some ⟨b, 0, none⟩)] K) := by
  refine T_of (call_count_Book_lay _) ?_
  unfold F_count_Book_lay
  simp only [adr_some, add_mk]
  refine T_ldI h0 (T_mkSl (by omega) (by omega) (by omega) (by rw [bytes84]; omega) (by kernel_rfl) (by kernel_rfl) fun rw => ?_)
  rw [cells84, zc84, reps_one, Nat.mul_one, Int.toNat_natCast]
  have e : List.replicate n (Value.int .i64 0) = iv .i64 (List.replicate n 0) := by simp [iv]
  rw [e]
  exact T_perm (List.Perm.swap _ _ _) (T_st (by omega) rfl (hk rw))

theorem count_count_nil {i : Int} (hk : T B H (K (.pointer none))) : T B H (callP P f_count_Book_count #[.pointer none, .int .i64 i] K) := by
  refine T_of (call_count_Book_count _ _) ?_
  unfold F_count_Book_count
  exact T_join (fun _ _ => False) (fun _ _ h => h.elim) fun R _ => T_xif_t rfl hk
theorem count_count_zero {z : Nat} {i : Int} (hk : T B (cl z (cB0 0) :: H) (K (.pointer none))) : T B (cl z (cB0 0) :: H) (callP P f_count_Book_count #[.pointer (some ⟨z, 0, none⟩), .int .i64 i] K) := by
  refine T_of (call_count_Book_count _ _) ?_
  unfold F_count_Book_count
  simp only [adr_some, add_mk]
  exact T_join (fun _ _ => False) (fun _ _ h => h.elim) fun R _ => T_xif_f rfl (T_xif (fun _ => hk) fun h => T_ldI rfl (T_xif_t (by simp at h ⊢; omega) hk))

theorem count_count {i : Int} (hbad : ¬ (0 ≤ i ∧ i < (n : Int)) → T B (cbk b n xs :: H) (K (.pointer none)))
    (hok : ∀ (j : Nat) (rw : Nat), i = (j : Int) → j < n → 1 ≤ n → n ≤ 64 → xs.length = n → (∀ x ∈ xs, 0 ≤ x ∧ x ≤ mostC) → T B (cl b (cB1 n rw) :: cl rw (iv .i64 xs).toArray :: H) (K (.pointer (some ⟨rw, j, none⟩)))) :
    T B (cbk b n xs :: H) (callP P f_count_Book_count #[.pointer (some ⟨b, 0, none⟩), .int .i64 i] K) := by
  refine T_of (call_count_Book_count _ _) ?_
  unfold F_count_Book_count
  simp only [adr_some, add_mk]
  refine cbk_cases (fun h1 h2 hx => ?_) fun h1 h2 h3 h4 rw => ?_
  · subst hx
    refine T_join (fun vs H' => vs = [] ∧ cl b (cB0 n) :: H = H' ∧ 0 ≤ i ∧ i < (n : Int)) ?_ fun R hR => T_xif_f rfl (T_xif (fun h => cbk_close0 h1 h2 (hbad (by simp at h; omega))) fun h => T_ldI rfl (T_xif (fun h' => cbk_close0 h1 h2 (hbad (by simp at h'; omega))) fun h' => hR _ _ ⟨rfl, rfl, by simp at h; omega, by simp at h'; omega⟩))
    rintro vs H' ⟨rfl, rfl, hi0, hi1⟩
    simp only [T_imp]
    intro _
    obtain ⟨j, rfl⟩ : ∃ j : Nat, i = (j : Int) := ⟨i.toNat, by omega⟩
    refine once_Do (o := 0 + 1) (cs2 := fun rw : Nat => ((cB0 n).setIfInBounds (0 + 1 + 1) (.int .i32 1)).setIfInBounds 4 (.slice (some ⟨rw, 0, none⟩) n n)) (H2 := fun rw => cl rw (iv .i64 (List.replicate n 0)).toArray :: H) rfl rfl (fun _ => rfl) (fun _ => rfl)
      (fun Kf hKf => count_lay h2 rfl (by simp [cB0]) hKf) fun rw => T_and rfl ?_
    show T B (cl b (cB1 n rw) :: cl rw (iv .i64 (List.replicate n 0)).toArray :: H) _
    refine T_ldS rfl (T_req ⟨by omega, by omega⟩ ?_)
    rw [Int.toNat_natCast, add_mk, Nat.zero_add]
    exact hok j rw rfl (by omega) h1 h2 (by simp) fun x hx => by rw [List.eq_of_mem_replicate hx]; decide
  · refine T_join (fun vs H' => vs = [] ∧ cl b (cB1 n rw) :: cl rw (iv .i64 xs).toArray :: H = H' ∧ 0 ≤ i ∧ i < (n : Int)) ?_ fun R hR => T_xif_f rfl (T_xif (fun h => cbk_close1 h1 h2 h3 h4 (hbad (by simp at h; omega))) fun h => T_ldI rfl (T_xif (fun h' => cbk_close1 h1 h2 h3 h4 (hbad (by simp at h'; omega))) fun h' => hR _ _ ⟨rfl, rfl, by simp at h; omega, by simp at h'; omega⟩))
    rintro vs H' ⟨rfl, rfl, hi0, hi1⟩
    simp only [T_imp]
    intro _
    obtain ⟨j, rfl⟩ : ∃ j : Nat, i = (j : Int) := ⟨i.toNat, by omega⟩
    refine once_Done (o := 0 + 1) rfl (T_and rfl (T_ldS rfl (T_req ⟨by omega, by omega⟩ ?_)))
    rw [Int.toNat_natCast, add_mk, Nat.zero_add]
    exact hok j rw rfl (by omega) h1 h2 h3 h4

theorem count_New_none {x : Int} (hm : x < 1 ∨ 64 < x) (hk : T B H (K (.pointer none))) : T B H (callP P f_count_New #[.int .i64 x] K) := by
  refine T_of (call_count_New _) ?_
  unfold F_count_New
  refine T_xif (fun _ => hk) fun h => T_xif_t ?_ hk
  simp at h ⊢; omega
theorem count_New (h1 : 1 ≤ n) (h2 : n ≤ 64) (hk : ∀ b, T B (cbk b n (List.replicate n 0) :: H) (K (.pointer (some ⟨b, 0, none⟩)))) : T B H (callP P f_count_New #[.int .i64 (n : Int)] K) := by
  refine T_of (call_count_New _) ?_
  unfold F_count_New
  exact T_xif_f (by simp; omega) (T_xif_f (by simp; omega) (T_al fun b => cbk_close0 h1 h2 (hk b)))

/-- What Get tells. -/
def cget (xs : List Int) (i : Int) : Int := if 0 ≤ i then xs.getD i.toNat 0 else 0

theorem count_Get_nil {i : Int} (hk : T B H (K (.int .i64 0))) : T B H (callP P f_count_Book_Get #[.pointer none, .int .i64 i] K) := by
  refine T_of (call_count_Book_Get _ _) ?_
  unfold F_count_Book_Get
  refine count_count_nil ?_
  simp only [asP_ptr]
  exact T_xif_t rfl hk
theorem count_Get_zero {z : Nat} {i : Int} (hk : T B (cl z (cB0 0) :: H) (K (.int .i64 0))) : T B (cl z (cB0 0) :: H) (callP P f_count_Book_Get #[.pointer (some ⟨z, 0, none⟩), .int .i64 i] K) := by
  refine T_of (call_count_Book_Get _ _) ?_
  unfold F_count_Book_Get
  refine count_count_zero ?_
  simp only [asP_ptr]
  exact T_xif_t rfl hk
theorem count_Get {i : Int} (hk : T B (cbk b n xs :: H) (K (.int .i64 (cget xs i)))) : T B (cbk b n xs :: H) (callP P f_count_Book_Get #[.pointer (some ⟨b, 0, none⟩), .int .i64 i] K) := by
  refine cbk_facts fun g1 g2 g3 g4 => ?_
  refine T_of (call_count_Book_Get _ _) ?_
  unfold F_count_Book_Get
  refine count_count (fun hbad => ?_) fun j rw hj hjn h1 h2 h3 h4 => ?_
  · simp only [asP_ptr]
    refine T_xif_t rfl (T_conv hk ?_)
    unfold cget
    split
    · rw [List.getD, List.getElem?_eq_none (by omega)]; rfl
    · rfl
  · subst hj
    simp only [asP_ptr]
    obtain ⟨x, hx⟩ : ∃ x, xs[j]? = some x := ⟨_, List.getElem?_eq_getElem (by omega)⟩
    refine T_xif_f rfl (atomic_Load (i := j) (by rw [List.getElem?_toArray]; exact iv_get hx) ?_)
    simp only [asI_int]
    refine cbk_close1 h1 h2 h3 h4 (T_conv hk ?_)
    simp [cget, List.getD, hx]

/-- What is wrong with a counting, and the counts then. -/
def cerr (xs : List Int) (i by' : Int) : Int := if 0 ≤ i ∧ i < (xs.length : Int) ∧ 0 ≤ by' then (if by' > mostC - cget xs i then 6 else 0) else 2
def cadd (xs : List Int) (i by' : Int) : List Int := if cerr xs i by' = 0 then xs.set i.toNat (cget xs i + by') else xs

theorem count_Add_nil {i y : Int} (hk : T B H (K (.int .i64 16))) : T B H (callP P f_count_Book_Add #[.pointer none, .int .i64 i, .int .i64 y] K) := by
  refine T_of (call_count_Book_Add _ _ _) ?_
  unfold F_count_Book_Add
  exact T_join (fun _ _ => False) (fun _ _ h => h.elim) fun R _ => T_xif_t rfl hk
theorem count_Add_zero {z : Nat} {i y : Int} (hk : T B (cl z (cB0 0) :: H) (K (.int .i64 16))) : T B (cl z (cB0 0) :: H) (callP P f_count_Book_Add #[.pointer (some ⟨z, 0, none⟩), .int .i64 i, .int .i64 y] K) := by
  refine T_of (call_count_Book_Add _ _ _) ?_
  unfold F_count_Book_Add
  simp only [adr_some, add_mk]
  exact T_join (fun _ _ => False) (fun _ _ h => h.elim) fun R _ => T_xif_f rfl (T_ldI rfl (T_xif_t rfl hk))

theorem count_Add {i y : Int} (hk : T B (cbk b n (cadd xs i y) :: H) (K (.int .i64 (cerr xs i y)))) : T B (cbk b n xs :: H) (callP P f_count_Book_Add #[.pointer (some ⟨b, 0, none⟩), .int .i64 i, .int .i64 y] K) := by
  refine cbk_facts fun g1 g2 g3 g4 => ?_
  refine T_of (call_count_Book_Add _ _ _) ?_
  unfold F_count_Book_Add
  simp only [adr_some, add_mk]
  refine T_join (fun vs H' => vs = [] ∧ cbk b n xs :: H = H') ?_ fun R hR => T_xif_f rfl ?_
  rotate_left
  · refine cbk_cases (fun h1 h2 hx => T_ldI rfl (T_xif_f ?_ ?_)) fun h1 h2 h3 h4 rw => T_ldI rfl (T_xif_f ?_ (cbk_close1 h1 h2 h3 h4 (hR _ _ ⟨rfl, rfl⟩)))
    · exact beq_eq_false_iff_ne.2 (by omega)
    · subst hx
      exact cbk_close0 h1 h2 (hR _ _ ⟨rfl, rfl⟩)
    · exact beq_eq_false_iff_ne.2 (by omega)
  rintro vs H' ⟨rfl, rfl⟩
  simp only [T_imp]
  intro _
  refine count_count (fun hbad => ?_) fun j rw hj hjn h1 h2 h3 h4 => ?_
  · have e : cerr xs i y = 2 := by rw [cerr, if_neg (by omega)]
    rw [cadd, e, if_neg (by decide)] at hk
    simp only [asP_ptr]
    exact T_join (fun _ _ => False) (fun _ _ h => h.elim) fun R _ => T_xif_t rfl hk
  subst hj
  simp only [asP_ptr]
  obtain ⟨x, hx⟩ : ∃ x, xs[j]? = some x := ⟨_, List.getElem?_eq_getElem (by omega)⟩
  have hg : cget xs (j : Int) = x := by simp [cget, List.getD, hx]
  have hxb := g4 x (List.mem_of_getElem? hx)
  refine T_join (fun vs H' => vs = [] ∧ cl b (cB1 n rw) :: cl rw (iv .i64 xs).toArray :: H = H' ∧ 0 ≤ y) ?_ fun R hR => T_xif_f rfl (T_xif (fun h => ?_) fun h => hR _ _ ⟨rfl, rfl, by simp at h; omega⟩)
  rotate_left
  · have h : y < 0 := by simpa using h
    have e : cerr xs (j : Int) y = 2 := by rw [cerr, if_neg (by omega)]
    rw [cadd, e, if_neg (by decide)] at hk
    exact cbk_close1 h1 h2 h3 h4 hk
  rintro vs H' ⟨rfl, rfl, hy⟩
  simp only [T_imp]
  intro _
  refine atomic_Load (i := j) (cs := (iv .i64 xs).toArray) (by rw [List.getElem?_toArray]; exact iv_get hx) ?_
  simp only [asI_int]
  rw [wrap_i64 (n := 4611686018427387904 - x) (by simp only [mostC] at hxb; omega) (by omega)]
  have e0 : cerr xs (j : Int) y = if y > mostC - x then 6 else 0 := by rw [cerr, if_pos (by omega), hg]
  refine T_xif (fun h => ?_) fun h => ?_
  · have h : y > mostC - x := by simpa using h
    rw [if_pos h] at e0
    rw [cadd, e0, if_neg (by decide)] at hk
    exact cbk_close1 h1 h2 h3 h4 hk
  · have h : ¬ y > mostC - x := by simpa using h
    rw [if_neg h] at e0
    rw [cadd, e0, if_pos rfl, hg, Int.toNat_natCast] at hk
    refine atomic_Add (i := j) (cs := (iv .i64 xs).toArray) (H' := fun ds => cl b (cB1 n rw) :: cl rw ds :: H) (by rw [List.getElem?_toArray]; exact iv_get hx) ?_
    simp only [asI_int]
    rw [wrap_i64 (n := x + y) (by omega) (by simp only [mostC] at *; omega)]
    have e : (iv .i64 xs).toArray.setIfInBounds j (.int .i64 (x + y)) = (iv .i64 (xs.set j (x + y))).toArray := by
      simp [iv, List.map_set]
    rw [e]
    refine cbk_close1 h1 h2 (by simpa using h3) (fun z hz => ?_) hk
    rcases List.mem_or_eq_of_mem_set hz with h' | rfl
    · exact h4 z h'
    · exact ⟨by omega, by omega⟩

theorem count_All_nil (hk : T B H (K (.slice none 0 0))) : T B H (callP P f_count_Book_All #[.pointer none] K) := by
  refine T_of (call_count_Book_All _) ?_
  unfold F_count_Book_All
  exact T_xif_t rfl hk

theorem count_All_zero {z : Nat} (hk : ∀ c, T B (cl c #[] :: cl z (cB0 0) :: H) (K (.slice (some ⟨c, 0, none⟩) 0 0))) : T B (cl z (cB0 0) :: H) (callP P f_count_Book_All #[.pointer (some ⟨z, 0, none⟩)] K) := by
  refine T_of (call_count_Book_All _) ?_
  unfold F_count_Book_All
  simp only [adr_some, add_mk]
  refine T_xif_f rfl (T_ldI rfl (T_mkSl (by decide) (by decide) (by decide) (by rw [bytes3]; decide) (by kernel_rfl) (by kernel_rfl) fun c => ?_))
  rw [cells3, zc3, reps_one]
  refine T_loop (fun vs H' => vs = [.int .i64 0] ∧ cl c #[] :: cl z (cB0 0) :: H = H') (fun _ => 0) ⟨rfl, rfl⟩ ?_
  rintro vs H' R ⟨rfl, rfl⟩ hR
  simp only [T_all, T_imp]
  intro n26 heq
  simp only [List.cons.injEq, Value.int.injEq, true_and, and_true] at heq
  subst heq
  exact T_xif_f (by decide) (hk c)

theorem cbk_size {p : HP} {f : Int → HP} (hp : p = ldI .i64 ⟨b, 0, none⟩ f) (t : T B (cbk b n xs :: H) (f (n : Int))) : T B (cbk b n xs :: H) p := by
  subst hp
  refine cbk_cases (fun h1 h2 hx => T_ldI rfl ?_) fun h1 h2 h3 h4 rw => T_ldI rfl (cbk_close1 h1 h2 h3 h4 t)
  subst hx
  exact cbk_close0 h1 h2 t

theorem count_All (hk : ∀ c, T B (cl c (iv .i64 xs).toArray :: cbk b n xs :: H) (K (.slice (some ⟨c, 0, none⟩) n n))) : T B (cbk b n xs :: H) (callP P f_count_Book_All #[.pointer (some ⟨b, 0, none⟩)] K) := by
  refine cbk_facts fun g1 g2 g3 g4 => ?_
  refine T_of (call_count_Book_All _) ?_
  unfold F_count_Book_All
  simp only [adr_some, add_mk]
  refine T_xif_f rfl (cbk_size rfl (T_mkSl (by omega) (by omega) (by omega) (by rw [bytes3]; omega) (by kernel_rfl) (by kernel_rfl) fun c => ?_))
  rw [cells3, zc3, reps_one, Nat.mul_one, Int.toNat_natCast]
  refine T_loop (fun vs H' => ∃ i : Nat, i ≤ n ∧ vs = [.int .i64 (i : Int)] ∧ cl c ((iv .i64 xs).take i ++ List.replicate (n - i) (Value.int .i64 0)).toArray :: cbk b n xs :: H = H')
    (fun vs => match vs with | [.int _ i] => n - i.toNat | _ => 0) ⟨0, Nat.zero_le _, rfl, by simp⟩ ?_
  rintro vs H' R ⟨i, hi, rfl, rfl⟩ hR
  simp only [T_all, T_imp]
  intro n26 heq
  simp only [List.cons.injEq, Value.int.injEq, true_and, and_true] at heq
  subst heq
  refine T_xif (fun hc => ?_) fun hc => ?_
  · have hlt : i < n := by simpa using hc
    obtain ⟨x, hx⟩ : ∃ x, xs[i]? = some x := ⟨_, List.getElem?_eq_getElem (by omega)⟩
    refine T_perm (List.Perm.swap _ _ _) (count_Get (T_perm (List.Perm.swap _ _ _) ?_))
    have hg : cget xs (i : Int) = x := by simp [cget, List.getD, hx]
    simp only [asI_int, hg, Int.toNat_natCast]
    refine T_req ⟨by omega, by omega⟩ (T_st (by simp; omega) rfl ?_)
    rw [wrap_succ (i := i) (by omega)]
    refine hR _ _ ⟨i + 1, by omega, rfl, ?_⟩ (by simp only [Int.toNat_natCast]; omega)
    simp only [Nat.zero_add, List.setIfInBounds_toArray]
    rw [set_take (by simpa using g3) hlt (iv_get hx)]
  · have : i = n := by simp at hc; omega
    subst this
    rw [List.take_of_length_le (by simp; omega), Nat.sub_self, List.replicate_zero, List.append_nil]
    exact hk c

end
end Go.Proofs.Ytnhgcgjmmalebaa
