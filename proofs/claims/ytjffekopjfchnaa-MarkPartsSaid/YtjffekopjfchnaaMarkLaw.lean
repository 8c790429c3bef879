/- The laws of marks (layer 13), over the heap; no condition but the arguments' forms. -/
import Derived.Test.YtjffekopjfchnaaMark
set_option linter.unusedVariables false
set_option linter.unusedSimpArgs false
namespace Go.Proofs.Ytjffekopjfchnaa
open Go.XS

def txt (s : ByteArray) (i : Nat) : Int := ((s.data[i]?).getD 0).toNat
/-- The length and the bytes of a text, as numbers. -/
def textL (s : ByteArray) (n : Nat) : List Int := (s.size : Int) :: (List.range n).map (txt s)

theorem textL_succ (s : ByteArray) (n : Nat) : textL s (n + 1) = textL s n ++ [txt s n] := by simp [textL, List.range_succ]
theorem textL_len (s : ByteArray) (n : Nat) : (textL s n).length = n + 1 := by simp [textL]
theorem txt_wrap (s : ByteArray) (i : Nat) : IntKind.wrap .i64 (strAt s (i : Int)) = txt s i := by
  have e : strAt s (i : Int) = txt s i := by simp [strAt, txt]
  rw [e, wrap_i64]
  · unfold txt; omega
  · unfold txt
    have := ((s.data[i]?).getD 0).toNat_lt
    omega

section
variable {B : Heap} {H : List HProp} {K : Value → HP}

theorem rd_cl {b : Nat} {zs : List Int} {cs : Array Value} [h : HasC B H b cs] (hc : cs = (iv .i64 zs).toArray) : RdV B H (some ⟨b, 0, none⟩) (iv .i64 zs) := by
  subst hc
  refine RdV.of_cl fun i hi => ?_
  simp

theorem mark_Of {p : Option Addr} {l c : Nat} {zs : List Int} (hr : RdV B H p (iv .i64 zs)) (hz : l ≤ zs.length) (hb : l ≤ 1000000)
    (hk : T B H (K (.int .i64 (sumOf (hL H0 (zs.take l)))))) : T B H (callP P f_mark_Of #[.slice p l c] K) := by
  refine T_of (call_mark_Of _ _ _) ?_
  unfold F_mark_Of
  refine mark_New fun b => ?_
  simp only [asP_ptr]
  refine mark_Add hr hz hb (T_and rfl (mark_Sum ?_))
  simp only [asI_int, if_true]
  exact T_drop hk

theorem mark_Text {s : ByteArray} (hs : s.size ≤ 1000) (hk : T B H (K (.int .i64 (sumOf (hL H0 (textL s s.size)))))) : T B H (callP P f_mark_Text #[.string s] K) := by
  refine T_of (call_mark_Text _) ?_
  unfold F_mark_Text
  refine mark_New fun b => ?_
  simp only [asP_ptr]
  refine T_al fun k => T_perm (List.Perm.swap _ _ _) ?_
  refine mark_Add (zs := [(s.size : Int)]) (rd_cl rfl) (by simp) (by omega) (T_and rfl ?_)
  refine T_loop (fun vs H' => ∃ (i : Nat) (H1 : List HProp), i ≤ s.size ∧ vs = [.int .i64 (i : Int)] ∧ H' = cl b (mCells (hL H0 (textL s i)) true) :: H1 ∧ T B H1 (K (.int .i64 (sumOf (hL H0 (textL s s.size))))))
    (fun vs => match vs with | [.int _ i] => s.size - i.toNat | _ => 0) ⟨0, _, Nat.zero_le _, rfl, rfl, T_drop hk⟩ ?_
  rintro vs H' R ⟨i, H1, hi, rfl, rfl, hk1⟩ hR
  simp only [T_all, T_imp]
  intro n8 heq
  simp only [List.cons.injEq, Value.int.injEq, true_and, and_true] at heq
  subst heq
  refine T_xif (fun hc => ?_) (fun hc => ?_)
  · have hlt : i < s.size := by simpa using hc
    refine T_req ⟨by omega, by omega⟩ (T_al fun k2 => T_perm (List.Perm.swap _ _ _) ?_)
    rw [txt_wrap]
    refine mark_Add (zs := [txt s i]) (rd_cl rfl) (by simp) (by omega) (T_and rfl ?_)
    rw [wrap_succ (i := i) (by omega)]
    refine hR _ _ ⟨i + 1, _, by omega, rfl, ?_, T_drop (q := cl k2 #[.int .i64 (txt s i)]) hk1⟩ (by simp only [Int.toNat_natCast]; omega)
    rw [textL_succ, hL_append]; rfl
  · have : i = s.size := by simp at hc; omega
    subst this
    refine mark_Sum ?_
    simp only [asI_int, if_true]
    exact T_drop hk1

theorem app26 {p : Option Addr} {l c m d : Nat} {xs ys : List Value} {q : Option Addr} {f : Option Addr → Nat → Nat → HP} (hb : l + m ≤ 1000000) (hy : RdV B (osl 1 p l c xs :: H) q ys) (hyl : ys.length = m)
    (hone : ∀ v ∈ ys, v.oneCell' = true) (t : ∀ p' c', T B (osl 1 p' (l + m) c' (xs ++ ys) :: H) (f p' (l + m) c')) : T B (osl 1 p l c xs :: H) (appS P #[26, 26] p l c q m d f) :=
  app_rule (s := 1) (t0 := 26) (t1 := 26) (elem := 3) rfl rfl (by kernel_rfl) (by kernel_rfl) (by kernel_rfl) (by kernel_rfl) (by kernel_rfl)
    (by rw [show P.bytesOf 3 = 8 by kernel_rfl]; omega) (by rw [show P.bytesOf 3 = 8 by kernel_rfl]; omega) (by kernel_rfl) hy (by omega) hone t

theorem iv_one (k : IntKind) (zs : List Int) : ∀ v ∈ iv k zs, v.oneCell' = true := by
  intro v hv
  obtain ⟨z, _, rfl⟩ := List.mem_map.1 hv
  rfl
theorem iv_append (k : IntKind) (xs ys : List Int) : iv k (xs ++ ys) = iv k xs ++ iv k ys := by simp [iv]

theorem ref13_Text {s : ByteArray} (hs : s.size ≤ 1000) (hk : T B H (K (.int .i64 (sumOf (hL H0 (textL s s.size)))))) : T B H (callP P f_ref13_Text #[.string s] K) := by
  refine T_of (call_ref13_Text _) ?_
  unfold F_ref13_Text
  refine T_al fun k => T_oslOf 1 rfl ?_
  refine T_loop (fun vs H' => ∃ (i : Nat) (q : Option Addr) (d : Nat), i ≤ s.size ∧ vs = [.slice q (i + 1) d, .int .i64 (i : Int)] ∧ H' = osl 1 q (i + 1) d (iv .i64 (textL s i)) :: H)
    (fun vs => match vs with | [_, .int _ i] => s.size - i.toNat | _ => 0) ⟨0, _, 1, Nat.zero_le _, rfl, rfl⟩ ?_
  rintro vs H' R ⟨i, q, d, hi, rfl, rfl⟩ hR
  simp only [T_all, T_imp]
  intro p4 k5 k6 n7 heq
  simp only [List.cons.injEq, Value.int.injEq, Value.slice.injEq, true_and, and_true] at heq
  obtain ⟨⟨rfl, rfl, rfl⟩, rfl⟩ := heq
  refine T_xif (fun hc => ?_) (fun hc => ?_)
  · have hlt : i < s.size := by simpa using hc
    refine T_req ⟨by omega, by omega⟩ (T_al fun k2 => T_perm (List.Perm.swap _ _ _) ?_)
    rw [txt_wrap]
    refine app26 (ys := iv .i64 [txt s i]) (by omega) (RdV.tail (rd_cl rfl)) rfl (iv_one _ _) fun p' c' => ?_
    refine T_perm (List.Perm.swap _ _ _) (T_drop ?_)
    rw [wrap_succ (i := i) (by omega), ← iv_append, ← textL_succ]
    exact hR _ _ ⟨i + 1, p', c', by omega, rfl, rfl⟩ (by simp only [Int.toNat_natCast]; omega)
  · have : i = s.size := by simp at hc; omega
    subst this
    refine ref13_Of (zs := textL s s.size) RdV.of_osl (by rw [textL_len]; exact Nat.le_refl _) (by omega) ?_
    rw [List.take_of_length_le (by rw [textL_len]; exact Nat.le_refl _)]
    simp only [asI_int]
    exact T_drop hk

theorem nilRow {H : List HProp} : RdV B H none (iv .i64 []) := RdV.nil

theorem mark_works (hk : T B H (K (.bool true))) : T B H (callP P f_law13_works #[] K) := by
  refine T_of call_law13_works ?_
  unfold F_law13_works
  refine mark_New fun b => ?_
  simp only [asP_ptr]
  refine T_al fun k => T_perm (List.Perm.swap _ _ _) ?_
  refine mark_Add (zs := [1, 2]) (rd_cl rfl) (by simp) (by omega) (T_and rfl ?_)
  refine mark_Of (zs := []) nilRow (by simp) (by omega) ?_
  simp only [asI_int]
  refine T_xif_t (by decide +kernel) (mark_Sum ?_)
  simp only [asI_int, if_true]
  refine T_al fun k2 => mark_Of (zs := [1, 2]) (rd_cl rfl) (by simp) (by omega) ?_
  simp only [asI_int]
  refine T_xif_t (by simp) (T_al fun k3 => mark_Of (zs := [1]) (rd_cl rfl) (by simp) (by omega) ?_)
  simp only [asI_int]
  refine T_al fun k4 => mark_Of (zs := [2]) (rd_cl rfl) (by simp) (by omega) ?_
  simp only [asI_int]
  have e : (sumOf (hL H0 [1]) != sumOf (hL H0 [2])) = true := by decide +kernel
  have e2 : (sumOf (hL H0 (List.take 1 [1])) != sumOf (hL H0 (List.take 1 [2]))) = true := e
  rw [e2]
  repeat (first | exact hk | refine T_drop ?_)

theorem law_MarkOf {p : Option Addr} {l c : Nat} {zs : List Int} {s : ByteArray} (hr : Arg B p (iv .i64 zs)) (hz : l ≤ zs.length) (hk : T B H (K (.bool true))) :
    T B H (callP P f_law13_MarkOf #[.slice p l c, .string s] K) := by
  refine T_of (call_law13_MarkOf _ _ _ _) ?_
  unfold F_law13_MarkOf
  have hworks : T B H (callP P f_law13_works #[] fun v => asB v fun b => K (.bool b)) := mark_works (by simpa only [asB_bool] using hk)
  refine T_join (fun vs H' => vs = [] ∧ H = H' ∧ l ≤ 200 ∧ s.size ≤ 300) ?_ fun R hR => ?_
  · rintro vs H' ⟨rfl, rfl, hl, hs⟩
    refine T_imp.2 fun _ => mark_Of (hr _) hz (by omega) ?_
    simp only [asI_int]
    refine ref13_Of (hr _) hz (by omega) ?_
    simp only [asI_int]
    refine T_xif_t (by simp) (mark_Text (by omega) ?_)
    simp only [asI_int]
    refine ref13_Text (by omega) ?_
    simp only [asI_int]
    exact T_xif_t (by simp) hworks
  · refine T_xif (fun _ => hworks) fun h => T_xif (fun _ => hworks) fun h2 => hR _ _ ⟨rfl, rfl, ?_, ?_⟩
    · simp at h; omega
    · simp at h2; omega

/-- The rows of a slice of slices: each is read whatever one owns. -/
def Rows (B : Heap) (rs : List (Option Addr × Nat × Nat × List Int)) : Prop := ∀ r ∈ rs, Arg B r.1 (iv .i64 r.2.2.2) ∧ r.2.1 ≤ r.2.2.2.length

def rowsV (rs : List (Option Addr × Nat × Nat × List Int)) : List Value := rs.map fun r => .slice r.1 r.2.1 r.2.2.1

def allOf (rs : List (Option Addr × Nat × Nat × List Int)) : List Int := rs.flatMap fun r => r.2.2.2.take r.2.1

theorem law_MarkParts {p : Option Addr} {l c : Nat} {rs : List (Option Addr × Nat × Nat × List Int)} (hr : Arg B p (rowsV rs)) (hz : l ≤ rs.length) (hrs : Rows B rs) (hk : T B H (K (.bool true))) :
    T B H (callP P f_law13_MarkParts #[.slice p l c] K) := by
  refine T_of (call_law13_MarkParts _ _ _) ?_
  unfold F_law13_MarkParts
  have hworks : ∀ H', T B H' (K (.bool true)) → T B H' (callP P f_law13_works #[] fun v => asB v fun b => K (.bool b)) := fun H' h => mark_works (by simpa only [asB_bool] using h)
  refine T_xif (fun _ => hworks _ hk) fun hlen => ?_
  have hlen : l ≤ 20 := by simp at hlen; omega
  refine mark_New fun b => ?_
  simp only [asP_ptr]
  refine T_al fun k => T_oslNil 1 ?_
  refine T_loop (fun vs H' => ∃ (i : Nat) (q : Option Addr) (n d : Nat), i ≤ l ∧ n ≤ 40 * i ∧ n = (allOf (rs.take i)).length ∧ vs = [.slice q n d, .int .i64 (i : Int)] ∧
      H' = osl 1 q n d (iv .i64 (allOf (rs.take i))) :: cl k (mCells 0 false) :: cl b (mCells (hL H0 (allOf (rs.take i))) true) :: H)
    (fun vs => match vs with | [_, .int _ i] => l - i.toNat | _ => 0) ⟨0, none, 0, 0, Nat.zero_le _, by omega, rfl, rfl, rfl⟩ ?_
  rintro vs H' R ⟨i, q, n, d, hi, hn, hnl, rfl, rfl⟩ hR
  simp only [T_all, T_imp]
  intro p8 k9 k10 n11 heq
  simp only [List.cons.injEq, Value.int.injEq, Value.slice.injEq, true_and, and_true] at heq
  obtain ⟨⟨rfl, rfl, rfl⟩, rfl⟩ := heq
  refine T_xif (fun hc => ?_) (fun hc => ?_)
  · have hlt : i < l := by simpa using hc
    obtain ⟨⟨a, m, e, zs⟩, hz'⟩ : ∃ z, rs[i]? = some z := ⟨_, List.getElem?_eq_getElem (by omega)⟩
    have hx : (rowsV rs)[i]? = some (.slice a m e) := by simp [rowsV, hz']
    obtain ⟨ha, hm⟩ := hrs _ (List.mem_of_getElem? hz')
    simp only at ha hm
    refine T_argS hr rfl hlt hx (T_xif (fun _ => hworks _ (T_drop (T_drop (T_drop hk)))) fun hm40 => ?_)
    have hm40 : m ≤ 40 := by simp at hm40; omega
    refine T_argS hr rfl hlt hx (T_at (b := b) (fun _ => mark_Add (ha _) hm (by omega)) (T_and rfl ?_))
    refine T_argS hr rfl hlt hx (mark_Add_nil (T_and rfl ?_))
    refine T_argS hr rfl hlt hx (T_at (b := k) (fun _ => mark_Add_zero) (T_and rfl ?_))
    refine T_argS hr rfl hlt hx ?_
    refine app26 (ys := iv .i64 (zs.take m)) (by omega) ?_ (by simp; omega) (iv_one _ _) fun p' c' => ?_
    · have := (ha (osl 1 q n d (iv .i64 (allOf (rs.take i))) :: cl k (mCells 0 false) :: cl b (mCells (hL (hL H0 (allOf (rs.take i))) (zs.take m)) true) :: H)).take m (by simpa using hm)
      simpa [iv, List.map_take] using this
    have hall : allOf (rs.take (i + 1)) = allOf (rs.take i) ++ zs.take m := by
      rw [take_succ_of hz']; simp [allOf]
    rw [← hL_append, ← iv_append, ← hall]
    refine T_at (b := b) (fun _ => mark_Sum) ?_
    simp only [asI_int, if_true]
    have hlen2 : n + m = (allOf (rs.take (i + 1))).length := by rw [hall]; simp; omega
    refine ref13_Of (zs := allOf (rs.take (i + 1))) RdV.of_osl (by omega) (by omega) ?_
    have htk : (allOf (rs.take (i + 1))).take (n + m) = allOf (rs.take (i + 1)) := List.take_of_length_le (by omega)
    rw [htk]
    simp only [asI_int]
    refine T_xif_f (by simp) ?_
    rw [wrap_succ (i := i) (by omega)]
    exact hR _ _ ⟨i + 1, p', n + m, c', by omega, by omega, hlen2, rfl, rfl⟩ (by simp only [Int.toNat_natCast]; omega)
  · refine mark_Sum_nil ?_
    simp only [asI_int]
    refine ref13_Of (zs := []) nilRow (by simp) (by omega) ?_
    simp only [asI_int]
    refine T_xif_t (by simp [hL]) (T_at (b := k) (fun _ => mark_Sum) ?_)
    simp only [asI_int]
    refine ref13_Of (zs := []) nilRow (by simp) (by omega) ?_
    simp only [asI_int]
    exact T_xif_t (by simp [hL]) (hworks _ (T_drop (T_drop (T_drop hk))))

end
end Go.Proofs.Ytjffekopjfchnaa
