/- Marks (layer 13): what each function does, over the heap; no condition. -/
import Derived.Test.YtjffekopjfchnaaGen
import Derived.Test.YtjffekopjfchnaaXo
set_option linter.unusedVariables false
set_option linter.unusedSimpArgs false
namespace Go.Proofs.Ytjffekopjfchnaa
open Go.XS

def H0 : Int := 14695981039346656037
def stepB (h b : Int) : Int := IntKind.wrap .u64 (ibits .xor .u64 h b * 1099511628211)
def byteOf (n : Int) (k : Nat) : Int := IntKind.wrap .u64 (IntKind.wrap .u8 (ishr .i64 n (IntKind.wrap .i64 (8 * (k : Int)))))
def hB (n h : Int) : Nat → Int
  | 0 => h
  | k + 1 => stepB (hB n h k) (byteOf n k)
def hL (h : Int) (zs : List Int) : Int := zs.foldl (fun h n => hB n h 8) h
def sumOf (h : Int) : Int := IntKind.wrap .i64 (ishr .u64 (ishl .u64 h 1) 1)

def mCells (h : Int) (b : Bool) : Array Value := #[.int .u64 h, .bool b]

theorem hL_append (h : Int) (xs ys : List Int) : hL h (xs ++ ys) = hL (hL h xs) ys := by simp [hL]
theorem hL_snoc (h : Int) (xs : List Int) (z : Int) : hL h (xs ++ [z]) = hB z (hL h xs) 8 := by simp [hL]

theorem wrap_u64 (n : Int) : IntKind.wrap .u64 n = n % 18446744073709551616 := by rfl
theorem u64_range (n : Int) : 0 ≤ IntKind.wrap .u64 n ∧ IntKind.wrap .u64 n < 18446744073709551616 := by
  rw [wrap_u64]; omega

theorem hB_range {n h : Int} (h0 : 0 ≤ h ∧ h < 18446744073709551616) : ∀ k, 0 ≤ hB n h k ∧ hB n h k < 18446744073709551616
  | 0 => h0
  | k + 1 => u64_range _

theorem hL_range : ∀ (zs : List Int) {h : Int} (h0 : 0 ≤ h ∧ h < 18446744073709551616), 0 ≤ hL h zs ∧ hL h zs < 18446744073709551616
  | [], h, h0 => h0
  | z :: zs, h, h0 => hL_range zs (hB_range h0 8)

theorem bv1 {w : Nat} (x y : BitVec w) : (x ||| y).toNat = (x ^^^ y).toNat + (x &&& y).toNat := by
  have h0 : (x ^^^ y) &&& (x &&& y) = 0#w := by
    ext i; simp; cases x[i] <;> cases y[i] <;> simp
  rw [← BitVec.toNat_add_of_and_eq_zero h0, BitVec.add_eq_or_of_and_eq_zero _ _ h0]
  congr 1
  ext i; simp; cases x[i] <;> cases y[i] <;> simp

theorem ibits_u64 {w : BitVec 64} : IntKind.wrap .u64 (w.toNat : Int) = w.toNat := by
  rw [wrap_u64]
  have := w.isLt
  omega

theorem ref_step_eq (h b : Int) : IntKind.wrap .u64 (IntKind.wrap .u64 (ibits .or .u64 h b - ibits .and .u64 h b) * 1099511628211) = stepB h b := by
  have e : ibits .or .u64 h b - ibits .and .u64 h b = ibits .xor .u64 h b := by
    show IntKind.wrap .u64 ((BitVec.ofInt 64 h ||| BitVec.ofInt 64 b).toNat : Int) - IntKind.wrap .u64 ((BitVec.ofInt 64 h &&& BitVec.ofInt 64 b).toNat : Int) = IntKind.wrap .u64 ((BitVec.ofInt 64 h ^^^ BitVec.ofInt 64 b).toNat : Int)
    rw [ibits_u64, ibits_u64, ibits_u64, bv1]
    omega
  rw [e, stepB]
  congr 2
  show IntKind.wrap .u64 (IntKind.wrap .u64 _) = IntKind.wrap .u64 _
  rw [wrap_u64, wrap_u64]
  omega

/-- What the reference has left of a number behind 'k' bytes. -/
def leftOf (n : Int) : Nat → Int
  | 0 => IntKind.wrap .u64 n
  | k + 1 => IntKind.wrap .u64 (Int.tdiv (leftOf n k) 256)

theorem left_div (n : Int) : ∀ k, leftOf n k = n % 18446744073709551616 / 256 ^ k
  | 0 => by simp [leftOf, wrap_u64]
  | k + 1 => by
    rw [leftOf, left_div n k, wrap_u64]
    have h0 : 0 ≤ n % 18446744073709551616 := by omega
    have hp : (0 : Int) < 256 ^ k := Int.pow_pos (by omega)
    have h1 : 0 ≤ n % 18446744073709551616 / 256 ^ k := Int.ediv_nonneg h0 (by omega)
    have h2 : n % 18446744073709551616 / 256 ^ k ≤ n % 18446744073709551616 := Int.ediv_le_self _ h0
    rw [Int.tdiv_eq_ediv_of_nonneg h1, Int.pow_succ, ← Int.ediv_ediv_of_nonneg (by omega)]
    omega

theorem byte_eq (n : Int) (k : Nat) (hk : k < 8) : Int.tmod (leftOf n k) 256 = byteOf n k := by
  have h0 : 0 ≤ n % 18446744073709551616 := by omega
  have hp : (0 : Int) < 256 ^ k := Int.pow_pos (by omega)
  have h1 : 0 ≤ n % 18446744073709551616 / 256 ^ k := Int.ediv_nonneg h0 (by omega)
  rw [left_div, Int.tmod_eq_emod_of_nonneg h1]
  have hu8 : ∀ m : Int, IntKind.wrap .u8 m = m % 256 := fun m => rfl
  unfold byteOf ishr
  rw [wrap_u64, hu8]
  match k, hk with
  | 0, _ => show n % 18446744073709551616 / 1 % 256 = n.fdiv 1 % 256 % 18446744073709551616; rw [Int.fdiv_eq_ediv_of_nonneg _ (by omega)]; omega
  | 1, _ => show n % 18446744073709551616 / 256 % 256 = n.fdiv 256 % 256 % 18446744073709551616; rw [Int.fdiv_eq_ediv_of_nonneg _ (by omega)]; omega
  | 2, _ => show n % 18446744073709551616 / 65536 % 256 = n.fdiv 65536 % 256 % 18446744073709551616; rw [Int.fdiv_eq_ediv_of_nonneg _ (by omega)]; omega
  | 3, _ => show n % 18446744073709551616 / 16777216 % 256 = n.fdiv 16777216 % 256 % 18446744073709551616; rw [Int.fdiv_eq_ediv_of_nonneg _ (by omega)]; omega
  | 4, _ => show n % 18446744073709551616 / 4294967296 % 256 = n.fdiv 4294967296 % 256 % 18446744073709551616; rw [Int.fdiv_eq_ediv_of_nonneg _ (by omega)]; omega
  | 5, _ => show n % 18446744073709551616 / 1099511627776 % 256 = n.fdiv 1099511627776 % 256 % 18446744073709551616; rw [Int.fdiv_eq_ediv_of_nonneg _ (by omega)]; omega
  | 6, _ => show n % 18446744073709551616 / 281474976710656 % 256 = n.fdiv 281474976710656 % 256 % 18446744073709551616; rw [Int.fdiv_eq_ediv_of_nonneg _ (by omega)]; omega
  | 7, _ => show n % 18446744073709551616 / 72057594037927936 % 256 = n.fdiv 72057594037927936 % 256 % 18446744073709551616; rw [Int.fdiv_eq_ediv_of_nonneg _ (by omega)]; omega

theorem sum_eq {h : Int} (h0 : 0 ≤ h ∧ h < 18446744073709551616) : sumOf h = IntKind.wrap .i64 (Int.tmod h 9223372036854775808) := by
  have e : ishr .u64 (ishl .u64 h 1) 1 = (h * 2 % 18446744073709551616).fdiv 2 := rfl
  rw [sumOf, e, Int.fdiv_eq_ediv_of_nonneg _ (by omega), Int.tmod_eq_emod_of_nonneg h0.1]
  congr 1
  omega

section
variable {B : Heap} {H : List HProp} {K : Value → HP}

theorem storeE : ExtIs P 45 Extern.Atomic.storeT := ext_of noCount Try.func45 (by kernel_rfl) (by kernel_rfl) (by kernel_rfl)
theorem loadE : ExtIs P 46 (Extern.Atomic.loadT (.int .u64)) := ext_of noCount Try.func46 (by kernel_rfl) (by kernel_rfl) (by kernel_rfl)

theorem atomic_Store {b i : Nat} {cs : Array Value} {n : Int} (hi : i < cs.size) (hk : T B (cl b (cs.setIfInBounds i (.int .u64 n)) :: H) (K (.tuple #[]))) :
    T B (cl b cs :: H) (callP P f_sync_atomic_Uint64_Store #[.pointer (some ⟨b, i, none⟩), .int .u64 n] K) := by
  refine T_of (call_sync_atomic_Uint64_Store _ _) ?_
  unfold F_sync_atomic_Uint64_Store
  simp only [adr_some, add_mk, Nat.add_zero]
  exact T_ext storeE (T_astore hi rfl (T_and rfl hk))

theorem atomic_Load {b i : Nat} {cs : Array Value} {n : Int} (hc : cs[i]? = some (.int .u64 n)) (hk : T B (cl b cs :: H) (K (.int .u64 n))) :
    T B (cl b cs :: H) (callP P f_sync_atomic_Uint64_Load #[.pointer (some ⟨b, i, none⟩)] K) := by
  refine T_of (call_sync_atomic_Uint64_Load _) ?_
  unfold F_sync_atomic_Uint64_Load
  simp only [adr_some, add_mk, Nat.add_zero]
  refine T_ext loadE (T_aload hc ?_)
  simp only [asI_int]
  exact hk

theorem mark_New (hk : ∀ b, T B (cl b (mCells H0 true) :: H) (K (.pointer (some ⟨b, 0, none⟩)))) : T B H (callP P f_mark_New #[] K) := by
  refine T_of call_mark_New ?_
  unfold F_mark_New
  refine T_al fun b => atomic_Store (by simp) (T_and rfl (hk b))

theorem mark_Add_nil {p : Option Addr} {l c : Nat} (hk : T B H (K (.tuple #[]))) : T B H (callP P f_mark_Mark_Add #[.pointer none, .slice p l c] K) := by
  refine T_of (call_mark_Mark_Add _ _ _ _) ?_
  unfold F_mark_Mark_Add
  exact T_join (fun _ _ => False) (fun _ _ h => h.elim) fun R _ => T_xif_t rfl hk

theorem mark_Add_zero {b : Nat} {h : Int} {p : Option Addr} {l c : Nat} (hk : T B (cl b (mCells h false) :: H) (K (.tuple #[]))) :
    T B (cl b (mCells h false) :: H) (callP P f_mark_Mark_Add #[.pointer (some ⟨b, 0, none⟩), .slice p l c] K) := by
  refine T_of (call_mark_Mark_Add _ _ _ _) ?_
  unfold F_mark_Mark_Add
  refine T_join (fun _ _ => False) (fun _ _ h => h.elim) fun R _ => T_xif_f rfl ?_
  simp only [adr_some, add_mk]
  exact T_ldB rfl (T_xif_t rfl hk)

theorem mark_Add {b : Nat} {h : Int} {p : Option Addr} {l c : Nat} {zs : List Int} (hr : RdV B H p (iv .i64 zs)) (hz : l ≤ zs.length) (hb : l ≤ 1000000)
    (hk : T B (cl b (mCells (hL h (zs.take l)) true) :: H) (K (.tuple #[]))) :
    T B (cl b (mCells h true) :: H) (callP P f_mark_Mark_Add #[.pointer (some ⟨b, 0, none⟩), .slice p l c] K) := by
  refine T_of (call_mark_Mark_Add _ _ _ _) ?_
  unfold F_mark_Mark_Add
  have hr' : ∀ x, RdV B (x :: H) p (iv .i64 zs) := fun x => hr.tail
  refine T_join (fun vs H' => vs = [] ∧ H' = cl b (mCells h true) :: H) ?_ fun R hR => ?_
  rotate_left
  · refine T_xif_f rfl ?_
    simp only [adr_some, add_mk]
    exact T_ldB rfl (T_xif_f rfl (hR _ _ ⟨rfl, rfl⟩))
  rintro vs H' ⟨rfl, rfl⟩
  simp only [T_imp, adr_some, add_mk]
  intro _
  refine atomic_Load rfl ?_
  simp only [asI_int]
  refine T_loop (fun vs H' => ∃ i : Nat, i ≤ l ∧ vs = [.int .u64 (hL h (zs.take i)), .int .i64 (i : Int)] ∧ H' = cl b (mCells h true) :: H)
    (fun vs => match vs with | [_, .int _ i] => l - i.toNat | _ => 0) ⟨0, Nat.zero_le _, rfl, rfl⟩ ?_
  rintro s H' R ⟨i, hi, rfl, rfl⟩ hR
  simp only [T_all, T_imp]
  intro n8 n9 heq
  simp only [List.cons.injEq, Value.int.injEq, true_and, and_true] at heq
  obtain ⟨rfl, rfl⟩ := heq
  refine T_xif (fun hc => ?_) (fun hc => ?_)
  · have hlt : i < l := by simpa using hc
    obtain ⟨z, hz'⟩ : ∃ z, zs[i]? = some z := ⟨_, List.getElem?_eq_getElem (by omega)⟩
    refine T_rowI (hr' _) rfl hlt (iv_get hz') ?_
    refine T_loop (fun vs H' => ∃ k : Nat, k ≤ 8 ∧ vs = [.int .u64 (hB z (hL h (zs.take i)) k), .int .i64 (k : Int)] ∧ H' = cl b (mCells h true) :: H)
      (fun vs => match vs with | [_, .int _ i] => 8 - i.toNat | _ => 0) ⟨0, Nat.zero_le _, rfl, rfl⟩ ?_
    rintro s H' R2 ⟨k, hk8, rfl, rfl⟩ hR2
    simp only [T_all, T_imp]
    intro n15 n16 heq
    simp only [List.cons.injEq, Value.int.injEq, true_and, and_true] at heq
    obtain ⟨rfl, rfl⟩ := heq
    refine T_xif (fun hc => ?_) (fun hc => ?_)
    · have hlt8 : k < 8 := by simp at hc; omega
      refine T_req (by rw [wrap_i64 (by omega) (by omega)]; omega) ?_
      rw [wrap_succ (i := k) (by omega)]
      exact hR2 _ _ ⟨k + 1, by omega, rfl, rfl⟩ (by simp only [Int.toNat_natCast]; omega)
    · have : k = 8 := by simp at hc; omega
      subst this
      rw [wrap_succ (i := i) (by omega)]
      exact hR _ _ ⟨i + 1, by omega, by rw [take_succ_of hz', hL_snoc], rfl⟩ (by simp only [Int.toNat_natCast]; omega)
  · have : i = l := by simp at hc; omega
    subst this
    exact atomic_Store (by simp [mCells]) (T_and rfl hk)

theorem mark_Sum_nil (hk : T B H (K (.int .i64 (sumOf H0)))) : T B H (callP P f_mark_Mark_Sum #[.pointer none] K) := by
  refine T_of (call_mark_Mark_Sum _) ?_
  unfold F_mark_Mark_Sum
  exact T_xif_f rfl (T_req (by decide) (T_req (by decide) hk))

theorem mark_Sum {b : Nat} {h : Int} {f : Bool} (hk : T B (cl b (mCells h f) :: H) (K (.int .i64 (if f then sumOf h else sumOf H0)))) :
    T B (cl b (mCells h f) :: H) (callP P f_mark_Mark_Sum #[.pointer (some ⟨b, 0, none⟩)] K) := by
  refine T_of (call_mark_Mark_Sum _) ?_
  unfold F_mark_Mark_Sum
  simp only [adr_some, add_mk]
  refine T_xif_t rfl (T_ldB rfl ?_)
  cases f
  · exact T_xif_f rfl (T_req (by decide) (T_req (by decide) hk))
  · refine T_xif_t rfl (atomic_Load rfl ?_)
    simp only [asI_int]
    exact T_req (by decide) (T_req (by decide) hk)

theorem ref13_step {h b : Int} (hk : T B H (K (.int .u64 (stepB h b)))) : T B H (callP P f_ref13_step #[.int .u64 h, .int .u64 b] K) := by
  refine T_of (call_ref13_step _ _) ?_
  unfold F_ref13_step
  rw [ref_step_eq]
  exact hk

theorem H0_range : 0 ≤ H0 ∧ H0 < 18446744073709551616 := by decide

theorem ref13_Of {p : Option Addr} {l c : Nat} {zs : List Int} (hr : RdV B H p (iv .i64 zs)) (hz : l ≤ zs.length) (hb : l ≤ 1000000)
    (hk : T B H (K (.int .i64 (sumOf (hL H0 (zs.take l)))))) :
    T B H (callP P f_ref13_Of #[.slice p l c] K) := by
  refine T_of (call_ref13_Of _ _ _) ?_
  unfold F_ref13_Of
  refine T_loop (fun vs H' => ∃ i : Nat, i ≤ l ∧ vs = [.int .u64 (hL H0 (zs.take i)), .int .i64 (i : Int)] ∧ H = H')
    (fun vs => match vs with | [_, .int _ i] => l - i.toNat | _ => 0) ⟨0, Nat.zero_le _, rfl, rfl⟩ ?_
  rintro s H' R ⟨i, hi, rfl, rfl⟩ hR
  simp only [T_all, T_imp]
  intro n3 n4 heq
  simp only [List.cons.injEq, Value.int.injEq, true_and, and_true] at heq
  obtain ⟨rfl, rfl⟩ := heq
  refine T_xif (fun hc => ?_) (fun hc => ?_)
  · have hlt : i < l := by simpa using hc
    obtain ⟨z, hz'⟩ : ∃ z, zs[i]? = some z := ⟨_, List.getElem?_eq_getElem (by omega)⟩
    refine T_rowI hr rfl hlt (iv_get hz') ?_
    refine T_loop (fun vs H' => ∃ k : Nat, k ≤ 8 ∧ vs = [.int .u64 (hB z (hL H0 (zs.take i)) k), .int .u64 (leftOf z k), .int .i64 (k : Int)] ∧ H = H')
      (fun vs => match vs with | [_, _, .int _ i] => 8 - i.toNat | _ => 0) ⟨0, Nat.zero_le _, rfl, rfl⟩ ?_
    rintro s H' R2 ⟨k, hk8, rfl, rfl⟩ hR2
    simp only [T_all, T_imp]
    intro n10 n11 n12 heq
    simp only [List.cons.injEq, Value.int.injEq, true_and, and_true] at heq
    obtain ⟨rfl, rfl, rfl⟩ := heq
    refine T_xif (fun hc => ?_) (fun hc => ?_)
    · have hlt8 : k < 8 := by simp at hc; omega
      rw [byte_eq z k hlt8]
      refine T_req (by decide) (ref13_step ?_)
      simp only [asI_int]
      rw [wrap_succ (i := k) (by omega)]
      exact T_req (by decide) (hR2 _ _ ⟨k + 1, by omega, rfl, rfl⟩ (by simp only [Int.toNat_natCast]; omega))
    · have : k = 8 := by simp at hc; omega
      subst this
      rw [wrap_succ (i := i) (by omega)]
      exact hR _ _ ⟨i + 1, by omega, by rw [take_succ_of hz', hL_snoc], rfl⟩ (by simp only [Int.toNat_natCast]; omega)
  · have : i = l := by simp at hc; omega
    subst this
    rw [← sum_eq (hL_range _ H0_range)]
    exact T_req (by decide) hk

end
end Go.Proofs.Ytjffekopjfchnaa
