/- What all layers share: two rows of numbers held against each other, a number more behind a row; no condition. -/
import Derived.Test.YtnhgcgjmmalebaaDoorBase0
set_option linter.unusedVariables false
set_option linter.unusedSimpArgs false
namespace Go.Proofs.YtnhgcgjmmalebaaDoor
open Go.XS

theorem cells3 : P.cellsOf 3 = 1 := by kernel_rfl
theorem zc3 : zc P 3 = #[.int .i64 0] := by kernel_rfl
theorem bytes3 : P.bytesOf 3 = 8 := by kernel_rfl

section
variable {B : Heap} {H : List HProp} {K : Value → HP}

theorem app34 {p : Option Addr} {l c m d : Nat} {xs ys : List Value} {q : Option Addr} {f : Option Addr → Nat → Nat → HP} (hb : l + m ≤ 10000000) (hy : RdV B (osl 1 p l c xs :: H) q ys) (hyl : ys.length = m)
    (hone : ∀ v ∈ ys, v.oneCell' = true) (t : ∀ p' c', T B (osl 1 p' (l + m) c' (xs ++ ys) :: H) (f p' (l + m) c')) : T B (osl 1 p l c xs :: H) (appS P #[32, 32] p l c q m d f) :=
  app_rule (s := 1) (t0 := 32) (t1 := 32) (elem := 3) rfl rfl (by kernel_rfl) (by kernel_rfl) (by kernel_rfl) (by kernel_rfl) (by kernel_rfl)
    (by rw [show P.bytesOf 3 = 8 by kernel_rfl]; omega) (by rw [show P.bytesOf 3 = 8 by kernel_rfl]; omega) (by kernel_rfl) hy (by omega) hone t

/-- A number more, behind an owned row. -/
theorem snoc34 {p : Option Addr} {l c : Nat} {xs : List Int} {x : Int} {f : Option Addr → Nat → Nat → HP} (hb : l ≤ 2000000)
    (t : ∀ p' c', T B (osl 1 p' (l + 1) c' (iv .i64 (xs ++ [x])) :: H) (f p' (l + 1) c')) :
    T B (osl 1 p l c (iv .i64 xs) :: H) (al #[.int .i64 x] 3 fun k => appS P #[32, 32] p l c (some ⟨k, 0, none⟩) 1 1 f) := by
  refine T_al fun k => T_perm (List.Perm.swap _ _ _) ?_
  refine app34 (ys := iv .i64 [x]) (by omega) (RdV.tail (rd_cl rfl)) rfl (iv_one _ _) fun p' c' => ?_
  refine T_perm (List.Perm.swap _ _ _) (T_drop ?_)
  rw [← iv_append]
  exact t p' c'

/-- Two like rows. -/
theorem SameInts_eq {p q : Option Addr} {l m c d : Nat} {xs : List Int} (hl : l = xs.length) (hm : m = xs.length) (hb : l ≤ 10000000) (hx : RdV B H p (iv .i64 xs)) (hy : RdV B H q (iv .i64 xs)) (hk : T B H (K (.bool true))) :
    T B H (callP P f_base_SameInts #[.slice p l c, .slice q m d] K) := by
  subst hl hm
  refine T_of (call_base_SameInts _ _ _ _ _ _) ?_
  unfold F_base_SameInts
  refine T_xif_f (by simp) ?_
  refine T_loop (fun vs H' => ∃ i : Nat, i ≤ xs.length ∧ vs = [.int .i64 (i : Int)] ∧ H = H')
    (fun vs => match vs with | [.int _ i] => xs.length - i.toNat | _ => 0) ⟨0, Nat.zero_le _, rfl, rfl⟩ ?_
  rintro s H' R ⟨i, hi, rfl, rfl⟩ hR
  simp only [T_all, T_imp]
  intro n heq
  simp only [List.cons.injEq, Value.int.injEq, true_and, and_true] at heq
  subst heq
  refine T_xif (fun hc => ?_) (fun _ => hk)
  have hlt : i < xs.length := by simpa using hc
  obtain ⟨z, hz⟩ : ∃ z, xs[i]? = some z := ⟨_, List.getElem?_eq_getElem hlt⟩
  refine T_rd_adr hx (by simp; omega) fun a ha => T_req ⟨by omega, by omega⟩ (T_rd_adr hy (by simp; omega) fun a2 ha2 => T_req ⟨by omega, by omega⟩ ?_)
  subst ha ha2
  rw [Int.toNat_natCast]
  refine T_rdI hx (iv_get hz) (T_rdI hy (iv_get hz) (T_xif_f (by simp) ?_))
  rw [wrap_succ (i := i) (by omega)]
  exact hR _ _ ⟨i + 1, by omega, rfl, rfl⟩ (by simp only [Int.toNat_natCast]; omega)

end
end Go.Proofs.YtnhgcgjmmalebaaDoor
