/- Bytes (layer 10): what each function does, over the heap; no condition. -/
import Derived.Test.YtpnlldmmfbpmgaaBytesL
set_option linter.unusedVariables false
set_option linter.unusedSimpArgs false
namespace Go.Proofs.Ytpnlldmmfbpmgaa
open Go.XS

theorem zc105 : zc P 105 = (bv zrow).toArray := by kernel_rfl
theorem zc5 : zc P 5 = #[.int .u8 0] := by kernel_rfl
theorem cells5 : P.cellsOf 5 = 1 := by kernel_rfl
theorem bytes5 : P.bytesOf 5 = 1 := by kernel_rfl

def byS (r : Nat) (d : List UInt8) : Array Value := #[.map (some r), .int .i64 (d.length : Int)]

/-- Bytes in block b. -/
def byt (b : Nat) (d : List UInt8) : HProp := pureP (1 ≤ d.length ∧ d.length ≤ 1048576) <| exP fun r : Nat => packP [cl b (byS r d), IM r (gOf d)]

section
variable {B : Heap} {H : List HProp} {K : Value → HP} {b r : Nat} {d src : List UInt8}

theorem byt_open {p : HP} (t : 1 ≤ d.length → d.length ≤ 1048576 → ∀ r, T B (cl b (byS r d) :: IM r (gOf d) :: H) p) : T B (byt b d :: H) p :=
  T_unpure fun ⟨h1, h2⟩ => T_unex fun r => T_unpack (t h1 h2 r)
theorem byt_close {p : HP} (h1 : 1 ≤ d.length) (h2 : d.length ≤ 1048576) (t : T B (byt b d :: H) p) : T B (cl b (byS r d) :: IM r (gOf d) :: H) p :=
  T_topack (Hs := [cl b (byS r d), IM r (gOf d)]) (T_toex (q := fun r => packP [cl b (byS r d), IM r (gOf d)]) r (T_topure ⟨h1, h2⟩ t))
theorem byt_facts {p : HP} (t : 1 ≤ d.length → d.length ≤ 1048576 → T B (byt b d :: H) p) : T B (byt b d :: H) p :=
  T_unpure fun h => T_topure h (t h.1 h.2)

theorem gOf_zeros (n : Nat) : gOf (List.replicate n 0) = fun _ => none := by
  funext k
  exact (clean_iff.2 (cnt_zeros n)) k

theorem bytes_New_none {m : Int} (hm : m < 1 ∨ 1048576 < m) (hk : T B H (K (.pointer none))) : T B H (callP P f_bytes_New #[.int .i64 m] K) := by
  refine T_of (call_bytes_New _) ?_
  unfold F_bytes_New
  refine T_xif (fun _ => hk) fun h => T_xif_t ?_ hk
  simp at h ⊢; omega

theorem bytes_New {n : Nat} (h0 : 1 ≤ n) (h1 : n ≤ 1048576) (hk : ∀ b, T B (byt b (List.replicate n 0) :: H) (K (.pointer (some ⟨b, 0, none⟩)))) : T B H (callP P f_bytes_New #[.int .i64 (n : Int)] K) := by
  refine T_of (call_bytes_New _) ?_
  unfold F_bytes_New
  refine T_xif_f (by simp; omega) (T_xif_f (by simp; omega) (T_newIM fun r => T_al fun b => ?_))
  have := byt_close (r := r) (by simpa using h0) (by simpa using h1) (hk b)
  rw [gOf_zeros] at this
  simpa [byS] using this

/-- Are they all within? -/
def within (len : Nat) (a n : Int) : Prop := 0 ≤ a ∧ 0 ≤ n ∧ a + n ≤ (len : Int)
instance (len : Nat) (a n : Int) : Decidable (within len a n) := by unfold within; exact inferInstance
def errOf (len : Nat) (a n : Int) : Int := if within len a n then 0 else 15

theorem bytes_check_nil {a n : Int} (hk : T B H (K (.int .i64 16))) : T B H (callP P f_bytes_Bytes_check #[.pointer none, .int .i64 a, .int .i64 n] K) := by
  refine T_of (call_bytes_Bytes_check _ _ _) ?_
  unfold F_bytes_Bytes_check
  refine T_join (fun vs H' => vs = [.bool true] ∧ H = H') ?_ fun R hR => T_xif_t rfl (hR _ _ ⟨rfl, rfl⟩)
  rintro vs H' ⟨rfl, rfl⟩
  simp only [T_all, T_imp]
  intro b heq
  simp only [List.cons.injEq, Value.bool.injEq, and_true] at heq
  subst heq
  exact T_xif_t rfl hk

theorem bytes_check_zero {z : Nat} {a n : Int} (hk : T B (cl z #[.map none, .int .i64 0] :: H) (K (.int .i64 16))) :
    T B (cl z #[.map none, .int .i64 0] :: H) (callP P f_bytes_Bytes_check #[.pointer (some ⟨z, 0, none⟩), .int .i64 a, .int .i64 n] K) := by
  refine T_of (call_bytes_Bytes_check _ _ _) ?_
  unfold F_bytes_Bytes_check
  simp only [adr_some, add_mk]
  refine T_join (fun vs H' => vs = [.bool true] ∧ cl z #[.map none, .int .i64 0] :: H = H') ?_ fun R hR => T_xif_f rfl (T_ldM rfl (hR _ _ ⟨rfl, rfl⟩))
  rintro vs H' ⟨rfl, rfl⟩
  simp only [T_all, T_imp]
  intro b heq
  simp only [List.cons.injEq, Value.bool.injEq, and_true] at heq
  subst heq
  exact T_xif_t rfl hk

theorem bytes_check {a n : Int} (hk : T B (byt b d :: H) (K (.int .i64 (errOf d.length a n)))) : T B (byt b d :: H) (callP P f_bytes_Bytes_check #[.pointer (some ⟨b, 0, none⟩), .int .i64 a, .int .i64 n] K) := by
  refine byt_open fun h1 h2 r => ?_
  have hk := byt_close (r := r) h1 h2 hk
  refine T_of (call_bytes_Bytes_check _ _ _) ?_
  unfold F_bytes_Bytes_check
  simp only [adr_some, add_mk]
  refine T_join (fun vs H' => vs = [.bool false] ∧ cl b (byS r d) :: IM r (gOf d) :: H = H') ?_ fun R hR => T_xif_f rfl (T_ldM rfl (hR _ _ ⟨rfl, rfl⟩))
  rintro vs H' ⟨rfl, rfl⟩
  simp only [T_all, T_imp]
  intro b heq
  simp only [List.cons.injEq, Value.bool.injEq, and_true] at heq
  subst heq
  refine T_xif_f rfl (T_xif (fun h => T_conv hk ?_) fun h3 => T_xif (fun h => T_conv hk ?_) fun h4 => T_ldI rfl (T_xif (fun h => T_conv hk ?_) fun h5 => T_ldI rfl (T_xif (fun h => T_conv hk ?_) fun h => T_conv hk ?_)))
  · have h : a < 0 := by simpa using h
    rw [errOf, if_neg (by unfold within; omega)]
  · have h : n < 0 := by simpa using h
    rw [errOf, if_neg (by unfold within; omega)]
  · have h3 : 0 ≤ a := by simpa using h3
    have h4 : 0 ≤ n := by simpa using h4
    have h : a > (d.length : Int) := by simpa using h
    rw [errOf, if_neg (by unfold within; omega)]
  · have h3 : 0 ≤ a := by simpa using h3
    have h5 : a ≤ (d.length : Int) := by simpa using h5
    rw [wrap_i64 (by omega) (by omega)] at h
    have h : n > (d.length : Int) - a := by simpa using h
    rw [errOf, if_neg (by unfold within; omega)]
  · have h3 : 0 ≤ a := by simpa using h3
    have h4 : 0 ≤ n := by simpa using h4
    have h5 : a ≤ (d.length : Int) := by simpa using h5
    rw [wrap_i64 (by omega) (by omega)] at h
    have h : n ≤ (d.length : Int) - a := by simpa using h
    rw [errOf, if_pos (by unfold within; omega)]

theorem zcells {z : Value} (h : z.cells = zc P 105) : z = .agg (bv zrow).toArray := by
  rw [zc105] at h
  exact cells_agg h (by simp [zrow])

/-- A row is looked up. -/
theorem row_look {k : Nat} (hk : T B (IM r (gOf d) :: H) (K (.agg (bv (row d k)).toArray))) : T B (IM r (gOf d) :: H) (semP P (Instr.lookup 78 (.map (some r)) (.int .i64 (k : Int)) false) K) := by
  refine T_lookup (kt := 3) (et := 105) (by kernel_rfl) (by kernel_rfl) (by kernel_rfl) (fun z hg hz => ?_) fun v hg => ?_
  · rw [gOf_nat] at hg
    split at hg
    · cases hg
    · rename_i h
      have h : row d k = zrow := by simpa using h
      rw [zcells hz, ← h]
      exact hk
  · rw [gOf_nat] at hg
    split at hg
    · cases hg; exact hk
    · cases hg

theorem div_facts {a i : Nat} (h : a + i ≤ 2000000) : IntKind.wrap .i64 ((a : Int) + (i : Int)) = ((a + i : Nat) : Int) ∧ IntKind.wrap .i64 (Int.tdiv ((a + i : Nat) : Int) 64) = (((a + i) / 64 : Nat) : Int) ∧
    Int.tmod ((a + i : Nat) : Int) 64 = (((a + i) % 64 : Nat) : Int) := by
  refine ⟨?_, ?_, ?_⟩
  · rw [wrap_i64 (by omega) (by omega)]; omega
  · rw [Int.tdiv_eq_ediv_of_nonneg (by omega), wrap_i64 (by omega) (by omega)]; omega
  · rw [Int.tmod_eq_emod_of_nonneg (by omega)]; omega

theorem bytes_put {a : Nat} {g3 : Nat} {ca3 : Array Value} (hn : a + src.length ≤ d.length) (hd : d.length ≤ 1048576)
    (hfill : ∀ (p1 p2 : HProp) (k o m c i : Nat) (cells : List Value) (K' : Value → HP), o + m ≤ cells.length → i + m ≤ src.length →
      T B (cl k (setCells cells.toArray o (bv ((src.drop i).take m))) :: p1 :: p2 :: H) (K' (.tuple #[])) → T B (cl k cells.toArray :: p1 :: p2 :: H) (callV P g3 (Array.mk ([.slice (some ⟨k, o, none⟩) m c, .int .i64 (i : Int)] ++ ca3.toList)) K'))
    (hk : T B (cl b (byS r d) :: IM r (gOf (upd d a src)) :: H) (K (.tuple #[]))) :
    T B (cl b (byS r d) :: IM r (gOf d) :: H) (callP P f_bytes_Bytes_put #[.pointer (some ⟨b, 0, none⟩), .int .i64 (a : Int), .int .i64 (src.length : Int), .func (.func g3) #[] ca3] K) := by
  refine T_of (call_bytes_Bytes_put _ _ _ _ _) ?_
  unfold F_bytes_Bytes_put
  simp only [adr_some, add_mk]
  refine T_loop (fun vs H' => ∃ i : Nat, i ≤ src.length ∧ vs = [.int .i64 (i : Int)] ∧ cl b (byS r d) :: IM r (gOf (upd d a (src.take i))) :: H = H')
    (fun vs => match vs with | [.int _ i] => src.length - i.toNat | _ => 0) ⟨0, Nat.zero_le _, rfl, by rw [List.take_zero, upd_nil]⟩ ?_
  rintro vs H' R ⟨i, hi, rfl, rfl⟩ hR
  simp only [T_all, T_imp]
  intro n23 heq
  simp only [List.cons.injEq, Value.int.injEq, true_and, and_true] at heq
  subst heq
  refine T_xif (fun hc => ?_) (fun hc => ?_)
  rotate_left
  · have : i = src.length := by simp at hc; omega
    subst this
    rw [List.take_of_length_le (Nat.le_refl _)] at *
    exact hk
  have hlt : i < src.length := by simpa using hc
  obtain ⟨w1, w2, w3⟩ := div_facts (a := a) (i := i) (by omega)
  generalize hkk : (a + i) / 64 = kk at *
  generalize hk0 : (a + i) % 64 = k0 at *
  have hp : a + i = 64 * kk + k0 := by omega
  have hk64 : k0 < 64 := by omega
  have w4 : IntKind.wrap .i64 ((src.length : Int) - (i : Int)) = ((src.length - i : Nat) : Int) := by rw [wrap_i64 (by omega) (by omega)]; omega
  have w5 : IntKind.wrap .i64 ((64 : Int) - (k0 : Int)) = ((64 - k0 : Nat) : Int) := by rw [wrap_i64 (by omega) (by omega)]; omega
  let m : Nat := if src.length - i < 64 - k0 then src.length - i else 64 - k0
  have w6 : (if ((src.length - i : Nat) : Int) < ((64 - k0 : Nat) : Int) then ((src.length - i : Nat) : Int) else ((64 - k0 : Nat) : Int)) = (m : Int) := by
    simp only [m]; split <;> split <;> omega
  have hm1 : i + m ≤ src.length := by simp only [m]; split <;> omega
  have hm2 : k0 + m ≤ 64 := by simp only [m]; split <;> omega
  have hm3 : 0 < m := by simp only [m]; split <;> omega
  have w7 : IntKind.wrap .i64 ((k0 : Int) + (m : Int)) = ((k0 + m : Nat) : Int) := by rw [wrap_i64 (by omega) (by omega)]; omega
  have w8 : IntKind.wrap .i64 ((i : Int) + (m : Int)) = ((i + m : Nat) : Int) := by rw [wrap_i64 (by omega) (by omega)]; omega
  simp only [w1, w2, w3, w4, w5, w6, w7, w8, Int.toNat_natCast]
  refine T_req (by decide) (T_req (by decide) (T_ldM rfl ?_))
  refine T_perm (List.Perm.swap _ _ _) (row_look (T_perm (List.Perm.swap _ _ _) ?_))
  simp only [asA_agg]
  have hrl : (bv (row (upd d a (src.take i)) kk)).toArray.size = 64 := by simp
  refine T_al fun k => T_stA0 hrl (by rw [zc105]; simp [zrow]) (fun v hv => bv_one _ v (by simpa using hv)) (T_req ⟨by omega, by omega⟩ (T_req ⟨by omega, by omega⟩ ?_))
  have eb : aBase ⟨k, 0, none⟩ (P.cellsOf 5) k0 64 = ⟨k, k0, none⟩ := by
    unfold aBase
    rw [if_neg (by omega), cells5, add_mk]
    simp
  rw [eb, show k0 + m - k0 = m by omega]
  refine hfill _ _ k k0 m (64 - k0) i _ _ (by simp; omega) hm1 (T_and rfl ?_)
  rw [splice (by simp; omega), ← row_put hn hm1 hp hm2]
  refine T_ldA0 (by simp) ?_
  have hz : zc P 105 = (iv .u8 (zrow.map fun b => (b.toNat : Int))).toArray := by rw [zc105, bv_iv]
  rw [hz]
  simp only [bv_iv]
  refine T_eqArr (n := 64) (e := 5) (k := .u8) (by kernel_rfl) (by kernel_rfl) (by kernel_rfl) (by kernel_rfl) (by kernel_rfl) (by simp) (by simp [zrow]) ?_
  simp only [asB_bool]
  have hinj : ((row (upd d a (src.take (i + m))) kk).map fun b => (b.toNat : Int)) = (zrow.map fun b => (b.toNat : Int)) ↔ row (upd d a (src.take (i + m))) kk = zrow := by
    refine ⟨fun h => ?_, fun h => by rw [h]⟩
    exact List.map_inj_right (fun x y hxy => UInt8.toNat_inj.1 (by omega)) |>.1 h
  have hnext : T B (cl b (byS r d) :: IM r (gOf (upd d a (src.take (i + m)))) :: H) (R [.int .i64 ((i + m : Nat) : Int)]) :=
    hR _ _ ⟨i + m, hm1, rfl, rfl⟩ (by simp only [Int.toNat_natCast]; omega)
  refine T_xif (fun h => ?_) fun h => ?_
  · have h : row (upd d a (src.take (i + m))) kk = zrow := hinj.1 (of_decide_eq_true h)
    refine T_ldM rfl (T_drop (T_perm (List.Perm.swap _ _ _) (T_delete (et := 105) (by kernel_rfl) (by kernel_rfl) (T_and rfl ?_))))
    rw [gOf_put hn hm1 hp hm2 hk64 (by rw [gOf_nat, if_neg (by simpa using h)])]
    exact T_perm (List.Perm.swap _ _ _) hnext
  · have h : ¬ row (upd d a (src.take (i + m))) kk = zrow := fun hh => of_decide_eq_false h (hinj.2 hh)
    refine T_ldM rfl (T_ldA0 (by simp) (T_drop (T_perm (List.Perm.swap _ _ _) (T_mapUpdate (kt := 3) (et := 105) (by kernel_rfl) (by kernel_rfl) ?_))))
    rw [gOf_put hn hm1 hp hm2 hk64 (by rw [gOf_nat, if_pos h, bv_iv])]
    exact T_perm (List.Perm.swap _ _ _) hnext

end
end Go.Proofs.Ytpnlldmmfbpmgaa
