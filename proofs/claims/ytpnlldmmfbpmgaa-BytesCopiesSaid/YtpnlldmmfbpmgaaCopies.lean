/- Bytes (layer 10): where bytes are not 0, copies; no condition but the arguments' forms. -/
import Derived.Test.YtpnlldmmfbpmgaaBytesLaw
import Derived.Test.YtpnlldmmfbpmgaaXv
set_option linter.unusedVariables false
set_option linter.unusedSimpArgs false
namespace Go.Proofs.Ytpnlldmmfbpmgaa
open Go.XS

/-! ## Runs, in plain lists -/
def more (out : List (Nat × Nat)) (i : Nat) : List (Nat × Nat) :=
  match out.getLast? with
  | some p => if p.1 + p.2 = i then out.dropLast ++ [(p.1, p.2 + 1)] else out ++ [(i, 1)]
  | none => out ++ [(i, 1)]
def runsTo (d : List UInt8) : Nat → List (Nat × Nat)
  | 0 => []
  | i + 1 => if d.getD i 0 = 0 then runsTo d i else more (runsTo d i) i

theorem runsTo_zeros {d : List UInt8} {i : Nat} : ∀ (m : Nat), (∀ j, j < m → d.getD (i + j) 0 = 0) → runsTo d (i + m) = runsTo d i
  | 0, _ => rfl
  | m + 1, h => by
    show runsTo d (i + m + 1) = _
    rw [runsTo, if_pos (h m (by omega))]
    exact runsTo_zeros m fun j hj => h j (by omega)
theorem runsTo_end {d : List UInt8} {i : Nat} (h : d.length ≤ i) : runsTo d i = runsTo d d.length := by
  obtain ⟨m, rfl⟩ : ∃ m, i = d.length + m := ⟨i - d.length, by omega⟩
  exact runsTo_zeros m fun j _ => by simp [List.getD]

theorem more_len (out : List (Nat × Nat)) (i : Nat) : (more out i).length ≤ out.length + 1 := by
  unfold more
  split
  · split <;> simp
  · simp
theorem runsTo_len (d : List UInt8) : ∀ i, (runsTo d i).length ≤ i
  | 0 => Nat.le_refl _
  | i + 1 => by
    have := runsTo_len d i
    rw [runsTo]
    split
    · omega
    · have := more_len (runsTo d i) i
      omega
theorem more_bound {out : List (Nat × Nat)} {i : Nat} (h : ∀ p ∈ out, p.1 + p.2 ≤ i) : ∀ p ∈ more out i, p.1 + p.2 ≤ i + 1 := by
  intro p hp
  unfold more at hp
  split at hp
  · split at hp
    · rcases List.mem_append.1 hp with h1 | h1
      · have := h p (List.dropLast_subset _ h1); omega
      · simp at h1; subst h1; simp only; omega
    · rcases List.mem_append.1 hp with h1 | h1
      · have := h p h1; omega
      · simp at h1; subst h1; simp only; omega
  · rcases List.mem_append.1 hp with h1 | h1
    · have := h p h1; omega
    · simp at h1; subst h1; simp only; omega
theorem runsTo_bound (d : List UInt8) : ∀ i, ∀ p ∈ runsTo d i, p.1 + p.2 ≤ i
  | 0 => by simp [runsTo]
  | i + 1 => by
    rw [runsTo]
    split
    · intro p hp; have := runsTo_bound d i p hp; omega
    · exact more_bound (runsTo_bound d i)

def sv (out : List (Nat × Nat)) : List Value := out.flatMap fun p => [.int .i64 (p.1 : Int), .int .i64 (p.2 : Int)]
theorem sv_len (out : List (Nat × Nat)) : (sv out).length = out.length * 2 := flat_len (s := 2) (fun _ => rfl) out
theorem sv_get {out : List (Nat × Nat)} {i : Nat} {p : Nat × Nat} (h : out[i]? = some p) : (sv out)[i * 2 + 0]? = some (.int .i64 (p.1 : Int)) ∧ (sv out)[i * 2 + 1]? = some (.int .i64 (p.2 : Int)) :=
  ⟨flat_get (s := 2) (fun _ => rfl) out i p h 0 (by omega), flat_get (s := 2) (fun _ => rfl) out i p h 1 (by omega)⟩
theorem sv_append (a b : List (Nat × Nat)) : sv (a ++ b) = sv a ++ sv b := by simp [sv]
theorem sv_one (out : List (Nat × Nat)) : ∀ v ∈ sv out, v.oneCell' = true := by
  intro v hv
  obtain ⟨p, _, hp⟩ := List.mem_flatMap.1 hv
  simp at hp
  rcases hp with rfl | rfl <;> rfl

theorem zc111 : zc P 111 = #[.int .i64 0, .int .i64 0] := by kernel_rfl
theorem cells111 : P.cellsOf 111 = 2 := by kernel_rfl
theorem bytes111 : P.bytesOf 111 = 16 := by kernel_rfl

section
variable {B : Heap} {H : List HProp} {K : Value → HP} {b r : Nat} {d src : List UInt8}

/-- A run more. -/
theorem snoc96 {p : Option Addr} {l c : Nat} {out : List (Nat × Nat)} {x y : Nat} {f : Option Addr → Nat → Nat → HP} (hb : l ≤ 2000000)
    (t : ∀ p' c', T B (osl 2 p' (l + 1) c' (sv (out ++ [(x, y)])) :: H) (f p' (l + 1) c')) :
    T B (osl 2 p l c (sv out) :: H) (al #[.int .i64 (x : Int), .int .i64 (y : Int)] 111 fun k => appS P #[96, 96] p l c (some ⟨k, 0, none⟩) 1 1 f) := by
  refine T_al fun k => T_perm (List.Perm.swap _ _ _) ?_
  refine app_rule (s := 2) (t0 := 96) (t1 := 96) (elem := 111) (ys := sv [(x, y)]) rfl rfl (by kernel_rfl) (by kernel_rfl) (by kernel_rfl) (by kernel_rfl) (by kernel_rfl)
    (by rw [bytes111]; omega) (by rw [bytes111]; omega) (by kernel_rfl) (RdV.tail (RdV.of_cl fun i hi => ?_)) rfl (sv_one _) fun p' c' => ?_
  · simp [sv] at hi ⊢
  · refine T_perm (List.Perm.swap _ _ _) (T_drop ?_)
    rw [← sv_append]
    exact t p' c'

/-- A row is looked up, and whether it is there. -/
theorem row_look2 {k : Nat} (h0 : row d k = zrow → T B (IM r (gOf d) :: H) (K (.tuple #[.agg (bv (row d k)).toArray, .bool false]))) (h1 : T B (IM r (gOf d) :: H) (K (.tuple #[.agg (bv (row d k)).toArray, .bool true]))) :
    T B (IM r (gOf d) :: H) (semP P (Instr.lookup 78 (.map (some r)) (.int .i64 (k : Int)) true) K) := by
  refine T_lookup2 (kt := 3) (et := 105) (by kernel_rfl) (by kernel_rfl) (by kernel_rfl) (fun z hg hz => ?_) fun v hg => ?_
  · rw [gOf_nat] at hg
    split at hg
    · cases hg
    · rename_i h
      have h : row d k = zrow := by simpa using h
      rw [zcells hz, ← h]
      exact h0 h
  · rw [gOf_nat] at hg
    split at hg
    · cases hg; exact h1
    · cases hg

theorem bytes_Runs_nil (hk : T B H (K (.slice none 0 0))) : T B H (callP P f_bytes_Bytes_Runs #[.pointer none] K) := by
  refine T_of (call_bytes_Bytes_Runs _) ?_
  unfold F_bytes_Bytes_Runs
  refine T_loop (fun vs H' => vs = [.int .i64 0, .slice none 0 0] ∧ H = H') (fun _ => 0) ⟨rfl, rfl⟩ ?_
  rintro vs H' R ⟨rfl, rfl⟩ hR
  simp only [T_all, T_imp]
  intro n p k c heq
  simp only [List.cons.injEq, Value.int.injEq, Value.slice.injEq, true_and, and_true] at heq
  obtain ⟨rfl, rfl, rfl, rfl⟩ := heq
  exact T_join (fun _ _ => False) (fun _ _ h => h.elim) fun R2 _ => T_xif_f rfl hk

theorem more_last {out : List (Nat × Nat)} {i : Nat} {p : Nat × Nat} (h : out.getLast? = some p) (he : p.1 + p.2 = i) : more out i = out.dropLast ++ [(p.1, p.2 + 1)] := by
  unfold more; rw [h]; simp [he]
theorem more_new {out : List (Nat × Nat)} {i : Nat} (h : ∀ p, out.getLast? = some p → ¬ p.1 + p.2 = i) : more out i = out ++ [(i, 1)] := by
  unfold more
  split
  · rename_i p hp; rw [if_neg (h p hp)]
  · rfl

theorem set_last {out : List (Nat × Nat)} {p : Nat × Nat} (h : out.getLast? = some p) (hl : 0 < out.length) : (sv out).set ((out.length - 1) * 2 + 1) (.int .i64 ((p.2 + 1 : Nat) : Int)) = sv (out.dropLast ++ [(p.1, p.2 + 1)]) := by
  have e : out = out.dropLast ++ [p] := by
    have hne : out ≠ [] := by intro h0; subst h0; simp at hl
    have := List.dropLast_concat_getLast hne
    rw [List.getLast?_eq_some_getLast hne] at h
    rw [← Option.some.inj h]; exact this.symm
  have hd : out.dropLast.length = out.length - 1 := by simp
  conv => lhs; rw [e]
  rw [sv_append, sv_append, List.set_append_right _ _ (by rw [sv_len, ← e, hd]; omega), sv_len]
  congr 1
  have : (out.dropLast ++ [p]).length - 1 = out.dropLast.length := by simp
  rw [this, show out.dropLast.length * 2 + 1 - out.dropLast.length * 2 = 1 by omega]
  rfl

theorem bytes_Runs (hk : ∀ p' c', T B (osl 2 p' (runsTo d d.length).length c' (sv (runsTo d d.length)) :: byt b d :: H) (K (.slice p' (runsTo d d.length).length c'))) :
    T B (byt b d :: H) (callP P f_bytes_Bytes_Runs #[.pointer (some ⟨b, 0, none⟩)] K) := by
  refine byt_open fun h1 h2 r => ?_
  refine T_of (call_bytes_Bytes_Runs _) ?_
  unfold F_bytes_Bytes_Runs
  simp only [adr_some, add_mk]
  refine T_oslNil 2 (T_loop (fun vs H' => ∃ (i : Nat) (p' : Option Addr) (c' : Nat), i ≤ d.length + 64 ∧ vs = [.int .i64 (i : Int), .slice p' (runsTo d i).length c'] ∧ osl 2 p' (runsTo d i).length c' (sv (runsTo d i)) :: cl b (byS r d) :: IM r (gOf d) :: H = H')
    (fun vs => match vs with | [.int _ i, _] => d.length + 64 - i.toNat | _ => 0) ⟨0, none, 0, by omega, rfl, rfl⟩ ?_)
  rintro vs H' R ⟨i, p', c', hi, rfl, rfl⟩ hR
  simp only [T_all, T_imp]
  intro n p k c heq
  simp only [List.cons.injEq, Value.int.injEq, Value.slice.injEq, true_and, and_true] at heq
  obtain ⟨rfl, rfl, rfl, rfl⟩ := heq
  refine T_join (fun vs H' => vs = [] ∧ i < d.length ∧ osl 2 p' (runsTo d i).length c' (sv (runsTo d i)) :: cl b (byS r d) :: IM r (gOf d) :: H = H') ?_ fun R2 hR2 => T_xif_t rfl (T_ldI rfl (T_xif (fun hc => hR2 _ _ ⟨rfl, by simpa using hc, rfl⟩) fun hc => ?_))
  rotate_left
  · have : d.length ≤ i := by simpa using hc
    rw [runsTo_end this]
    refine T_perm (.trans (.swap _ _ _) (.cons _ (.swap _ _ _))) (byt_close h1 h2 (T_perm (List.Perm.swap _ _ _) (hk _ _)))
  rintro vs H' ⟨rfl, hlt, rfl⟩
  simp only [T_imp]
  intro _
  obtain ⟨_, w2, w3⟩ := div_facts (a := i) (i := 0) (by omega)
  rw [Nat.add_zero] at w2 w3
  generalize hkk : i / 64 = kk at *
  generalize hk0 : i % 64 = k0 at *
  have hp : i = 64 * kk + k0 := by omega
  have hk64 : k0 < 64 := by omega
  have hw : IntKind.wrap .i64 ((i : Int) + 1) = ((i + 1 : Nat) : Int) := wrap_succ (by omega)
  have hskip : IntKind.wrap .i64 (IntKind.wrap .i64 ((i : Int) + IntKind.wrap .i64 (63 - (k0 : Int))) + 1) = ((i + (64 - k0) : Nat) : Int) := by
    rw [wrap_i64 (n := 63 - (k0 : Int)) (by omega) (by omega), wrap_i64 (n := (i : Int) + (63 - (k0 : Int))) (by omega) (by omega), wrap_i64 (by omega) (by omega)]; omega
  simp only [w2, w3, hw, hskip, Int.toNat_natCast]
  have hgoS : (∀ j, j < 64 - k0 → d.getD (i + j) 0 = 0) → T B (osl 2 p' (runsTo d i).length c' (sv (runsTo d i)) :: cl b (byS r d) :: IM r (gOf d) :: H) (R [.int .i64 ((i + (64 - k0) : Nat) : Int), .slice p' (runsTo d i).length c']) := by
    intro hz
    have e := runsTo_zeros (d := d) (i := i) (64 - k0) hz
    exact hR _ _ ⟨i + (64 - k0), p', c', by omega, by rw [e], by rw [e]⟩ (by simp only [Int.toNat_natCast]; omega)
  have hrowz : row d kk = zrow → ∀ j, j < 64 - k0 → d.getD (i + j) 0 = 0 := by
    intro hz j hj
    have h3 := row_get (d := d) (k := kk) (j := k0 + j) (by omega)
    rw [hz, zrow, List.getElem?_replicate, if_pos (by omega)] at h3
    rw [show i + j = 64 * kk + (k0 + j) by omega]
    exact (Option.some.inj h3).symm
  have hperm : (osl 2 p' (runsTo d i).length c' (sv (runsTo d i)) :: cl b (byS r d) :: IM r (gOf d) :: H).Perm (IM r (gOf d) :: osl 2 p' (runsTo d i).length c' (sv (runsTo d i)) :: cl b (byS r d) :: H) :=
    .trans (.cons _ (.swap _ _ _)) (.swap _ _ _)
  have hrl : (bv (row d kk)).toArray.size = 64 := by simp
  refine T_ldM rfl (T_req (by decide) (T_perm hperm (row_look2 (fun hz => T_ex _ (T_ex _ (T_and rfl ?_))) (T_ex _ (T_ex _ (T_and rfl ?_))))))
  · exact T_al fun k => T_stA0 hrl (by rw [zc105]; simp [zrow]) (fun v hv => bv_one _ v (by simpa using hv)) (T_xif_t rfl (T_req (by decide) (T_drop (T_perm hperm.symm (hgoS (hrowz hz))))))
  · refine T_al fun k => T_stA0 hrl (by rw [zc105]; simp [zrow]) (fun v hv => bv_one _ v (by simpa using hv)) (T_xif_f rfl (T_req (by decide) (T_req ⟨by omega, by omega⟩ ?_)))
    have hz : (row d kk)[k0]? = some (d.getD i 0) := by rw [row_get hk64, ← hp]
    refine T_ldI (n := ((d.getD i 0).toNat : Int)) (by rw [List.getElem?_toArray, Nat.zero_add]; exact bv_get hz) (T_drop (T_perm hperm.symm ?_))
    refine T_xif (fun h => ?_) fun h => ?_
    · have h0 : d.getD i 0 = 0 := by
        have : (d.getD i 0).toNat = 0 := by simpa using h
        exact UInt8.toNat_inj.1 (by simpa using this)
      have e : runsTo d (i + 1) = runsTo d i := by rw [runsTo, if_pos h0]
      exact hR _ _ ⟨i + 1, p', c', by omega, by rw [e], by rw [e]⟩ (by simp only [Int.toNat_natCast]; omega)
    have h0 : ¬ d.getD i 0 = 0 := by
      intro h'
      rw [h'] at h
      simp at h
    have e : runsTo d (i + 1) = more (runsTo d i) i := by rw [runsTo, if_neg h0]
    have hlen := runsTo_len d i
    have hbound := runsTo_bound d i
    revert hR e hlen hbound
    generalize runsTo d i = out
    intro hR e hlen hbound
    clear hgoS hperm hk
    have wl : IntKind.wrap .i64 ((out.length : Int) - 1) = (out.length : Int) - 1 := wrap_i64 (by omega) (by omega)
    simp only [wl]
    refine T_join (fun vs H' => ∃ bb : Bool, vs = [.bool bb] ∧ (bb = true → ∃ p, out.getLast? = some p ∧ p.1 + p.2 = i) ∧ (bb = false → ∀ p, out.getLast? = some p → ¬ p.1 + p.2 = i) ∧ osl 2 p' out.length c' (sv out) :: cl b (byS r d) :: IM r (gOf d) :: H = H') ?_ fun R3 hR3 => ?_
    · rintro vs H' ⟨bb, rfl, ht, hf, rfl⟩
      simp only [T_all, T_imp]
      intro b39 heq
      simp only [List.cons.injEq, Value.bool.injEq, and_true] at heq
      subst heq
      refine T_xif (fun hb => ?_) fun hb => ?_
      · obtain ⟨q, hq, hqe⟩ := ht hb
        have hl : 0 < out.length := by
          cases out with
          | nil => simp at hq
          | cons => simp
        have hidx : out[out.length - 1]? = some q := by rw [← List.getLast?_eq_getElem?]; exact hq
        obtain ⟨g0, g1⟩ := sv_get hidx
        refine T_rowFI RdV.of_osl (i := out.length - 1) (by omega) (by omega) g1 (T_oslStF (i := out.length - 1) (by omega) (by omega) (by rw [sv_len]; omega) rfl ?_)
        rw [wrap_succ (i := q.2) (by omega), set_last hq hl, ← more_last hq hqe, ← e]
        have el : out.length = (runsTo d (i + 1)).length := by rw [e, more_last hq hqe]; simp; omega
        rw [el]
        exact hR _ _ ⟨i + 1, p', c', by omega, rfl, rfl⟩ (by simp only [Int.toNat_natCast]; omega)
      · have hm := more_new (hf hb)
        refine T_req (by rw [zc111]; rfl) (snoc96 (x := i) (y := 1) (by omega) fun p2 c2 => ?_)
        rw [← hm, ← e]
        have el : out.length + 1 = (runsTo d (i + 1)).length := by rw [e, hm]; simp
        rw [el]
        exact hR _ _ ⟨i + 1, p2, c2, by omega, rfl, rfl⟩ (by simp only [Int.toNat_natCast]; omega)
    · refine T_xif (fun hge => ?_) fun hge => hR3 _ _ ⟨false, rfl, (fun h => by cases h), fun _ q hq => ?_, rfl⟩
      · have hl : 0 < out.length := by simp at hge; omega
        obtain ⟨q, hidx⟩ : ∃ q, out[out.length - 1]? = some q := ⟨_, List.getElem?_eq_getElem (by omega)⟩
        have hq : out.getLast? = some q := by rw [List.getLast?_eq_getElem?]; exact hidx
        have hqb := hbound q (List.mem_of_getElem? hidx)
        obtain ⟨g0, g1⟩ := sv_get hidx
        have hro : RdV B (osl 2 p' out.length c' (sv out) :: cl b (byS r d) :: IM r (gOf d) :: H) p' (sv out) := RdV.of_osl
        refine T_rd_adr hro (by rw [sv_len]; omega) fun a48 ha => T_req ⟨by omega, by omega⟩ (T_rd_adr hro (by rw [sv_len]; omega) fun a49 ha2 => T_req ⟨by omega, by omega⟩ ?_)
        subst ha
        have ha2 := Option.some.inj ha2
        subst ha2
        have hnat : ((out.length : Int) - 1).toNat = out.length - 1 := by omega
        rw [hnat, add_add, add_add]
        refine T_rdI hro g0 (T_rdI hro g1 (hR3 _ _ ⟨_, rfl, fun hb => ⟨q, hq, ?_⟩, fun hb q' hq' => ?_, rfl⟩))
        · rw [wrap_i64 (by omega) (by omega)] at hb
          have : (q.1 : Int) + (q.2 : Int) = (i : Int) := by simpa using hb
          omega
        · rw [hq] at hq'
          cases hq'
          rw [wrap_i64 (by omega) (by omega)] at hb
          have : ¬ (q.1 : Int) + (q.2 : Int) = (i : Int) := by simpa using hb
          omega
      · have : out.length = 0 := by simp at hge; omega
        have : out = [] := List.length_eq_zero_iff.1 this
        subst this
        simp at hq

end
end Go.Proofs.Ytpnlldmmfbpmgaa
