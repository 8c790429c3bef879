/- Wiping step by step (layer 18): what each function does, over the heap; no condition but the arguments' forms. -/
import Derived.Test.YtpnlldmmfbpmgaaBytesLaw
set_option linter.unusedVariables false
set_option linter.unusedSimpArgs false
namespace Go.Proofs.Ytpnlldmmfbpmgaa
open Go.XS

theorem addE : ExtIs P 75 (Extern.Atomic.update (Op.intArith .add) .i64 true) := ext_of noCount Try.func75 (by kernel_rfl) (by kernel_rfl) (by kernel_rfl)
theorem loadE : ExtIs P 76 (Extern.Atomic.loadT (.int .i64)) := ext_of noCount Try.func76 (by kernel_rfl) (by kernel_rfl) (by kernel_rfl)

def wS (b pl : Nat) : Array Value := #[.pointer (some ⟨b, 0, none⟩), .int .i64 (pl : Int)]

section
variable {B : Heap} {H : List HProp} {K : Value → HP} {w b pl : Nat} {d : List UInt8}

theorem atomic_Load {b i : Nat} {cs : Array Value} {n : Int} (hc : cs[i]? = some (.int .i64 n)) (hk : T B (cl b cs :: H) (K (.int .i64 n))) :
    T B (cl b cs :: H) (callP P f_sync_atomic_Int64_Load #[.pointer (some ⟨b, i, none⟩)] K) := by
  refine T_of (call_sync_atomic_Int64_Load _) ?_
  unfold F_sync_atomic_Int64_Load
  simp only [adr_some, add_mk, Nat.add_zero]
  refine T_ext loadE (T_aload hc ?_)
  simp only [asI_int]
  exact hk

theorem atomic_Add {b i : Nat} {cs : Array Value} {n y : Int} (hc : cs[i]? = some (.int .i64 n)) (hk : T B (cl b (cs.setIfInBounds i (.int .i64 (IntKind.wrap .i64 (n + y)))) :: H) (K (.int .i64 (IntKind.wrap .i64 (n + y))))) :
    T B (cl b cs :: H) (callP P f_sync_atomic_Int64_Add #[.pointer (some ⟨b, i, none⟩), .int .i64 y] K) := by
  refine T_of (call_sync_atomic_Int64_Add _ _) ?_
  unfold F_sync_atomic_Int64_Add
  simp only [adr_some, add_mk, Nat.add_zero]
  refine T_ext addE (T_aadd hc ?_)
  simp only [asI_int]
  exact hk

theorem scrub_is_nil (hk : T B H (K (.bool false))) : T B H (callP P f_scrub_Wiping_is #[.pointer none] K) := by
  refine T_of (call_scrub_Wiping_is _) ?_
  unfold F_scrub_Wiping_is
  exact T_xif_f rfl hk
theorem scrub_is {q : Option Addr} {v : Value} (hk : T B (cl w #[.pointer q, v] :: H) (K (.bool (!Option.isNone q)))) : T B (cl w #[.pointer q, v] :: H) (callP P f_scrub_Wiping_is #[.pointer (some ⟨w, 0, none⟩)] K) := by
  refine T_of (call_scrub_Wiping_is _) ?_
  unfold F_scrub_Wiping_is
  simp only [adr_some, add_mk]
  exact T_xif_t rfl (T_ldP rfl hk)

theorem scrub_Begin_nil (hk : T B H (K (.pointer none))) : T B H (callP P f_scrub_Begin #[.pointer none] K) := by
  refine T_of (call_scrub_Begin _) ?_
  unfold F_scrub_Begin
  refine bytes_Size_nil ?_
  simp only [asI_int]
  exact T_xif_t rfl hk
theorem scrub_Begin (hk : ∀ w, T B (cl w (wS b 0) :: byt b d :: H) (K (.pointer (some ⟨w, 0, none⟩)))) : T B (byt b d :: H) (callP P f_scrub_Begin #[.pointer (some ⟨b, 0, none⟩)] K) := by
  refine T_of (call_scrub_Begin _) ?_
  unfold F_scrub_Begin
  refine byt_facts fun h1 h2 => bytes_Size ?_
  simp only [asI_int]
  exact T_xif_f (by simp; intro h; subst h; simp at h1) (T_al fun w => hk w)

theorem scrub_Place_nil (hk : T B H (K (.int .i64 0))) : T B H (callP P f_scrub_Wiping_Place #[.pointer none] K) := by
  refine T_of (call_scrub_Wiping_Place _) ?_
  unfold F_scrub_Wiping_Place
  refine scrub_is_nil ?_
  simp only [asB_bool]
  exact T_xif_t rfl hk
theorem scrub_Place_zero (hk : T B (cl w #[.pointer none, .int .i64 0] :: H) (K (.int .i64 0))) : T B (cl w #[.pointer none, .int .i64 0] :: H) (callP P f_scrub_Wiping_Place #[.pointer (some ⟨w, 0, none⟩)] K) := by
  refine T_of (call_scrub_Wiping_Place _) ?_
  unfold F_scrub_Wiping_Place
  refine scrub_is ?_
  simp only [asB_bool]
  exact T_xif_t rfl hk
theorem scrub_Place (hk : T B (cl w (wS b pl) :: H) (K (.int .i64 (pl : Int)))) : T B (cl w (wS b pl) :: H) (callP P f_scrub_Wiping_Place #[.pointer (some ⟨w, 0, none⟩)] K) := by
  refine T_of (call_scrub_Wiping_Place _) ?_
  unfold F_scrub_Wiping_Place
  refine scrub_is ?_
  simp only [asB_bool, adr_some, add_mk]
  refine T_xif_f rfl (atomic_Load (i := 0 + 1) rfl ?_)
  simp only [asI_int]
  exact hk

theorem scrub_Left_nil (hk : T B H (K (.int .i64 0))) : T B H (callP P f_scrub_Wiping_Left #[.pointer none] K) := by
  refine T_of (call_scrub_Wiping_Left _) ?_
  unfold F_scrub_Wiping_Left
  refine scrub_is_nil ?_
  simp only [asB_bool]
  exact T_xif_t rfl hk
theorem scrub_Left_zero (hk : T B (cl w #[.pointer none, .int .i64 0] :: H) (K (.int .i64 0))) : T B (cl w #[.pointer none, .int .i64 0] :: H) (callP P f_scrub_Wiping_Left #[.pointer (some ⟨w, 0, none⟩)] K) := by
  refine T_of (call_scrub_Wiping_Left _) ?_
  unfold F_scrub_Wiping_Left
  refine scrub_is ?_
  simp only [asB_bool]
  exact T_xif_t rfl hk
theorem scrub_Left (hpl : pl ≤ d.length) (hk : T B (cl w (wS b pl) :: byt b d :: H) (K (.int .i64 ((d.length - pl : Nat) : Int)))) :
    T B (cl w (wS b pl) :: byt b d :: H) (callP P f_scrub_Wiping_Left #[.pointer (some ⟨w, 0, none⟩)] K) := by
  refine T_of (call_scrub_Wiping_Left _) ?_
  unfold F_scrub_Wiping_Left
  refine T_perm (List.Perm.swap _ _ _) (byt_facts fun h1 h2 => T_perm (List.Perm.swap _ _ _) (scrub_is ?_))
  simp only [asB_bool, adr_some, add_mk]
  refine T_xif_f rfl (T_ldP rfl (T_perm (List.Perm.swap _ _ _) (bytes_Size (T_perm (List.Perm.swap _ _ _) ?_))))
  simp only [asI_int]
  refine scrub_Place ?_
  simp only [asI_int]
  refine T_conv hk ?_
  rw [wrap_i64 (by omega) (by omega)]
  congr 1; omega

theorem scrub_Done_nil (hk : T B H (K (.bool false))) : T B H (callP P f_scrub_Wiping_Done #[.pointer none] K) := by
  refine T_of (call_scrub_Wiping_Done _) ?_
  unfold F_scrub_Wiping_Done
  refine scrub_is_nil ?_
  simp only [asB_bool]
  exact T_xif_f rfl hk
theorem scrub_Done_zero (hk : T B (cl w #[.pointer none, .int .i64 0] :: H) (K (.bool false))) : T B (cl w #[.pointer none, .int .i64 0] :: H) (callP P f_scrub_Wiping_Done #[.pointer (some ⟨w, 0, none⟩)] K) := by
  refine T_of (call_scrub_Wiping_Done _) ?_
  unfold F_scrub_Wiping_Done
  refine scrub_is ?_
  simp only [asB_bool]
  exact T_xif_f rfl hk
theorem scrub_Done (hpl : pl ≤ d.length) (hk : T B (cl w (wS b pl) :: byt b d :: H) (K (.bool (decide (pl = d.length))))) :
    T B (cl w (wS b pl) :: byt b d :: H) (callP P f_scrub_Wiping_Done #[.pointer (some ⟨w, 0, none⟩)] K) := by
  refine T_of (call_scrub_Wiping_Done _) ?_
  unfold F_scrub_Wiping_Done
  refine scrub_is ?_
  simp only [asB_bool]
  refine T_xif_t rfl (scrub_Left hpl ?_)
  simp only [asI_int]
  refine T_conv hk ?_
  congr 1
  by_cases h : pl = d.length
  · subst h; simp
  · have : ((d.length - pl : Nat) : Int) ≠ 0 := by omega
    rw [decide_eq_false h]
    exact (beq_eq_false_iff_ne.2 this).symm

theorem scrub_Step_nil {n : Int} (hk : T B H (K (.tuple #[.int .i64 0, .int .i64 16]))) : T B H (callP P f_scrub_Wiping_Step #[.pointer none, .int .i64 n] K) := by
  refine T_of (call_scrub_Wiping_Step _ _) ?_
  unfold F_scrub_Wiping_Step
  refine scrub_is_nil ?_
  simp only [asB_bool]
  exact T_xif_t rfl hk
theorem scrub_Step_zero {n : Int} (hk : T B (cl w #[.pointer none, .int .i64 0] :: H) (K (.tuple #[.int .i64 0, .int .i64 16]))) : T B (cl w #[.pointer none, .int .i64 0] :: H) (callP P f_scrub_Wiping_Step #[.pointer (some ⟨w, 0, none⟩), .int .i64 n] K) := by
  refine T_of (call_scrub_Wiping_Step _ _) ?_
  unfold F_scrub_Wiping_Step
  refine scrub_is ?_
  simp only [asB_bool]
  exact T_xif_t rfl hk
theorem scrub_Step_low {n : Int} (hn : n < 1) (hk : T B (cl w (wS b pl) :: H) (K (.tuple #[.int .i64 0, .int .i64 2]))) : T B (cl w (wS b pl) :: H) (callP P f_scrub_Wiping_Step #[.pointer (some ⟨w, 0, none⟩), .int .i64 n] K) := by
  refine T_of (call_scrub_Wiping_Step _ _) ?_
  unfold F_scrub_Wiping_Step
  refine scrub_is ?_
  simp only [asB_bool]
  exact T_xif_f rfl (T_xif_t (by simpa using hn) hk)

/-- How many of what is left. -/
def stepOf (left : Nat) (n : Int) : Nat := if (left : Int) < n then left else n.toNat
theorem stepOf_le {left : Nat} {n : Int} (h : 1 ≤ n) : stepOf left n ≤ left := by
  unfold stepOf; split <;> omega

theorem scrub_Step {n : Int} (hn : 1 ≤ n) (hpl : pl ≤ d.length) (hk : T B (cl w (wS b (pl + stepOf (d.length - pl) n)) :: byt b (upd d pl (List.replicate (stepOf (d.length - pl) n) 0)) :: H) (K (.tuple #[.int .i64 (stepOf (d.length - pl) n : Int), .int .i64 0]))) :
    T B (cl w (wS b pl) :: byt b d :: H) (callP P f_scrub_Wiping_Step #[.pointer (some ⟨w, 0, none⟩), .int .i64 n] K) := by
  refine T_of (call_scrub_Wiping_Step _ _) ?_
  unfold F_scrub_Wiping_Step
  refine T_perm (List.Perm.swap _ _ _) (byt_facts fun h1 h2 => T_perm (List.Perm.swap _ _ _) (scrub_is ?_))
  simp only [asB_bool]
  refine T_xif_f rfl (T_xif_f (by simp; omega) (scrub_Left hpl ?_))
  simp only [asI_int, adr_some, add_mk]
  have hs := stepOf_le (left := d.length - pl) hn
  have e : (if ((d.length - pl : Nat) : Int) < n then ((d.length - pl : Nat) : Int) else n) = (stepOf (d.length - pl) n : Int) := by
    unfold stepOf
    split <;> omega
  rw [e]
  generalize stepOf (d.length - pl) n = m at *
  refine T_ldP rfl (scrub_Place ?_)
  simp only [asI_int]
  have hin : within d.length (pl : Int) (m : Int) := by unfold within; omega
  refine T_andC rfl (T_perm (List.Perm.swap _ _ _) (bytes_Wipe (T_perm (List.Perm.swap _ _ _) ?_)))
  rw [errOf, if_pos hin, wiped, if_pos hin]
  simp only [asI_int, Int.toNat_natCast]
  refine T_xif_f rfl (atomic_Add (i := 0 + 1) (n := (pl : Int)) rfl ?_)
  simp only [asI_int]
  have hw : IntKind.wrap .i64 ((pl : Int) + (m : Int)) = ((pl + m : Nat) : Int) := by rw [wrap_i64 (by omega) (by omega)]; omega
  rw [hw]
  simpa [wS] using hk

/-- How many steps there are. -/
def stepsOf (size n : Int) : Int := if size < 1 ∨ n < 1 then 0 else 1 + (size - 1) / n

theorem scrub_Steps {size n : Int} (hs : size ≤ 9223372036854775807) (hk : T B H (K (.int .i64 (stepsOf size n)))) : T B H (callP P f_scrub_Steps #[.int .i64 size, .int .i64 n] K) := by
  refine T_of (call_scrub_Steps _ _) ?_
  unfold F_scrub_Steps
  refine T_xif (fun h => T_conv hk ?_) fun h => T_xif (fun h2 => T_conv hk ?_) fun h2 => T_req ?_ (T_conv hk ?_)
  · have h : size < 1 := by simpa using h
    rw [stepsOf, if_pos (.inl h)]
  · have h2 : n < 1 := by simpa using h2
    rw [stepsOf, if_pos (.inr h2)]
  · have h2 : ¬ n < 1 := by simpa using h2
    omega
  · have h : ¬ size < 1 := by simpa using h
    have h2 : ¬ n < 1 := by simpa using h2
    rw [stepsOf, if_neg (by omega), wrap_i64 (n := size - 1) (by omega) (by omega), Int.tdiv_eq_ediv_of_nonneg (by omega)]
    have h3 : (size - 1) / n ≤ size - 1 := Int.ediv_le_self _ (by omega)
    have h4 : 0 ≤ (size - 1) / n := Int.ediv_nonneg (by omega) (by omega)
    rw [wrap_i64 (n := (size - 1) / n) (by omega) (by omega), wrap_i64 (by omega) (by omega)]

theorem steps_eq {s m : Nat} (hs : 1 ≤ s) (hm : 1 ≤ m) : (if s / m * m < s then s / m + 1 else s / m) = 1 + (s - 1) / m := by
  have hq := Nat.div_add_mod s m
  have hr := Nat.mod_lt s (show 0 < m by omega)
  generalize s / m = q at *
  generalize s % m = r at *
  rw [Nat.mul_comm m q] at hq
  by_cases h : q * m < s
  · rw [if_pos h]
    have : (s - 1) / m = q := Nat.div_eq_of_lt_le (by omega) (by rw [Nat.add_mul]; omega)
    rw [this]; omega
  · rw [if_neg h]
    have h0 : 0 < q := by
      rcases Nat.eq_zero_or_pos q with h0 | h0
      · subst h0; omega
      · exact h0
    obtain ⟨t, rfl⟩ : ∃ t, q = t + 1 := ⟨q - 1, by omega⟩
    have : (s - 1) / m = t := Nat.div_eq_of_lt_le (by rw [Nat.add_mul] at hq; omega) (by omega)
    rw [this]; omega

theorem ref18_Steps {size n : Int} (hs : size ≤ 9223372036854775807) (hn : n ≤ 9223372036854775807) (hk : T B H (K (.int .i64 (stepsOf size n)))) : T B H (callP P f_ref18_Steps #[.int .i64 size, .int .i64 n] K) := by
  refine T_of (call_ref18_Steps _ _) ?_
  unfold F_ref18_Steps
  refine T_join (fun vs H' => vs = [] ∧ H = H' ∧ 0 ≤ size ∧ 1 ≤ n) ?_ fun R hR => T_xif (fun h => T_conv hk ?_) fun h => T_xif (fun h2 => T_conv hk ?_) fun h2 => hR _ _ ⟨rfl, rfl, by simp at h; omega, by simp at h2; omega⟩
  · rintro vs H' ⟨rfl, rfl, h0, h1⟩
    simp only [T_imp]
    intro _
    obtain ⟨s, rfl⟩ : ∃ s : Nat, size = (s : Int) := ⟨size.toNat, by omega⟩
    obtain ⟨m, rfl⟩ : ∃ m : Nat, n = (m : Int) := ⟨n.toNat, by omega⟩
    have hd : Int.tdiv (s : Int) (m : Int) = ((s / m : Nat) : Int) := by rw [Int.tdiv_eq_ediv_of_nonneg (by omega)]; simp
    have hq1 : s / m ≤ s := Nat.div_le_self _ _
    have hq2 : s / m * m ≤ s := Nat.div_mul_le_self _ _
    have hsteps : 1 ≤ s → (if s / m * m < s then s / m + 1 else s / m) = 1 + (s - 1) / m := fun h => steps_eq h (by omega)
    have htle : (s - 1) / m ≤ s - 1 := Nat.div_le_self _ _
    have hso : 1 ≤ s → stepsOf (s : Int) (m : Int) = ((1 + (s - 1) / m : Nat) : Int) := by
      intro hs1
      rw [stepsOf, if_neg (by omega)]
      have : ((s : Int) - 1) = ((s - 1 : Nat) : Int) := by omega
      rw [this]
      simp
    rw [hd]
    generalize s / m = q at *
    generalize (s - 1) / m = u at *
    have w1 : IntKind.wrap .i64 (q : Int) = (q : Int) := wrap_i64 (by omega) (by omega)
    have w2 : IntKind.wrap .i64 ((q : Int) * (m : Int)) = ((q * m : Nat) : Int) := by
      have e : (q : Int) * (m : Int) = ((q * m : Nat) : Int) := by simp
      rw [e, wrap_i64 (by omega) (by omega)]
    rw [w1, w2]
    refine T_req (by omega) (T_xif (fun h => T_conv hk ?_) fun h => T_conv hk ?_)
    · have h : q * m < s := by simp only [decide_eq_true_eq] at h; omega
      have hs1 : 1 ≤ s := by omega
      have e := hsteps hs1
      rw [if_pos h] at e
      rw [hso hs1, wrap_i64 (by omega) (by omega)]
      congr 1; omega
    · have h : ¬ q * m < s := by simp only [decide_eq_false_iff_not] at h; omega
      rcases Nat.eq_zero_or_pos s with h0 | h0
      · subst h0
        rw [stepsOf, if_pos (by omega)]
        congr 1; omega
      · have e := hsteps h0
        rw [if_neg h] at e
        rw [hso h0]
        congr 1; omega
  · have h : size < 0 := by simpa using h
    rw [stepsOf, if_pos (.inl (by omega))]
  · have h2 : n < 1 := by simpa using h2
    rw [stepsOf, if_pos (.inr h2)]

theorem ref18_Step {left : Nat} {n : Int} (hn : 1 ≤ n) (hk : T B H (K (.int .i64 (stepOf left n : Int)))) : T B H (callP P f_ref18_Step #[.int .i64 (left : Int), .int .i64 n] K) := by
  refine T_of (call_ref18_Step _ _) ?_
  unfold F_ref18_Step
  refine T_xif (fun h => T_conv hk ?_) fun h => T_conv hk ?_
  · have h : n > (left : Int) := by simpa using h
    rw [stepOf, if_pos h]
  · have h : ¬ n > (left : Int) := by simpa using h
    rw [stepOf, if_neg (by omega)]
    congr 1; omega

end
end Go.Proofs.Ytpnlldmmfbpmgaa
