/- Tickets (layer 31): what each function does, over the heap; no condition. -/
import Derived.Test.YtjffekopjfchnaaGen
import Derived.Test.YtjffekopjfchnaaXn
set_option linter.unusedVariables false
set_option linter.unusedSimpArgs false
namespace Go.Proofs.Ytjffekopjfchnaa
open Go.XS

theorem T_conv {B : Heap} {H : List HProp} {K : Value → HP} {v w : Value} (h : T B H (K v)) (e : v = w) : T B H (K w) := e ▸ h

structure Tk where
  id : Int
  client : Int
  count : Int
  state : Int
  passed : Int

def tCells (t : Tk) : Array Value := #[.int .i64 t.id, .int .i64 t.client, .int .i64 t.count, .int .i64 t.state, .int .i64 t.passed]
def tZero : Tk := ⟨0, 0, 0, 0, 0⟩

def right (t : Tk) : Bool := decide (t.id ≥ 1 ∧ 0 ≤ t.client ∧ t.client < 64 ∧ 1 ≤ t.count ∧ t.count ≤ 1048576 ∧ (t.state = 1 ∨ t.state = 2 ∨ t.state = 3) ∧ 0 ≤ t.passed)
def check (t : Tk) : Int := if right t then (if t.state = 1 then 0 else 13) else 2
def turnT (t : Tk) (s : Int) : Tk := if check t = 0 then { t with state := s } else tZero
def turnE (t : Tk) (s : Int) : Int := check t
def passT (t : Tk) : Tk := if check t = 0 then (if t.passed ≥ 1099511627776 then tZero else { t with passed := t.passed + 1 }) else tZero
def passE (t : Tk) : Int := if check t = 0 then (if t.passed ≥ 1099511627776 then 6 else 0) else check t
def newOf (a b c : Int) : Tk := ⟨a, b, c, 1, 0⟩
def newT (a b c : Int) : Tk := if right (newOf a b c) then newOf a b c else tZero
def newE (a b c : Int) : Int := if right (newOf a b c) then 0 else 2

def pairT (t : Tk) (e : Int) : Value := .tuple #[.agg (tCells t), .int .i64 e]

section
variable {B : Heap} {H : List HProp} {K : Value → HP}

theorem one_tCells (t : Tk) : ∀ v ∈ (tCells t).toList, v.oneCell' = true := by simp [tCells, Value.oneCell']

theorem ticket_within {n lo hi : Int} (hk : T B H (K (.bool (decide (lo ≤ n ∧ n ≤ hi))))) : T B H (callP P f_ticket_within_int #[.int .i64 n, .int .i64 lo, .int .i64 hi] K) := by
  refine T_of (call_ticket_within_int _ _ _) ?_
  unfold F_ticket_within_int
  refine T_xif (fun h => T_conv hk ?_) (fun h => T_conv hk ?_)
  · have : lo ≤ n := by simpa using h
    simp [this]
  · have : ¬ lo ≤ n := by simpa using h
    simp [this]

theorem ticket_Right {t : Tk} (hk : T B H (K (.bool (right t)))) : T B H (callP P f_ticket_Right #[.agg (tCells t)] K) := by
  refine T_of (call_ticket_Right _) ?_
  unfold F_ticket_Right
  refine T_al fun k => ?_
  simp only [add_mk]
  have hk' := T_drop (q := cl k (tCells t)) hk
  refine T_ldI rfl (T_xif (fun h1 => T_ldI rfl (T_xif (fun h2 => T_ldI rfl (ticket_within ?_)) fun h2 => T_conv hk' ?_)) fun h1 => T_conv hk' ?_)
  · simp only [asB_bool]
    refine T_xif (fun h3 => T_ldI rfl (ticket_within ?_)) fun h3 => T_conv hk' ?_
    · simp only [asB_bool]
      refine T_xif (fun h4 => T_ldI rfl (ticket_within ?_)) fun h4 => T_conv hk' ?_
      · simp only [asB_bool]
        refine T_conv hk' ?_
        simp only [decide_eq_true_eq] at h1 h2 h3 h4
        simp only [right, Value.bool.injEq, decide_eq_decide]
        omega
      · simp only [decide_eq_true_eq, decide_eq_false_iff_not] at h1 h2 h3 h4
        simp only [right, Value.bool.injEq, decide_eq_false_iff_not]
        omega
    · simp only [decide_eq_true_eq, decide_eq_false_iff_not] at h1 h2 h3
      simp only [right, Value.bool.injEq, decide_eq_false_iff_not]
      omega
  · simp only [decide_eq_true_eq, decide_eq_false_iff_not] at h1 h2
    simp only [right, Value.bool.injEq, decide_eq_false_iff_not]
    omega
  · simp only [decide_eq_true_eq, decide_eq_false_iff_not] at h1
    simp only [right, Value.bool.injEq, decide_eq_false_iff_not]
    omega

theorem ref31_Right {t : Tk} (hk : T B H (K (.bool (right t)))) : T B H (callP P f_ref31_Right #[.agg (tCells t)] K) := by
  refine T_of (call_ref31_Right _) ?_
  unfold F_ref31_Right
  refine T_al fun k => ?_
  simp only [add_mk]
  have hk' := T_drop (q := cl k (tCells t)) hk
  have hno : ¬ (t.id ≥ 1 ∧ 0 ≤ t.client ∧ t.client < 64 ∧ 1 ≤ t.count ∧ t.count ≤ 1048576 ∧ (t.state = 1 ∨ t.state = 2 ∨ t.state = 3)) → T B (cl k (tCells t) :: H) (K (.bool false)) := by
    intro h
    refine T_conv hk' ?_
    simp only [right, Value.bool.injEq, decide_eq_false_iff_not]
    omega
  have hyes : t.id ≥ 1 ∧ 0 ≤ t.client ∧ t.client < 64 ∧ 1 ≤ t.count ∧ t.count ≤ 1048576 ∧ (t.state = 1 ∨ t.state = 2 ∨ t.state = 3) → T B (cl k (tCells t) :: H) (K (.bool (decide (t.passed ≥ 0)))) := by
    intro h
    refine T_conv hk' ?_
    simp only [right, Value.bool.injEq, decide_eq_decide]
    omega
  refine T_ldI rfl (T_xif (fun h1 => ?_) fun h1 => hno ?_)
  · refine T_ldI rfl (T_xif (fun h2 => ?_) fun h2 => hno ?_)
    · refine T_ldI rfl (T_xif (fun h3 => ?_) fun h3 => hno ?_)
      · refine T_ldI rfl (T_xif (fun h4 => ?_) fun h4 => hno ?_)
        · refine T_ldI rfl (T_xif (fun h5 => ?_) fun h5 => hno ?_)
          · simp only [decide_eq_true_eq] at h1 h2 h3 h4 h5
            refine T_ldI rfl (T_xif (fun h6 => T_ldI rfl (hyes ?_)) fun h6 => ?_)
            · simp only [beq_iff_eq] at h6
              omega
            refine T_ldI rfl (T_xif (fun h7 => T_ldI rfl (hyes ?_)) fun h7 => ?_)
            · simp only [beq_iff_eq] at h7
              omega
            refine T_ldI rfl (T_xif (fun h8 => T_ldI rfl (hyes ?_)) fun h8 => hno ?_)
            · simp only [beq_iff_eq] at h8
              omega
            · simp only [beq_eq_false_iff_ne, ne_eq] at h6 h7 h8
              omega
          · simp only [decide_eq_false_iff_not] at h5
            omega
        · simp only [decide_eq_false_iff_not] at h4
          omega
      · simp only [decide_eq_false_iff_not] at h3
        omega
    · simp only [decide_eq_false_iff_not] at h2
      omega
  · simp only [decide_eq_false_iff_not] at h1
    omega

theorem ticket_check {t : Tk} (hk : T B H (K (.int .i64 (check t)))) : T B H (callP P f_ticket_check #[.agg (tCells t)] K) := by
  refine T_of (call_ticket_check _) ?_
  unfold F_ticket_check
  refine T_al fun k => ?_
  simp only [add_mk]
  have hk' := T_drop (q := cl k (tCells t)) hk
  refine T_ldA0 rfl (ticket_Right ?_)
  simp only [asB_bool]
  cases hr : right t
  · exact T_xif_t rfl (T_conv hk' (by simp [check, hr]))
  · refine T_xif_f rfl (T_ldI rfl (T_xif (fun h => T_conv hk' ?_) (fun h => T_conv hk' ?_)))
    · have : ¬ t.state = 1 := by simpa using h
      simp [check, hr, this]
    · have : t.state = 1 := by simpa using h
      simp [check, hr, this]

theorem ticket_turn {t : Tk} {s : Int} (hk : T B H (K (pairT (turnT t s) (check t)))) : T B H (callP P f_ticket_turn #[.agg (tCells t), .int .i64 s] K) := by
  refine T_of (call_ticket_turn _ _) ?_
  unfold F_ticket_turn
  refine T_al fun k => T_al fun k2 => ?_
  simp only [add_mk]
  refine T_ldA0 rfl (ticket_check ?_)
  simp only [asI_int]
  refine T_xif (fun h => ?_) (fun h => ?_)
  · have h' : ¬ check t = 0 := by simpa using h
    refine T_stA0 rfl rfl (one_tCells tZero) (T_ldA0 rfl ?_)
    refine T_drop (T_drop (T_conv hk ?_))
    simp [turnT, h', pairT, tCells, tZero]
  · have h' : check t = 0 := by simpa using h
    refine T_st (by simp [tCells]) rfl (T_ldA0 rfl ?_)
    refine T_stA0 (cs := tCells tZero) rfl rfl (one_tCells { t with state := s }) (T_ldA0 rfl ?_)
    refine T_drop (T_drop (T_conv hk ?_))
    simp [turnT, h', pairT, tCells]

theorem ticket_Grant {t : Tk} (hk : T B H (K (pairT (turnT t 2) (check t)))) : T B H (callP P f_ticket_Grant #[.agg (tCells t)] K) := by
  refine T_of (call_ticket_Grant _) ?_
  unfold F_ticket_Grant
  refine T_al fun k => T_al fun k2 => ?_
  refine T_ldA0 rfl (ticket_turn (T_ex _ (T_ex _ (T_and rfl ?_))))
  refine T_stA0 (cs := tCells tZero) rfl rfl (one_tCells _) (T_ldA0 rfl ?_)
  exact T_drop (T_drop hk)

theorem ticket_Cancel {t : Tk} (hk : T B H (K (pairT (turnT t 3) (check t)))) : T B H (callP P f_ticket_Cancel #[.agg (tCells t)] K) := by
  refine T_of (call_ticket_Cancel _) ?_
  unfold F_ticket_Cancel
  refine T_al fun k => T_al fun k2 => ?_
  refine T_ldA0 rfl (ticket_turn (T_ex _ (T_ex _ (T_and rfl ?_))))
  refine T_stA0 (cs := tCells tZero) rfl rfl (one_tCells _) (T_ldA0 rfl ?_)
  exact T_drop (T_drop hk)

theorem check_passed {t : Tk} (h : check t = 0) : 0 ≤ t.passed := by
  unfold check at h
  split at h
  · rename_i hr
    simp only [right, decide_eq_true_eq] at hr
    omega
  · cases h

theorem ticket_Pass {t : Tk} (hk : T B H (K (pairT (passT t) (passE t)))) : T B H (callP P f_ticket_Pass #[.agg (tCells t)] K) := by
  refine T_of (call_ticket_Pass _) ?_
  unfold F_ticket_Pass
  refine T_al fun k => T_al fun k2 => ?_
  simp only [add_mk]
  refine T_ldA0 rfl (ticket_check ?_)
  simp only [asI_int]
  refine T_xif (fun h => ?_) (fun h => T_ldI rfl (T_xif (fun h2 => ?_) (fun h2 => ?_)))
  · have h' : ¬ check t = 0 := by simpa using h
    refine T_stA0 rfl rfl (one_tCells tZero) (T_ldA0 rfl ?_)
    refine T_drop (T_drop (T_conv hk ?_))
    simp [passT, passE, h', pairT, tCells, tZero]
  · have h' : check t = 0 := by simpa using h
    have h2' : t.passed ≥ 1099511627776 := by simpa using h2
    refine T_stA0 rfl rfl (one_tCells tZero) (T_ldA0 rfl ?_)
    refine T_drop (T_drop (T_conv hk ?_))
    simp [passT, passE, h', h2', pairT, tCells, tZero]
  · have h' : check t = 0 := by simpa using h
    have h2' : ¬ t.passed ≥ 1099511627776 := by simpa using h2
    have hp := check_passed h'
    refine T_ldI rfl (T_st (by simp [tCells]) rfl (T_ldA0 rfl ?_))
    rw [wrap_i64 (by omega) (by omega)]
    refine T_stA0 (cs := tCells tZero) rfl rfl (one_tCells { t with passed := t.passed + 1 }) (T_ldA0 rfl ?_)
    refine T_drop (T_drop (T_conv hk ?_))
    simp [passT, passE, h', h2', pairT, tCells]

theorem ticket_New {a b c : Int} (hk : T B H (K (pairT (newT a b c) (newE a b c)))) : T B H (callP P f_ticket_New #[.int .i64 a, .int .i64 b, .int .i64 c] K) := by
  refine T_of (call_ticket_New _ _ _) ?_
  unfold F_ticket_New
  refine T_al fun k => T_al fun k2 => ?_
  refine T_stA0 (cs := tCells tZero) rfl rfl (one_tCells (newOf a b c)) (T_ldA0 rfl (ticket_Right (t := newOf a b c) ?_))
  simp only [asB_bool]
  cases hr : right (newOf a b c)
  · refine T_xif_t rfl (T_stA0 (cs := tCells tZero) rfl rfl (one_tCells tZero) (T_ldA0 rfl ?_))
    refine T_drop (T_drop (T_conv hk ?_))
    simp [newT, newE, hr, pairT, tCells, tZero]
  · refine T_xif_f rfl (T_ldA0 rfl (T_stA0 (cs := tCells tZero) rfl rfl (one_tCells (newOf a b c)) (T_ldA0 rfl ?_)))
    refine T_drop (T_drop (T_conv hk ?_))
    rw [newT, newE, if_pos hr, if_pos hr]; rfl

theorem ref31_New {a b c : Int} (hk : T B H (K (pairT (newT a b c) (newE a b c)))) : T B H (callP P f_ref31_New #[.int .i64 a, .int .i64 b, .int .i64 c] K) := by
  refine T_of (call_ref31_New _ _ _) ?_
  unfold F_ref31_New
  refine T_al fun k => ?_
  have hno : right (newOf a b c) = false → T B (cl k (tCells tZero) :: H) (stA ⟨k, 0, none⟩ (tCells tZero) 5 (ldA ⟨k, 0, none⟩ 5 fun cs => K (.tuple #[.agg cs, .int .i64 2]))) := by
    intro hr
    refine T_stA0 (cs := tCells tZero) rfl rfl (one_tCells tZero) (T_ldA0 rfl ?_)
    refine T_drop (T_conv hk ?_)
    simp [newT, newE, hr, pairT]
  refine T_xif (fun h => hno ?_) fun h1 => T_xif (fun h => hno ?_) fun h2 => T_xif (fun h => hno ?_) fun h3 => T_xif (fun h => hno ?_) fun h4 => T_xif (fun h => hno ?_) fun h5 => ?_
  iterate 5
    · simp only [decide_eq_true_eq, decide_eq_false_iff_not, right, newOf] at *
      omega
  have hr : right (newOf a b c) = true := by
    simp only [decide_eq_false_iff_not] at h1 h2 h3 h4 h5
    exact decide_eq_true (show a ≥ 1 ∧ 0 ≤ b ∧ b < 64 ∧ 1 ≤ c ∧ c ≤ 1048576 ∧ ((1 : Int) = 1 ∨ (1 : Int) = 2 ∨ (1 : Int) = 3) ∧ (0 : Int) ≤ 0 by omega)
  refine T_stA0 (cs := tCells tZero) rfl rfl (one_tCells (newOf a b c)) (T_ldA0 rfl ?_)
  refine T_drop (T_conv hk ?_)
  rw [newT, newE, if_pos hr, if_pos hr]; rfl

theorem ref31_Turn {t : Tk} {s : Int} (hk : T B H (K (if s = 1 then pairT (if check t = 0 ∧ ¬ t.passed ≥ 1099511627776 then { t with passed := t.passed + 1 } else tZero) (passE t) else pairT (turnT t s) (check t)))) :
    T B H (callP P f_ref31_Turn #[.agg (tCells t), .int .i64 s] K) := by
  refine T_of (call_ref31_Turn _ _) ?_
  unfold F_ref31_Turn
  refine T_al fun k => T_al fun k2 => ?_
  simp only [add_mk]
  refine T_ldA0 rfl (ref31_Right ?_)
  simp only [asB_bool]
  have hno : ∀ e : Int, (if s = 1 then pairT (if check t = 0 ∧ ¬ t.passed ≥ 1099511627776 then { t with passed := t.passed + 1 } else tZero) (passE t) else pairT (turnT t s) (check t)) = pairT tZero e →
      T B (cl k2 (tCells tZero) :: cl k (tCells t) :: H) (stA ⟨k2, 0, none⟩ (tCells tZero) 5 (ldA ⟨k2, 0, none⟩ 5 fun cs => K (.tuple #[.agg cs, .int .i64 e]))) := by
    intro e he
    refine T_stA0 (cs := tCells tZero) rfl rfl (one_tCells tZero) (T_ldA0 rfl ?_)
    exact T_drop (T_drop (T_conv hk he))
  cases hr : right t
  · refine T_xif_t rfl (hno 2 ?_)
    have hc : check t = 2 := by simp [check, hr]
    simp [turnT, passE, hc]
  · refine T_xif_f rfl (T_ldI rfl (T_xif (fun h => hno 13 ?_) fun h => ?_))
    · have : ¬ t.state = 1 := by simpa using h
      have hc : check t = 13 := by simp [check, hr, this]
      simp [turnT, passE, hc]
    · have h1 : t.state = 1 := by simpa using h
      have hc : check t = 0 := by simp [check, hr, h1]
      have hp := check_passed hc
      refine T_join (fun vs H' => vs = [] ∧ H' = cl k2 (tCells tZero) :: cl k (tCells t) :: H ∧ ¬ (s = 1 ∧ t.passed ≥ 1099511627776)) ?_ fun R hR => ?_
      · rintro vs H' ⟨rfl, rfl, hs⟩
        refine T_imp.2 fun _ => T_ldI rfl ?_
        refine T_join (fun vs H' => vs = [.int .i64 (if s = 1 then t.passed + 1 else t.passed)] ∧ H' = cl k2 (tCells tZero) :: cl k (tCells t) :: H) ?_ fun R2 hR2 => ?_
        · rintro vs H' ⟨rfl, rfl⟩
          simp only [T_all, T_imp]
          intro n heq
          simp only [List.cons.injEq, Value.int.injEq, true_and, and_true] at heq
          subst heq
          refine T_ldI rfl (T_ldI rfl (T_ldI rfl (T_stA0 (cs := tCells tZero) rfl rfl (by simp [Value.oneCell']) (T_ldA0 rfl ?_))))
          refine T_drop (T_drop (T_conv hk ?_))
          by_cases hs1 : s = 1
          · have : ¬ t.passed ≥ 1099511627776 := fun h => hs ⟨hs1, h⟩
            have h3 : ¬ (1099511627776 : Int) ≤ t.passed := this
            simp [hs1, hc, this, pairT, tCells, passE, h1]
          · simp [hs1, hc, pairT, tCells, turnT]
        · refine T_xif (fun h => hR2 _ _ ⟨?_, rfl⟩) (fun h => hR2 _ _ ⟨?_, rfl⟩)
          · have hs1 : s = 1 := by simpa using h
            have : ¬ t.passed ≥ 1099511627776 := fun h => hs ⟨hs1, h⟩
            rw [wrap_i64 (by omega) (by omega), if_pos hs1]
          · rw [if_neg (by simpa using h)]
      · refine T_xif (fun h => T_ldI rfl (T_xif (fun h2 => hno 6 ?_) (fun h2 => hR _ _ ⟨rfl, rfl, ?_⟩))) (fun h => hR _ _ ⟨rfl, rfl, ?_⟩)
        · have hs1 : s = 1 := by simpa using h
          have h3 : t.passed ≥ 1099511627776 := by simpa using h2
          simp [hs1, hc, h3, passE]
        · intro h3
          have : ¬ t.passed ≥ 1099511627776 := by simpa using h2
          exact this h3.2
        · intro h3
          have : ¬ s = 1 := by simpa using h
          exact this h3.1

theorem passT_eq (t : Tk) : (if check t = 0 ∧ ¬ t.passed ≥ 1099511627776 then { t with passed := t.passed + 1 } else tZero) = passT t := by
  unfold passT
  by_cases h : check t = 0 <;> by_cases h2 : t.passed ≥ 1099511627776 <;> simp [h, h2]

theorem ticket_Older {t u : Tk} (hk : T B H (K (.bool (decide (t.id < u.id))))) : T B H (callP P f_ticket_Older #[.agg (tCells t), .agg (tCells u)] K) := by
  refine T_of (call_ticket_Older _ _) ?_
  unfold F_ticket_Older
  refine T_al fun k => T_al fun k2 => ?_
  simp only [add_mk]
  exact T_ldI rfl (T_ldI rfl (T_drop (T_drop hk)))

end
end Go.Proofs.Ytjffekopjfchnaa
