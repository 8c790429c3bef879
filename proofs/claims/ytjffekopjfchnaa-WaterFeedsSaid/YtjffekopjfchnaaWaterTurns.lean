/- The law of turns (layer 23), over the heap; no condition but the arguments' ranges. -/
import Derived.Test.YtjffekopjfchnaaWaterLaw
import Derived.Test.YtjffekopjfchnaaXn
set_option linter.unusedVariables false
set_option linter.unusedSimpArgs false
namespace Go.Proofs.Ytjffekopjfchnaa
open Go.XS

def zeroMark (m : Wm) : Prop := m.mark = 0 ∧ m.low = false ∧ m.times = 0

theorem lv_nonneg (n : Int) : 0 ≤ lv n := by unfold lv; split <;> omega

theorem feed_zero {m : Wm} {n : Int} (h : zeroMark m) : feedR m n = 0 ∧ zeroMark (feedW m n) := by
  obtain ⟨h1, h2, h3⟩ := h
  have := lv_nonneg n
  have hd : decide (lv n < 0) = false := by simp; omega
  refine ⟨?_, ?_, ?_, ?_⟩
  · simp [feedR, h1, h2, hd]
  · simp [feedW, h1]
  · simp [feedW, h1, hd]
  · simp [feedW, h1, h2, h3, hd]

theorem feed_turn {m : Wm} {n : Int} : feedR m n = 0 ∧ (feedW m n).low = m.low ∨ feedR m n = 1 ∧ m.low = false ∧ (feedW m n).low = true ∨ feedR m n = 2 ∧ m.low = true ∧ (feedW m n).low = false := by
  simp only [feedR, feedW]
  cases h1 : decide (lv n < m.mark) <;> cases h2 : m.low <;> simp

def lastOf (m : Wm) : Int := if m.low then 1 else 2

theorem law_WaterTurns {B : Heap} {H : List HProp} {K : Value → HP} {mark : Int} {p : Option Addr} {l c : Nat} {zs : List Int} (h0 : 0 ≤ mark) (h1 : mark ≤ 255)
    (hr : Arg B p (iv .i64 zs)) (hl : l ≤ zs.length) (hk : T B H (K (.bool true))) :
    T B H (callP P f_law23_WaterTurns #[.int .u8 mark, .slice p l c] K) := by
  refine T_of (call_law23_WaterTurns _ _ _ _) ?_
  unfold F_law23_WaterTurns
  refine T_xif (fun _ => water_works (by simpa only [asB_bool] using hk)) fun hlen => ?_
  have hlen : l ≤ 200 := by simp at hlen; omega
  simp only [wrap_id (n := mark) (by omega) (by omega)]
  refine water_New_some h0 (by omega) fun b => ?_
  simp only [asP_ptr]
  refine T_xif_f rfl (T_al fun z => ?_)
  refine T_loop (fun vs H' => ∃ (i : Nat) (m mz : Wm), i ≤ l ∧ vs = [.int .i64 (lastOf m), .int .i64 i] ∧ zeroMark mz ∧ H' = cl z (wCells mz) :: cl b (wCells m) :: H)
    (fun vs => match vs with | [_, .int _ i] => l - i.toNat | _ => 0) ⟨0, _, ⟨0, false, false, 0, 0, 0⟩, Nat.zero_le _, rfl, ⟨rfl, rfl, rfl⟩, rfl⟩ ?_
  rintro s H' R ⟨i, m, mz, hi, rfl, hz, rfl⟩ hR
  simp only [T_all, T_imp]
  intro n8 n9 heq
  simp only [List.cons.injEq, Value.int.injEq, true_and, and_true] at heq
  obtain ⟨rfl, rfl⟩ := heq
  refine T_xif (fun hc => ?_) (fun hc => ?_)
  · have hlt : i < l := by simpa using hc
    have hx : ∃ x, zs[i]? = some x := ⟨_, List.getElem?_eq_getElem (by omega)⟩
    obtain ⟨x, hx⟩ := hx
    have hx' := iv_get (k := .i64) hx
    refine T_argI hr rfl hlt hx' ?_
    refine T_at (b := b) (fun _ => water_Feed) ?_
    simp only [asI_int]
    have hrest : ∀ t : Int, T B (cl z (wCells (feedW mz x)) :: cl b (wCells (feedW m x)) :: H) (R [.int .i64 t, .int .i64 (IntKind.wrap .i64 ((i : Int) + 1))]) → True := fun _ _ => trivial
    have hzf := feed_zero (n := x) hz
    have hgo : T B (cl z (wCells (feedW mz x)) :: cl b (wCells (feedW m x)) :: H) (R [.int .i64 (lastOf (feedW m x)), .int .i64 (IntKind.wrap .i64 ((i : Int) + 1))]) := by
      rw [wrap_succ (by omega)]
      exact hR _ _ ⟨i + 1, feedW m x, feedW mz x, by omega, rfl, hzf.2, rfl⟩ (by simp only [Int.toNat_natCast]; omega)
    rcases feed_turn (m := m) (n := x) with ⟨hf, hlow⟩ | ⟨hf, hlow, hlow2⟩ | ⟨hf, hlow, hlow2⟩
    · rw [hf]
      refine T_xif_f rfl (T_argI hr rfl hlt hx' (water_Feed_nil ?_))
      simp only [asI_int]
      refine T_xif_f rfl (T_argI hr rfl hlt hx' (water_Feed ?_))
      simp only [asI_int]
      rw [hzf.1]
      refine T_xif_f rfl (T_xif_f rfl ?_)
      have : lastOf (feedW m x) = lastOf m := by unfold lastOf; rw [hlow]
      rw [← this]; exact hgo
    all_goals
      rw [hf]
      refine T_xif_t rfl (T_xif_f (by simp [lastOf, hlow]) (T_argI hr rfl hlt hx' (water_Feed_nil ?_)))
      simp only [asI_int]
      refine T_xif_f rfl (T_argI hr rfl hlt hx' (water_Feed ?_))
      simp only [asI_int]
      rw [hzf.1]
      refine T_xif_f rfl (T_xif_t rfl ?_)
      simp only [lastOf, hlow2] at hgo
      exact hgo
  · refine T_at (b := b) (fun _ => water_Low) ?_
    simp only [asB_bool]
    refine T_xif_t (by unfold lastOf; cases m.low <;> rfl) (water_Low_nil ?_)
    simp only [asB_bool]
    refine T_xif_t rfl (water_Low ?_)
    simp only [asB_bool]
    rw [hz.2.1]
    refine T_xif_t rfl (water_Lack_nil ?_)
    simp only [asI_int]
    refine water_Lack ?_
    simp only [asI_int]
    refine water_Least_nil ?_
    simp only [asI_int]
    refine water_Times_nil ?_
    simp only [asI_int]
    refine water_Times ?_
    simp only [asI_int]
    rw [hz.2.1, hz.2.2]
    refine T_xif_t (by simp only [Bool.false_eq_true, if_false]; decide) (water_works ?_)
    simp only [asB_bool]
    exact T_drop (T_drop hk)

end Go.Proofs.Ytjffekopjfchnaa
