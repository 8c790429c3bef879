/- The levels' mark (layer 23): what each of its functions does; no condition. -/
import Derived.Test.YtjffekopjfchnaaGen
import Derived.Test.YtjffekopjfchnaaXl
set_option linter.unusedVariables false
set_option linter.unusedSimpArgs false
namespace Go.Proofs.Ytjffekopjfchnaa
open Go.XS

structure Wm where
  mark : Int
  low : Bool
  fed : Bool
  level : Int
  least : Int
  times : Int

def wCells (m : Wm) : Array Value := #[.int .i64 m.mark, .bool m.low, .bool m.fed, .int .i64 m.level, .int .i64 m.least, .int .i64 m.times]

def lv (n : Int) : Int := if 0 > n then 0 else n

def feedW (m : Wm) (n : Int) : Wm :=
  let l := lv n
  let s := if m.fed then m.least else l
  let low := decide (l < m.mark)
  { mark := m.mark, low := low, fed := true, level := l, least := if l < s then l else s, times := if low && !m.low then IntKind.wrap .i64 (m.times + 1) else m.times }

def feedR (m : Wm) (n : Int) : Int :=
  let low := decide (lv n < m.mark)
  if low && !m.low then 1 else if m.low && !low then 2 else 0

theorem water_New_none {B : Heap} {H : List HProp} {K : Value → HP} {n : Int} (hn : n < 0 ∨ 1048576 < n) (hk : T B H (K (.pointer none))) :
    T B H (callP P f_water_New #[.int .i64 n] K) := by
  refine T_of (call_water_New n) ?_
  unfold F_water_New
  refine T_xif (fun _ => hk) (fun h => T_xif_t ?_ hk)
  simp at h ⊢; omega

theorem water_New_some {B : Heap} {H : List HProp} {K : Value → HP} {n : Int} (h0 : 0 ≤ n) (h1 : n ≤ 1048576)
    (hk : ∀ b, T B (cl b (wCells ⟨n, false, false, 0, 0, 0⟩) :: H) (K (.pointer (some ⟨b, 0, none⟩)))) : T B H (callP P f_water_New #[.int .i64 n] K) := by
  refine T_of (call_water_New n) ?_
  unfold F_water_New
  refine T_xif_f (by simp; omega) (T_xif_f (by simp; omega) (T_al fun b => hk b))

theorem water_Low {B : Heap} {H : List HProp} {K : Value → HP} {b : Nat} {m : Wm} (hk : T B (cl b (wCells m) :: H) (K (.bool m.low))) :
    T B (cl b (wCells m) :: H) (callP P f_water_Mark_Low #[.pointer (some ⟨b, 0, none⟩)] K) := by
  refine T_of (call_water_Mark_Low _) ?_
  unfold F_water_Mark_Low
  simp only [adr_some, add_mk]
  exact T_xif_t rfl (T_ldB rfl hk)

theorem water_Low_nil {B : Heap} {H : List HProp} {K : Value → HP} (hk : T B H (K (.bool false))) : T B H (callP P f_water_Mark_Low #[.pointer none] K) := by
  refine T_of (call_water_Mark_Low _) ?_
  unfold F_water_Mark_Low
  exact T_xif_f rfl hk

theorem water_Lack {B : Heap} {H : List HProp} {K : Value → HP} {b : Nat} {m : Wm} (hk : T B (cl b (wCells m) :: H) (K (.int .i64 (if m.low then IntKind.wrap .i64 (m.mark - m.level) else 0)))) :
    T B (cl b (wCells m) :: H) (callP P f_water_Mark_Lack #[.pointer (some ⟨b, 0, none⟩)] K) := by
  refine T_of (call_water_Mark_Lack _) ?_
  unfold F_water_Mark_Lack
  simp only [adr_some, add_mk]
  refine water_Low ?_
  simp only [asB_bool]
  cases hl : m.low
  · rw [hl] at hk
    exact T_xif_t rfl hk
  · rw [hl] at hk
    exact T_xif_f rfl (T_ldI rfl (T_ldI rfl hk))

theorem water_Lack_nil {B : Heap} {H : List HProp} {K : Value → HP} (hk : T B H (K (.int .i64 0))) : T B H (callP P f_water_Mark_Lack #[.pointer none] K) := by
  refine T_of (call_water_Mark_Lack _) ?_
  unfold F_water_Mark_Lack
  refine water_Low_nil ?_
  simp only [asB_bool]
  exact T_xif_t rfl hk

theorem water_Least {B : Heap} {H : List HProp} {K : Value → HP} {b : Nat} {m : Wm} (hk : T B (cl b (wCells m) :: H) (K (.int .i64 (if m.fed then m.least else m.mark)))) :
    T B (cl b (wCells m) :: H) (callP P f_water_Mark_Least #[.pointer (some ⟨b, 0, none⟩)] K) := by
  refine T_of (call_water_Mark_Least _) ?_
  unfold F_water_Mark_Least
  simp only [adr_some, add_mk]
  refine T_xif_f rfl (T_ldB rfl ?_)
  cases hl : m.fed
  · rw [hl] at hk
    exact T_xif_t rfl (T_ldI rfl hk)
  · rw [hl] at hk
    exact T_xif_f rfl (T_ldI rfl hk)

theorem water_Least_nil {B : Heap} {H : List HProp} {K : Value → HP} (hk : T B H (K (.int .i64 0))) : T B H (callP P f_water_Mark_Least #[.pointer none] K) := by
  refine T_of (call_water_Mark_Least _) ?_
  unfold F_water_Mark_Least
  exact T_xif_t rfl hk

theorem water_Times {B : Heap} {H : List HProp} {K : Value → HP} {b : Nat} {m : Wm} (hk : T B (cl b (wCells m) :: H) (K (.int .i64 m.times))) :
    T B (cl b (wCells m) :: H) (callP P f_water_Mark_Times #[.pointer (some ⟨b, 0, none⟩)] K) := by
  refine T_of (call_water_Mark_Times _) ?_
  unfold F_water_Mark_Times
  simp only [adr_some, add_mk]
  exact T_xif_f rfl (T_ldI rfl hk)

theorem water_Times_nil {B : Heap} {H : List HProp} {K : Value → HP} (hk : T B H (K (.int .i64 0))) : T B H (callP P f_water_Mark_Times #[.pointer none] K) := by
  refine T_of (call_water_Mark_Times _) ?_
  unfold F_water_Mark_Times
  exact T_xif_t rfl hk

theorem water_Feed_nil {B : Heap} {H : List HProp} {K : Value → HP} {n : Int} (hk : T B H (K (.int .i64 0))) : T B H (callP P f_water_Mark_Feed #[.pointer none, .int .i64 n] K) := by
  refine T_of (call_water_Mark_Feed _ _) ?_
  unfold F_water_Mark_Feed
  exact T_xif_t rfl hk

theorem water_Feed {B : Heap} {H : List HProp} {K : Value → HP} {b : Nat} {m : Wm} {n : Int} (hk : T B (cl b (wCells (feedW m n)) :: H) (K (.int .i64 (feedR m n)))) :
    T B (cl b (wCells m) :: H) (callP P f_water_Mark_Feed #[.pointer (some ⟨b, 0, none⟩), .int .i64 n] K) := by
  refine T_of (call_water_Mark_Feed _ _) ?_
  unfold F_water_Mark_Feed
  simp only [adr_some, add_mk]
  refine T_xif_f rfl ?_
  refine T_ldA #[.bool m.low, .bool m.fed, .int .i64 m.level, .int .i64 m.least, .int .i64 m.times] rfl ?_ ?_
  · intro j hj
    match j, hj with
    | 0, _ => rfl
    | 1, _ => rfl
    | 2, _ => rfl
    | 3, _ => rfl
    | 4, _ => rfl
  refine T_al fun k2 => T_stA0 rfl rfl (by simp [Value.oneCell']) ?_
  refine T_join (fun vs H' => vs = [] ∧ H' = cl k2 #[.bool m.low, .bool m.fed, .int .i64 m.level, .int .i64 m.least, .int .i64 m.times] ::
    cl b (wCells { m with least := if m.fed then m.least else lv n }) :: H) ?_ ?_
  · rintro vs H' ⟨rfl, rfl⟩
    refine T_imp.2 fun _ => ?_
    refine T_ldI rfl (T_st (by simp [wCells]) rfl (T_st (by simp [wCells]) rfl (T_st (by simp [wCells]) rfl (T_ldI rfl (T_st (by simp [wCells]) rfl ?_)))))
    have hcells : ∀ t : Int, (#[.int .i64 m.mark, .bool (decide (lv n < m.mark)), .bool true, .int .i64 (lv n), .int .i64 (if lv n < (if m.fed then m.least else lv n) then lv n else (if m.fed then m.least else lv n)), .int .i64 t] : Array Value) =
        wCells { mark := m.mark, low := decide (lv n < m.mark), fed := true, level := lv n, least := if lv n < (if m.fed then m.least else lv n) then lv n else (if m.fed then m.least else lv n), times := t } := fun t => rfl
    show T B (cl k2 #[.bool m.low, .bool m.fed, .int .i64 m.level, .int .i64 m.least, .int .i64 m.times] :: cl b #[.int .i64 m.mark, .bool (decide (lv n < m.mark)), .bool true, .int .i64 (lv n), .int .i64 (if lv n < (if m.fed then m.least else lv n) then lv n else (if m.fed then m.least else lv n)), .int .i64 m.times] :: H) _
    refine T_join (fun vs H' => vs = [.bool (decide (lv n < m.mark) && !m.low)] ∧ H' = cl k2 #[.bool m.low, .bool m.fed, .int .i64 m.level, .int .i64 m.least, .int .i64 m.times] :: cl b #[.int .i64 m.mark, .bool (decide (lv n < m.mark)), .bool true, .int .i64 (lv n), .int .i64 (if lv n < (if m.fed then m.least else lv n) then lv n else (if m.fed then m.least else lv n)), .int .i64 m.times] :: H) ?_ ?_
    · rintro vs H' ⟨rfl, rfl⟩
      simp only [T_all, T_imp]
      intro b15 h
      obtain rfl : (decide (lv n < m.mark) && !m.low) = b15 := by simpa using h
      cases hr : (decide (lv n < m.mark) && !m.low)
      · refine T_xif_f rfl (T_ldB rfl ?_)
        have fin : ∀ r, feedR m n = r → T B (cl k2 #[.bool m.low, .bool m.fed, .int .i64 m.level, .int .i64 m.least, .int .i64 m.times] :: cl b #[.int .i64 m.mark, .bool (decide (lv n < m.mark)), .bool true, .int .i64 (lv n), .int .i64 (if lv n < (if m.fed then m.least else lv n) then lv n else (if m.fed then m.least else lv n)), .int .i64 m.times] :: H) (K (.int .i64 r)) := by
          intro r hr2
          refine T_drop ?_
          rw [hcells, ← hr2]
          simpa [feedW, hr] using hk
        cases hl : m.low
        · rw [hl] at fin
          exact T_xif_f rfl (fin 0 (by simp [feedR, hl] at hr ⊢; exact hr))
        · rw [hl] at fin
          refine T_xif_t rfl (T_ldB rfl ?_)
          cases hd : decide (lv n < m.mark)
          · rw [hd] at fin
            exact T_xif_t rfl (fin 2 (by simp [feedR, hl] at hd ⊢; exact hd))
          · rw [hd] at fin
            exact T_xif_f rfl (fin 0 (by simp [feedR, hl] at hd ⊢; exact hd))
      · refine T_xif_t rfl (T_ldI rfl (T_st (by simp) rfl (T_drop ?_)))
        show T B (cl b #[.int .i64 m.mark, .bool (decide (lv n < m.mark)), .bool true, .int .i64 (lv n), .int .i64 (if lv n < (if m.fed then m.least else lv n) then lv n else (if m.fed then m.least else lv n)), .int .i64 (IntKind.wrap .i64 (m.times + 1))] :: H) _
        rw [hcells]
        simpa [feedW, feedR, hr] using hk
    · intro R hR
      refine T_ldB rfl ?_
      cases hd : decide (lv n < m.mark)
      · exact T_xif_f rfl (hR _ _ ⟨by simp [hd], by rw [hd]⟩)
      · exact T_xif_t rfl (T_ldB rfl (hR _ _ ⟨by simp [hd], by rw [hd]⟩))
  · intro R hR
    have hfed : ∀ {H' : List HProp}, m.fed = true → H' = cl k2 #[.bool m.low, .bool m.fed, .int .i64 m.level, .int .i64 m.least, .int .i64 m.times] :: cl b (wCells m) :: H → T B H' (R []) := by
      rintro _ hf rfl
      exact hR _ _ ⟨rfl, by simp [hf, wCells]⟩
    have hnot : m.fed = false → T B (cl k2 #[.bool m.low, .bool m.fed, .int .i64 m.level, .int .i64 m.least, .int .i64 m.times] :: cl b (wCells m) :: H) (st ⟨b, 0 + 1 + 3, none⟩ (.int .i64 (lv n)) (R [])) := by
      intro hf
      refine T_st (by simp [wCells]) rfl ?_
      refine hR _ _ ⟨rfl, ?_⟩
      simp [wCells, hf]
    refine T_join (fun vs H' => vs = [.bool (!m.fed)] ∧ H' = cl k2 #[.bool m.low, .bool m.fed, .int .i64 m.level, .int .i64 m.least, .int .i64 m.times] :: cl b (wCells m) :: H) ?_ ?_
    · rintro vs H' ⟨rfl, rfl⟩
      simp only [T_all, T_imp]
      intro b29 h
      obtain rfl : (!m.fed) = b29 := by simpa using h
      cases hf : m.fed
      · exact T_xif_t rfl (by rw [← hf]; exact hnot hf)
      · exact T_xif_f rfl (by rw [← hf]; exact hfed hf rfl)
    · intro R2 hR2
      refine T_ldA0 rfl ?_
      refine T_eqAgg (b := m.low == false && (m.fed == false && (m.level == 0 && (m.least == 0 && (m.times == 0 && true))))) (by kernel_rfl) (by kernel_rfl) (by kernel_rfl) (by kernel_rfl) ?_
      simp only [asB_bool]
      cases hf : m.fed
      · rw [hf] at hR2
        cases hz : (m.low == false && (false == false && (m.level == 0 && (m.least == 0 && (m.times == 0 && true)))))
        · exact T_xif_f rfl (T_ldB rfl (hR2 _ _ ⟨rfl, rfl⟩))
        · exact T_xif_t rfl (hR2 _ _ ⟨rfl, rfl⟩)
      · rw [hf] at hR2
        exact T_xif_f (by simp) (T_ldB rfl (hR2 _ _ ⟨rfl, rfl⟩))

end Go.Proofs.Ytjffekopjfchnaa
