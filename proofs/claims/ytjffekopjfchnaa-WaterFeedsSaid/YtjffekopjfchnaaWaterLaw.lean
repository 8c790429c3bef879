/- The laws of layer 23, over the heap: no condition but the arguments' ranges. -/
import Derived.Test.YtjffekopjfchnaaWater
set_option linter.unusedVariables false
set_option linter.unusedSimpArgs false
namespace Go.Proofs.Ytjffekopjfchnaa
open Go.XS

theorem water_works {B : Heap} {H : List HProp} {K : Value → HP} (hk : T B H (K (.bool true))) : T B H (callP P f_law23_works #[] K) := by
  refine T_of call_law23_works ?_
  unfold F_law23_works
  refine water_New_some (by decide) (by decide) fun b => ?_
  simp only [asP_ptr]
  refine water_Feed ?_
  simp only [asI_int]
  refine T_xif_t (by decide) (water_Feed ?_)
  simp only [asI_int]
  refine T_xif_t (by decide) (water_Feed ?_)
  simp only [asI_int]
  refine T_xif_t (by decide) (water_Lack ?_)
  simp only [asI_int]
  refine T_xif_t (by decide) (water_Low ?_)
  simp only [asB_bool]
  refine T_xif_t (by decide) (water_Feed ?_)
  simp only [asI_int]
  refine T_xif_t (by decide) (water_Least ?_)
  simp only [asI_int]
  refine T_xif_t (by decide) (water_Times ?_)
  simp only [asI_int]
  exact T_drop hk

theorem wrap_id {n : Int} (h0 : -9223372036854775808 ≤ n) (h1 : n ≤ 9223372036854775807) : IntKind.wrap .i64 n = n := IntWalk.i64_in n ⟨h0, h1⟩

theorem law_WaterLack {B : Heap} {H : List HProp} {K : Value → HP} {mark level : Int} (h0 : 0 ≤ mark) (h1 : mark ≤ 65535) (hk : T B H (K (.bool true))) :
    T B H (callP P f_law23_WaterLack #[.int .u16 mark, .int .i64 level] K) := by
  refine T_of (call_law23_WaterLack _ _) ?_
  unfold F_law23_WaterLack
  simp only [wrap_id (n := mark) (by omega) (by omega)]
  refine water_New_some h0 (by omega) fun b => ?_
  simp only [asP_ptr]
  refine water_Feed ?_
  simp only [asI_int]
  have hn : (if 0 > level then 0 else level) = lv level := rfl
  simp only [hn]
  have hl0 : 0 ≤ lv level := by unfold lv; split <;> omega
  refine T_xif (fun hc => ?_) (fun hc => ?_)
  · have hge : mark ≤ lv level := by simpa using hc
    have hlow : (feedW ⟨mark, false, false, 0, 0, 0⟩ level).low = false := by simp [feedW]; omega
    have hleast : (feedW ⟨mark, false, false, 0, 0, 0⟩ level).least = lv level := by simp [feedW]
    refine water_Low ?_
    rw [hlow]
    simp only [asB_bool]
    refine T_xif_t rfl (water_Lack ?_)
    rw [hlow]
    simp only [asI_int]
    refine T_xif_t rfl (water_Least ?_)
    simp only [asI_int]
    refine T_xif_t ?_ (water_works ?_)
    · rw [hleast]; simp [feedW]
    · simp only [asB_bool]
      exact T_drop hk
  · have hlt : lv level < mark := by simpa using hc
    have hlow : (feedW ⟨mark, false, false, 0, 0, 0⟩ level).low = true := by simp [feedW]; omega
    refine water_Low ?_
    rw [hlow]
    simp only [asB_bool]
    refine T_xif_t rfl (water_Lack ?_)
    rw [hlow]
    simp only [asI_int]
    refine T_xif_t ?_ (water_Times ?_)
    · simp [feedW]
    simp only [asI_int]
    refine T_xif_t ?_ (water_works ?_)
    · have : (feedW ⟨mark, false, false, 0, 0, 0⟩ level).times = 1 := by
        have hd : decide (lv level < mark) = true := by simpa using hlt
        simp only [feedW, hd]
        rfl
      rw [this]; rfl
    · simp only [asB_bool]
      exact T_drop hk

end Go.Proofs.Ytjffekopjfchnaa
