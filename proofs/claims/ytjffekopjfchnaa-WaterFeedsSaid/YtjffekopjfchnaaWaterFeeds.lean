/- The law of levels (layer 23), over the heap; no condition but the arguments' ranges. -/
import Derived.Test.YtjffekopjfchnaaWaterTurns
set_option linter.unusedVariables false
set_option linter.unusedSimpArgs false
namespace Go.Proofs.Ytjffekopjfchnaa
open Go.XS

theorem cells3 : P.cellsOf 3 = 1 := by kernel_rfl

theorem ref_level {B : Heap} {H : List HProp} {K : Value → HP} {n : Int} (hk : T B H (K (.int .i64 (lv n)))) : T B H (callP P f_ref23_level #[.int .i64 n] K) := by
  refine T_of (call_ref23_level n) ?_
  unfold F_ref23_level
  refine T_xif (fun h => ?_) (fun h => ?_)
  · have : lv n = 0 := by unfold lv; rw [if_pos (by simpa using h)]
    rw [this] at hk; exact hk
  · have : lv n = n := by unfold lv; rw [if_neg (by simpa using h)]
    rw [this] at hk; exact hk

def lackOf (mark x : Int) : Int := if lv x ≥ mark then 0 else IntKind.wrap .i64 (mark - lv x)

theorem ref_Lack_nil {B : Heap} {H : List HProp} {K : Value → HP} {mark : Int} {p : Option Addr} {l c : Nat} (hl : l = 0) (hk : T B H (K (.int .i64 0))) :
    T B H (callP P f_ref23_Lack #[.int .i64 mark, .slice p l c] K) := by
  subst hl
  refine T_of (call_ref23_Lack mark p 0 c) ?_
  unfold F_ref23_Lack
  exact T_join (fun _ _ => False) (fun _ _ h => h.elim) fun R _ => T_xif_t rfl hk

theorem ref_Lack_some {B : Heap} {H : List HProp} {K : Value → HP} {mark : Int} {p : Option Addr} {l i c : Nat} {zs : List Int} {x : Int} (hr : Arg B p (iv .i64 zs)) (hl : l = i + 1) (hb : l ≤ 1000)
    (hx : zs[i]? = some x) (hk : T B H (K (.int .i64 (lackOf mark x)))) :
    T B H (callP P f_ref23_Lack #[.int .i64 mark, .slice p l c] K) := by
  subst hl
  refine T_of (call_ref23_Lack mark p (i + 1) c) ?_
  unfold F_ref23_Lack
  have hw : IntKind.wrap .i64 (((i + 1 : Nat) : Int) - 1) = (i : Int) := by rw [wrap_i64 (by omega) (by omega)]; omega
  refine T_join (fun vs H' => vs = [] ∧ H' = H ∧ ¬ lv x ≥ mark) ?_ fun R hR => ?_
  · rintro vs H' ⟨rfl, rfl, hn⟩
    refine T_imp.2 fun _ => T_argI hr hw (by omega) (iv_get hx) (ref_level ?_)
    simp only [asI_int]
    simpa [lackOf, hn] using hk
  · refine T_xif_f (by simp; omega) (T_argI hr hw (by omega) (iv_get hx) (ref_level ?_))
    simp only [asI_int]
    refine T_xif (fun h => ?_) (fun h => hR _ _ ⟨rfl, rfl, by simpa using h⟩)
    simpa [lackOf, (by simpa using h : lv x ≥ mark)] using hk

def leastN (zs : List Int) : Nat → Int
  | 0 => lv (zs.getD 0 0)
  | i + 1 => if lv (zs.getD (i + 1) 0) < leastN zs i then lv (zs.getD (i + 1) 0) else leastN zs i

theorem getD_of {zs : List Int} {i : Nat} {x : Int} (h : zs[i]? = some x) : zs.getD i 0 = x := by simp [List.getD, h]

theorem ref_Least_nil {B : Heap} {H : List HProp} {K : Value → HP} {mark : Int} {p : Option Addr} {l c : Nat} (hl : l = 0) (hk : T B H (K (.int .i64 mark))) :
    T B H (callP P f_ref23_Least #[.int .i64 mark, .slice p l c] K) := by
  subst hl
  refine T_of (call_ref23_Least mark p 0 c) ?_
  unfold F_ref23_Least
  exact T_xif_t rfl hk

theorem ref_Least_some {B : Heap} {H : List HProp} {K : Value → HP} {mark : Int} {p : Option Addr} {l i c : Nat} {zs : List Int} (hr : Arg B p (iv .i64 zs)) (hl : l = i + 1) (hb : l ≤ 1000)
    (hz : l ≤ zs.length) (hk : T B H (K (.int .i64 (leastN zs i)))) :
    T B H (callP P f_ref23_Least #[.int .i64 mark, .slice p l c] K) := by
  subst hl
  refine T_of (call_ref23_Least mark p (i + 1) c) ?_
  unfold F_ref23_Least
  have hget : ∀ j, j < i + 1 → zs[j]? = some (zs.getD j 0) := fun j hj => by
    rw [List.getElem?_eq_getElem (by omega)]; simp [List.getD, List.getElem?_eq_getElem (show j < zs.length by omega)]
  refine T_xif_f (by simp; omega) ?_
  refine T_argI (i := 0) (n := 0) hr rfl (by omega) (iv_get (hget 0 (by omega))) (ref_level ?_)
  simp only [asI_int]
  refine T_loop (fun vs H' => ∃ j : Nat, j ≤ i ∧ vs = [.int .i64 (leastN zs j), .int .i64 ((j + 1 : Nat) : Int)] ∧ H' = H)
    (fun vs => match vs with | [_, .int _ i'] => i + 1 - i'.toNat | _ => 0) ⟨0, Nat.zero_le _, rfl, rfl⟩ ?_
  rintro s H' R ⟨j, hj, rfl, rfl⟩ hR
  simp only [T_all, T_imp]
  intro n7 n8 heq
  simp only [List.cons.injEq, Value.int.injEq, true_and, and_true] at heq
  obtain ⟨rfl, rfl⟩ := heq
  refine T_xif (fun hc => ?_) (fun hc => ?_)
  · have hlt : j + 1 < i + 1 := by simp at hc; omega
    refine T_argI hr rfl hlt (iv_get (hget _ hlt)) (ref_level ?_)
    simp only [asI_int]
    rw [wrap_succ (by omega)]
    have hgo := hR _ _ ⟨j + 1, by omega, rfl, rfl⟩ (by simp only [Int.toNat_natCast]; omega)
    refine T_xif (fun h => ?_) (fun h => ?_)
    · refine T_argI hr rfl hlt (iv_get (hget _ hlt)) (ref_level ?_)
      simp only [asI_int]
      rw [leastN, if_pos (by simpa using h)] at hgo
      exact hgo
    · rw [leastN, if_neg (by simpa using h)] at hgo
      exact hgo
  · have : j = i := by simp at hc; omega
    subst this
    exact hk

def wasAt (mark : Int) (zs : List Int) : Nat → Bool
  | 0 => false
  | i + 1 => decide (lv (zs.getD i 0) < mark)

def tellAt (mark : Int) (zs : List Int) (i : Nat) : Int :=
  if wasAt mark zs (i + 1) && !wasAt mark zs i then 1 else if wasAt mark zs i && !wasAt mark zs (i + 1) then 2 else 0

def toldN (mark : Int) (zs : List Int) (l : Nat) : List Int := (List.range l).map (tellAt mark zs)

theorem iv_append (k : IntKind) (xs ys : List Int) : iv k (xs ++ ys) = iv k xs ++ iv k ys := by simp [iv]

theorem told_succ (mark : Int) (zs : List Int) (i : Nat) : iv .i64 (toldN mark zs i) ++ [.int .i64 (tellAt mark zs i)] = iv .i64 (toldN mark zs (i + 1)) := by
  simp [toldN, iv, List.range_succ]

theorem ref_Told {B : Heap} {H : List HProp} {K : Value → HP} {mark : Int} {p : Option Addr} {l c : Nat} {zs : List Int} (hr : Arg B p (iv .i64 zs)) (hb : l ≤ 1000)
    (hz : l ≤ zs.length) (hk : ∀ q d, T B (osl 1 q l d (iv .i64 (toldN mark zs l)) :: H) (K (.slice q l d))) :
    T B H (callP P f_ref23_Told #[.int .i64 mark, .slice p l c] K) := by
  refine T_of (call_ref23_Told mark p l c) ?_
  unfold F_ref23_Told
  have hget : ∀ j, j < l → zs[j]? = some (zs.getD j 0) := fun j hj => by
    rw [List.getElem?_eq_getElem (by omega)]; simp [List.getD, List.getElem?_eq_getElem (show j < zs.length by omega)]
  refine T_oslNil 1 ?_
  refine T_loop (fun vs H' => ∃ (j : Nat) (q : Option Addr) (d : Nat), j ≤ l ∧ vs = [.slice q j d, .bool (wasAt mark zs j), .int .i64 (j : Int)] ∧ H' = osl 1 q j d (iv .i64 (toldN mark zs j)) :: H)
    (fun vs => match vs with | [_, _, .int _ i'] => l - i'.toNat | _ => 0) ⟨0, none, 0, Nat.zero_le _, rfl, rfl⟩ ?_
  rintro s H' R ⟨j, q, d, hj, rfl, rfl⟩ hR
  simp only [T_all, T_imp]
  intro p3 k4 k5 b6 n7 heq
  simp only [List.cons.injEq, Value.int.injEq, Value.slice.injEq, Value.bool.injEq, true_and, and_true] at heq
  obtain ⟨⟨rfl, rfl, rfl⟩, rfl, rfl⟩ := heq
  refine T_xif (fun hc => ?_) (fun hc => ?_)
  · have hlt : j < l := by simpa using hc
    refine T_argI hr rfl hlt (iv_get (hget _ hlt)) (ref_level ?_)
    simp only [asI_int]
    rw [wrap_succ (by omega)]
    have happ : ∀ v : Int, v = tellAt mark zs j → T B (osl 1 q j d (iv .i64 (toldN mark zs j)) :: H)
        (al #[.int .i64 v] 3 fun k => appS P #[26, 26] q j d (some ⟨k, 0, none⟩) 1 1 fun p' l' c' => R [.slice p' l' c', .bool (decide (lv (zs.getD j 0) < mark)), .int .i64 ((j + 1 : Nat) : Int)]) := by
      rintro v rfl
      refine T_al fun k => ?_
      refine T_perm (List.Perm.swap _ _ _) ?_
      refine app_rule (ys := [.int .i64 (tellAt mark zs j)]) (s := 1) (t0 := 26) (t1 := 26) (elem := 3) rfl rfl (by kernel_rfl) (by kernel_rfl) (by kernel_rfl) (by kernel_rfl) (by kernel_rfl)
        (by rw [show P.bytesOf 3 = 8 by kernel_rfl]; omega) (by rw [show P.bytesOf 3 = 8 by kernel_rfl]; omega) (by kernel_rfl) (RdV.tail (RdV.of_cl (fun i hi => by
          simp only [List.length_cons, List.length_nil] at hi; obtain rfl : i = 0 := by omega
          rfl))) rfl (by simp [Value.oneCell']) fun p' c' => ?_
      refine T_perm (List.Perm.swap _ _ _) (T_drop ?_)
      rw [told_succ]
      exact hR _ _ ⟨j + 1, p', c', by omega, rfl, rfl⟩ (by simp only [Int.toNat_natCast]; omega)
    refine T_join (fun vs H' => vs = [.int .i64 (if wasAt mark zs (j + 1) && !wasAt mark zs j then 1 else 0)] ∧ H' = osl 1 q j d (iv .i64 (toldN mark zs j)) :: H) ?_ fun R2 hR2 => ?_
    · rintro vs H' ⟨rfl, rfl⟩
      simp only [T_all, T_imp]
      intro n14 heq
      simp only [List.cons.injEq, Value.int.injEq, true_and, and_true] at heq
      subst heq
      refine T_xif (fun h => T_xif (fun h2 => happ _ ?_) (fun h2 => happ _ ?_)) (fun h => happ _ ?_)
      · have h1 : wasAt mark zs (j + 1) = false := by simpa [wasAt] using h
        simp [tellAt, h1, h2]
      · have h1 : wasAt mark zs (j + 1) = false := by simpa [wasAt] using h
        simp [tellAt, h1, h2]
      · have h1 : wasAt mark zs (j + 1) = true := by simpa [wasAt] using h
        simp [tellAt, h1]
    · refine T_xif (fun h => ?_) (fun h => ?_)
      · have h1 : wasAt mark zs (j + 1) = true := by simpa [wasAt] using h
        refine T_xif (fun h2 => hR2 _ _ ⟨?_, rfl⟩) (fun h2 => hR2 _ _ ⟨?_, rfl⟩)
        · rw [h1, h2]; rfl
        · rw [h1, h2]; rfl
      · have h1 : wasAt mark zs (j + 1) = false := by simpa [wasAt] using h
        exact hR2 _ _ ⟨by rw [h1]; rfl, rfl⟩
  · have : j = l := by simp at hc; omega
    subst this
    exact hk _ _

/-- What a mark is after 'i' levels. -/
structure WAt (mark : Int) (zs : List Int) (i : Nat) (m : Wm) : Prop where
  hmark : m.mark = mark
  low : m.low = wasAt mark zs i
  fed : m.fed = decide (0 < i)
  level : ∀ j, i = j + 1 → m.level = lv (zs.getD j 0)
  least : ∀ j, i = j + 1 → m.least = leastN zs j

theorem wat_feed {mark : Int} {zs : List Int} {i : Nat} {m : Wm} (h : WAt mark zs i m) :
    WAt mark zs (i + 1) (feedW m (zs.getD i 0)) ∧ feedR m (zs.getD i 0) = tellAt mark zs i ∧ (feedW m (zs.getD i 0)).times = if tellAt mark zs i = 1 then IntKind.wrap .i64 (m.times + 1) else m.times := by
  obtain ⟨h1, h2, h3, h4, h5⟩ := h
  have hd : decide (lv (zs.getD i 0) < m.mark) = wasAt mark zs (i + 1) := by rw [h1]; rfl
  refine ⟨⟨by simp [feedW, h1], by simp only [feedW, hd], by simp [feedW], ?_, ?_⟩, ?_, ?_⟩
  · intro j hj
    obtain rfl : i = j := by omega
    rfl
  · intro j hj
    obtain rfl : i = j := by omega
    cases i with
    | zero => simp [feedW, h3, leastN]
    | succ i =>
      simp only [feedW, h3, leastN]
      rw [h5 i rfl]
      simp
  · simp only [feedR, hd, h2, tellAt]
  · simp only [feedW, hd, h2, tellAt]
    have hb : ∀ (a b : Bool) (u v : Int), (if (a && !b) = true then u else v) = if (if (a && !b) = true then (1 : Int) else if (b && !a) = true then 2 else 0) = 1 then u else v := by
      intro a b u v; cases a <;> cases b <;> simp
    exact hb _ _ _ _

theorem lack_eq (mark x : Int) : (if decide (lv x < mark) = true then IntKind.wrap .i64 (mark - lv x) else 0) = lackOf mark x := by
  unfold lackOf
  by_cases h : lv x < mark
  · rw [if_pos (by simpa using h), if_neg (by omega)]
  · rw [if_neg (by simpa using h), if_pos (by omega)]

theorem lack_pos {mark x : Int} (h0 : 0 ≤ mark) (h1 : mark ≤ 1048576) : lackOf mark x > 0 ↔ lv x < mark := by
  have := lv_nonneg x
  unfold lackOf
  split
  · omega
  · rw [wrap_i64 (by omega) (by omega)]; omega

theorem law_WaterFeeds {B : Heap} {H : List HProp} {K : Value → HP} {mark : Int} {p : Option Addr} {l c : Nat} {zs : List Int}
    (hr : Arg B p (iv .i64 zs)) (hl : l ≤ c) (hz : zs.length = c) (hk : T B H (K (.bool true))) :
    T B H (callP P f_law23_WaterFeeds #[.int .i64 mark, .slice p l c] K) := by
  refine T_of (call_law23_WaterFeeds mark p l c) ?_
  unfold F_law23_WaterFeeds
  have hworks : ∀ H', T B H' (K (.bool true)) → T B H' (callP P f_law23_works #[] fun v => asB v fun b => K (.bool b)) := fun H' h => water_works (by simpa only [asB_bool] using h)
  refine T_xif (fun _ => hworks _ hk) fun hlen => ?_
  have hlen : l ≤ 80 := by simp at hlen; omega
  rcases Classical.em (mark < 0 ∨ 1048576 < mark) with hm | hm
  · refine water_New_none hm ?_
    simp only [asP_ptr]
    refine T_join (fun _ _ => False) (fun _ _ h => h.elim) fun R _ => ?_
    refine T_join (fun vs H' => vs = [.bool true] ∧ H' = H) ?_ fun R2 hR2 => ?_
    · rintro vs H' ⟨rfl, rfl⟩
      simp only [T_all, T_imp]
      intro b heq
      simp only [List.cons.injEq, Value.bool.injEq, and_true] at heq
      subst heq
      exact T_xif_t rfl (T_xif_t rfl (hworks _ hk))
    · refine T_xif (fun h => hR2 _ _ ⟨rfl, rfl⟩) (fun h => hR2 _ _ ⟨?_, rfl⟩)
      have : ¬ mark < 0 := by simpa using h
      have : mark > 1048576 := by omega
      simp [this]
  refine water_New_some (by omega) (by omega) fun b => ?_
  simp only [asP_ptr]
  have hnot : decide (mark < 0) = false := by simp; omega
  have hnot2 : decide (mark > 1048576) = false := by simp; omega
  refine T_join (fun vs H' => vs = [] ∧ H' = cl b (wCells ⟨mark, false, false, 0, 0, 0⟩) :: H) ?_ fun R hR => ?_
  rotate_left
  · refine T_join (fun vs H' => vs = [.bool false] ∧ H' = cl b (wCells ⟨mark, false, false, 0, 0, 0⟩) :: H) ?_ fun R2 hR2 => ?_
    · rintro vs H' ⟨rfl, rfl⟩
      simp only [T_all, T_imp]
      intro b heq
      simp only [List.cons.injEq, Value.bool.injEq, and_true] at heq
      subst heq
      exact T_xif_f rfl (hR _ _ ⟨rfl, rfl⟩)
    · exact T_xif_f hnot (hR2 _ _ ⟨by rw [hnot2], rfl⟩)
  rintro vs H' ⟨rfl, rfl⟩
  simp only [T_imp]
  intro _
  refine T_xif_f rfl (ref_Told hr (by omega) (by omega) fun q d => ?_)
  simp only [asS_slice]
  have hget : ∀ j, j < l → zs[j]? = some (zs.getD j 0) := fun j hj => by
    rw [List.getElem?_eq_getElem (by omega)]; simp [List.getD, List.getElem?_eq_getElem (show j < zs.length by omega)]
  have hgetT : ∀ j, j < l → (iv .i64 (toldN mark zs l))[j]? = some (.int .i64 (tellAt mark zs j)) := fun j hj => by
    apply iv_get
    simp [toldN, hj]
  refine T_loop (fun vs H' => ∃ (i : Nat) (m : Wm), i ≤ l ∧ vs = [.int .i64 m.times, .int .i64 (i : Int)] ∧ WAt mark zs i m ∧ H' = osl 1 q l d (iv .i64 (toldN mark zs l)) :: cl b (wCells m) :: H)
    (fun vs => match vs with | [_, .int _ i] => l - i.toNat | _ => 0)
    ⟨0, _, Nat.zero_le _, rfl, ⟨rfl, rfl, rfl, fun j hj => by omega, fun j hj => by omega⟩, rfl⟩ ?_
  rintro s H' R ⟨i, m, hi, rfl, hw, rfl⟩ hR
  simp only [T_all, T_imp]
  intro n13 n14 heq
  simp only [List.cons.injEq, Value.int.injEq, true_and, and_true] at heq
  obtain ⟨rfl, rfl⟩ := heq
  refine T_xif (fun hc => ?_) (fun hc => hworks _ (T_drop (T_drop hk)))
  have hlt : i < l := by simpa using hc
  have hx := hget i hlt
  generalize hxe : zs.getD i 0 = x at hx
  obtain ⟨hw', hfr, hft⟩ := wat_feed hw
  rw [hxe] at hw' hfr hft
  have hrd : ∀ H0 : List HProp, RdV B (osl 1 q l d (iv .i64 (toldN mark zs l)) :: H0) q (iv .i64 (toldN mark zs l)) := fun H0 => RdV.of_osl
  refine T_join (fun vs H' => vs = [] ∧ H' = osl 1 q l d (iv .i64 (toldN mark zs l)) :: cl b (wCells (feedW m x)) :: H) ?_ fun R2 hR2 => ?_
  · rintro vs H' ⟨rfl, rfl⟩
    simp only [T_imp]
    intro _
    refine T_join (fun vs H' => vs = [.int .i64 (feedW m x).times] ∧ H' = osl 1 q l d (iv .i64 (toldN mark zs l)) :: cl b (wCells (feedW m x)) :: H) ?_ fun R3 hR3 => ?_
    · rintro vs H' ⟨rfl, rfl⟩
      simp only [T_all, T_imp]
      intro n19 heq
      simp only [List.cons.injEq, Value.int.injEq, true_and, and_true] at heq
      subst heq
      refine T_at (b := b) (fun _ => water_Times) ?_
      simp only [asI_int]
      refine T_xif_f (by simp) ?_
      simp only [wrap_succ (i := i) (by omega)]
      refine T_req ⟨by omega, by omega⟩ (T_at (b := b) (fun _ => water_Low) ?_)
      simp only [asB_bool, slBase_zero, Int.toNat_natCast, Nat.sub_zero]
      refine ref_Lack_some (zs := zs) (i := i) hr rfl (by omega) hx ?_
      simp only [asI_int]
      refine T_xif_f ?_ (hR _ _ ⟨i + 1, _, by omega, rfl, hw', rfl⟩ (by simp only [Int.toNat_natCast]; omega))
      rw [hw'.low]
      rw [show decide (lackOf mark x > 0) = decide (lv x < mark) from decide_eq_decide.2 (lack_pos (by omega) (by omega))]
      simp only [wasAt, hxe]
      cases decide (lv x < mark) <;> rfl
    · refine T_rd_adr (hrd _) (by simp [toldN]; omega) fun a ha => T_req ⟨by omega, by omega⟩ ?_
      subst ha
      rw [Int.toNat_natCast]
      refine T_rdI (hrd _) (hgetT i hlt) ?_
      refine T_xif (fun h => hR3 _ _ ⟨?_, rfl⟩) (fun h => hR3 _ _ ⟨?_, rfl⟩)
      · rw [hft, if_pos (by simpa using h)]
      · rw [hft, if_neg (by simpa using h)]
  · refine T_req ⟨by omega, by omega⟩ (T_at (b := b) (fun _ => water_Lack) ?_)
    simp only [asI_int, slBase_zero, Int.toNat_natCast, Nat.sub_zero]
    have hfeed : T B (osl 1 q l d (iv .i64 (toldN mark zs l)) :: cl b (wCells m) :: H) (adr p (fun a40 => req (((0 : Int) ≤ (i : Int)) ∧ ((i : Int) < (l : Int))) (adr q (fun a41 => req (((0 : Int) ≤ (i : Int)) ∧ ((i : Int) < (l : Int))) (ldI IntKind.i64 (Addr.add a40 i) (fun n42 => ldI IntKind.i64 (Addr.add a41 i) (fun n43 => callP P f_water_Mark_Feed (#[Value.pointer (some ⟨b, 0, none⟩), Value.int IntKind.i64 n42]) (fun v44 => asI IntKind.i64 v44 (fun n45 => andH (fun σ46 => hcell σ46 (Addr.add a41 (scale i (P.cellsOf 3))) = Option.some (Value.int IntKind.i64 n43)) (xif (n45 != n43) (K (Value.bool Bool.false)) (R2 [])))))))))))  := by
      refine T_rd_adr (hr _) (by simp; omega) fun a ha => T_req ⟨by omega, by omega⟩ ?_
      refine T_rd_adr (hrd _) (by simp [toldN]; omega) fun a2 ha2 => T_req ⟨by omega, by omega⟩ ?_
      subst ha ha2
      refine T_rdI (hr _) (iv_get hx) (T_rdI (hrd _) (hgetT i hlt) (T_at (b := b) (fun _ => water_Feed) ?_))
      simp only [asI_int]
      refine T_andH (fun σ o => ?_) (T_xif_f (by rw [hfr]; simp) (hR2 _ _ ⟨rfl, rfl⟩))
      rw [cells3]
      rcases hrd _ σ o with ⟨h, _⟩ | ⟨a, h, hc⟩
      · cases h
      · cases h
        rw [show scale i 1 = i from rfl, hc i (by simp [toldN]; omega)]
        exact hgetT i hlt
    cases i with
    | zero =>
      have hf : m.fed = false := by rw [hw.fed]; rfl
      have hlow : m.low = false := hw.low
      rw [hlow]
      refine ref_Lack_nil rfl ?_
      simp only [asI_int]
      refine T_xif_f rfl (T_req ⟨by omega, by omega⟩ (T_at (b := b) (fun _ => water_Least) ?_))
      rw [hf]
      simp only [asI_int]
      refine ref_Least_nil rfl ?_
      simp only [asI_int]
      refine T_xif_f (by rw [hw.hmark]; simp) ?_
      simpa only [Int.toNat_natCast] using hfeed
    | succ j =>
      have hf : m.fed = true := by rw [hw.fed]; simp
      have hxj := hget j (by omega)
      refine ref_Lack_some (i := j) hr rfl (by omega) hxj ?_
      simp only [asI_int]
      refine T_xif_f ?_ (T_req ⟨by omega, by omega⟩ (T_at (b := b) (fun _ => water_Least) ?_))
      · rw [hw.low, hw.hmark, hw.level j rfl]
        have e : (if wasAt mark zs (j + 1) = true then IntKind.wrap .i64 (mark - lv (zs.getD j 0)) else 0) = lackOf mark (zs.getD j 0) := lack_eq _ _
        rw [e]
        exact bne_self_eq_false _
      rw [hf]
      simp only [asI_int]
      refine ref_Least_some (i := j) hr rfl (by omega) (by omega) ?_
      simp only [asI_int]
      refine T_xif_f (by rw [hw.least j rfl]; simp) ?_
      simpa only [Int.toNat_natCast] using hfeed

end Go.Proofs.Ytjffekopjfchnaa
