/- The laws of wiping (layer 18); no condition but the forms of the arguments. -/
import Derived.Test.YtpnlldmmfbpmgaaScrub
set_option linter.unusedVariables false
set_option linter.unusedSimpArgs false
namespace Go.Proofs.Ytpnlldmmfbpmgaa
open Go.XS

section
variable {B : Heap} {H : List HProp} {K : Value → HP} {w b pl : Nat} {d : List UInt8}

theorem scrub_works (hk : T B H (K (.bool true))) : T B H (callP P f_law18_works #[] K) := by
  refine T_of call_law18_works ?_
  unfold F_law18_works
  refine bytes_New (n := 130) (by omega) (by omega) fun b => ?_
  simp only [asP_ptr]
  refine bytes_Store (src := [97, 98]) ?_
  generalize hd : stored (List.replicate 130 (0 : UInt8)) 128 [97, 98] = d
  have hl : d.length = 130 := by rw [← hd, stored_len]; simp
  simp only [asI_int]
  refine scrub_Begin fun w => ?_
  simp only [asP_ptr]
  have e1 : stepOf (130 - 0) 64 = 64 := by decide
  have e2 : stepOf (130 - (0 + 64)) 64 = 64 := by decide
  have e3 : stepOf (130 - (0 + 64 + 64)) 64 = 2 := by decide
  refine scrub_Step (by decide) (by omega) ?_
  rw [hl, e1]
  refine T_ex _ (T_ex _ (T_and rfl ?_))
  have hl1 : (upd d 0 (List.replicate 64 0)).length = 130 := by rw [upd_len (by simp; omega), hl]
  refine scrub_Step (by decide) (by omega) ?_
  rw [hl1, e2]
  refine T_ex _ (T_ex _ (T_and rfl ?_))
  have hl2 : (upd (upd d 0 (List.replicate 64 0)) (0 + 64) (List.replicate 64 0)).length = 130 := by rw [upd_len (by rw [List.length_replicate, hl1]; omega), hl1]
  refine scrub_Step (by decide) (by omega) ?_
  rw [hl2, e3]
  refine T_ex _ (T_ex _ (T_and rfl ?_))
  have hl3 : (upd (upd (upd d 0 (List.replicate 64 0)) (0 + 64) (List.replicate 64 0)) (0 + 64 + 64) (List.replicate 2 0)).length = 130 := by rw [upd_len (by rw [List.length_replicate, hl2]; omega), hl2]
  have hc : cnt (upd (upd (upd d 0 (List.replicate 64 0)) (0 + 64) (List.replicate 64 0)) (0 + 64 + 64) (List.replicate 2 0)) = 0 := by rw [← hd]; kernel_rfl
  refine T_xif_t (by decide) (T_xif_t (by decide) (T_xif_t (by decide) (T_xif_t (by decide) (scrub_Done (by omega) ?_))))
  rw [hl3]
  simp only [asB_bool]
  refine T_xif_t (by decide) (T_perm (List.Perm.swap _ _ _) (bytes_Clean ?_))
  rw [hc]
  simp only [asB_bool]
  refine T_xif_t (by decide) (scrub_Steps (by decide) ?_)
  simp only [asI_int]
  exact T_drop (T_drop (T_conv hk (by rw [show stepsOf 130 64 = 3 by decide]; rfl)))

theorem cnt_of_getD {d : List UInt8} (h : ∀ p, d.getD p 0 = 0) : cnt d = 0 := by
  rw [cnt_zero_iff]
  intro x hx
  obtain ⟨p, hp⟩ := List.mem_iff_getElem?.1 hx
  have := h p
  simpa [List.getD, hp] using this
theorem getD_of_cnt {d : List UInt8} (h : cnt d = 0) (p : Nat) : d.getD p 0 = 0 := by
  rw [cnt_zero_iff] at h
  simp only [List.getD]
  cases hp : d[p]? with
  | none => rfl
  | some x => exact h x (List.mem_of_getElem? hp)
theorem zeros_getD (n p : Nat) : (List.replicate n (0 : UInt8)).getD p 0 = 0 := getD_of_cnt (cnt_zeros n) p

theorem law_ScrubSteps {size : Int} {p : Option Addr} {l c : Nat} {zs : List Int} {at' : Int} (hr : Arg B p (iv .i64 zs)) (hl : l ≤ zs.length) (h0 : 0 ≤ at') (h1 : at' ≤ 65535) (hk : T B H (K (.bool true))) :
    T B H (callP P f_law18_ScrubSteps #[.int .i64 size, .slice p l c, .int .u16 at'] K) := by
  refine T_of (call_law18_ScrubSteps _ _ _ _ _) ?_
  unfold F_law18_ScrubSteps
  have hworks : ∀ H', T B H' (K (.bool true)) → T B H' (callP P f_law18_works #[] fun v => asB v fun b => K (.bool b)) := fun H' h => scrub_works (by simpa only [asB_bool] using h)
  refine T_join (fun vs H' => vs = [] ∧ H = H' ∧ l ≤ 40 ∧ (size ≤ 3000 ∨ 1048576 < size)) ?_ fun R hR => ?_
  rotate_left
  · refine T_xif (fun _ => hworks _ hk) fun h => ?_
    have hl2 : l ≤ 40 := by simp at h; omega
    refine T_xif (fun h2 => T_xif (fun _ => hworks _ hk) fun h3 => hR _ _ ⟨rfl, rfl, hl2, .inr (by simp at h3; omega)⟩) fun h2 => hR _ _ ⟨rfl, rfl, hl2, .inl (by simp at h2; omega)⟩
  rintro vs H' ⟨rfl, rfl, hl2, hsz⟩
  simp only [T_imp]
  intro _
  rcases Classical.em (size < 1 ∨ 1048576 < size) with hs | hs
  · refine bytes_New_none hs ?_
    simp only [asP_ptr]
    refine scrub_Begin_nil ?_
    simp only [asP_ptr]
    refine T_join (fun _ _ => False) (fun _ _ h => h.elim) fun R _ => T_join (fun vs H' => vs = [.bool true] ∧ H = H') ?_ fun R2 hR2 => T_xif (fun h => hR2 _ _ ⟨rfl, rfl⟩) fun h => hR2 _ _ ⟨?_, rfl⟩
    · rintro vs H' ⟨rfl, rfl⟩
      simp only [T_all, T_imp]
      intro b heq
      simp only [List.cons.injEq, Value.bool.injEq, and_true] at heq
      subst heq
      exact T_xif_t rfl (T_xif_t rfl (hworks _ hk))
    · have : ¬ size < 1 := by simpa using h
      have : size > 1048576 := by omega
      simp [this]
  obtain ⟨n, rfl⟩ : ∃ n : Nat, size = (n : Int) := ⟨size.toNat, by omega⟩
  obtain ⟨x, rfl⟩ : ∃ x : Nat, at' = (x : Int) := ⟨at'.toNat, by omega⟩
  have hn0 : 1 ≤ n := by omega
  have hn1 : n ≤ 3000 := by omega
  refine bytes_New hn0 (by omega) fun b => ?_
  simp only [asP_ptr]
  refine scrub_Begin fun w => ?_
  simp only [asP_ptr]
  refine T_join (fun vs H' => vs = [] ∧ cl w (wS b 0) :: byt b (List.replicate n 0) :: H = H') ?_ fun R hR => T_join (fun vs H' => vs = [.bool false] ∧ cl w (wS b 0) :: byt b (List.replicate n 0) :: H = H') ?_ fun R2 hR2 => T_xif_f (by simp; omega) (hR2 _ _ ⟨by
      have : decide ((n : Int) > 1048576) = false := by simp; omega
      rw [this], rfl⟩)
  rotate_left
  · rintro vs H' ⟨rfl, rfl⟩
    simp only [T_all, T_imp]
    intro b heq
    simp only [List.cons.injEq, Value.bool.injEq, and_true] at heq
    subst heq
    exact T_xif_f rfl (hR _ _ ⟨rfl, rfl⟩)
  rintro vs H' ⟨rfl, rfl⟩
  simp only [T_imp]
  intro _
  have hwx : IntKind.wrap .i64 (x : Int) = (x : Int) := wrap_i64 (by omega) (by omega)
  have hmod : Int.tmod (x : Int) (n : Int) = ((x % n : Nat) : Int) := by rw [Int.tmod_eq_emod_of_nonneg (by omega)]; simp
  simp only [hwx, hmod]
  have hkn : x % n < n := Nat.mod_lt _ (by omega)
  generalize x % n = k at *
  refine T_xif_f rfl (T_req (by omega) (T_perm (List.Perm.swap _ _ _) (bytes_Store (src := [120]) ?_)))
  have hin : k + ([120] : List UInt8).length ≤ (List.replicate n (0 : UInt8)).length := by simp; omega
  have he := err_in (a := k) (n := ([120] : List UInt8).length) hin
  rw [he, stored_in hin]
  simp only [asI_int]
  have hd0 : ∀ q, (upd (List.replicate n (0 : UInt8)) k [120]).getD q 0 = if q = k ∧ 0 ≤ k then 120 else 0 := by
    intro q
    rw [upd_getD hin, zeros_getD]
    by_cases hq : q = k
    · subst hq; simp
    · rw [if_neg (by simp only [List.length_cons, List.length_nil]; omega), if_neg (by omega)]
  have hdl : (upd (List.replicate n (0 : UInt8)) k [120]).length = n := by rw [upd_len hin]; simp
  revert hd0 hdl
  generalize upd (List.replicate n (0 : UInt8)) k [120] = d0
  intro hd0 hdl
  refine T_xif_f rfl (T_perm (List.Perm.swap _ _ _) ?_)
  refine T_loop (fun vs H' => ∃ (i pl : Nat) (d : List UInt8), i ≤ l ∧ vs = [.int .i64 (pl : Int), .int .i64 (i : Int)] ∧ d.length = n ∧ pl ≤ n ∧ (∀ q, d.getD q 0 = if q = k ∧ pl ≤ k then 120 else 0) ∧ cl w (wS b pl) :: byt b d :: H = H')
    (fun vs => match vs with | [_, .int _ i] => l - i.toNat | _ => 0) ⟨0, 0, d0, Nat.zero_le _, rfl, hdl, Nat.zero_le _, hd0, rfl⟩ ?_
  rintro vs H' R ⟨i, pl, d, hi, rfl, hdn, hpl, hd, rfl⟩ hR
  simp only [T_all, T_imp]
  intro n33 n34 heq
  simp only [List.cons.injEq, Value.int.injEq, true_and, and_true] at heq
  obtain ⟨rfl, rfl⟩ := heq
  refine T_xif (fun hc => ?_) (fun hc => hworks _ (T_drop (T_drop hk)))
  have hlt : i < l := by simpa using hc
  obtain ⟨z, hz⟩ : ∃ z, zs[i]? = some z := ⟨_, List.getElem?_eq_getElem (by omega)⟩
  rw [wrap_succ (i := i) (by omega)]
  have after : ∀ (pl' : Nat) (d' : List UInt8), d'.length = n → pl' ≤ n → (∀ q, d'.getD q 0 = if q = k ∧ pl' ≤ k then 120 else 0) →
      T B (cl w (wS b pl') :: byt b d' :: H) (callP P f_scrub_Wiping_Place #[.pointer (some ⟨w, 0, none⟩)] fun v => asI .i64 v fun n45 => xif (n45 != (pl' : Int)) (K (.bool false)) (callP P f_scrub_Wiping_Left #[.pointer (some ⟨w, 0, none⟩)] fun v => asI .i64 v fun n47 =>
        xif (n47 != IntKind.wrap .i64 ((n : Int) - (pl' : Int))) (K (.bool false)) (callP P f_scrub_Wiping_Done #[.pointer (some ⟨w, 0, none⟩)] fun v => asB v fun b49 => xif (!(b49 == ((pl' : Int) == (n : Int)))) (K (.bool false)) (callP P f_bytes_Bytes_Clean #[.pointer (some ⟨b, 0, none⟩)] fun v => asB v fun b51 =>
          xif (!(b51 == decide ((k : Int) < (pl' : Int)))) (K (.bool false)) (R [.int .i64 (pl' : Int), .int .i64 ((i + 1 : Nat) : Int)]))))) := by
    intro pl' d' hdn' hpl' hd'
    refine scrub_Place ?_
    simp only [asI_int]
    refine T_xif_f (by simp) (scrub_Left (by omega) ?_)
    simp only [asI_int]
    refine T_xif_f ?_ (scrub_Done (by omega) ?_)
    · rw [wrap_i64 (by omega) (by omega)]
      have : ((d'.length - pl' : Nat) : Int) = (n : Int) - (pl' : Int) := by omega
      rw [this]; simp
    simp only [asB_bool]
    refine T_xif_f ?_ (T_perm (List.Perm.swap _ _ _) (bytes_Clean ?_))
    · rw [hdn']
      by_cases h : pl' = n
      · subst h; simp
      · have h2 : ((pl' : Int) == (n : Int)) = false := beq_eq_false_iff_ne.2 (by omega)
        rw [decide_eq_false h, h2]; rfl
    simp only [asB_bool]
    refine T_xif_f ?_ (T_perm (List.Perm.swap _ _ _) (hR _ _ ⟨i + 1, pl', d', by omega, rfl, hdn', hpl', hd', rfl⟩ (by simp only [Int.toNat_natCast]; omega)))
    by_cases h : k < pl'
    · have hc : cnt d' = 0 := cnt_of_getD fun q => by rw [hd', if_neg (by omega)]
      rw [hc, decide_eq_true (show (k : Int) < (pl' : Int) by omega)]; rfl
    · have hc : ¬ cnt d' = 0 := fun hc => by
        have h3 := getD_of_cnt hc k
        rw [hd', if_pos ⟨rfl, by omega⟩] at h3
        exact absurd h3 (by decide)
      rw [decide_eq_false hc, decide_eq_false (show ¬ (k : Int) < (pl' : Int) by omega)]; rfl
  refine T_argI hr rfl hlt (iv_get hz) ?_
  by_cases hz1 : z < 1
  · refine scrub_Step_low hz1 (T_ex _ (T_ex _ (T_and rfl ?_)))
    refine T_join (fun vs H' => vs = [.int .i64 (pl : Int)] ∧ cl w (wS b pl) :: byt b d :: H = H') ?_ fun R2 hR2 => T_argI hr rfl hlt (iv_get hz) (T_xif_t (by simpa using hz1) (T_xif_f rfl (T_xif_f rfl (hR2 _ _ ⟨rfl, rfl⟩))))
    rintro vs H' ⟨rfl, rfl⟩
    simp only [T_all, T_imp]
    intro n43 heq
    simp only [List.cons.injEq, Value.int.injEq, true_and, and_true] at heq
    subst heq
    exact after pl d hdn hpl hd
  · have hz2 : 1 ≤ z := by omega
    refine scrub_Step hz2 (by omega) (T_ex _ (T_ex _ (T_and rfl ?_)))
    have hs := stepOf_le (left := n - pl) hz2
    rw [hdn]
    generalize hm : stepOf (n - pl) z = m at *
    have hinm : pl + (List.replicate m (0 : UInt8)).length ≤ d.length := by simp; omega
    refine T_join (fun vs H' => vs = [.int .i64 ((pl + m : Nat) : Int)] ∧ cl w (wS b (pl + m)) :: byt b (upd d pl (List.replicate m 0)) :: H = H') ?_ fun R2 hR2 => T_argI hr rfl hlt (iv_get hz) (T_xif_f (by simpa using hz2) (T_argI hr rfl hlt (iv_get hz) ?_))
    · rintro vs H' ⟨rfl, rfl⟩
      simp only [T_all, T_imp]
      intro n43 heq
      simp only [List.cons.injEq, Value.int.injEq, true_and, and_true] at heq
      subst heq
      refine after (pl + m) _ (by rw [upd_len hinm, hdn]) (by omega) fun q => ?_
      rw [upd_getD hinm, List.length_replicate, hd, zeros_getD]
      by_cases h : pl ≤ q ∧ q < pl + m
      · rw [if_pos h, if_neg (by omega)]
      · rw [if_neg h]
        by_cases hq : q = k
        · subst hq
          by_cases h2 : pl ≤ q
          · rw [if_pos ⟨rfl, h2⟩, if_pos ⟨rfl, by omega⟩]
          · rw [if_neg (by omega), if_neg (by omega)]
        · rw [if_neg (by omega), if_neg (by omega)]
    · have hw : IntKind.wrap .i64 ((n : Int) - (pl : Int)) = ((n - pl : Nat) : Int) := by rw [wrap_i64 (by omega) (by omega)]; omega
      rw [hw]
      refine ref18_Step hz2 ?_
      rw [hm]
      simp only [asI_int]
      have hw2 : IntKind.wrap .i64 ((pl : Int) + (m : Int)) = ((pl + m : Nat) : Int) := by rw [wrap_i64 (by omega) (by omega)]; omega
      rw [hw2]
      exact T_xif_f (by simp) (T_xif_f rfl (hR2 _ _ ⟨rfl, rfl⟩))

theorem law_ScrubDone {size n : Int} {s : List UInt8} (hs : size ≤ 9223372036854775807) (hn : n ≤ 9223372036854775807) (hk : T B H (K (.bool true))) :
    T B H (callP P f_law18_ScrubDone #[.int .i64 size, .int .i64 n, .string ⟨s.toArray⟩] K) := by
  refine T_of (call_law18_ScrubDone _ _ _) ?_
  unfold F_law18_ScrubDone
  have hworks : ∀ H', T B H' (K (.bool true)) → T B H' (callP P f_law18_works #[] fun v => asB v fun b => K (.bool b)) := fun H' h => scrub_works (by simpa only [asB_bool] using h)
  rw [ofL_size]
  refine scrub_Steps hs ?_
  simp only [asI_int]
  refine ref18_Steps hs hn ?_
  simp only [asI_int]
  refine T_xif_f (by simp) (T_al fun z => scrub_Step_nil (T_ex _ (T_ex _ (T_and rfl (scrub_Step_zero (T_ex _ (T_ex _ (T_and rfl ?_))))))))
  have hkz := T_drop (q := cl z #[.pointer none, .int .i64 0]) hk
  refine T_join (fun vs H' => vs = [] ∧ cl z #[.pointer none, .int .i64 0] :: H = H') ?_ fun R hR => ?_
  rotate_left
  · refine T_xif_f rfl (T_xif_f rfl (scrub_Place_nil ?_))
    simp only [asI_int]
    refine scrub_Place_zero ?_
    simp only [asI_int]
    refine scrub_Left_nil ?_
    simp only [asI_int]
    refine scrub_Left_zero ?_
    simp only [asI_int]
    refine T_xif_f (by decide) (scrub_Done_nil ?_)
    simp only [asB_bool]
    refine T_xif_f rfl (scrub_Done_zero ?_)
    simp only [asB_bool]
    refine T_xif_f rfl (scrub_Begin_nil ?_)
    simp only [asP_ptr]
    exact T_xif_f rfl (hR _ _ ⟨rfl, rfl⟩)
  rintro vs H' ⟨rfl, rfl⟩
  simp only [T_imp]
  intro _
  refine T_join (fun vs H' => vs = [] ∧ cl z #[.pointer none, .int .i64 0] :: H = H' ∧ 1 ≤ size ∧ size ≤ 2000 ∧ 1 ≤ n ∧ (s.length : Int) ≤ size) ?_ fun R hR => ?_
  rotate_left
  · refine T_xif (fun _ => hworks _ hkz) fun h1 => T_xif (fun _ => hworks _ hkz) fun h2 => T_xif (fun _ => hworks _ hkz) fun h3 => T_xif (fun _ => hworks _ hkz) fun h4 => T_req ?_ (T_xif (fun _ => hworks _ hkz) fun h5 => hR _ _ ⟨rfl, rfl, by simp at h1; omega, by simp at h2; omega, by simp at h3; omega, by simp at h4; omega⟩)
    simp at h3; omega
  rintro vs H' ⟨rfl, rfl, hs0, hs1, hn0, hsl⟩
  simp only [T_imp]
  intro _
  obtain ⟨sz, rfl⟩ : ∃ x : Nat, size = (x : Int) := ⟨size.toNat, by omega⟩
  obtain ⟨m, rfl⟩ : ∃ x : Nat, n = (x : Int) := ⟨n.toNat, by omega⟩
  have hws : IntKind.wrap .i64 ((sz : Int) - (s.length : Int)) = ((sz - s.length : Nat) : Int) := by rw [wrap_i64 (by omega) (by omega)]; omega
  rw [hws]
  refine bytes_New (n := sz) (by omega) (by omega) fun b => ?_
  simp only [asP_ptr]
  refine scrub_Begin fun w => ?_
  simp only [asP_ptr]
  refine T_join (fun vs H' => ∃ d : List UInt8, vs = [] ∧ d.length = sz ∧ cl w (wS b 0) :: byt b d :: cl z #[.pointer none, .int .i64 0] :: H = H') ?_ fun R hR => T_xif_f rfl (T_perm (List.Perm.swap _ _ _) (bytes_Store ?_))
  rotate_left
  · have hin : (sz - s.length) + s.length ≤ (List.replicate sz (0 : UInt8)).length := by simp; omega
    rw [err_in hin, stored_in hin]
    simp only [asI_int]
    exact T_xif_f rfl (T_perm (List.Perm.swap _ _ _) (hR _ _ ⟨_, rfl, by rw [upd_len hin]; simp, rfl⟩))
  rintro vs H' ⟨d, rfl, hdl, rfl⟩
  simp only [T_imp]
  intro _
  refine scrub_Steps hs ?_
  simp only [asI_int]
  let kk : Nat := 1 + (sz - 1) / m
  have hkk : stepsOf (sz : Int) (m : Int) = (kk : Int) := by
    rw [stepsOf, if_neg (by omega)]
    have : ((sz : Int) - 1) = ((sz - 1 : Nat) : Int) := by omega
    rw [this]
    simp [kk]
  have hlow : ∀ i : Nat, i < kk → i * m < sz := by
    intro i hi
    have h1 : i ≤ (sz - 1) / m := by simp only [kk] at hi; omega
    have h2 := Nat.mul_le_mul_right m h1
    have h3 := Nat.div_mul_le_self (sz - 1) m
    omega
  have hhigh : sz ≤ kk * m := by
    have h1 := Nat.div_add_mod (sz - 1) m
    have h2 := Nat.mod_lt (sz - 1) (show 0 < m by omega)
    simp only [kk, Nat.add_mul]
    rw [Nat.mul_comm ((sz - 1) / m) m]
    omega
  have hkle : kk ≤ sz := by
    have := Nat.div_le_self (sz - 1) m
    simp only [kk]; omega
  rw [hkk]
  generalize kk = kk at *
  refine T_loop (fun vs H' => ∃ (i : Nat) (d : List UInt8), i ≤ kk ∧ vs = [.int .i64 (i : Int)] ∧ d.length = sz ∧ (∀ q, q < min sz (i * m) → d.getD q 0 = 0) ∧ cl w (wS b (min sz (i * m))) :: byt b d :: cl z #[.pointer none, .int .i64 0] :: H = H')
    (fun vs => match vs with | [.int _ i] => kk - i.toNat | _ => 0) ⟨0, d, Nat.zero_le _, rfl, hdl, fun q hq => by simp at hq, by simp⟩ ?_
  rintro vs H' R ⟨i, d, hi, rfl, hdl, hd, rfl⟩ hR
  simp only [T_all, T_imp]
  intro n48 heq
  simp only [List.cons.injEq, Value.int.injEq, true_and, and_true] at heq
  subst heq
  refine T_xif (fun hc => ?_) (fun hc => ?_)
  · have hlt : i < kk := by simpa using hc
    have h1 := hlow i hlt
    have hmin : min sz (i * m) = i * m := by omega
    rw [hmin] at *
    refine scrub_Done (by omega) ?_
    simp only [asB_bool]
    refine T_xif_f (decide_eq_false (by omega)) (scrub_Step (by omega) (by omega) (T_ex _ (T_ex _ (T_and rfl ?_))))
    rw [wrap_succ (i := i) (by omega), hdl]
    have hst : i * m + stepOf (sz - i * m) (m : Int) = min sz ((i + 1) * m) := by
      rw [Nat.add_mul, Nat.one_mul]
      unfold stepOf
      split <;> omega
    have hsl := stepOf_le (left := sz - i * m) (n := (m : Int)) (by omega)
    have hin : i * m + (List.replicate (stepOf (sz - i * m) (m : Int)) (0 : UInt8)).length ≤ d.length := by simp; omega
    rw [hst]
    refine hR _ _ ⟨i + 1, _, by omega, rfl, by rw [upd_len hin, hdl], fun q hq => ?_, rfl⟩ (by simp only [Int.toNat_natCast]; omega)
    rw [upd_getD hin, List.length_replicate, zeros_getD]
    split
    · rfl
    · exact hd q (by omega)
  · have : i = kk := by simp at hc; omega
    subst this
    have hmin : min sz (i * m) = sz := by omega
    rw [hmin] at *
    refine scrub_Done (by omega) ?_
    simp only [asB_bool]
    refine T_xif_t (decide_eq_true hdl.symm) (T_perm (List.Perm.swap _ _ _) (bytes_Clean ?_))
    have hc0 : cnt d = 0 := cnt_of_getD fun q => by
      rcases Nat.lt_or_ge q sz with h | h
      · exact hd q (by omega)
      · simp [List.getD, List.getElem?_eq_none (show d.length ≤ q by omega)]
    rw [hc0]
    simp only [asB_bool]
    exact T_xif_t (by decide) (hworks _ (T_drop (T_drop hkz)))

end
end Go.Proofs.Ytpnlldmmfbpmgaa
