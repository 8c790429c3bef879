/- The law of the counts: plays (layer 14); no condition but the forms of its arguments. -/
import Derived.Test.YtnhgcgjmmalebaaCountLaw
set_option linter.unusedVariables false
set_option linter.unusedSimpArgs false
namespace Go.Proofs.Ytnhgcgjmmalebaa
open Go.XS

section
variable {B : Heap} {H : List HProp} {K : Value → HP} {n : Nat} {xs : List Int} {q : Option Addr} {l c : Nat}

theorem T_oslLeC {s : Nat} {ys : List Value} {p : HP} (t : l ≤ c → T B (osl s q l c ys :: H) p) : T B (osl s q l c ys :: H) p := by
  intro σ o
  obtain ⟨ch, ⟨l1, l2, hp, ⟨hx, hlc, h⟩, h2⟩, hn, hc⟩ := o.own
  exact t hlc σ o

theorem cadd_len {i y : Int} : (cadd xs i y).length = xs.length := by
  unfold cadd; split <;> simp

theorem ref14_Add {i y : Int} (hr : RdV B H q (iv .i64 xs)) (hl : l = xs.length) (hlc : l ≤ c) (hb : l ≤ 1000000) (hx : ∀ x ∈ xs, 0 ≤ x ∧ x ≤ mostC) (hk0 : cerr xs i y ≠ 0 → T B H (K (.tuple #[.slice q l c, .int .i64 (cerr xs i y)])))
    (hk1 : cerr xs i y = 0 → ∀ p' c', T B (osl 1 p' l c' (iv .i64 (cadd xs i y)) :: H) (K (.tuple #[.slice p' l c', .int .i64 0]))) : T B H (callP P f_ref14_Add #[.slice q l c, .int .i64 i, .int .i64 y] K) := by
  subst hl
  refine T_of (call_ref14_Add _ _ _ _ _) ?_
  unfold F_ref14_Add
  have hbad : ¬ (0 ≤ i ∧ i < (xs.length : Int) ∧ 0 ≤ y) → T B H (K (.tuple #[.slice q xs.length c, .int .i64 2])) := fun h => by
    have e : cerr xs i y = 2 := by rw [cerr, if_neg h]
    have := hk0 (by rw [e]; decide)
    rwa [e] at this
  refine T_join (fun vs H' => vs = [] ∧ H = H' ∧ 0 ≤ i ∧ i < (xs.length : Int) ∧ 0 ≤ y) ?_ fun R hR => T_xif (fun h => hbad (by simp at h; omega)) fun h => T_xif (fun h2 => hbad (by simp at h2; omega)) fun h2 => T_xif (fun h3 => hbad (by simp at h3; omega)) fun h3 => hR _ _ ⟨rfl, rfl, by simp at h; omega, by simp at h2; omega, by simp at h3; omega⟩
  rintro vs H' ⟨rfl, rfl, hi0, hi1, hy⟩
  simp only [T_imp]
  intro _
  obtain ⟨j, rfl⟩ : ∃ j : Nat, i = (j : Int) := ⟨i.toNat, by omega⟩
  have hj : j < xs.length := by omega
  obtain ⟨x, hxj⟩ : ∃ x, xs[j]? = some x := ⟨_, List.getElem?_eq_getElem hj⟩
  have hxb := hx x (List.mem_of_getElem? hxj)
  have hg : cget xs (j : Int) = x := by simp [cget, List.getD, hxj]
  have he : cerr xs (j : Int) y = if y > mostC - x then 6 else 0 := by rw [cerr, if_pos ⟨by omega, hi1, hy⟩, hg]
  have hover : y > mostC - x → T B H (K (.tuple #[.slice q xs.length c, .int .i64 6])) := fun h => by
    rw [if_pos h] at he
    have := hk0 (by rw [he]; decide)
    rwa [he] at this
  have hbig : decide (y > 4611686018427387904) = true → y > mostC - x := fun h => by
    have h : y > 4611686018427387904 := of_decide_eq_true h
    simp only [mostC] at *
    omega
  refine T_join (fun vs H' => vs = [] ∧ H = H' ∧ ¬ y > mostC - x) ?_ fun R hR => T_xif (fun h => hover (hbig h)) fun h => T_rowI hr rfl hj (iv_get hxj) ?_
  · rintro vs H' ⟨rfl, rfl, hno⟩
    simp only [T_imp]
    intro _
    rw [if_neg hno] at he
    refine T_al fun k => T_oslOf 1 rfl (app34 (ys := iv .i64 xs) (by omega) hr.tail (by simp) (iv_one _ _) fun p' c' => ?_)
    simp only [Nat.zero_add, List.nil_append]
    refine T_rowI hr.tail rfl hj (iv_get hxj) (T_oslSt rfl hj rfl ?_)
    rw [wrap_i64 (n := x + y) (by omega) (by simp only [mostC] at *; omega)]
    have e : (iv .i64 xs).set j (Value.int .i64 (x + y)) = iv .i64 (cadd xs (j : Int) y) := by
      rw [cadd, if_pos he, hg]
      simp [iv, List.map_set]
    rw [e]
    exact hk1 he p' c'
  · have hlow : y ≤ 4611686018427387904 := by simpa using h
    rw [wrap_i64 (n := 4611686018427387904 - y) (by omega) (by omega)]
    refine T_xif (fun h2 => hover ?_) fun h2 => hR _ _ ⟨rfl, rfl, ?_⟩
    · have h2 : x > 4611686018427387904 - y := by simpa using h2
      simp only [mostC]; omega
    · have h2 : ¬ x > 4611686018427387904 - y := by simpa using h2
      simp only [mostC]; omega

def pairV (a : Int × Int) : List Value := [.int .i64 a.1, .int .i64 a.2]

theorem cadd_bound {i y : Int} (hx : ∀ x ∈ xs, 0 ≤ x ∧ x ≤ mostC) : ∀ x ∈ cadd xs i y, 0 ≤ x ∧ x ≤ mostC := by
  unfold cadd
  split
  · rename_i h
    unfold cerr at h
    split at h
    · rename_i h0
      split at h
      · cases h
      · intro z hz
        rcases List.mem_or_eq_of_mem_set hz with h' | rfl
        · exact hx z h'
        · have hg : 0 ≤ cget xs i := by
            unfold cget
            split
            · obtain ⟨x, hxi⟩ : ∃ x, xs[i.toNat]? = some x := ⟨_, List.getElem?_eq_getElem (by omega)⟩
              have := hx x (List.mem_of_getElem? hxi)
              simp [List.getD, hxi]; omega
            · omega
          omega
    · cases h
  · exact hx

theorem law_CountPlays {size : Int} {p : Option Addr} {l c : Nat} {acts : List (Int × Int)} (hr : Arg B p (acts.flatMap pairV)) (hl : l ≤ acts.length) (hk : T B H (K (.bool true))) :
    T B H (callP P f_law14_CountPlays #[.int .i64 size, .slice p l c] K) := by
  refine T_of (call_law14_CountPlays _ _ _ _) ?_
  unfold F_law14_CountPlays
  have hworks : ∀ H', T B H' (K (.bool true)) → T B H' (callP P f_law14_works #[] fun v => asB v fun b => K (.bool b)) := fun H' h => count_works (by simpa only [asB_bool] using h)
  refine T_xif (fun _ => hworks _ hk) fun hl60 => ?_
  have hl60 : l ≤ 60 := by simp at hl60; omega
  rcases Classical.em (size < 1 ∨ 64 < size) with hs | hs
  · refine count_New_none hs ?_
    simp only [asP_ptr]
    refine T_join (fun _ _ => False) (fun _ _ h => h.elim) fun R _ => T_join (fun vs H' => vs = [.bool true] ∧ H = H') ?_ fun R2 hR2 => T_xif (fun h => hR2 _ _ ⟨rfl, rfl⟩) fun h => hR2 _ _ ⟨?_, rfl⟩
    · rintro vs H' ⟨rfl, rfl⟩
      simp only [T_all, T_imp]
      intro b heq
      simp only [List.cons.injEq, Value.bool.injEq, and_true] at heq
      subst heq
      exact T_xif_t rfl (T_xif_t rfl (hworks _ hk))
    · have : ¬ size < 1 := by simpa using h
      have : size > 64 := by omega
      simp [this]
  obtain ⟨n, rfl⟩ : ∃ n : Nat, size = (n : Int) := ⟨size.toNat, by omega⟩
  have hn1 : 1 ≤ n := by omega
  have hn64 : n ≤ 64 := by omega
  refine count_New hn1 hn64 fun b => ?_
  simp only [asP_ptr]
  refine T_join (fun vs H' => vs = [] ∧ cbk b n (List.replicate n 0) :: H = H') ?_ fun R hR => T_join (fun vs H' => vs = [.bool false] ∧ cbk b n (List.replicate n 0) :: H = H') ?_ fun R2 hR2 => T_xif_f (by simp; omega) (hR2 _ _ ⟨by
      have : decide ((n : Int) > 64) = false := by simp; omega
      rw [this], rfl⟩)
  rotate_left
  · rintro vs H' ⟨rfl, rfl⟩
    simp only [T_all, T_imp]
    intro b heq
    simp only [List.cons.injEq, Value.bool.injEq, and_true] at heq
    subst heq
    exact T_xif_f rfl (hR _ _ ⟨rfl, rfl⟩)
  rintro vs H' ⟨rfl, rfl⟩
  simp only [T_imp]
  intro _
  refine T_xif_f rfl (T_mkSl (by omega) (by omega) (by omega) (by rw [bytes3]; omega) (by kernel_rfl) (by kernel_rfl) fun w => ?_)
  have ez : List.replicate n (Value.int .i64 0) = iv .i64 (List.replicate n 0) := by simp [iv]
  rw [cells3, zc3, reps_one, Nat.mul_one, Int.toNat_natCast, ez]
  refine T_perm (List.Perm.swap _ _ _) ?_
  refine T_loop (fun vs H' => ∃ (i : Nat) (xs : List Int) (q : Option Addr) (d : Nat) (H1 : List HProp), i ≤ l ∧ vs = [.slice q n d, .int .i64 (i : Int)] ∧ n ≤ d ∧ xs.length = n ∧ (∀ x ∈ xs, 0 ≤ x ∧ x ≤ mostC) ∧ RdV B H1 q (iv .i64 xs) ∧ T B H1 (K (.bool true)) ∧ cbk b n xs :: H1 = H')
    (fun vs => match vs with | [_, .int _ i] => l - i.toNat | _ => 0) ⟨0, List.replicate n 0, some ⟨w, 0, none⟩, n, _, Nat.zero_le _, rfl, Nat.le_refl _, by simp, fun x hx => by rw [List.eq_of_mem_replicate hx]; decide, rd_cl rfl, T_drop hk, rfl⟩ ?_
  rintro vs H' R ⟨i, xs, q, d, H1, hi, rfl, hd, hxl, hxb, hq, hk1, rfl⟩ hR
  simp only [T_all, T_imp]
  intro p30 k31 k32 n33 heq
  simp only [List.cons.injEq, Value.int.injEq, Value.slice.injEq, true_and, and_true] at heq
  obtain ⟨⟨rfl, rfl, rfl⟩, rfl⟩ := heq
  subst hxl
  refine T_xif (fun hc => ?_) fun hc => ?_
  rotate_left
  · refine count_Sum (T_ex _ (T_ex _ (T_and rfl (ref14_Sum hq.tail rfl (by omega) hxb (T_ex _ (T_ex _ (T_and rfl (count_All fun c => ?_))))))))
    simp only [asS_slice]
    refine SameInts_eq (xs := xs) rfl rfl (by omega) (rd_cl rfl) hq.tail.tail ?_
    simp only [asB_bool]
    refine T_xif_t rfl (T_xif_t (by simp) (T_xif_t (by simp) (T_drop (count_Top fun t ht => ?_))))
    simp only [asI_int]
    refine ref14_Top hq.tail rfl (by omega) fun t' ht' => ?_
    simp only [asI_int]
    exact T_xif_t (by rw [ht.uniq ht']; simp) (hworks _ (T_drop hk1))
  have hlt : i < l := by simpa using hc
  obtain ⟨⟨x, y⟩, ha⟩ : ∃ a, acts[i]? = some a := ⟨_, List.getElem?_eq_getElem (by omega)⟩
  have hg0 : (acts.flatMap pairV)[i * 2 + 0]? = some (.int .i64 x) := flat_get (s := 2) (fun _ => rfl) acts i _ ha 0 (by omega)
  have hg1 : (acts.flatMap pairV)[i * 2 + 1]? = some (.int .i64 y) := flat_get (s := 2) (fun _ => rfl) acts i _ ha 1 (by omega)
  have hal : 0 < (acts.flatMap pairV).length := by rw [flat_len (s := 2) (fun _ => rfl)]; omega
  have rd1 : ∀ {f : Int → HP} {H' : List HProp}, T B H' (f x) → T B H' (adr p fun a => req ((0 : Int) ≤ (i : Int) ∧ (i : Int) < (l : Int)) (req (((0 : Int) ≤ (0 : Int)) ∧ ((0 : Int) < ((2 : Nat) : Int))) (ldI .i64 (Addr.add (Addr.add a ((i : Int).toNat * 2)) 0) f))) := by
    intro f H' h
    refine T_rd_adr (hr H') hal fun a ha => T_req ⟨by omega, by omega⟩ (T_req (by decide) ?_)
    subst ha
    rw [Int.toNat_natCast, add_add]
    exact T_rdI (hr H') hg0 h
  have rd2 : ∀ {f : Int → Int → HP} {H' : List HProp}, T B H' (f x y) → T B H' (adr p fun a => req ((0 : Int) ≤ (i : Int) ∧ (i : Int) < (l : Int)) (req (((0 : Int) ≤ (0 : Int)) ∧ ((0 : Int) < ((2 : Nat) : Int))) (adr p fun a' => req ((0 : Int) ≤ (i : Int) ∧ (i : Int) < (l : Int)) (req (((0 : Int) ≤ (1 : Int)) ∧ ((1 : Int) < ((2 : Nat) : Int)))
      (ldI .i64 (Addr.add (Addr.add a ((i : Int).toNat * 2)) 0) fun u => ldI .i64 (Addr.add (Addr.add a' ((i : Int).toNat * 2)) 1) fun v => f u v))))) := by
    intro f H' h
    refine T_rd_adr (hr H') hal fun a ha => T_req ⟨by omega, by omega⟩ (T_req (by decide) (T_rd_adr (hr H') hal fun a' ha' => T_req ⟨by omega, by omega⟩ (T_req (by decide) ?_)))
    subst ha
    have ha' := Option.some.inj ha'
    subst ha'
    rw [Int.toNat_natCast, add_add, add_add]
    exact T_rdI (hr H') hg0 (T_rdI (hr H') hg1 h)
  -- what is checked behind a counting
  have after : ∀ (q' : Option Addr) (d' : Nat) (H2 : List HProp), xs.length ≤ d' → RdV B H2 q' (iv .i64 (cadd xs x y)) → T B H2 (K (.bool true)) → T B (cbk b xs.length (cadd xs x y) :: H2) (R [.slice q' xs.length d', .int .i64 (IntKind.wrap .i64 ((i : Int) + 1))]) := by
    intro q' d' H2 hd' hq' hk2
    rw [wrap_succ (i := i) (by omega)]
    exact hR _ _ ⟨i + 1, cadd xs x y, q', d', H2, by omega, rfl, hd', cadd_len, cadd_bound hxb, hq', hk2, rfl⟩ (by simp only [Int.toNat_natCast]; omega)
  have main : ∀ (q' : Option Addr) (d' : Nat) (H2 : List HProp) (e : Int), e = cerr xs x y → xs.length ≤ d' → RdV B H2 q' (iv .i64 (cadd xs x y)) → T B H2 (K (.bool true)) → T B (cbk b xs.length (cadd xs x y) :: H2) (joinH (fun vs50 => fun σ51 => ∀ n52, (vs50 = [Value.int IntKind.i64 n52]) → ((adr p (fun a53 => req (((0 : Int) ≤ (i : Int)) ∧ ((i : Int) < (↑l : Int))) (req (((0 : Int) ≤ (0 : Int)) ∧ ((0 : Int) < (↑(2 : Nat) : Int))) (ldI IntKind.i64 (Addr.add (Addr.add a53 (Int.toNat (i : Int) * 2)) 0) (fun n54 => callP P f_count_Book_Get (#[Value.pointer (some ⟨b, 0, none⟩), Value.int IntKind.i64 n54]) (fun v55 => asI IntKind.i64 v55 (fun n56 => xif (n56 != n52) (K (Value.bool Bool.false)) (R [Value.slice q' xs.length d', Value.int IntKind.i64 (IntKind.wrap IntKind.i64 ((i : Int) + 1))])))))))) σ51)) (fun R57 => joinH (fun vs58 => fun σ59 => ∀ b60, (vs58 = [Value.bool b60]) → ((xif b60 (adr p (fun a61 => req (((0 : Int) ≤ (i : Int)) ∧ ((i : Int) < (↑l : Int))) (req (((0 : Int) ≤ (0 : Int)) ∧ ((0 : Int) < (↑(2 : Nat) : Int))) (ldI IntKind.i64 (Addr.add (Addr.add a61 (Int.toNat (i : Int) * 2)) 0) (fun n62 => adr q' (fun a63 => req (((0 : Int) ≤ n62) ∧ (n62 < (↑xs.length : Int))) (ldI IntKind.i64 (Addr.add a63 (Int.toNat n62)) (fun n64 => R57 [Value.int IntKind.i64 n64])))))))) (R57 [Value.int IntKind.i64 0])) σ59)) (fun R65 => adr p (fun a66 => req (((0 : Int) ≤ (i : Int)) ∧ ((i : Int) < (↑l : Int))) (req (((0 : Int) ≤ (0 : Int)) ∧ ((0 : Int) < (↑(2 : Nat) : Int))) (ldI IntKind.i64 (Addr.add (Addr.add a66 (Int.toNat (i : Int) * 2)) 0) (fun n67 => xif (Decidable.decide (n67 ≥ 0)) (adr p (fun a68 => req (((0 : Int) ≤ (i : Int)) ∧ ((i : Int) < (↑l : Int))) (req (((0 : Int) ≤ (0 : Int)) ∧ ((0 : Int) < (↑(2 : Nat) : Int))) (ldI IntKind.i64 (Addr.add (Addr.add a68 (Int.toNat (i : Int) * 2)) 0) (fun n69 => R65 [Value.bool (Decidable.decide (n69 < (xs.length : Int)))]))))) (R65 [Value.bool Bool.false])))))))) := by
    intro q' d' H2 e he hd' hq' hk2
    refine T_join (fun vs H' => vs = [.int .i64 (cget (cadd xs x y) x)] ∧ cbk b xs.length (cadd xs x y) :: H2 = H') ?_ fun R5 hR5 => ?_
    · rintro vs H' ⟨rfl, rfl⟩
      simp only [T_all, T_imp]
      intro n52 heq
      simp only [List.cons.injEq, Value.int.injEq, true_and, and_true] at heq
      subst heq
      refine rd1 (count_Get ?_)
      simp only [asI_int]
      exact T_xif_f (by simp) (after q' d' H2 hd' hq' hk2)
    · have hlen := cadd_len (xs := xs) (i := x) (y := y)
      have hzero : ¬ (0 ≤ x ∧ x < (xs.length : Int)) → cget (cadd xs x y) x = 0 := fun h => by
        unfold cget
        split
        · rw [List.getD, List.getElem?_eq_none (by omega)]; rfl
        · rfl
      refine T_join (fun vs H' => vs = [.bool (decide (0 ≤ x ∧ x < (xs.length : Int)))] ∧ cbk b xs.length (cadd xs x y) :: H2 = H') ?_ fun R6 hR6 => rd1 (T_xif (fun h => rd1 (hR6 _ _ ⟨?_, rfl⟩)) fun h => hR6 _ _ ⟨?_, rfl⟩)
      · rintro vs H' ⟨rfl, rfl⟩
        simp only [T_all, T_imp]
        intro b60 heq
        simp only [List.cons.injEq, Value.bool.injEq, and_true] at heq
        subst heq
        refine T_xif (fun h => rd1 ?_) fun h => hR5 _ _ ⟨by rw [hzero (of_decide_eq_false h)], rfl⟩
        have h := of_decide_eq_true h
        obtain ⟨j, rfl⟩ : ∃ j : Nat, x = (j : Int) := ⟨x.toNat, by omega⟩
        obtain ⟨z, hz⟩ : ∃ z, (cadd xs (j : Int) y)[j]? = some z := ⟨_, List.getElem?_eq_getElem (by omega)⟩
        refine T_rowI hq'.tail rfl (by omega) (iv_get hz) (hR5 _ _ ⟨?_, rfl⟩)
        simp [cget, List.getD, hz]
      · have h : 0 ≤ x := by simpa using h
        congr 2
        simp [h]
      · have h : ¬ 0 ≤ x := by simpa using h
        have : ¬ (0 ≤ x ∧ x < (xs.length : Int)) := by omega
        rw [decide_eq_false this]
  refine rd2 (ref14_Add hq.tail rfl hd (by omega) hxb (fun hne => T_ex _ (T_ex _ (T_ex _ (T_ex _ (T_and rfl (rd2 (count_Add ?_))))))) fun he p' c' => T_oslLeC fun hle => T_ex _ (T_ex _ (T_ex _ (T_ex _ (T_and rfl (rd2 (T_perm (List.Perm.swap _ _ _) (count_Add ?_))))))))
  · simp only [asI_int]
    have e : cadd xs x y = xs := by rw [cadd, if_neg hne]
    refine T_xif_f (by simp) (main q d H1 _ rfl hd ?_ hk1)
    rw [e]; exact hq
  · simp only [asI_int]
    exact T_xif_f (by rw [he]; rfl) (main p' c' (osl 1 p' xs.length c' (iv .i64 (cadd xs x y)) :: H1) _ rfl hle RdV.of_osl (T_drop hk1))

end
end Go.Proofs.Ytnhgcgjmmalebaa
