/- The laws of tickets (layer 31), over the heap; no condition. -/
import Derived.Test.YtjffekopjfchnaaTicket
import Derived.Test.YtjffekopjfchnaaXo
set_option linter.unusedVariables false
set_option linter.unusedSimpArgs false
namespace Go.Proofs.Ytjffekopjfchnaa
open Go.XS

theorem zc43 : zc P 43 = tCells tZero := by kernel_rfl

section
variable {B : Heap} {H : List HProp} {K : Value → HP}

theorem ticket_works (hk : T B H (K (.bool true))) : T B H (callP P f_law31_works #[] K) := by
  refine T_of call_law31_works ?_
  unfold F_law31_works
  refine ticket_New (T_ex _ (T_ex _ (T_and rfl ?_)))
  refine T_al fun k => T_stA0 (cs := tCells tZero) rfl rfl (one_tCells _) (T_ldA0 rfl ?_)
  refine ticket_Pass (T_ex _ (T_ex _ (T_and rfl ?_)))
  refine T_al fun k => T_stA0 (cs := tCells tZero) rfl rfl (one_tCells _) (T_ldA0 rfl ?_)
  refine ticket_Grant (T_ex _ (T_ex _ (T_and rfl ?_)))
  refine T_al fun k => T_stA0 (cs := tCells tZero) rfl rfl (one_tCells _) (T_ldA0 rfl ?_)
  refine ticket_Cancel (T_ex _ (T_ex _ (T_and rfl ?_)))
  refine T_al fun k => T_stA0 (cs := tCells tZero) rfl rfl (one_tCells _) ?_
  refine T_xif_t (by decide) (T_xif_t (by decide) (T_xif_t (by decide) (T_xif_t (by decide) (T_ldA0 rfl ?_))))
  refine T_eqAgg (b := true) (by kernel_rfl) (by kernel_rfl) (by kernel_rfl) (by kernel_rfl) ?_
  simp only [asB_bool]
  exact T_drop (T_drop (T_drop (T_drop hk)))

theorem eq_same (t : Tk) : flatEq P (tCells t) (tCells t) (P.fieldsOf 43).toList = some true := by
  have h : flatEq P (tCells t) (tCells t) (P.fieldsOf 43).toList = some (t.id == t.id && (t.client == t.client && (t.count == t.count && (t.state == t.state && (t.passed == t.passed && true))))) := by kernel_rfl
  simpa using h

theorem T_eqTk {x y : Operand} {t : Tk} (h : T B H (K (.bool true))) :
    T B H (semP P (do eqGuard .eql 43 x y (.agg (tCells t)) (.agg (tCells t)); binOp .eql 43 (.agg (tCells t)) (.agg (tCells t))) K) :=
  T_eqAgg (b := true) (by kernel_rfl) (by kernel_rfl) (by kernel_rfl) (eq_same t) h

theorem law_TicketDoes {t : Tk} {a b c : Int} (hk : T B H (K (.bool true))) :
    T B H (callP P f_law31_TicketDoes #[.agg (tCells t), .agg #[.int .i64 a, .int .i64 b, .int .i64 c]] K) := by
  refine T_of (call_law31_TicketDoes _ _) ?_
  unfold F_law31_TicketDoes
  refine T_al fun k0 => T_al fun k1 => ?_
  simp only [add_mk]
  refine T_req (by decide) (T_ldI rfl (T_req (by decide) (T_ldI rfl (T_req (by decide) (T_ldI rfl ?_)))))
  refine ticket_New (T_ex _ (T_ex _ (T_and rfl ?_)))
  refine T_al fun k => T_stA0 (cs := tCells tZero) rfl rfl (one_tCells _) ?_
  refine T_req (by decide) (T_ldI rfl (T_req (by decide) (T_ldI rfl (T_req (by decide) (T_ldI rfl ?_)))))
  refine ref31_New (T_ex _ (T_ex _ (T_and rfl ?_)))
  refine T_al fun k => T_stA0 (cs := tCells tZero) rfl rfl (one_tCells _) (T_ldA0 rfl ?_)
  refine ticket_Grant (T_ex _ (T_ex _ (T_and rfl ?_)))
  refine T_al fun k => T_stA0 (cs := tCells tZero) rfl rfl (one_tCells _) (T_ldA0 rfl ?_)
  refine ref31_Turn ?_
  rw [if_neg (by decide)]
  refine T_ex _ (T_ex _ (T_and rfl ?_))
  refine T_al fun k => T_stA0 (cs := tCells tZero) rfl rfl (one_tCells _) (T_ldA0 rfl ?_)
  refine ticket_Cancel (T_ex _ (T_ex _ (T_and rfl ?_)))
  refine T_al fun k => T_stA0 (cs := tCells tZero) rfl rfl (one_tCells _) (T_ldA0 rfl ?_)
  refine ref31_Turn ?_
  rw [if_neg (by decide)]
  refine T_ex _ (T_ex _ (T_and rfl ?_))
  refine T_al fun k => T_stA0 (cs := tCells tZero) rfl rfl (one_tCells _) (T_ldA0 rfl ?_)
  refine ticket_Pass (T_ex _ (T_ex _ (T_and rfl ?_)))
  refine T_al fun k => T_stA0 (cs := tCells tZero) rfl rfl (one_tCells _) (T_ldA0 rfl ?_)
  refine ref31_Turn ?_
  rw [if_pos rfl, passT_eq]
  refine T_ex _ (T_ex _ (T_and rfl ?_))
  refine T_al fun k => T_stA0 (cs := tCells tZero) rfl rfl (one_tCells _) (T_ldA0 rfl (T_ldA0 rfl ?_))
  refine ticket_Right ?_
  simp only [asB_bool]
  refine T_andA (i := 0) rfl (fun j _ => by rw [Nat.zero_add]) (ref31_Right ?_)
  simp only [asB_bool]
  refine T_xif_t (by simp) (T_ldA0 rfl (T_ldA0 rfl (T_eqTk ?_)))
  simp only [asB_bool]
  refine T_xif_t rfl (T_xif_t (by simp) (T_ldA0 rfl (T_ldA0 rfl (T_eqTk ?_))))
  simp only [asB_bool]
  refine T_xif_t rfl (T_xif_t (by simp) (T_ldA0 rfl (T_ldA0 rfl (T_eqTk ?_))))
  simp only [asB_bool]
  refine T_xif_t rfl (T_xif_t (by simp) (T_ldA0 rfl (T_ldA0 rfl (T_eqTk ?_))))
  simp only [asB_bool]
  refine T_xif_t rfl (T_xif_t (by simp) (T_ldA0 rfl (T_ldA0 rfl (T_ldI rfl (T_ldI rfl ?_)))))
  refine ticket_Older ?_
  simp only [asB_bool]
  refine T_andC rfl (T_andC rfl (T_xif_t (by simp) (ticket_works ?_)))
  simp only [asB_bool]
  repeat (first | exact hk | refine T_drop ?_)


/-! ### 'TicketStays' -/

/-- A ticket on its way: none but its state and its count of passes was changed. -/
structure OnWay (id : Int) (i : Nat) (n : Int) (t : Tk) : Prop where
  hid : t.id = id
  hclient : t.client = 3
  hcount : t.count = 7
  hstate : t.state = 1 ∨ t.state = 2 ∨ t.state = 3
  hpassed : t.passed = n
  hlo : 0 ≤ n
  hhi : n ≤ i
  hpos : 1 ≤ id

theorem OnWay.right {id : Int} {i : Nat} {n : Int} {t : Tk} (h : OnWay id i n t) : right t = true := by
  obtain ⟨h1, h2, h3, h4, h5, h6, h7, h8⟩ := h
  refine decide_eq_true ?_
  omega

theorem OnWay.check {id : Int} {i : Nat} {n : Int} {t : Tk} (h : OnWay id i n t) : check t = if t.state = 1 then 0 else 13 := by
  simp only [Proofs.Ytjffekopjfchnaa.check, h.right, if_true]

theorem OnWay.turn {id : Int} {i : Nat} {n : Int} {t : Tk} (h : OnWay id i n t) {s : Int} (hs : s = 2 ∨ s = 3) (h1 : t.state = 1) : OnWay id (i + 1) n (turnT t s) := by
  have hc : Proofs.Ytjffekopjfchnaa.check t = 0 := by rw [h.check, if_pos h1]
  obtain ⟨h1, h2, h3, h4, h5, h6, h7, h8⟩ := h
  simp only [turnT, hc, if_true]
  exact ⟨h1, h2, h3, by simp only; omega, h5, h6, by omega, h8⟩

theorem OnWay.pass {id : Int} {i : Nat} {n : Int} {t : Tk} (h : OnWay id i n t) (hi : i < 1000) (h1 : t.state = 1) : passE t = 0 ∧ OnWay id (i + 1) (n + 1) (passT t) := by
  have hc : Proofs.Ytjffekopjfchnaa.check t = 0 := by rw [h.check, if_pos h1]
  obtain ⟨h1, h2, h3, h4, h5, h6, h7, h8⟩ := h
  have hp : ¬ t.passed ≥ 1099511627776 := by omega
  refine ⟨by simp only [passE, hc, if_true, if_neg hp], ?_⟩
  simp only [passT, hc, if_true, if_neg hp]
  exact ⟨h1, h2, h3, h4, by simp only [h5], by omega, by omega, h8⟩

theorem OnWay.next {id : Int} {i : Nat} {n : Int} {t : Tk} (h : OnWay id i n t) : OnWay id (i + 1) n t := by
  obtain ⟨h1, h2, h3, h4, h5, h6, h7, h8⟩ := h
  exact ⟨h1, h2, h3, h4, h5, h6, by omega, h8⟩

theorem OnWay.no {id : Int} {i : Nat} {n : Int} {t : Tk} (h : OnWay id i n t) (h1 : ¬ t.state = 1) : Proofs.Ytjffekopjfchnaa.check t = 13 ∧ passE t = 13 := by
  have hc : Proofs.Ytjffekopjfchnaa.check t = 13 := by rw [h.check, if_neg h1]
  refine ⟨hc, ?_⟩
  simp [passE, hc]

theorem law_TicketStays {id : Int} {p : Option Addr} {l c : Nat} {zs : List Int} (hr : Arg B p (iv .u8 zs)) (hz : l ≤ zs.length) (hu : ∀ z ∈ zs, 0 ≤ z) (hk : T B H (K (.bool true))) :
    T B H (callP P f_law31_TicketStays #[.int .i64 id, .slice p l c] K) := by
  refine T_of (call_law31_TicketStays _ _ _ _) ?_
  unfold F_law31_TicketStays
  have hworks : ∀ H', T B H' (K (.bool true)) → T B H' (callP P f_law31_works #[] fun v => asB v fun b => K (.bool b)) := fun H' h => ticket_works (by simpa only [asB_bool] using h)
  refine T_xif (fun _ => hworks _ hk) fun hlen => ?_
  have hlen : l ≤ 60 := by simp at hlen; omega
  simp only [add_mk]
  refine ticket_New (T_ex _ (T_ex _ (T_and rfl ?_)))
  refine T_al fun k => T_stA0 (cs := tCells tZero) rfl rfl (one_tCells _) ?_
  by_cases hid : id < 1
  · have hr : right (newOf id 3 7) = false := by
      refine decide_eq_false ?_
      show ¬ (id ≥ 1 ∧ _)
      omega
    refine T_xif_t (by simp [newE, hr]) (T_xif_t (by simpa using hid) (hworks _ (T_drop hk)))
  have hr1 : right (newOf id 3 7) = true := decide_eq_true (show id ≥ 1 ∧ (0 : Int) ≤ 3 ∧ (3 : Int) < 64 ∧ (1 : Int) ≤ 7 ∧ (7 : Int) ≤ 1048576 ∧ ((1 : Int) = 1 ∨ (1 : Int) = 2 ∨ (1 : Int) = 3) ∧ (0 : Int) ≤ 0 by omega)
  refine T_xif_f (by simp [newE, hr1]) ?_
  rw [newT, if_pos hr1]
  refine T_loop (fun vs H' => ∃ (i : Nat) (n : Int) (t : Tk) (H1 : List HProp), i ≤ l ∧ vs = [.int .i64 n, .int .i64 (i : Int)] ∧ OnWay id i n t ∧ H' = cl k (tCells t) :: H1 ∧ T B H1 (K (.bool true)))
    (fun vs => match vs with | [_, .int _ i] => l - i.toNat | _ => 0)
    ⟨0, 0, newOf id 3 7, H, Nat.zero_le _, rfl, ⟨rfl, rfl, rfl, .inl rfl, rfl, by omega, by omega, by omega⟩, rfl, hk⟩ ?_
  rintro s H' R ⟨i, n, t, H1, hi, rfl, hw, rfl, hk1⟩ hR
  simp only [T_all, T_imp]
  intro n12 n13 heq
  simp only [List.cons.injEq, Value.int.injEq, true_and, and_true] at heq
  obtain ⟨rfl, rfl⟩ := heq
  refine T_xif (fun hc => ?_) (fun hc => hworks _ (T_drop hk1))
  have hlt : i < l := by simpa using hc
  obtain ⟨z, hz'⟩ : ∃ z, zs[i]? = some z := ⟨_, List.getElem?_eq_getElem (by omega)⟩
  have hz0 : 0 ≤ z := hu z (List.mem_of_getElem? hz')
  have hx := iv_get (k := .u8) hz'
  simp only [wrap_succ (i := i) (by omega)]
  refine T_ldA0 rfl (ticket_Pass (T_ex _ (T_ex _ (T_and rfl ?_))))
  refine T_al fun u => T_stA0 (cs := tCells tZero) rfl rfl (one_tCells _) (T_argI hr rfl hlt hx (T_req (by decide) ?_))
  have after : ∀ (t2 : Tk) (e : Int), (t.state = 1 → e = 0 ∧ OnWay id (i + 1) (if z.tmod 8 > 1 then n + 1 else n) t2) → (¬ t.state = 1 → e = 13) →
      T B (cl u (tCells t2) :: cl k (tCells t) :: H1) (ldI .i64 ⟨k, 0 + 3, none⟩ (fun n27 => xif (!(e == 0) == (n27 == 1)) (K (.bool false))
        (joinH (fun vs28 => fun σ29 => ∀ n30, (vs28 = [.int .i64 n30]) → ((ldI .i64 ⟨k, 0 + 0, none⟩ (fun n31 => xif (n31 != id) (K (.bool false)) (ldI .i64 ⟨k, 0 + 1, none⟩ (fun n32 => xif (n32 != 3) (K (.bool false)) (ldI .i64 ⟨k, 0 + 2, none⟩ (fun n33 => xif (n33 != 7) (K (.bool false))
          (ldI .i64 ⟨k, 0 + 4, none⟩ (fun n34 => xif (n34 != n30) (K (.bool false)) (R [.int .i64 n30, .int .i64 ((i + 1 : Nat) : Int)]))))))))) σ29))
        (fun R35 => xif (e == 0) (ldA ⟨u, 0, none⟩ 5 (fun cs36 => stA ⟨k, 0, none⟩ cs36 5 (adr p (fun a37 => req (((0 : Int) ≤ (i : Int)) ∧ ((i : Int) < (l : Int))) (ldI .u8 (Addr.add a37 (Int.toNat i)) (fun n38 => req ((8 : Int) ≠ (0 : Int))
          (xif (decide (Int.tmod n38 8 > 1)) (R35 [.int .i64 (IntKind.wrap .i64 (n + 1))]) (R35 [.int .i64 n])))))))) (R35 [.int .i64 n]))))) := by
    intro t2 e h1 h2
    refine T_ldI rfl (T_xif_f ?_ ?_)
    · by_cases hs : t.state = 1
      · rw [(h1 hs).1, hs]; rfl
      · rw [h2 hs]
        have : (t.state == 1) = false := by simpa using hs
        rw [this]; rfl
    refine T_join (fun vs H' => ∃ (n' : Int) (t' : Tk), vs = [.int .i64 n'] ∧ OnWay id (i + 1) n' t' ∧ H' = cl u (tCells t2) :: cl k (tCells t') :: H1) ?_ fun R2 hR2 => ?_
    · rintro vs H' ⟨n', t', rfl, hw', rfl⟩
      simp only [T_all, T_imp]
      intro n30 heq
      simp only [List.cons.injEq, Value.int.injEq, true_and, and_true] at heq
      subst heq
      refine T_ldI rfl (T_xif_f (by simpa using hw'.hid) (T_ldI rfl (T_xif_f (by simpa using hw'.hclient) (T_ldI rfl (T_xif_f (by simpa using hw'.hcount) (T_ldI rfl (T_xif_f (by simpa using hw'.hpassed) ?_)))))))
      refine T_perm (List.Perm.swap _ _ _) (hR _ _ ⟨i + 1, n', t', _, by omega, rfl, hw', rfl, T_drop hk1⟩ (by simp only [Int.toNat_natCast]; omega))
    · by_cases hs : t.state = 1
      · obtain ⟨rfl, hw2⟩ := h1 hs
        refine T_xif_t rfl (T_ldA0 rfl (T_stA0 (cs := tCells t) rfl rfl (one_tCells _) (T_argI hr rfl hlt hx (T_req (by decide) ?_))))
        refine T_xif (fun h => ?_) (fun h => ?_)
        · rw [if_pos (by simpa using h)] at hw2
          rw [wrap_i64 (by have := hw.hlo; omega) (by have := hw.hhi; omega)]
          exact hR2 _ _ ⟨_, _, rfl, hw2, rfl⟩
        · rw [if_neg (by simpa using h)] at hw2
          exact hR2 _ _ ⟨_, _, rfl, hw2, rfl⟩
      · rw [h2 hs]
        exact T_xif_f rfl (hR2 _ _ ⟨_, _, rfl, hw.next, rfl⟩)
  have hm0 : 0 ≤ z.tmod 8 := Int.tmod_nonneg 8 hz0
  refine T_xif (fun h => ?_) (fun h => T_xif (fun h' => ?_) (fun h' => ?_))
  · have hz8 : z.tmod 8 = 0 := by simpa using h
    refine T_ldA0 rfl (ticket_Grant (T_ex _ (T_ex _ (T_and rfl ?_))))
    refine T_stA0 (cs := tCells (passT t)) rfl rfl (one_tCells _) (after _ _ (fun h1 => ⟨by rw [hw.check, if_pos h1], ?_⟩) (fun h1 => (hw.no h1).1))
    rw [if_neg (by omega)]
    exact hw.turn (.inl rfl) h1
  · have hz8 : z.tmod 8 = 1 := by simpa using h'
    refine T_ldA0 rfl (ticket_Cancel (T_ex _ (T_ex _ (T_and rfl ?_))))
    refine T_stA0 (cs := tCells (passT t)) rfl rfl (one_tCells _) (after _ _ (fun h1 => ⟨by rw [hw.check, if_pos h1], ?_⟩) (fun h1 => (hw.no h1).1))
    rw [if_neg (by omega)]
    exact hw.turn (.inr rfl) h1
  · have hz8 : ¬ z.tmod 8 = 0 := by simpa using h
    have hz9 : ¬ z.tmod 8 = 1 := by simpa using h'
    refine after _ _ (fun h1 => ?_) (fun h1 => (hw.no h1).2)
    rw [if_pos (by omega)]
    exact hw.pass (by omega) h1

end
end Go.Proofs.Ytjffekopjfchnaa
