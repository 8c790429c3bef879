/- The law of bytes: plays (layer 10); no condition but the forms of its arguments. -/
import Derived.Test.YtpnlldmmfbpmgaaBytesLaw
set_option linter.unusedVariables false
set_option linter.unusedSimpArgs false
namespace Go.Proofs.Ytpnlldmmfbpmgaa
open Go.XS

/-- A call on bytes. -/
structure BAct where
  kind : Int
  at' : Int
  n : Int
  text : List UInt8
def BAct.cells (a : BAct) : List Value := [.int .i64 a.kind, .int .i64 a.at', .int .i64 a.n, .string ⟨a.text.toArray⟩]

section
variable {B : Heap} {H : List HProp} {K : Value → HP} {b r : Nat} {d src : List UInt8}

theorem zero_agree (c : Nat) : (!(decide (c = 0) == ((c : Int) == 0))) = false := by
  by_cases h : c = 0
  · subst h; rfl
  · have h2 : ((c : Int) == 0) = false := by simp; omega
    simp [h, h2]

theorem law_BytesPlays {size : Int} {p : Option Addr} {l c : Nat} {acts : List BAct} (hr : Arg B p (acts.flatMap BAct.cells)) (hl : l ≤ acts.length) (hk : T B H (K (.bool true))) :
    T B H (callP P f_law10_BytesPlays #[.int .i64 size, .slice p l c] K) := by
  refine T_of (call_law10_BytesPlays _ _ _ _) ?_
  unfold F_law10_BytesPlays
  have hworks : ∀ H', T B H' (K (.bool true)) → T B H' (callP P f_law10_works #[] fun v => asB v fun b => K (.bool b)) := fun H' h => bytes_works (by simpa only [asB_bool] using h)
  refine T_join (fun vs H' => vs = [] ∧ H = H' ∧ l ≤ 40 ∧ (size ≤ 2000 ∨ 1048576 < size)) ?_ fun R hR => ?_
  rotate_left
  · refine T_xif (fun _ => hworks _ hk) fun h => ?_
    have hl2 : l ≤ 40 := by simp at h; omega
    refine T_xif (fun h2 => T_xif (fun _ => hworks _ hk) fun h3 => hR _ _ ⟨rfl, rfl, hl2, .inr (by simp at h3; omega)⟩) fun h2 => hR _ _ ⟨rfl, rfl, hl2, .inl (by simp at h2; omega)⟩
  rintro vs H' ⟨rfl, rfl, hl2, hsz⟩
  simp only [T_imp]
  intro _
  rcases Classical.em (size < 1 ∨ 1048576 < size) with hs | hs
  · refine bytes_New_none hs ?_
    simp only [asP_ptr]
    refine T_join (fun _ _ => False) (fun _ _ h => h.elim) fun R _ => T_join (fun vs H' => vs = [.bool true] ∧ H = H') ?_ fun R2 hR2 => T_xif (fun h => hR2 _ _ ⟨rfl, rfl⟩) fun h => hR2 _ _ ⟨?_, rfl⟩
    · rintro vs H' ⟨rfl, rfl⟩
      simp only [T_all, T_imp]
      intro b heq
      simp only [List.cons.injEq, Value.bool.injEq, and_true] at heq
      subst heq
      exact T_xif_t rfl (T_xif_t rfl (hworks _ hk))
    · have : ¬ size < 1 := by simpa using h
      have : size > 1048576 := by omega
      simp [this]
  obtain ⟨n, rfl⟩ : ∃ n : Nat, size = (n : Int) := ⟨size.toNat, by omega⟩
  have hn0 : 1 ≤ n := by omega
  have hn1 : n ≤ 2000 := by omega
  refine bytes_New hn0 (by omega) fun b => ?_
  simp only [asP_ptr]
  refine T_join (fun vs H' => vs = [] ∧ byt b (List.replicate n 0) :: H = H') ?_ fun R hR => T_join (fun vs H' => vs = [.bool false] ∧ byt b (List.replicate n 0) :: H = H') ?_ fun R2 hR2 => T_xif_f (by simp; omega) (hR2 _ _ ⟨by
      have : decide ((n : Int) > 1048576) = false := by simp; omega
      rw [this], rfl⟩)
  rotate_left
  · rintro vs H' ⟨rfl, rfl⟩
    simp only [T_all, T_imp]
    intro b heq
    simp only [List.cons.injEq, Value.bool.injEq, and_true] at heq
    subst heq
    exact T_xif_f rfl (hR _ _ ⟨rfl, rfl⟩)
  rintro vs H' ⟨rfl, rfl⟩
  simp only [T_imp]
  intro _
  refine T_xif_f rfl (ref10_New (by omega) ?_)
  simp only [asT_str]
  refine T_loop (fun vs H' => ∃ (i : Nat) (d : List UInt8), i ≤ l ∧ vs = [.string ⟨d.toArray⟩, .int .i64 (i : Int)] ∧ d.length = n ∧ byt b d :: H = H')
    (fun vs => match vs with | [_, .int _ i] => l - i.toNat | _ => 0) ⟨0, _, Nat.zero_le _, rfl, List.length_replicate, rfl⟩ ?_
  rintro vs H' R ⟨i, d, hi, rfl, hdn, rfl⟩ hR
  simp only [T_all, T_imp]
  intro s31 n32 heq
  simp only [List.cons.injEq, Value.int.injEq, Value.string.injEq, true_and, and_true] at heq
  obtain ⟨rfl, rfl⟩ := heq
  subst hdn
  refine T_xif (fun hc => ?_) (fun hc => ?_)
  rotate_left
  · refine bytes_Load (T_ex _ (T_ex _ (T_and rfl ?_)))
    have he : errOf d.length 0 (d.length : Int) = 0 := err_in (a := 0) (by omega)
    rw [loaded_all, he]
    refine T_xif_t (beq_self_eq_true _) (T_xif_t (by decide) (bytes_Size ?_))
    simp only [asI_int]
    exact T_xif_t (by simp) (hworks _ (T_drop hk))
  have hlt : i < l := by simpa using hc
  obtain ⟨a, ha⟩ : ∃ a, acts[i]? = some a := ⟨_, List.getElem?_eq_getElem (by omega)⟩
  obtain ⟨kd, x, m, text⟩ := a
  rw [wrap_succ (i := i) (by omega)]
  -- what is checked behind each call
  have after : ∀ d' : List UInt8, d'.length = d.length → ∀ H1, (∀ {p : HP}, T B (byt b d' :: H) p → T B (byt b d' :: H1) p) → T B (byt b d' :: H1) (callP P f_bytes_Bytes_Clean #[.pointer (some ⟨b, 0, none⟩)] fun v => asB v fun b50 => callP P f_ref10_Dirty #[.string ⟨d'.toArray⟩] fun v => asI .i64 v fun n53 =>
      xif (!(b50 == (n53 == 0))) (K (.bool false)) (callP P f_bytes_Bytes_Dirty #[.pointer (some ⟨b, 0, none⟩)] fun v => asI .i64 v fun n55 => callP P f_ref10_Dirty #[.string ⟨d'.toArray⟩] fun v => asI .i64 v fun n57 => xif (n55 != n57) (K (.bool false)) (R [.string ⟨d'.toArray⟩, .int .i64 ((i + 1 : Nat) : Int)]))) := by
    intro d' hd' H1 hH
    refine bytes_Clean ?_
    simp only [asB_bool]
    refine ref10_Dirty (by omega) ?_
    simp only [asI_int]
    refine T_xif_f (zero_agree _) (bytes_Dirty ?_)
    simp only [asI_int]
    refine ref10_Dirty (by omega) ?_
    simp only [asI_int]
    exact T_xif_f (by simp) (hH (hR _ _ ⟨i + 1, d', by omega, rfl, hd', rfl⟩ (by simp only [Int.toNat_natCast]; omega)))
  refine T_argAI (f := BAct.cells) (fun _ => rfl) (by decide) hr rfl hlt ha (T_al fun k => T_stA0 rfl rfl (by simp [BAct.cells, Value.oneCell']) ?_)
  have hH : ∀ {d' : List UInt8} {p : HP}, T B (byt b d' :: H) p → T B (byt b d' :: cl k (BAct.cells ⟨kd, x, m, text⟩).toArray :: H) p := fun h => T_perm (List.Perm.swap _ _ _) (T_drop h)
  simp only [add_mk]
  refine T_ldT rfl (T_xif (fun _ => hworks _ (T_drop (T_drop hk))) fun h3000 => ?_)
  have h3000 : text.length ≤ 3000 := by rw [ofL_size] at h3000; simp at h3000; omega
  refine T_ldI rfl (T_xif (fun _ => ?_) fun _ => T_xif (fun _ => ?_) fun _ => T_xif (fun _ => ?_) fun _ => ?_)
  · refine T_ldI rfl (T_ldT rfl (ref10_Store (by omega) (Nat.le_trans h3000 (by decide)) (T_ex _ (T_ex _ (T_and rfl (T_ldI rfl (T_ldT rfl (T_perm (List.Perm.swap _ _ _) (bytes_Store ?_)))))))))
    simp only [asI_int]
    exact T_xif_f (by simp) (after _ stored_len _ hH)
  · refine T_ldI rfl (T_ldI rfl (ref10_Wipe (by omega) (T_ex _ (T_ex _ (T_and rfl (T_ldI rfl (T_ldI rfl (T_perm (List.Perm.swap _ _ _) (bytes_Wipe ?_)))))))))
    simp only [asI_int]
    exact T_xif_f (by simp) (after _ wiped_len _ hH)
  · refine T_ldI rfl (T_ldI rfl (ref10_Load (by omega) (T_ex _ (T_ex _ (T_and rfl (T_ldI rfl (T_ldI rfl (T_perm (List.Perm.swap _ _ _) (bytes_Load (T_ex _ (T_ex _ (T_and rfl ?_)))))))))))) 
    exact T_xif_f (by simp) (T_xif_f (by simp) (after _ rfl _ hH))
  · exact T_perm (List.Perm.swap _ _ _) (after _ rfl _ hH)

end
end Go.Proofs.Ytpnlldmmfbpmgaa
