/- Bytes (layer 10): store, wipe, load, how many are not 0; the reference's answers; no condition. -/
import Derived.Test.YtpnlldmmfbpmgaaBytes
import Derived.Test.YtpnlldmmfbpmgaaStackL
set_option linter.unusedVariables false
set_option linter.unusedSimpArgs false
namespace Go.Proofs.Ytpnlldmmfbpmgaa
open Go.XS

section
variable {B : Heap} {H : List HProp} {K : Value → HP} {b r : Nat} {d src : List UInt8}

theorem within_nat {len : Nat} {a n : Int} (h : within len a n) : ∃ x y : Nat, a = (x : Int) ∧ n = (y : Int) ∧ x + y ≤ len := by
  obtain ⟨h1, h2, h3⟩ := h
  exact ⟨a.toNat, n.toNat, by omega, by omega, by omega⟩

theorem byt_upd {a : Nat} (hn : a + src.length ≤ d.length) {p : HP} (h1 : 1 ≤ d.length) (h2 : d.length ≤ 1048576) (t : T B (byt b (upd d a src) :: H) p) : T B (cl b (byS r d) :: IM r (gOf (upd d a src)) :: H) p := by
  have := byt_close (b := b) (r := r) (d := upd d a src) (H := H) (by rw [upd_len hn]; exact h1) (by rw [upd_len hn]; exact h2) t
  rwa [byS, upd_len hn] at this

/-- The bytes then. -/
def stored (d : List UInt8) (a : Int) (xs : List UInt8) : List UInt8 := if within d.length a xs.length then upd d a.toNat xs else d

theorem stored_len {a : Int} : (stored d a src).length = d.length := by
  unfold stored
  split
  · rename_i h
    obtain ⟨x, y, rfl, hy, hl⟩ := within_nat h
    exact upd_len (by simp only [Int.toNat_natCast]; omega)
  · rfl

theorem bytes_Store {a : Int} (hk : T B (byt b (stored d a src) :: H) (K (.int .i64 (errOf d.length a src.length)))) :
    T B (byt b d :: H) (callP P f_bytes_Bytes_Store #[.pointer (some ⟨b, 0, none⟩), .int .i64 a, .string ⟨src.toArray⟩] K) := by
  refine T_of (call_bytes_Bytes_Store _ _ _) ?_
  unfold F_bytes_Bytes_Store
  refine T_al fun s => T_ldT rfl (T_perm (List.Perm.swap _ _ _) (bytes_check ?_))
  simp only [asI_int, ofL_size]
  by_cases hw : within d.length a src.length
  rotate_left
  · rw [errOf, if_neg hw] at *
    rw [stored, if_neg hw] at hk
    exact T_xif_f rfl (T_perm (List.Perm.swap _ _ _) (T_drop hk))
  rw [errOf, if_pos hw] at *
  rw [stored, if_pos hw] at hk
  obtain ⟨x, y, rfl, hy, hl⟩ := within_nat hw
  have hy : y = src.length := by omega
  subst hy
  refine T_xif_t rfl (T_ldT rfl (byt_open fun h1 h2 r => ?_))
  rw [ofL_size]
  refine bytes_put hl h2 (fun p1 p2 k o m c i cells K' ho hm t => ?_) (T_and rfl (byt_upd hl h1 h2 (T_perm (List.Perm.swap _ _ _) (T_drop hk))))
  refine T_callV (by kernel_rfl) (T_of (call_bytes_Bytes_Storec1 _ _ _ _ _) ?_)
  unfold F_bytes_Bytes_Storec1
  simp only [adr_some]
  refine T_ldT rfl (T_req ⟨by omega, by rw [ofL_size]; omega⟩ ?_)
  rw [Int.toNat_natCast, ofL_size, ofL_extract, List.take_of_length_le (Nat.le_refl _)]
  have hmin : Nat.min (src.drop i).length m = m := Nat.min_eq_right (by simp; omega)
  refine T_copyS (b := k) (o := o) (cs := cells.toArray) (H' := fun ds => cl k ds :: p1 :: p2 :: cl s #[.string ⟨src.toArray⟩] :: H) (t0 := 68) (elem := 5) rfl (by kernel_rfl) (by kernel_rfl) (by kernel_rfl) ?_ ?_
  · rw [ofL_size, hmin]; simpa using ho
  · rw [ofL_size, hmin, ofL_extract, bytesV_eq]
    simp only [asI_int]
    simpa using t

theorem bytes_Store_zero {z : Nat} {a : Int} (hk : T B (cl z #[.map none, .int .i64 0] :: H) (K (.int .i64 16))) :
    T B (cl z #[.map none, .int .i64 0] :: H) (callP P f_bytes_Bytes_Store #[.pointer (some ⟨z, 0, none⟩), .int .i64 a, .string ⟨src.toArray⟩] K) := by
  refine T_of (call_bytes_Bytes_Store _ _ _) ?_
  unfold F_bytes_Bytes_Store
  refine T_al fun s => T_ldT rfl (T_perm (List.Perm.swap _ _ _) (bytes_check_zero ?_))
  simp only [asI_int]
  exact T_xif_f rfl (T_perm (List.Perm.swap _ _ _) (T_drop hk))

/-- The bytes then. -/
def wiped (d : List UInt8) (a n : Int) : List UInt8 := if within d.length a n then upd d a.toNat (List.replicate n.toNat 0) else d
theorem wiped_len {a n : Int} : (wiped d a n).length = d.length := by
  unfold wiped
  split
  · rename_i h
    obtain ⟨x, y, rfl, rfl, hl⟩ := within_nat h
    exact upd_len (by simp; omega)
  · rfl

theorem bytes_Wipe {a n : Int} (hk : T B (byt b (wiped d a n) :: H) (K (.int .i64 (errOf d.length a n)))) :
    T B (byt b d :: H) (callP P f_bytes_Bytes_Wipe #[.pointer (some ⟨b, 0, none⟩), .int .i64 a, .int .i64 n] K) := by
  refine T_of (call_bytes_Bytes_Wipe _ _ _) ?_
  unfold F_bytes_Bytes_Wipe
  refine bytes_check ?_
  simp only [asI_int]
  by_cases hw : within d.length a n
  rotate_left
  · rw [errOf, if_neg hw] at *
    rw [wiped, if_neg hw] at hk
    exact T_xif_f rfl hk
  rw [errOf, if_pos hw] at *
  rw [wiped, if_pos hw] at hk
  obtain ⟨x, y, rfl, rfl, hl⟩ := within_nat hw
  have hl' : x + (List.replicate y (0 : UInt8)).length ≤ d.length := by simpa using hl
  refine T_xif_t rfl (byt_open fun h1 h2 r => ?_)
  have := bytes_put (B := B) (H := H) (b := b) (r := r) (d := d) (src := List.replicate y 0) (a := x) (g3 := f_bytes_Bytes_Wipec1) (ca3 := #[]) (K := fun v22 => fun σ23 => (v22 = Value.tuple #[]) ∧ K (.int .i64 0) σ23) hl' h2 (fun p1 p2 k o m c i cells K' ho hm t => ?_)
    (T_and rfl (byt_upd hl' h1 h2 hk))
  · rw [List.length_replicate] at this
    exact this
  refine T_callV (by kernel_rfl) (T_of (call_bytes_Bytes_Wipec1 _ _ _ _) ?_)
  unfold F_bytes_Bytes_Wipec1
  simp only [List.length_replicate] at hm
  have e : bv (((List.replicate y (0 : UInt8)).drop i).take m) = List.replicate m (.int .u8 0) := by
    simp [bv, Nat.min_eq_left (show m ≤ y - i by omega)]
  rw [e] at t
  refine T_clear (b := k) (o := o) (cs := cells.toArray) (H' := fun ds => cl k ds :: p1 :: p2 :: H) (t0 := 68) (elem := 5) (s := 1) rfl (by kernel_rfl) (by kernel_rfl) (by rw [zc5]; rfl) ?_ ?_ (T_and rfl ?_)
  · rw [zc5, zeros_one]
    intro v hv
    rw [List.eq_of_mem_replicate hv]
    rfl
  · simpa using ho
  · rw [zc5, zeros_one]; exact t

theorem bytes_Wipe_zero {z : Nat} {a n : Int} (hk : T B (cl z #[.map none, .int .i64 0] :: H) (K (.int .i64 16))) :
    T B (cl z #[.map none, .int .i64 0] :: H) (callP P f_bytes_Bytes_Wipe #[.pointer (some ⟨z, 0, none⟩), .int .i64 a, .int .i64 n] K) := by
  refine T_of (call_bytes_Bytes_Wipe _ _ _) ?_
  unfold F_bytes_Bytes_Wipe
  refine bytes_check_zero ?_
  simp only [asI_int]
  exact T_xif_f rfl hk

theorem bytes_Size_nil (hk : T B H (K (.int .i64 0))) : T B H (callP P f_bytes_Bytes_Size #[.pointer none] K) := by
  refine T_of (call_bytes_Bytes_Size _) ?_
  unfold F_bytes_Bytes_Size
  exact T_xif_t rfl hk
theorem bytes_Size_zero {z : Nat} (hk : T B (cl z #[.map none, .int .i64 0] :: H) (K (.int .i64 0))) : T B (cl z #[.map none, .int .i64 0] :: H) (callP P f_bytes_Bytes_Size #[.pointer (some ⟨z, 0, none⟩)] K) := by
  refine T_of (call_bytes_Bytes_Size _) ?_
  unfold F_bytes_Bytes_Size
  simp only [adr_some, add_mk]
  exact T_xif_f rfl (T_ldI rfl hk)
theorem bytes_Size (hk : T B (byt b d :: H) (K (.int .i64 (d.length : Int)))) : T B (byt b d :: H) (callP P f_bytes_Bytes_Size #[.pointer (some ⟨b, 0, none⟩)] K) := by
  refine byt_open fun h1 h2 r => ?_
  have hk := byt_close (r := r) h1 h2 hk
  refine T_of (call_bytes_Bytes_Size _) ?_
  unfold F_bytes_Bytes_Size
  simp only [adr_some, add_mk]
  exact T_xif_f rfl (T_ldI rfl hk)

theorem bytes_Clean_nil (hk : T B H (K (.bool true))) : T B H (callP P f_bytes_Bytes_Clean #[.pointer none] K) := by
  refine T_of (call_bytes_Bytes_Clean _) ?_
  unfold F_bytes_Bytes_Clean
  exact T_xif_t rfl hk
theorem bytes_Clean_zero {z : Nat} (hk : T B (cl z #[.map none, .int .i64 0] :: H) (K (.bool true))) : T B (cl z #[.map none, .int .i64 0] :: H) (callP P f_bytes_Bytes_Clean #[.pointer (some ⟨z, 0, none⟩)] K) := by
  refine T_of (call_bytes_Bytes_Clean _) ?_
  unfold F_bytes_Bytes_Clean
  simp only [adr_some, add_mk]
  refine T_xif_f rfl (T_ldM rfl (T_len_nil (kt := 3) (et := 105) (by kernel_rfl) ?_))
  simp only [asI_int]
  exact hk
theorem bytes_Clean (hk : T B (byt b d :: H) (K (.bool (decide (cnt d = 0))))) : T B (byt b d :: H) (callP P f_bytes_Bytes_Clean #[.pointer (some ⟨b, 0, none⟩)] K) := by
  refine byt_open fun h1 h2 r => ?_
  have hk := byt_close (r := r) h1 h2 hk
  refine T_of (call_bytes_Bytes_Clean _) ?_
  unfold F_bytes_Bytes_Clean
  simp only [adr_some, add_mk]
  refine T_xif_f rfl (T_ldM rfl (T_perm (List.Perm.swap _ _ _) (T_len (kt := 3) (et := 105) (by kernel_rfl) fun n hn => T_perm (List.Perm.swap _ _ _) ?_)))
  simp only [asI_int]
  refine T_conv hk ?_
  congr 1
  rw [clean_iff] at hn
  by_cases h : cnt d = 0
  · have := hn.2 h; subst this; simp [h]
  · have : ¬ n = 0 := fun h' => h (hn.1 h')
    have h2 : ((n : Int) == 0) = false := by simp; omega
    simp [h, h2]

/-- One row's count goes up. -/
theorem cnt_loop {cs : List UInt8} (hl : cs.length = 64) {n : Nat} (hn : n ≤ 100000000) {R : List Value → HP} {body : List Value → (List Value → HP) → HP}
    (hb : body = fun vs33 => (fun R34 => fun σ35 => ∀ n36, ∀ n37, (vs33 = [Value.int IntKind.i64 n36, Value.int IntKind.i64 n37]) → ((xif (Decidable.decide (n37 < 64)) (req (((0 : Int) ≤ n37) ∧ (n37 < (↑(64 : Nat) : Int))) (ptI IntKind.u8 (bv cs).toArray (Int.toNat n37) (fun n38 => xif (n38 != 0) (R34 [Value.int IntKind.i64 (IntKind.wrap IntKind.i64 (n36 + 1)), Value.int IntKind.i64 (IntKind.wrap IntKind.i64 (n37 + 1))]) (R34 [Value.int IntKind.i64 n36, Value.int IntKind.i64 (IntKind.wrap IntKind.i64 (n37 + 1))])))) (R [Value.int IntKind.i64 n36])) σ35)))
    (hk : T B H (R [.int .i64 ((n + cnt cs : Nat) : Int)])) : T B H (loopH body [.int .i64 (n : Int), .int .i64 0]) := by
  subst hb
  refine T_loop (fun vs H' => ∃ j : Nat, j ≤ 64 ∧ vs = [.int .i64 ((n + cnt (cs.take j) : Nat) : Int), .int .i64 (j : Int)] ∧ H = H')
    (fun vs => match vs with | [_, .int _ i] => 64 - i.toNat | _ => 0) ⟨0, Nat.zero_le _, rfl, rfl⟩ ?_
  rintro vs H' R2 ⟨j, hj, rfl, rfl⟩ hR
  simp only [T_all, T_imp]
  intro n36 n37 heq
  simp only [List.cons.injEq, Value.int.injEq, true_and, and_true] at heq
  obtain ⟨rfl, rfl⟩ := heq
  refine T_xif (fun hc => ?_) (fun hc => ?_)
  · have hlt : j < 64 := by simp at hc; omega
    obtain ⟨z, hz⟩ : ∃ z, cs[j]? = some z := ⟨_, List.getElem?_eq_getElem (by omega)⟩
    have hcl : cnt (cs.take j) ≤ 64 := by
      have := List.countP_le_length (p := (· != 0)) (l := cs.take j)
      simp only [List.length_take] at this
      unfold cnt; omega
    have hstep : cnt (cs.take (j + 1)) = cnt (cs.take j) + if z != 0 then 1 else 0 := by
      rw [take_succ_of hz, cnt_append]
      simp [cnt, List.countP_cons]
    refine T_req ⟨by omega, by omega⟩ (T_ptI (n := z.toNat) (by rw [Int.toNat_natCast, List.getElem?_toArray]; exact bv_get hz) ?_)
    have hz0 : (((z.toNat : Nat) : Int) != 0) = (z != 0) := by
      by_cases h : z = 0
      · subst h; rfl
      · have h1 : z.toNat ≠ 0 := fun h' => h (UInt8.toNat_inj.1 (by simpa using h'))
        have h2 : (z != 0) = true := by simpa using h
        rw [h2]; simp; omega
    rw [hz0, wrap_succ (i := j) (by omega), wrap_succ (i := n + cnt (cs.take j)) (by omega)]
    refine T_xif (fun h => hR _ _ ⟨j + 1, by omega, ?_, rfl⟩ (by simp only [Int.toNat_natCast]; omega)) fun h => hR _ _ ⟨j + 1, by omega, ?_, rfl⟩ (by simp only [Int.toNat_natCast]; omega)
    · rw [hstep, h]; simp [Nat.add_assoc]
    · rw [hstep, h]; simp
  · have : j = 64 := by simp at hc; omega
    subst this
    rw [List.take_of_length_le (by omega)]
    exact hk

theorem cnt_le (d : List UInt8) : cnt d ≤ d.length := List.countP_le_length

theorem bytes_Dirty_nil (hk : T B H (K (.int .i64 0))) : T B H (callP P f_bytes_Bytes_Dirty #[.pointer none] K) := by
  refine T_of (call_bytes_Bytes_Dirty _) ?_
  unfold F_bytes_Bytes_Dirty
  exact T_xif_t rfl hk

theorem bytes_Dirty_zero {z : Nat} (hk : T B (cl z #[.map none, .int .i64 0] :: H) (K (.int .i64 0))) : T B (cl z #[.map none, .int .i64 0] :: H) (callP P f_bytes_Bytes_Dirty #[.pointer (some ⟨z, 0, none⟩)] K) := by
  refine T_of (call_bytes_Bytes_Dirty _) ?_
  unfold F_bytes_Bytes_Dirty
  simp only [adr_some, add_mk]
  refine T_xif_f rfl (T_ldM rfl (T_range_nil (kt := 3) (et := 105) (by kernel_rfl) fun it => ?_))
  simp only [asP_ptr]
  refine T_loop (fun vs H' => vs = [.int .i64 0] ∧ ob it (.mapIter none 0 #[] 0) :: cl z #[.map none, .int .i64 0] :: H = H') (fun _ => 0) ⟨rfl, rfl⟩ ?_
  rintro vs H' R ⟨rfl, rfl⟩ hR
  simp only [T_all, T_imp]
  intro n heq
  simp only [List.cons.injEq, Value.int.injEq, true_and, and_true] at heq
  subst heq
  exact T_next_nil (T_xif_f rfl (T_drop hk))

theorem key_facts {k : Int} {v : Value} (hv : gOf d k = some v) : 0 ≤ k ∧ k < ((d.length / 64 + 1 : Nat) : Int) ∧ v = .agg (bv (row d k.toNat)).toArray ∧ 1 ≤ cnt (row d k.toNat) := by
  unfold gOf at hv
  split at hv
  · rename_i h0
    refine ⟨h0.1, ?_, (Option.some.inj hv).symm, ?_⟩
    · rcases Nat.lt_or_ge k.toNat (d.length / 64 + 1) with h' | h'
      · omega
      · exfalso
        apply h0.2
        rw [row_zero_iff, cnt_row, List.drop_of_length_le (by omega)]
        rfl
    · have := mt row_zero_iff.2 h0.2
      omega
  · cases hv

theorem sum_le {f : Int → Nat} {m : Nat} : ∀ (ks : List Int), (∀ k ∈ ks, f k ≤ m) → (ks.map f).sum ≤ ks.length * m
  | [], _ => by simp
  | k :: ks, h => by
    have := sum_le ks (fun k hk => h k (by simp [hk]))
    have := h k (by simp)
    simp only [List.map_cons, List.sum_cons, List.length_cons, Nat.add_mul]
    omega

def got (d : List UInt8) (ks : List Int) : Nat := (ks.map fun k => cnt (row d k.toNat)).sum
theorem got_snoc (ks : List Int) (k : Int) : got d (ks ++ [k]) = got d ks + cnt (row d k.toNat) := by simp [got]
theorem got_le {ks : List Int} (h : ∀ k, k ∈ ks → ∃ v, gOf d k = some v) (hn : ks.Nodup) : got d ks ≤ (d.length / 64 + 1) * 64 := by
  have h1 := sum_le (f := fun k => cnt (row d k.toNat)) (m := 64) ks (fun k _ => by have := cnt_le (row d k.toNat); simpa using this)
  have h2 := nodup_len (d.length / 64 + 1) ks hn (fun k hk => by obtain ⟨v, hv⟩ := h k hk; have := key_facts hv; omega)
  have h3 := Nat.mul_le_mul_right 64 h2
  unfold got; omega

theorem bytes_Dirty (hk : T B (byt b d :: H) (K (.int .i64 (cnt d : Int)))) : T B (byt b d :: H) (callP P f_bytes_Bytes_Dirty #[.pointer (some ⟨b, 0, none⟩)] K) := by
  refine byt_open fun h1 h2 r => ?_
  have hk := byt_close (r := r) h1 h2 hk
  refine T_of (call_bytes_Bytes_Dirty _) ?_
  unfold F_bytes_Bytes_Dirty
  simp only [adr_some, add_mk]
  refine T_xif_f rfl (T_ldM rfl (T_perm (List.Perm.swap _ _ _) (T_range (kt := 3) (et := 105) (by kernel_rfl) fun it => ?_)))
  simp only [asP_ptr]
  refine T_loop (fun vs H' => ∃ ks : List Int, vs = [.int .i64 (got d ks : Int)] ∧ ks.Nodup ∧ (∀ k, k ∈ ks → ∃ v, gOf d k = some v) ∧ IMI r it (gOf d) ks :: cl b (byS r d) :: H = H')
    (fun vs => match vs with | [.int _ i] => (d.length / 64 + 1) * 64 - i.toNat | _ => 0) ⟨[], rfl, by simp, by simp, rfl⟩ ?_
  rintro vs H' R ⟨ks, rfl, hn, hks, rfl⟩ hR
  simp only [T_all, T_imp]
  intro n heq
  simp only [List.cons.injEq, Value.int.injEq, true_and, and_true] at heq
  subst heq
  refine T_next (fun hall _ _ => T_xif_f rfl ?_) fun k v hv hkn => T_xif_t rfl (T_entry hv ?_)
  · have e : got d ks = cnt d := cnt_keys hall hks hn
    rw [e]
    exact IMI_done (T_perm (List.Perm.swap _ _ _) hk)
  obtain ⟨hk0, hk1, hve, hc1⟩ := key_facts hv
  subst hve
  simp only [asA_agg]
  have hn' : (ks ++ [k]).Nodup := by
    refine List.nodup_append.2 ⟨hn, by simp, ?_⟩
    intro a ha c hc
    simp at hc; subst hc
    rintro rfl
    exact hkn ha
  have hks' : ∀ j, j ∈ ks ++ [k] → ∃ v, gOf d j = some v := by
    intro j hj
    rcases List.mem_append.1 hj with h | h
    · exact hks j h
    · simp at h; subst h; exact ⟨_, hv⟩
  have hle := got_le hks' hn'
  rw [got_snoc] at hle
  have hle2 := got_le hks hn
  refine T_al fun c => T_stA0 (by simp) (by rw [zc105]; simp [zrow]) (fun v hv => bv_one _ v (by simpa using hv)) (T_ldA0 (by simp) (T_drop ?_))
  refine cnt_loop (cs := row d k.toNat) (by simp) (by omega) rfl ?_
  rw [← got_snoc]
  refine hR _ _ ⟨ks ++ [k], rfl, hn', hks', rfl⟩ ?_
  simp only [Int.toNat_natCast, got_snoc]
  omega

/-! ## Load -/

theorem bytes_Load_nil {a n : Int} (hk : T B H (K (.tuple #[.string ⟨#[]⟩, .int .i64 16]))) : T B H (callP P f_bytes_Bytes_Load #[.pointer none, .int .i64 a, .int .i64 n] K) := by
  refine T_of (call_bytes_Bytes_Load _ _ _) ?_
  unfold F_bytes_Bytes_Load
  refine bytes_check_nil ?_
  simp only [asI_int]
  exact T_xif_t rfl hk

/-- What is loaded. -/
def loaded (d : List UInt8) (a n : Int) : List UInt8 := if within d.length a n then (d.drop a.toNat).take n.toNat else []

theorem bytes_Load {a n : Int} (hk : T B (byt b d :: H) (K (.tuple #[.string ⟨(loaded d a n).toArray⟩, .int .i64 (errOf d.length a n)]))) :
    T B (byt b d :: H) (callP P f_bytes_Bytes_Load #[.pointer (some ⟨b, 0, none⟩), .int .i64 a, .int .i64 n] K) := by
  refine T_of (call_bytes_Bytes_Load _ _ _) ?_
  unfold F_bytes_Bytes_Load
  refine bytes_check ?_
  simp only [asI_int]
  by_cases hw : within d.length a n
  rotate_left
  · rw [errOf, if_neg hw] at *
    rw [loaded, if_neg hw] at hk
    exact T_xif_t rfl hk
  rw [errOf, if_pos hw] at *
  rw [loaded, if_pos hw] at hk
  obtain ⟨x, y, rfl, rfl, hl⟩ := within_nat hw
  simp only [Int.toNat_natCast] at hk ⊢
  refine T_xif_f rfl (byt_open fun h1 h2 r => T_mkSl (by omega) (by omega) (by omega) (by rw [bytes5]; omega) (by kernel_rfl) (by kernel_rfl) fun c => ?_)
  have hk := byt_close (r := r) h1 h2 hk
  rw [cells5, zc5, reps_one, Nat.mul_one, Int.toNat_natCast]
  simp only [adr_some, add_mk]
  refine T_loop (fun vs H' => ∃ i : Nat, i ≤ y ∧ vs = [.int .i64 (i : Int)] ∧ cl c (bv ((d.drop x).take i ++ List.replicate (y - i) 0)).toArray :: cl b (byS r d) :: IM r (gOf d) :: H = H')
    (fun vs => match vs with | [.int _ i] => y - i.toNat | _ => 0) ⟨0, Nat.zero_le _, rfl, by simp [bv]⟩ ?_
  rintro vs H' R ⟨i, hi, rfl, rfl⟩ hR
  simp only [T_all, T_imp]
  intro n heq
  simp only [List.cons.injEq, Value.int.injEq, true_and, and_true] at heq
  subst heq
  refine T_xif (fun hc => ?_) (fun hc => ?_)
  rotate_left
  · have : i = y := by simp at hc; omega
    subst this
    rw [Nat.sub_self, List.replicate_zero, List.append_nil]
    refine T_convB (e := 5) (l := (d.drop x).take i) (by kernel_rfl) (by kernel_rfl) (by kernel_rfl) (RdV.of_cl fun j hj => by simp) rfl (by simp; omega) ?_
    simp only [asT_str]
    exact T_drop hk
  have hlt : i < y := by simpa using hc
  obtain ⟨w1, w2, w3⟩ := div_facts (a := x) (i := i) (by omega)
  generalize hkk : (x + i) / 64 = kk at *
  generalize hk0 : (x + i) % 64 = k0 at *
  have hp : x + i = 64 * kk + k0 := by omega
  have hk64 : k0 < 64 := by omega
  simp only [w1, w2, w3, Int.toNat_natCast]
  refine T_ldM rfl (T_req (by decide) (T_perm (List.Perm.trans (List.Perm.cons _ (List.Perm.swap _ _ _)) (List.Perm.swap _ _ _)) (row_look ?_)))
  simp only [asA_agg]
  have hrl : (bv (row d kk)).toArray.size = 64 := by simp
  refine T_req (by decide) (T_al fun k => T_stA0 hrl (by rw [zc105]; simp [zrow]) (fun v hv => bv_one _ v (by simpa using hv)) (T_req ⟨by omega, by omega⟩ (T_req ⟨by omega, by omega⟩ ?_)))
  have eb : aBase ⟨k, 0, none⟩ 1 k0 64 = ⟨k, k0, none⟩ := by
    unfold aBase
    rw [if_neg (by omega), add_mk]
    simp
  have es : slBase (some ⟨c, 0, none⟩) 1 i y = some ⟨c, i, none⟩ := by
    unfold slBase
    rw [if_neg (by omega)]
    simp [add_mk]
  rw [eb, es]
  generalize hm : Nat.min (64 - k0) (y - i) = m
  have hm1 : m ≤ 64 - k0 := by rw [← hm]; exact Nat.min_le_left _ _
  have hm2 : m ≤ y - i := by rw [← hm]; exact Nat.min_le_right _ _
  have hm3 : 0 < m := by
    rw [← hm]
    rcases Nat.le_total (64 - k0) (y - i) with h | h
    · rw [show Nat.min (64 - k0) (y - i) = 64 - k0 from Nat.min_eq_left h]; omega
    · rw [show Nat.min (64 - k0) (y - i) = y - i from Nat.min_eq_right h]; omega
  have hyl : (((row d kk).drop k0).take m).length = m := by simp; omega
  have hlen : (bv ((d.drop x).take i ++ List.replicate (y - i) 0)).length = y := by simp; omega
  refine T_copy (b := c) (o := i) (cs := (bv ((d.drop x).take i ++ List.replicate (y - i) 0)).toArray) (H' := fun ds => cl k (bv (row d kk)).toArray :: IM r (gOf d) :: cl c ds :: cl b (byS r d) :: H) (s := 1) (t0 := 68) (elem := 5)
    (ys := bv (((row d kk).drop k0).take m)) rfl (by kernel_rfl) (by kernel_rfl) (by kernel_rfl) ?_ (by rw [hm]; simp; omega) (bv_one _) (by rw [hm, List.size_toArray, hlen]; omega) ?_
  · refine RdV.of_cl fun j hj => ?_
    simp only [bv_length, hyl] at hj
    rw [List.getElem?_toArray, bv, bv, List.getElem?_map, List.getElem?_map, List.getElem?_take, if_pos hj, List.getElem?_drop]
  simp only [asI_int, hm]
  have w8 : IntKind.wrap .i64 ((i : Int) + (m : Int)) = ((i + m : Nat) : Int) := by rw [wrap_i64 (by omega) (by omega)]; omega
  rw [w8]
  refine T_drop (T_perm (List.Perm.trans (List.Perm.swap _ _ _) (List.Perm.cons _ (List.Perm.swap _ _ _))) (hR _ _ ⟨i + m, by omega, rfl, ?_⟩ (by simp only [Int.toNat_natCast]; omega)))
  have hl0 : ((d.drop x).take i).length = i := by simp; omega
  have e2 : ((d.drop x).take i ++ List.replicate (y - i) (0 : UInt8)).drop (i + m) = List.replicate (y - (i + m)) 0 := by
    rw [List.drop_append, List.drop_of_length_le (by omega), hl0, List.drop_replicate, List.nil_append]
    congr 1; omega
  have e3 : (d.drop x).take (i + m) = (d.drop x).take i ++ ((row d kk).drop k0).take m := by
    rw [List.take_add, List.drop_drop, row_piece (m := m) hp (by omega) (by omega)]
  have hE : upd ((d.drop x).take i ++ List.replicate (y - i) 0) i (((row d kk).drop k0).take m) = (d.drop x).take (i + m) ++ List.replicate (y - (i + m)) 0 := by
    unfold upd
    rw [List.take_left' hl0, hyl, e2, e3, List.append_assoc]
  rw [splice (by rw [hyl, List.length_append, hl0, List.length_replicate]; omega), hE]

end
end Go.Proofs.Ytpnlldmmfbpmgaa
