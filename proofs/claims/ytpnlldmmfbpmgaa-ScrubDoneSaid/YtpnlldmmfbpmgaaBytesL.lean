/- Bytes in rows of 64 (layer 10), in plain lists: what is put, what a row is, how many are not 0; no condition. -/
import Derived.Test.YtpnlldmmfbpmgaaBase
import Derived.Test.YtpnlldmmfbpmgaaXu
set_option linter.unusedVariables false
set_option linter.unusedSimpArgs false
namespace Go.Proofs.Ytpnlldmmfbpmgaa
open Go.XS

def upd (d : List UInt8) (a : Nat) (xs : List UInt8) : List UInt8 := d.take a ++ (xs ++ d.drop (a + xs.length))
theorem upd_len {d xs : List UInt8} {a : Nat} (h : a + xs.length ≤ d.length) : (upd d a xs).length = d.length := by
  simp [upd]; omega
theorem upd_get {d xs : List UInt8} {a : Nat} (h : a + xs.length ≤ d.length) (p : Nat) : (upd d a xs)[p]? = if a ≤ p ∧ p < a + xs.length then xs[p - a]? else d[p]? := by
  unfold upd
  by_cases h1 : p < a
  · rw [List.getElem?_append_left (by simp; omega), if_neg (by omega), List.getElem?_take, if_pos h1]
  · rw [List.getElem?_append_right (by simp; omega)]
    simp only [List.length_take]
    rw [show p - min a d.length = p - a by omega]
    by_cases h2 : p < a + xs.length
    · rw [List.getElem?_append_left (by omega), if_pos (by omega)]
    · rw [List.getElem?_append_right (by omega), if_neg (by omega), List.getElem?_drop]
      congr 1; omega
theorem upd_nil (d : List UInt8) (a : Nat) : upd d a [] = d := by simp [upd]
theorem upd_getD {d xs : List UInt8} {a : Nat} (h : a + xs.length ≤ d.length) (p : Nat) : (upd d a xs).getD p 0 = if a ≤ p ∧ p < a + xs.length then xs.getD (p - a) 0 else d.getD p 0 := by
  simp only [List.getD, upd_get h]
  split <;> rfl

def row (d : List UInt8) (k : Nat) : List UInt8 := (List.range 64).map fun j => d.getD (64 * k + j) 0
@[simp] theorem row_len (d : List UInt8) (k : Nat) : (row d k).length = 64 := by simp [row]
theorem row_get {d : List UInt8} {k j : Nat} (h : j < 64) : (row d k)[j]? = some (d.getD (64 * k + j) 0) := by simp [row, h]

theorem ext64 {a b : List UInt8} (ha : a.length = 64) (hb : b.length = 64) (h : ∀ j, j < 64 → a[j]? = b[j]?) : a = b := by
  apply List.ext_getElem?
  intro j
  by_cases hj : j < 64
  · exact h j hj
  · rw [List.getElem?_eq_none (by omega), List.getElem?_eq_none (by omega)]

/-- The row in which some more is put. -/
theorem row_put {d src : List UInt8} {a i m kk k0 : Nat} (h : a + src.length ≤ d.length) (hi : i + m ≤ src.length) (hp : a + i = 64 * kk + k0) (hk : k0 + m ≤ 64) :
    row (upd d a (src.take (i + m))) kk = upd (row (upd d a (src.take i)) kk) k0 ((src.drop i).take m) := by
  have hl1 : (src.take (i + m)).length = i + m := by simp; omega
  have hl2 : (src.take i).length = i := by simp; omega
  have hl3 : ((src.drop i).take m).length = m := by simp; omega
  refine ext64 (by simp) (by rw [upd_len (by rw [hl3]; simp; omega)]; simp) fun j hj => ?_
  rw [row_get hj, upd_get (by rw [hl3]; simp; omega), row_get hj, upd_getD (by omega), upd_getD (by omega), hl1, hl2, hl3]
  by_cases h1 : k0 ≤ j ∧ j < k0 + m
  · rw [if_pos h1, if_pos (by omega), List.getElem?_take, if_pos (by omega), List.getElem?_drop]
    have : i + (j - k0) < src.length := by omega
    rw [List.getElem?_eq_getElem this]
    simp only [List.getD, List.getElem?_take]
    rw [if_pos (by omega), show 64 * kk + j - a = i + (j - k0) by omega, List.getElem?_eq_getElem this]
    rfl
  · rw [if_neg h1]
    congr 1
    by_cases h2 : a ≤ 64 * kk + j ∧ 64 * kk + j < a + i
    · rw [if_pos h2, if_pos (by omega)]
      simp only [List.getD, List.getElem?_take]
      rw [if_pos (by omega), if_pos (by omega)]
    · rw [if_neg h2, if_neg (by omega)]

/-- The other rows. -/
theorem row_other {d src : List UInt8} {a i m kk k0 j : Nat} (h : a + src.length ≤ d.length) (hi : i + m ≤ src.length) (hp : a + i = 64 * kk + k0) (hk : k0 + m ≤ 64) (hk0 : k0 < 64) (hj : j ≠ kk) :
    row (upd d a (src.take (i + m))) j = row (upd d a (src.take i)) j := by
  have hl1 : (src.take (i + m)).length = i + m := by simp; omega
  have hl2 : (src.take i).length = i := by simp; omega
  refine ext64 (by simp) (by simp) fun t ht => ?_
  rw [row_get ht, row_get ht, upd_getD (by omega), upd_getD (by omega), hl1, hl2]
  congr 1
  by_cases h2 : a ≤ 64 * j + t ∧ 64 * j + t < a + i
  · rw [if_pos h2, if_pos (by omega)]
    simp only [List.getD, List.getElem?_take]
    rw [if_pos (by omega), if_pos (by omega)]
  · rw [if_neg h2, if_neg (by rcases Nat.lt_or_gt_of_ne hj with h | h <;> omega)]

theorem row_piece {d : List UInt8} {p m kk k0 : Nat} (hp : p = 64 * kk + k0) (hk : k0 + m ≤ 64) (hm : p + m ≤ d.length) : (d.drop p).take m = ((row d kk).drop k0).take m := by
  apply List.ext_getElem?
  intro j
  simp only [List.getElem?_take, List.getElem?_drop]
  by_cases hj : j < m
  · rw [if_pos hj, if_pos hj, row_get (by omega), List.getElem?_eq_getElem (by omega)]
    simp only [List.getD]
    rw [List.getElem?_eq_getElem (by omega)]
    simp only [Option.getD_some]
    congr 2; omega
  · rw [if_neg hj, if_neg hj]

def zrow : List UInt8 := List.replicate 64 0

/-- What the map of rows tells. -/
def gOf (d : List UInt8) : Int → Option Value := fun k => if 0 ≤ k ∧ row d k.toNat ≠ zrow then some (.agg (bv (row d k.toNat)).toArray) else none
theorem gOf_nat (d : List UInt8) (k : Nat) : gOf d (k : Int) = if row d k ≠ zrow then some (.agg (bv (row d k)).toArray) else none := by
  simp [gOf]

theorem gOf_put {d src : List UInt8} {a i m kk k0 : Nat} (h : a + src.length ≤ d.length) (hi : i + m ≤ src.length) (hp : a + i = 64 * kk + k0) (hk : k0 + m ≤ 64) (hk0 : k0 < 64) {v : Option Value}
    (hv : v = gOf (upd d a (src.take (i + m))) (kk : Int)) : (fun j => if j = (kk : Int) then v else gOf (upd d a (src.take i)) j) = gOf (upd d a (src.take (i + m))) := by
  funext j
  by_cases hj : j = (kk : Int)
  · subst hj; simp [hv]
  · rw [if_neg hj]
    unfold gOf
    by_cases h0 : 0 ≤ j
    · rw [row_other h hi hp hk hk0 (j := j.toNat) (by omega)]
    · simp [h0]

theorem splice {r xs : List UInt8} {k : Nat} (h : k + xs.length ≤ r.length) : setCells (bv r).toArray k (bv xs) = (bv (upd r k xs)).toArray := by
  rw [setCells_at _ _ _ (by simpa using h)]
  simp [upd, bv]

/-! ## How many are not 0 -/
def cnt (d : List UInt8) : Nat := d.countP (· != 0)
theorem cnt_append (a b : List UInt8) : cnt (a ++ b) = cnt a + cnt b := by simp [cnt]
theorem cnt_zeros (n : Nat) : cnt (List.replicate n 0) = 0 := by simp [cnt, List.countP_replicate]

theorem row_eq (d : List UInt8) (k : Nat) : ∃ z, row d k = (d.drop (64 * k)).take 64 ++ List.replicate z 0 := by
  refine ⟨64 - ((d.drop (64 * k)).take 64).length, ?_⟩
  have hl : ((d.drop (64 * k)).take 64).length ≤ 64 := by simp; omega
  refine ext64 (by simp) (by simp only [List.length_append, List.length_replicate]; omega) fun j hj => ?_
  rw [row_get hj]
  by_cases h : j < ((d.drop (64 * k)).take 64).length
  · rw [List.getElem?_append_left h, List.getElem?_take, if_pos hj, List.getElem?_drop]
    simp only [List.length_take, List.length_drop] at h
    rw [List.getElem?_eq_getElem (by omega)]
    simp only [List.getD]
    rw [List.getElem?_eq_getElem (by omega)]
    rfl
  · rw [List.getElem?_append_right (by omega), List.getElem?_replicate, if_pos (by omega)]
    simp only [List.length_take, List.length_drop] at h
    simp only [List.getD]
    rw [List.getElem?_eq_none (by omega)]
    rfl
theorem cnt_row (d : List UInt8) (k : Nat) : cnt (row d k) = cnt ((d.drop (64 * k)).take 64) := by
  obtain ⟨z, h⟩ := row_eq d k
  rw [h, cnt_append, cnt_zeros, Nat.add_zero]

theorem cnt_rows (d : List UInt8) : ∀ R, ((List.range R).map fun k => cnt (row d k)).sum = cnt (d.take (64 * R))
  | 0 => rfl
  | R + 1 => by
    rw [List.range_succ, List.map_append, List.sum_append, cnt_rows d R, show 64 * (R + 1) = 64 * R + 64 by omega, List.take_add, cnt_append]
    simp [cnt_row]

theorem cnt_zero_iff {d : List UInt8} : cnt d = 0 ↔ ∀ x ∈ d, x = 0 := by
  simp [cnt, List.countP_eq_zero]
theorem row_zero_iff {d : List UInt8} {k : Nat} : row d k = zrow ↔ cnt (row d k) = 0 := by
  rw [cnt_zero_iff]
  constructor
  · intro h x hx; rw [h] at hx; exact List.eq_of_mem_replicate hx
  · intro h; exact List.eq_replicate_of_mem h |>.trans (by simp [zrow])

theorem sum_perm {a b : List Nat} (h : a.Perm b) : a.sum = b.sum := by
  induction h with
  | nil => rfl
  | cons x _ ih => simp [ih]
  | swap x y l => simp only [List.sum_cons]; omega
  | trans _ _ h1 h2 => exact h1.trans h2

theorem sum_filter (f : Nat → Nat) (q : Nat → Bool) : ∀ (l : List Nat), (∀ x ∈ l, q x = false → f x = 0) → ((l.filter q).map f).sum = (l.map f).sum
  | [], _ => rfl
  | x :: l, h => by
    have ih := sum_filter f q l (fun y hy => h y (by simp [hy]))
    cases hq : q x
    · rw [List.filter_cons_of_neg (by simp [hq]), List.map_cons, List.sum_cons, h x (by simp) hq, ih]; omega
    · rw [List.filter_cons_of_pos hq, List.map_cons, List.sum_cons, List.map_cons, List.sum_cons, ih]

/-- Gone through all the map's rows, all that is not 0 is counted. -/
theorem cnt_keys {d : List UInt8} {ks : List Int} (h1 : ∀ k v, gOf d k = some v → k ∈ ks) (h2 : ∀ k, k ∈ ks → ∃ v, gOf d k = some v) (hn : ks.Nodup) :
    (ks.map fun k => cnt (row d k.toNat)).sum = cnt d := by
  let R := d.length / 64 + 1
  have hk : ∀ k, k ∈ ks ↔ 0 ≤ k ∧ row d k.toNat ≠ zrow := by
    intro k
    constructor
    · intro h
      obtain ⟨v, hv⟩ := h2 k h
      unfold gOf at hv
      split at hv
      · assumption
      · cases hv
    · intro h
      exact h1 k _ (by unfold gOf; rw [if_pos h])
  have hR : ∀ k, row d k ≠ zrow → k < R := by
    intro k h
    rcases Nat.lt_or_ge k R with h' | h'
    · exact h'
    · exfalso
      apply h
      rw [row_zero_iff, cnt_row, List.drop_of_length_le (by simp only [R] at h'; omega)]
      rfl
  have hperm : ks.Perm (((List.range R).filter fun k => decide (row d k ≠ zrow)).map fun k : Nat => (k : Int)) := by
    refine (List.perm_ext_iff_of_nodup hn ?_).2 fun k => ?_
    · refine List.pairwise_map.2 ?_
      exact (List.nodup_range.filter _).imp fun h => by omega
    · rw [hk]
      simp only [List.mem_map, List.mem_filter, List.mem_range, decide_eq_true_eq]
      constructor
      · rintro ⟨h3, h4⟩
        exact ⟨k.toNat, ⟨hR _ h4, h4⟩, by omega⟩
      · rintro ⟨n, ⟨_, h4⟩, rfl⟩
        exact ⟨by omega, by simpa using h4⟩
  rw [sum_perm (hperm.map _), List.map_map]
  have e : ((fun k : Int => cnt (row d k.toNat)) ∘ fun k : Nat => (k : Int)) = fun k => cnt (row d k) := by funext k; simp
  rw [e, sum_filter, cnt_rows, List.take_of_length_le (by simp only [R]; omega)]
  intro x _ hx
  exact row_zero_iff.1 (by simpa using hx)

theorem clean_iff {d : List UInt8} : (∀ k, gOf d k = none) ↔ cnt d = 0 := by
  constructor
  · intro h
    have := cnt_keys (d := d) (ks := []) (fun k v hv => by rw [h k] at hv; cases hv) (by simp) (by simp)
    exact this.symm
  · intro h k
    have hz := cnt_zero_iff.1 h
    unfold gOf
    rw [if_neg]
    rintro ⟨h0, h1⟩
    apply h1
    rw [row_zero_iff, cnt_row, cnt_zero_iff]
    intro x hx
    exact hz x (List.mem_of_mem_drop (List.mem_of_mem_take hx))

end Go.Proofs.Ytpnlldmmfbpmgaa
