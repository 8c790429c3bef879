/- Append of made cells, a store into a slice one owns, and small lemmas of lists: each rule is proved; no condition. -/
import Derived.Test.YtnhgcgjmmalebaaDoorXq
set_option linter.unusedVariables false
set_option linter.unusedSimpArgs false
namespace Go.XS

section
variable {P : Program} {B : Heap} {H : List HProp}

theorem T_both {p q : HP} (h1 : T B H p) (h2 : T B H q) : T B H (fun σ => p σ ∧ q σ) := fun σ o => ⟨h1 σ o, h2 σ o⟩

theorem setCells_at (cs vs : List Value) (i : Nat) (h : i + vs.length ≤ cs.length) : setCells cs.toArray i vs = (cs.take i ++ (vs ++ cs.drop (i + vs.length))).toArray := by
  apply Array.ext'
  rw [setCells_list _ _ _ (by simpa using h)]
  simp

/-- A row that is filled from its start. -/
theorem set_take {α : Type} {ys : List α} {n i : Nat} {z v : α} (hl : ys.length = n) (hi : i < n) (hv : ys[i]? = some v) :
    (ys.take i ++ List.replicate (n - i) z).set i v = ys.take (i + 1) ++ List.replicate (n - (i + 1)) z := by
  rw [List.set_append_right _ _ (by simp; omega), take_succ_of hv]
  simp only [List.length_take]
  rw [show i - min i ys.length = 0 by omega, show n - i = (n - (i + 1)) + 1 by omega, List.replicate_succ, List.set_cons_zero]
  simp

/-- A cell of an owned slice is stored anew. -/
theorem T_oslSt {q : Option Addr} {l c i : Nat} {n : Int} {xs : List Value} {v : Value} {k : HP} (hn : n = (i : Int)) (hi : i < l) (hv : v.oneCell' = true)
    (t : T B (osl 1 q l c (xs.set i v) :: H) k) : T B (osl 1 q l c xs :: H) (adr q fun a => req ((0 : Int) ≤ n ∧ n < (l : Int)) (st (Addr.add a n.toNat) v k)) := by
  refine T_oslCases (fun h0 h1 h2 h3 => by omega) fun b rest hq hx hlc hlen => ?_
  subst hq
  refine T_idxSt (i := i) (o := 0) hn hi (by simp; omega) hv ?_
  intro σ o
  obtain ⟨ch, ⟨l1, l2, hp, h1, h2⟩, h3⟩ := o.own
  refine t σ ⟨o.base, o.size, ch, ⟨l1, l2, hp, ⟨by simpa using hx, hlc, .inr ⟨b, rest, rfl, by simpa using hlen, ?_⟩⟩, h2⟩, h3⟩
  have e : (xs ++ rest).toArray.setIfInBounds (0 + i) v = (xs.set i v ++ rest).toArray := by
    simp only [Nat.zero_add, List.setIfInBounds_toArray]
    rw [List.set_append_left _ _ (by omega)]
  rw [e] at h1
  exact h1

/-- Append of so many zero elements. -/
theorem app_make {ats : Array TypeId} {rt t0 t1 elem : TypeId} {k1 k2 : IntKind} {s : Nat} {p : Option Addr} {l c m : Nat} {xs ys : List Value} {z : Int}
    {K : Value → HP} (h0 : ats[0]? = some t0) (h1 : ats[1]? = some t1) (hu : P.underlying t0 = some (.slice elem)) (hu1 : P.underlying t1 = some (.int k1))
    (hi : (P.info? elem).isSome = true) (hz : zok P elem = true) (hs : P.cellsOf elem = s) (hb : (2 * (l + m) + 1024) * P.bytesOf elem ≤ 281474976710656) (hbp : 1 ≤ P.bytesOf elem) (hzs : (zc P elem).size = s)
    (hy : (Builtin.zeroCells (zc P elem) m).toList = ys) (hone : ∀ v ∈ ys, v.oneCell' = true) (hzm : z = (m : Int)) (hm : m ≤ 1000000000)
    (t : ∀ p' c', T B (osl s p' (l + m) c' (xs ++ ys) :: H) (K (.slice p' (l + m) c'))) : T B (osl s p l c xs :: H) (semP P (Builtin.append_ ats rt #[.slice p l c, .int k2 z]) K) := by
  subst hzm
  obtain ⟨info, hinfo⟩ := Option.isSome_iff_exists.1 hi
  have hbytes : P.bytesOf elem = info.bytes := by simp [Program.bytesOf, hinfo]
  have hyl : ys.length = m * s := by rw [← hy]; simp [Builtin.zeroCells, hzs]
  intro σ o
  have hxs := RdV.of_osl σ o
  unfold Builtin.append_
  simp only [h0, h1, List.getElem?_toArray, List.getElem?_cons_zero, List.getElem?_cons_succ]
  refine semP_bind (semP_underlying hu ?_)
  refine semP_bind (semP_sizeOf hi ?_)
  refine semP_bind (semP_underlying hu1 ?_)
  refine semP_bind (semP_pure ?_)
  simp only [if_true]
  refine semP_bind (semP_run (m : Int) (fun w _ => rfl) ?_)
  have hw : IntKind.wrap .i64 (m : Int) = (m : Int) := wrap_i64 (by omega) (by omega)
  simp only [hw]
  rw [if_neg (by omega)]
  refine semP_bind (semP_typeInfo hinfo ?_)
  rw [hbytes] at hb hbp
  have hm48 : ¬ ((m : Int) * (info.bytes : Int) > 2 ^ 48) := by
    have : m * info.bytes ≤ (2 * (l + m) + 1024) * info.bytes := Nat.mul_le_mul_right _ (by omega)
    have h2 : ((m * info.bytes : Nat) : Int) = (m : Int) * (info.bytes : Int) := by simp
    rw [← h2]
    omega
  rw [if_neg hm48]
  refine semP_bind (semP_pure ?_)
  simp only [Int.toNat_natCast]
  have hx0 : ∃ ch : List Chunk, xs.length = l * s ∧ l ≤ c := by
    obtain ⟨ch, ⟨l1, l2, hp, ⟨hx, hlc, h⟩, h2⟩, hn, hc⟩ := o.own
    exact ⟨ch, hx, hlc⟩
  obtain ⟨_, hxl, hlc⟩ := hx0
  have hnew : ∀ {σ : Heap} {K' : Array Value → HP}, K' ys.toArray σ → semP P (if (!true) = true then Builtin.firstCells (P.cellsOf elem) m (.int k2 (m : Int)) else if m * P.cellsOf elem = 0 then pure #[] else do pure (Builtin.zeroCells (← zeroValue elem).cells m)) K' σ := by
    intro σ K' hk
    rw [if_neg (by simp)]
    by_cases h : m * P.cellsOf elem = 0
    · rw [if_pos h]
      have : ys = [] := List.length_eq_zero_iff.1 (by rw [hyl, ← hs]; exact h)
      subst this
      exact semP_pure hk
    · rw [if_neg h]
      refine semP_bind (semP_zero hz fun zz hzc => semP_pure ?_)
      rw [hzc, ← Array.toArray_toList (xs := Builtin.zeroCells (zc P elem) m), hy]
      exact hk
  by_cases hfit : l + m ≤ c
  · simp only [hfit, if_true]
    refine semP_bind (hnew ?_)
    clear hxs
    revert o
    generalize σ = σ
    refine T_oslCases (p := semP P _ _) (H := H) (q := p) (s := s) (l := l) (c := c) (xs := xs) ?_ ?_ σ
    · rintro rfl rfl rfl rfl σ o
      have hm : m = 0 := by omega
      subst hm
      have hy0 : ys = [] := by simpa using hyl
      subst hy0
      refine semP_pure ?_
      exact T_oslNil s (t none 0) σ o
    · intro b rest hp hx hlc hlen
      subst hp
      refine fun σ o => semP_bind (semP_mono (fun _ σ h => semP_pure h) (semP_storeCells ys.toArray.toList 0 ?_))
      rw [add_mk, hs]
      refine T_stL ys (i := 0) (H := cl b (xs ++ rest).toArray :: H) ?_ hone ?_ σ o
      · simp only [List.length_append] at hlen
        have h3 : (l + m) * s ≤ c * s := Nat.mul_le_mul_right s hfit
        simp only [List.size_toArray, List.length_append, hyl]
        have : (l + m) * s = l * s + m * s := Nat.add_mul _ _ _
        omega
      · simp only [List.length_append] at hlen
        have h3 : (l + m) * s ≤ c * s := Nat.mul_le_mul_right s hfit
        have h4 : (l + m) * s = l * s + m * s := Nat.add_mul _ _ _
        have hset := setCells_list ys (0 + l * s + 0) (xs ++ rest).toArray (by simp only [List.size_toArray, List.length_append]; omega)
        have harr : setCells (xs ++ rest).toArray (0 + l * s + 0) ys = (xs ++ ys ++ rest.drop ys.length).toArray := by
          apply Array.ext'
          rw [hset]
          simp only [Nat.zero_add, Nat.add_zero, List.append_assoc]
          rw [← hx, List.take_left' rfl]
          congr 2
          rw [List.drop_append]
          simp
        rw [harr]
        intro σ o
        obtain ⟨ch, ⟨l1, l2, hp, h1, h2⟩, h3'⟩ := o.own
        refine t (some ⟨b, 0, none⟩) c σ ⟨o.base, o.size, ch, ⟨l1, l2, hp, ⟨?_, hfit, .inr ⟨b, rest.drop ys.length, rfl, ?_, h1⟩⟩, h2⟩, h3'⟩
        · simp only [List.length_append]; omega
        · simp only [List.length_append, List.length_drop]; omega
  · simp only [hfit, if_false]
    have hcap := nextcap_le (n := l + m) (c := c) (by omega)
    have hnb : ¬ (((l + m : Nat) : Int) > IntKind.i64.max ∧ (True ∨ info.bytes = 0)) := by
      rintro ⟨h, _⟩
      have : IntKind.i64.max = 9223372036854775807 := by decide
      have h5 : 1 * (2 * (l + m) + 1024) ≤ (2 * (l + m) + 1024) * info.bytes := by rw [Nat.mul_comm]; exact Nat.mul_le_mul_left _ hbp
      omega
    refine semP_bind (semP_typeInfo hinfo ?_)
    rw [if_neg (by simpa using hnb)]
    refine semP_bind (semP_typeInfo hinfo ?_)
    have hroom : ¬ (Builtin.nextslicecap (l + m) c * info.bytes > 2 ^ 48) := by
      have := Nat.mul_le_mul_right info.bytes hcap
      omega
    rw [if_neg hroom]
    refine semP_bind (semP_appendCap fun cap hcap2 => ?_)
    refine semP_bind (semP_typeInfo hinfo ?_)
    refine semP_bind (semP_run () (fun w _ => run_askRoom P w _) ?_)
    refine semP_bind (semP_firstCells (s := P.cellsOf elem) (n := l) (q := p) (m := l) (d := c) (ys := xs) hxs (by rw [hs]; exact hxl) ?_)
    refine semP_bind (hnew ?_)
    refine semP_bind (semP_zero hz fun z hzc => ?_)
    unfold newRow
    refine semP_bind (semP_bind (semP_new (semP_pure (semP_pure ?_))))
    refine t (some ⟨σ.size, 0, none⟩) cap _ (o.drop.push ?_)
    have hzl : (Builtin.zeroCells z.cells (cap - (l + m))).size = (cap - (l + m)) * s := by
      simp [Builtin.zeroCells, hzc, hzs]
    have hmul : (l + m) * s + (cap - (l + m)) * s = cap * s := by rw [← Nat.add_mul]; congr 1; omega
    have hmul2 : (l + m) * s = l * s + m * s := Nat.add_mul _ _ _
    refine ⟨by simp only [List.length_append]; omega, hcap2, .inr ⟨σ.size, (Builtin.zeroCells z.cells (cap - (l + m))).toList, rfl, ?_, elem, (0, 0), ?_, by simp⟩⟩
    · simp only [List.length_append, Array.length_toList, hzl]; omega
    · congr 3
      apply Array.ext'
      simp

theorem zeros_one (v : Value) (n : Nat) : (Builtin.zeroCells #[v] n).toList = List.replicate n v := by
  apply List.ext_getElem?
  intro i
  by_cases h : i < n
  · simp [Builtin.zeroCells, h, Nat.mod_one]
  · simp [Builtin.zeroCells, h]
end
end Go.XS
