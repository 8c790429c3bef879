/- Places in a list of unlike numbers: plain; no condition. -/
import Derived.Test.YtnhgcgjmmalebaaDoorBase0
set_option linter.unusedVariables false
set_option linter.unusedSimpArgs false
namespace Go.Proofs.YtnhgcgjmmalebaaDoor
open Go.XS

def posOf (xs : List Int) (x : Int) : Int := if xs.idxOf x < xs.length then (xs.idxOf x : Int) else -1

theorem nodup_of {xs : List Int} (h : ∀ (i j : Nat) (x : Int), xs[i]? = some x → xs[j]? = some x → i = j) : xs.Nodup := by
  rw [List.nodup_iff_pairwise_ne, List.pairwise_iff_getElem]
  intro i j hi hj hij he
  have := h i j xs[i] (List.getElem?_eq_getElem hi) (by rw [List.getElem?_eq_getElem hj, he])
  omega
theorem nodup_inj {xs : List Int} (h : xs.Nodup) {i j : Nat} {x : Int} (hi : xs[i]? = some x) (hj : xs[j]? = some x) : i = j :=
  (List.getElem?_inj (List.getElem?_eq_some_iff.1 hi).1 h).1 (hi.trans hj.symm)

theorem pos_get {xs : List Int} (h : xs.Nodup) {i : Nat} {x : Int} (hi : xs[i]? = some x) : posOf xs x = i := by
  obtain ⟨hl, rfl⟩ := List.getElem?_eq_some_iff.1 hi
  unfold posOf
  rw [h.idxOf_getElem i hl, if_pos hl]
theorem pos_not {xs : List Int} {x : Int} (h : x ∉ xs) : posOf xs x = -1 := by
  unfold posOf
  rw [if_neg]
  rw [List.idxOf_lt_length_iff]; exact h
theorem pos_cases {xs : List Int} (x : Int) : (∃ i : Nat, xs[i]? = some x ∧ posOf xs x = (i : Int) ∧ i < xs.length) ∨ (x ∉ xs ∧ posOf xs x = -1) := by
  by_cases h : x ∈ xs
  · have hl := List.idxOf_lt_length_iff.2 h
    exact .inl ⟨xs.idxOf x, by rw [List.getElem?_eq_getElem hl, List.getElem_idxOf], by unfold posOf; rw [if_pos hl], hl⟩
  · exact .inr ⟨h, pos_not h⟩
theorem pos_lt {xs : List Int} {x : Int} : posOf xs x < 0 ↔ x ∉ xs := by
  rcases pos_cases (xs := xs) x with ⟨i, h, hp, hl⟩ | ⟨h, hp⟩
  · rw [hp]
    have := List.mem_of_getElem? h
    constructor
    · intro; omega
    · intro h; exact absurd this h
  · rw [hp]
    exact ⟨fun _ => h, fun _ => by omega⟩

/-- As many as there are unlike ones below 'n', at most. -/
theorem nodup_len : ∀ (n : Nat) (xs : List Int), xs.Nodup → (∀ x ∈ xs, 0 ≤ x ∧ x < n) → xs.length ≤ n
  | 0, xs, _, h => by
    cases xs with
    | nil => simp
    | cons x xs => have := h x (by simp); omega
  | n + 1, xs, hn, h => by
    by_cases hm : (n : Int) ∈ xs
    · have h1 := nodup_len n (xs.erase n) (hn.erase _) (fun x hx => by
        have h2 := h x (List.mem_of_mem_erase hx)
        have h3 : x ≠ n := by
          intro e; subst e
          exact (List.Nodup.not_mem_erase hn) hx
        omega)
      rw [List.length_erase_of_mem hm] at h1
      omega
    · have h1 := nodup_len n xs hn (fun x hx => by
        have h2 := h x hx
        have h3 : x ≠ n := by intro e; subst e; exact hm hx
        omega)
      omega

theorem nodup_room {n : Nat} {xs : List Int} {x : Int} (hn : xs.Nodup) (h : ∀ y ∈ xs, 0 ≤ y ∧ y < n) (hx : x ∉ xs) (h0 : 0 ≤ x) (h1 : x < n) : xs.length + 1 ≤ n := by
  have := nodup_len n (x :: xs) (by simp [hx, hn]) (by
    intro y hy
    rcases List.mem_cons.1 hy with rfl | hy
    · exact ⟨h0, h1⟩
    · exact h y hy)
  simpa using this

theorem pos_push {xs : List Int} {x : Int} (hn : xs.Nodup) (hx : x ∉ xs) (y : Int) : posOf (xs ++ [x]) y = if y = x then (xs.length : Int) else posOf xs y := by
  have hn' : (xs ++ [x]).Nodup := by
    rw [List.nodup_append]
    refine ⟨hn, by simp, ?_⟩
    intro a ha b hb e
    simp at hb; subst hb; subst e; exact hx ha
  by_cases hy : y = x
  · subst hy
    rw [if_pos rfl]
    exact pos_get hn' (by simp)
  · rw [if_neg hy]
    rcases pos_cases (xs := xs) y with ⟨i, h, hp, hl⟩ | ⟨h, hp⟩
    · rw [hp]
      exact pos_get hn' (by rw [List.getElem?_append_left hl]; exact h)
    · rw [hp]
      exact pos_not (by simp [h, hy])

theorem nodup_push {xs : List Int} {x : Int} (hn : xs.Nodup) (hx : x ∉ xs) : (xs ++ [x]).Nodup := by
  rw [List.nodup_append]
  refine ⟨hn, by simp, ?_⟩
  intro a ha b hb e
  simp at hb; subst hb; subst e; exact hx ha

/-- The one at 'at' taken out: the last one in its place. -/
def dropAt (xs : List Int) (i : Nat) : List Int := (xs.set i (xs.getD (xs.length - 1) 0)).take (xs.length - 1)

theorem dropAt_get {xs : List Int} {i j : Nat} (hi : i < xs.length) (hj : j < xs.length - 1) : (dropAt xs i)[j]? = if j = i then xs[xs.length - 1]? else xs[j]? := by
  have hl : xs.length - 1 < xs.length := by omega
  have hj2 : j < xs.length := by omega
  simp only [dropAt, List.getElem?_take, hj, if_true, List.getElem?_set]
  by_cases h : i = j
  · subst h
    simp [hi, List.getD, List.getElem?_eq_getElem hl]
  · have h' : ¬ j = i := fun e => h e.symm
    simp [h, h']
theorem dropAt_len {xs : List Int} {i : Nat} : (dropAt xs i).length = xs.length - 1 := by simp [dropAt]

theorem dropAt_nodup {xs : List Int} {i : Nat} (hn : xs.Nodup) (hi : i < xs.length) : (dropAt xs i).Nodup := by
  refine nodup_of fun a b x ha hb => ?_
  have hla : a < xs.length - 1 := by have := (List.getElem?_eq_some_iff.1 ha).1; rwa [dropAt_len] at this
  have hlb : b < xs.length - 1 := by have := (List.getElem?_eq_some_iff.1 hb).1; rwa [dropAt_len] at this
  rw [dropAt_get hi hla] at ha
  rw [dropAt_get hi hlb] at hb
  split at ha
  · split at hb
    · omega
    · have := nodup_inj hn ha hb; omega
  · split at hb
    · have := nodup_inj hn ha hb; omega
    · exact nodup_inj hn ha hb

theorem dropAt_mem {xs : List Int} {i : Nat} {y : Int} (hi : i < xs.length) (h : y ∈ dropAt xs i) : y ∈ xs := by
  obtain ⟨j, hj, he⟩ := List.mem_iff_getElem.1 h
  have hlj : j < xs.length - 1 := by rwa [dropAt_len] at hj
  have h1 := dropAt_get hi hlj
  rw [List.getElem?_eq_getElem hj, he] at h1
  split at h1
  · exact List.mem_of_getElem? h1.symm
  · exact List.mem_of_getElem? h1.symm

theorem pos_drop {xs : List Int} {i : Nat} {x top : Int} (hn : xs.Nodup) (hx : xs[i]? = some x) (ht : xs[xs.length - 1]? = some top) (y : Int) :
    posOf (dropAt xs i) y = if y = x then -1 else if y = top then (i : Int) else posOf xs y := by
  have hi : i < xs.length := (List.getElem?_eq_some_iff.1 hx).1
  have hn' := dropAt_nodup hn hi
  by_cases hy : y = x
  · subst hy
    rw [if_pos rfl]
    refine pos_not fun hm => ?_
    obtain ⟨j, hj, he⟩ := List.mem_iff_getElem.1 hm
    have hlj : j < xs.length - 1 := by rwa [dropAt_len] at hj
    have h1 := dropAt_get hi hlj
    rw [List.getElem?_eq_getElem hj, he] at h1
    split at h1
    · have := nodup_inj hn h1.symm hx; omega
    · have := nodup_inj hn h1.symm hx; omega
  · rw [if_neg hy]
    by_cases hyt : y = top
    · subst hyt
      rw [if_pos rfl]
      have hne : i ≠ xs.length - 1 := by
        intro e
        rw [e, ht] at hx
        cases hx; exact hy rfl
      exact pos_get hn' (by rw [dropAt_get hi (by omega), if_pos rfl]; exact ht)
    · rw [if_neg hyt]
      rcases pos_cases (xs := xs) y with ⟨j, h, hp, hl⟩ | ⟨h, hp⟩
      · rw [hp]
        have hj1 : j ≠ i := by intro e; subst e; rw [h] at hx; cases hx; exact hy rfl
        have hj2 : j ≠ xs.length - 1 := by intro e; subst e; rw [h] at ht; cases ht; exact hyt rfl
        exact pos_get hn' (by rw [dropAt_get hi (by omega), if_neg hj1]; exact h)
      · rw [hp]
        exact pos_not fun hm => h (dropAt_mem hi hm)

end Go.Proofs.YtnhgcgjmmalebaaDoor
