/- Maps with whole numbers as keys, in the logic of blocks: lookup, update, delete, len, and a range over one in any order: each rule is proved; no condition. -/
import Derived.Test.YtnhgcgjmmalebaaDoorXs
import Derived.MapKept
set_option linter.unusedVariables false
set_option linter.unusedSimpArgs false
namespace Go.XS
open Go.MapKept

abbrev key (k : Int) : Value := .int .i64 k

/-- The entries are what 'g' tells. -/
structure Rep (es : Array MapEntry) (clock : Nat) (g : Int → Option Value) : Prop where
  st : Stamped es clock
  keys : ∀ e ∈ es.toList, IsKey (.int .i64) e.key
  rep : ∀ k v, g k = some v ↔ ∃ e ∈ es.toList, e.key = key k ∧ e.val = v

theorem IsKey.int {v : Value} (h : IsKey (.int .i64) v) : ∃ k, v = key k := by
  cases v <;> simp_all [IsKey]

theorem Rep.empty : Rep #[] 0 (fun _ => none) := ⟨stamped_empty 0, by simp, by simp⟩

section
variable {P : Program} {es : Array MapEntry} {clock : Nat} {g : Int → Option Value} {k : Int}

theorem Rep.uniq (h : Rep es clock g) {e e' : MapEntry} (he : e ∈ es.toList) (he' : e' ∈ es.toList) (hk : e.key = e'.key) : e = e' := by
  have h3 := h.st.2.2
  obtain ⟨i, hi, rfl⟩ := List.mem_iff_getElem.1 he
  obtain ⟨j, hj, rfl⟩ := List.mem_iff_getElem.1 he'
  have : i = j := by
    apply (List.getElem_inj (xs := es.toList.map (·.key)) (h₀ := by simpa using hi) (h₁ := by simpa using hj) h3).1
    simpa using hk
  subst this; rfl
theorem Rep.uniqB (h : Rep es clock g) {e e' : MapEntry} (he : e ∈ es.toList) (he' : e' ∈ es.toList) (hk : e.born = e'.born) : e = e' := by
  have h3 := h.st.2.1
  obtain ⟨i, hi, rfl⟩ := List.mem_iff_getElem.1 he
  obtain ⟨j, hj, rfl⟩ := List.mem_iff_getElem.1 he'
  have : i = j := by
    apply (List.getElem_inj (xs := es.toList.map (·.born)) (h₀ := by simpa using hi) (h₁ := by simpa using hj) h3).1
    simpa using hk
  subst this; rfl

theorem Rep.find (h : Rep es clock g) (k : Int) : (g k = none ∧ Instr.findNow (.int .i64) (key k) es.toList 0 = some none ∧ ∀ x ∈ es.toList, x.key ≠ key k) ∨
    ∃ j e, Instr.findNow (.int .i64) (key k) es.toList 0 = some (some (j, e.val)) ∧ es[j]? = some e ∧ e.key = key k ∧ g k = some e.val := by
  rcases findNow_spec (d := .int .i64) (k := key k) rfl es.toList 0 h.keys with ⟨h1, h2⟩ | ⟨j, e, h1, h2, h3⟩
  · refine .inl ⟨?_, h1, h2⟩
    cases hg : g k with
    | none => rfl
    | some v =>
      obtain ⟨e, he, hk, _⟩ := (h.rep k v).1 hg
      exact absurd hk (h2 e he)
  · refine .inr ⟨j, e, by simpa using h1, by simpa using h2, h3, (h.rep k e.val).2 ⟨e, List.mem_of_getElem? h2, h3, rfl⟩⟩

theorem Rep.put (h : Rep es clock g) (v : Value) (hk : ∀ x ∈ es.toList, x.key ≠ key k) : Rep (es.push { key := key k, val := v, born := clock }) (clock + 1) (fun j => if j = k then some v else g j) := by
  refine ⟨stamped_push h.st hk, ?_, ?_⟩
  · intro e he
    simp only [Array.toList_push, List.mem_append, List.mem_singleton] at he
    rcases he with he | rfl
    · exact h.keys e he
    · rfl
  · intro j x
    simp only [Array.toList_push, List.mem_append, List.mem_singleton]
    by_cases hj : j = k
    · subst hj
      simp only [if_true]
      constructor
      · intro hx; cases hx; exact ⟨_, .inr rfl, rfl, rfl⟩
      · rintro ⟨e, he | rfl, h1, h2⟩
        · exact absurd h1 (hk e he)
        · rw [← h2]
    · simp only [if_neg hj]
      rw [h.rep j x]
      constructor
      · rintro ⟨e, he, h1, h2⟩; exact ⟨e, .inl he, h1, h2⟩
      · rintro ⟨e, he | rfl, h1, h2⟩
        · exact ⟨e, he, h1, h2⟩
        · simp only [key, Value.int.injEq, true_and] at h1; exact absurd h1.symm hj

theorem mem_modify_at {es : Array MapEntry} {i : Nat} {e x : MapEntry} {f : MapEntry → MapEntry} (he : es[i]? = some e) (hb : (es.toList.map (·.born)).Nodup) :
    x ∈ (es.modify i f).toList ↔ x = f e ∨ (x ∈ es.toList ∧ x ≠ e) := by
  have hi : i < es.size := (Array.getElem?_eq_some_iff.1 he).1
  have huniq : ∀ j, es[j]? = some e → j = i := by
    intro j hj
    have hj' : j < es.size := (Array.getElem?_eq_some_iff.1 hj).1
    apply (List.getElem_inj (xs := es.toList.map (·.born)) (h₀ := by simpa using hj') (h₁ := by simpa using hi) hb).1
    have e1 : es[j] = e := (Array.getElem?_eq_some_iff.1 hj).2
    have e2 : es[i] = e := (Array.getElem?_eq_some_iff.1 he).2
    simp [e1, e2]
  constructor
  · intro hx
    obtain ⟨j, hj⟩ := List.mem_iff_getElem?.1 hx
    simp only [Array.getElem?_toList, Array.getElem?_modify] at hj
    by_cases hij : i = j
    · subst hij
      rw [if_pos rfl, he] at hj
      simp at hj; exact .inl hj.symm
    · rw [if_neg hij] at hj
      refine .inr ⟨Array.mem_toList_iff.2 (Array.mem_of_getElem? hj), ?_⟩
      rintro rfl
      exact hij (huniq j hj).symm
  · rintro (rfl | ⟨hx, hne⟩)
    · refine Array.mem_toList_iff.2 (Array.mem_of_getElem? (i := i) ?_)
      simp [Array.getElem?_modify, he]
    · obtain ⟨j, hj⟩ := List.mem_iff_getElem?.1 hx
      simp only [Array.getElem?_toList] at hj
      have hij : ¬ i = j := by
        rintro rfl
        rw [he] at hj; cases hj; exact hne rfl
      refine Array.mem_toList_iff.2 (Array.mem_of_getElem? (i := j) ?_)
      simp [Array.getElem?_modify, hij, hj]

theorem Rep.upd (h : Rep es clock g) (v : Value) {i : Nat} {e : MapEntry} (hi : es[i]? = some e) (hk : e.key = key k) :
    Rep (es.modify i fun e => { e with key := key k, val := v }) clock (fun j => if j = k then some v else g j) := by
  have hem : e ∈ es.toList := Array.mem_toList_iff.2 (Array.mem_of_getElem? hi)
  have hkey : ∀ x, es[i]? = some x → ({ x with key := key k, val := v } : MapEntry).key = x.key := by
    intro x hx; rw [hi] at hx; cases hx; exact hk.symm
  refine ⟨stamped_modify h.st i _ (fun _ _ => rfl) (fun x _ hx => hkey x hx), isKey_modify h.keys i _ hkey, fun j x => ?_⟩
  simp only [mem_modify_at hi h.st.2.1]
  by_cases hj : j = k
  · subst hj
    simp only [if_true]
    constructor
    · intro hx; cases hx; exact ⟨_, .inl rfl, rfl, rfl⟩
    · rintro ⟨x', rfl | ⟨h1, h2⟩, h3, h4⟩
      · rw [← h4]
      · exact absurd (h.uniq h1 hem (h3.trans hk.symm)) h2
  · simp only [if_neg hj]
    rw [h.rep j x]
    constructor
    · rintro ⟨x', h1, h2, h3⟩
      refine ⟨x', .inr ⟨h1, ?_⟩, h2, h3⟩
      rintro rfl
      rw [hk] at h2
      simp only [key, Value.int.injEq, true_and] at h2; exact hj h2.symm
    · rintro ⟨x', rfl | ⟨h1, h2⟩, h3, h4⟩
      · simp only [key, Value.int.injEq, true_and] at h3; exact absurd h3.symm hj
      · exact ⟨x', h1, h3, h4⟩

theorem Rep.same (h : Rep es clock g) (hk : ∀ x ∈ es.toList, x.key ≠ key k) : Rep es clock (fun j => if j = k then none else g j) := by
  refine ⟨h.st, h.keys, fun j x => ?_⟩
  by_cases hj : j = k
  · subst hj
    simp only [if_true]
    refine ⟨fun h => (by cases h), ?_⟩
    rintro ⟨e, he, h1, _⟩
    exact absurd h1 (hk e he)
  · simp only [if_neg hj]
    exact h.rep j x

theorem Rep.del (h : Rep es clock g) {i : Nat} {e : MapEntry} (hi : es[i]? = some e) (hk : e.key = key k) : Rep (es.eraseIdxIfInBounds i) clock (fun j => if j = k then none else g j) := by
  have hlt : i < es.size := (Array.getElem?_eq_some_iff.1 hi).1
  have hem : e ∈ es.toList := Array.mem_toList_iff.2 (Array.mem_of_getElem? hi)
  have hl : (es.eraseIdxIfInBounds i).toList = es.toList.eraseIdx i := by
    unfold Array.eraseIdxIfInBounds
    rw [dif_pos hlt, Array.toList_eraseIdx]
  have hmem : ∀ x, x ∈ (es.eraseIdxIfInBounds i).toList ↔ x ∈ es.toList ∧ x ≠ e := by
    intro x
    rw [hl, List.mem_eraseIdx_iff_getElem?]
    constructor
    · rintro ⟨j, hji, hj⟩
      refine ⟨List.mem_of_getElem? hj, ?_⟩
      rintro rfl
      have hj' : j < es.size := by simpa using (List.getElem?_eq_some_iff.1 hj).1
      apply hji
      apply (List.getElem_inj (xs := es.toList.map (·.born)) (h₀ := by simpa using hj') (h₁ := by simpa using hlt) h.st.2.1).1
      have e1 : es[j] = x := by simpa using (List.getElem?_eq_some_iff.1 hj).2
      have e2 : es[i] = x := (Array.getElem?_eq_some_iff.1 hi).2
      simp [e1, e2]
    · rintro ⟨hx, hne⟩
      obtain ⟨j, hj⟩ := List.mem_iff_getElem?.1 hx
      refine ⟨j, ?_, hj⟩
      rintro rfl
      simp only [Array.getElem?_toList] at hj
      rw [hi] at hj; cases hj; exact hne rfl
  refine ⟨stamped_erase h.st i, fun x hx => h.keys x ((hmem x).1 hx).1, fun j x => ?_⟩
  by_cases hj : j = k
  · subst hj
    simp only [if_true]
    refine ⟨fun h => (by cases h), ?_⟩
    rintro ⟨x', hx, h1, _⟩
    obtain ⟨h2, h3⟩ := (hmem x').1 hx
    exact absurd (h.uniq h2 hem (h1.trans hk.symm)) h3
  · simp only [if_neg hj]
    rw [h.rep j x]
    constructor
    · rintro ⟨x', h1, h2, h3⟩
      refine ⟨x', (hmem x').2 ⟨h1, ?_⟩, h2, h3⟩
      rintro rfl
      rw [hk] at h2
      simp only [key, Value.int.injEq, true_and] at h2; exact hj h2.symm
    · rintro ⟨x', h1, h2, h3⟩
      exact ⟨x', ((hmem x').1 h1).1, h2, h3⟩

theorem Rep.size0 (h : Rep es clock g) : es.size = 0 ↔ ∀ k, g k = none := by
  constructor
  · intro h0 k
    have : es.toList = [] := List.length_eq_zero_iff.1 (by simpa using h0)
    cases hg : g k with
    | none => rfl
    | some v =>
      obtain ⟨e, he, _⟩ := (h.rep k v).1 hg
      rw [this] at he; simp at he
  · intro hn
    rcases Nat.eq_zero_or_pos es.size with h0 | h0
    · exact h0
    · have hm : es[0] ∈ es.toList := Array.mem_toList_iff.2 (by simp)
      obtain ⟨k, hk⟩ := IsKey.int (h.keys _ hm)
      have := (h.rep k (es[0]).val).2 ⟨_, hm, hk, rfl⟩
      rw [hn k] at this; cases this
end

/-! ## Objects at the head -/
def notCells : Obj → Bool
  | .cells .. => false
  | _ => true

section
variable {P : Program}
theorem semP_getObj {r : Nat} {o : Obj} {K : Obj → HP} {σ : Heap} (h : σ[r]? = some o) (k : K o σ) (ho : notCells o = true := by rfl) : semP P (getObj r) K σ :=
  semP_run o (fun w hw => by cases o <;> simp_all [getObj, Sem.run, notCells]) k
theorem semP_setObj {r : Nat} {o o' : Obj} {K : Unit → HP} {σ : Heap} (h : σ[r]? = some o) (k : K () (σ.setIfInBounds r o')) (ho : notCells o = true := by rfl) : semP P (setObj r o') K σ := by
  intro w hw
  refine ⟨(), { w with heap := w.heap.setIfInBounds r o' }, ?_, ⟨rfl, rfl, rfl⟩, by rw [← hw] at k; exact k⟩
  cases o <;> simp_all [setObj, Sem.run, notCells]
theorem semP_newObj {o : Obj} {K : Nat → HP} {σ : Heap} (h : K σ.size (σ.push o)) : semP P (newObj o) K σ := by
  intro w hw
  refine ⟨_, _, run_newObj P w _, ⟨rfl, rfl, rfl⟩, ?_⟩
  rw [← hw] at h; exact h
theorem semP_mapNext {n : Nat} {K : Nat → HP} {σ : Heap} (hn : 0 < n) (h : ∀ i, i < n → K i σ) : semP P (choose (.mapNext n)) K σ := by
  intro w hw
  by_cases h1 : n ≤ 1
  · refine ⟨0, w, ?_, ⟨rfl, rfl, rfl⟩, by rw [hw]; exact h 0 hn⟩
    simp [choose, Sem.run, Question.forced, h1]
  · refine ⟨_, { w with drawn := w.drawn + 1 }, ?_, ⟨rfl, rfl, rfl⟩, h ((Question.mapNext n).cut (w.tape w.drawn (.mapNext n))) ?_ |> fun h => by rw [← hw] at h; exact h⟩
    · simp [choose, Sem.run, Question.forced, h1]
    · simp only [Question.cut]; exact Nat.mod_lt _ hn

theorem Own.headO {B : Heap} {H : List HProp} {r : Nat} {x : Obj} {σ : Heap} (o : Own B (ob r x :: H) σ) : σ[r]? = some x := by
  obtain ⟨l1, rfl, h⟩ := o.head
  exact (h (r, x) (by simp)).2

theorem Own.setO {B : Heap} {H : List HProp} {r : Nat} {x y : Obj} {σ : Heap} (o : Own B (ob r x :: H) σ) : Own B (ob r y :: H) (σ.setIfInBounds r y) := by
  obtain ⟨l, ⟨l1, l2, hp, rfl, h2⟩, hn, hc⟩ := o.own
  have hb := hc (r, x) (hp.mem_iff.2 (by simp))
  have hnd : ((r, x) :: l2 |>.map (·.1)).Nodup := (hp.map (·.1)).nodup hn
  have hlt : r < σ.size := (Array.getElem?_eq_some_iff.1 hb.2).1
  refine ⟨fun k hk => ?_, by simpa using o.size, (r, y) :: l2, ⟨[(r, y)], l2, .refl _, rfl, h2⟩, by simpa using hnd, ?_⟩
  · have : ¬ r = k := by have := hb.1; simp at this; omega
    simp [Array.getElem?_setIfInBounds, this]; exact o.base k hk
  · intro c hcm
    rcases List.mem_cons.1 hcm with rfl | hcm
    · exact ⟨hb.1, by simp [hlt]⟩
    · have h3 := hc c (hp.mem_iff.2 (by simp [hcm]))
      refine ⟨h3.1, ?_⟩
      have : ¬ r = c.1 := by
        intro e
        simp only [List.map_cons, List.nodup_cons] at hnd
        exact hnd.1 (List.mem_map.2 ⟨c, hcm, e.symm⟩)
      simp [Array.getElem?_setIfInBounds, this]; exact h3.2
end

/-! ## A map that one owns -/

def IM (r : Nat) (g : Int → Option Value) : HProp := exP fun es : Array MapEntry => exP fun clock : Nat => pureP (Rep es clock g) (ob r (.map es clock))

section
variable {P : Program} {B : Heap} {H : List HProp} {r : Nat} {g : Int → Option Value} {k : Int} {mt kt et : TypeId} {K : Value → HP} {p : HP}

theorem IM_open (t : ∀ es clock, Rep es clock g → T B (ob r (.map es clock) :: H) p) : T B (IM r g :: H) p := T_unex fun es => T_unex fun clock => T_unpure fun h => t es clock h
theorem IM_close {es : Array MapEntry} {clock : Nat} (h : Rep es clock g) (t : T B (IM r g :: H) p) : T B (ob r (.map es clock) :: H) p :=
  T_topure h (T_toex (q := fun clock => pureP (Rep es clock g) (ob r (.map es clock))) clock (T_toex (q := fun es => exP fun clock => pureP (Rep es clock g) (ob r (.map es clock))) es t))

theorem T_newIM {f : Nat → HP} (t : ∀ r, T B (IM r (fun _ => none) :: H) (f r)) : T B H (newM f) := T_newM fun r => IM_close Rep.empty (t r)

theorem T_lookup (hm : P.underlying mt = some (.map kt et)) (hk : P.underlying kt = some (.int .i64)) (hz : zok P et = true)
    (h0 : ∀ z : Value, g k = none → z.cells = zc P et → T B (IM r g :: H) (K z)) (h1 : ∀ v, g k = some v → T B (IM r g :: H) (K v)) : T B (IM r g :: H) (semP P (Instr.lookup mt (.map (some r)) (.int .i64 k) false) K) := by
  refine IM_open fun es clock hr => ?_
  intro σ o
  unfold Instr.lookup
  refine semP_bind (semP_underlying hm ?_)
  refine semP_bind (semP_getObj o.headO (semP_bind (semP_pure ?_)))
  refine semP_bind (semP_run () (fun w _ => run_checkKey hk (by rfl) _ _) ?_)
  rcases hr.find k with ⟨h2, h3, h4⟩ | ⟨j, e, h3, h4, h5, h6⟩
  · refine semP_bind (semP_run none (fun w _ => run_findKey hk h3) ?_)
    refine semP_bind (semP_zero hz fun z hz => semP_bind (semP_pure (semP_pure ?_)))
    exact IM_close hr (h0 z h2 hz) σ o
  · refine semP_bind (semP_run (some (j, e.val)) (fun w _ => run_findKey hk h3) ?_)
    refine semP_bind (semP_pure (semP_pure ?_))
    exact IM_close hr (h1 _ h6) σ o

/-- With a word on whether it is there. -/
theorem T_lookup2 (hm : P.underlying mt = some (.map kt et)) (hk : P.underlying kt = some (.int .i64)) (hz : zok P et = true)
    (h0 : ∀ z : Value, g k = none → z.cells = zc P et → T B (IM r g :: H) (K (.tuple #[z, .bool false]))) (h1 : ∀ v, g k = some v → T B (IM r g :: H) (K (.tuple #[v, .bool true]))) : T B (IM r g :: H) (semP P (Instr.lookup mt (.map (some r)) (.int .i64 k) true) K) := by
  refine IM_open fun es clock hr => ?_
  intro σ o
  unfold Instr.lookup
  refine semP_bind (semP_underlying hm ?_)
  refine semP_bind (semP_getObj o.headO (semP_bind (semP_pure ?_)))
  refine semP_bind (semP_run () (fun w _ => run_checkKey hk (by rfl) _ _) ?_)
  rcases hr.find k with ⟨h2, h3, h4⟩ | ⟨j, e, h3, h4, h5, h6⟩
  · refine semP_bind (semP_run none (fun w _ => run_findKey hk h3) ?_)
    refine semP_bind (semP_zero hz fun z hz => semP_bind (semP_pure (semP_pure ?_)))
    exact IM_close hr (h0 z h2 hz) σ o
  · refine semP_bind (semP_run (some (j, e.val)) (fun w _ => run_findKey hk h3) ?_)
    refine semP_bind (semP_pure (semP_pure ?_))
    exact IM_close hr (h1 _ h6) σ o

theorem T_mapUpdate {v : Value} {K : Unit → HP} (hm : P.underlying mt = some (.map kt et)) (hk : P.underlying kt = some (.int .i64))
    (t : T B (IM r (fun j => if j = k then some v else g j) :: H) (K ())) : T B (IM r g :: H) (semP P (Instr.mapUpdate mt (.map (some r)) (.int .i64 k) v) K) := by
  refine IM_open fun es clock hr => ?_
  intro σ o
  unfold Instr.mapUpdate
  refine semP_bind (semP_underlying hm ?_)
  refine semP_bind (semP_getObj o.headO ?_)
  refine semP_bind (semP_run () (fun w _ => run_checkKey hk (by rfl) _ _) ?_)
  rcases hr.find k with ⟨h2, h3, h4⟩ | ⟨j, e, h3, h4, h5, h6⟩
  · refine semP_bind (semP_run none (fun w _ => run_findKey hk h3) ?_)
    refine semP_setObj o.headO ?_
    exact IM_close (hr.put v h4) t _ o.setO
  · refine semP_bind (semP_run (some (j, e.val)) (fun w _ => run_findKey hk h3) ?_)
    simp only [h4, Option.map_some, Option.getD_some, h5]
    refine semP_bind (semP_run (key k) (fun w _ => run_keyThatStays (d := .int .i64) (by rfl)) ?_)
    refine semP_setObj o.headO ?_
    exact IM_close (hr.upd v h4 h5) t _ o.setO

theorem T_delete {rt : TypeId} (hm : P.underlying mt = some (.map kt et)) (hk : P.underlying kt = some (.int .i64))
    (t : T B (IM r (fun j => if j = k then none else g j) :: H) (K (.tuple #[]))) : T B (IM r g :: H) (semP P (Builtin.delete_ #[mt, kt] rt #[.map (some r), .int .i64 k]) K) := by
  refine IM_open fun es clock hr => ?_
  intro σ o
  unfold Builtin.delete_
  simp only [List.getElem?_toArray, List.getElem?_cons_zero, List.getElem?_cons_succ]
  refine semP_bind (semP_underlying hm ?_)
  refine semP_bind (semP_getObj o.headO ?_)
  refine semP_bind (semP_run () (fun w _ => run_checkKey hk (by rfl) _ _) ?_)
  rcases hr.find k with ⟨h2, h3, h4⟩ | ⟨j, e, h3, h4, h5, h6⟩
  · refine semP_bind (semP_run none (fun w _ => run_findKey hk h3) ?_)
    refine semP_bind (semP_setObj o.headO (semP_pure ?_))
    exact IM_close (hr.same h4) t _ o.setO
  · refine semP_bind (semP_run (some (j, e.val)) (fun w _ => run_findKey hk h3) ?_)
    refine semP_bind (semP_setObj o.headO (semP_pure ?_))
    exact IM_close (hr.del h4 h5) t _ o.setO

theorem T_len {rt : TypeId} (hm : P.underlying mt = some (.map kt et)) (t : ∀ n : Nat, (n = 0 ↔ ∀ k, g k = none) → T B (IM r g :: H) (K (.int .i64 (n : Int)))) : T B (IM r g :: H) (semP P (Builtin.len_ #[mt] rt #[.map (some r)]) K) := by
  refine IM_open fun es clock hr => ?_
  intro σ o
  unfold Builtin.len_
  simp only [List.getElem?_toArray, List.getElem?_cons_zero, List.getElem?_cons_succ]
  refine semP_bind (semP_underlying hm ?_)
  refine semP_bind (semP_getObj o.headO (semP_pure ?_))
  exact IM_close hr (t es.size hr.size0) σ o
theorem T_len_nil {rt : TypeId} (hm : P.underlying mt = some (.map kt et)) (t : T B H (K (.int .i64 0))) : T B H (semP P (Builtin.len_ #[mt] rt #[.map none]) K) := by
  intro σ o
  unfold Builtin.len_
  simp only [List.getElem?_toArray, List.getElem?_cons_zero, List.getElem?_cons_succ]
  exact semP_bind (semP_underlying hm (semP_pure (t σ o)))

/-! ## A range over a map -/

/-- The steps that were gone: these entries. -/
structure Gone (es : Array MapEntry) (l : List MapEntry) (ks : List Int) : Prop where
  mem : ∀ e ∈ l, e ∈ es.toList
  born : (l.map (·.born)).Nodup
  keys : l.map (·.key) = ks.map key

def IMI (r it : Nat) (g : Int → Option Value) (ks : List Int) : HProp :=
  exP fun es : Array MapEntry => exP fun clock : Nat => exP fun l : List MapEntry => pureP (Rep es clock g ∧ Gone es l ks) (packP [ob it (.mapIter (some r) clock (l.map (·.born)).toArray clock), ob r (.map es clock)])

theorem IMI_open {it : Nat} {ks : List Int} (t : ∀ es clock l, Rep es clock g → Gone es l ks → T B (ob it (.mapIter (some r) clock (l.map (·.born)).toArray clock) :: ob r (.map es clock) :: H) p) : T B (IMI r it g ks :: H) p :=
  T_unex fun es => T_unex fun clock => T_unex fun l => T_unpure fun ⟨h1, h2⟩ => T_unpack (t es clock l h1 h2)
theorem IMI_close {it : Nat} {ks : List Int} {es : Array MapEntry} {clock : Nat} {l : List MapEntry} (h1 : Rep es clock g) (h2 : Gone es l ks) (t : T B (IMI r it g ks :: H) p) :
    T B (ob it (.mapIter (some r) clock (l.map (·.born)).toArray clock) :: ob r (.map es clock) :: H) p := by
  intro σ o
  obtain ⟨ch, ⟨l1, l2, hp, e1, l3, l4, hp2, e2, h5⟩, h6⟩ := o.own
  refine t σ ⟨o.base, o.size, ch, ⟨l1 ++ l3, l4, ?_, ⟨es, clock, l, ⟨h1, h2⟩, l1, l3, .refl _, e1, l3, [], by simp, e2, trivial⟩, h5⟩, h6⟩
  exact hp.trans ((hp2.append_left l1).trans (by rw [List.append_assoc]))

theorem T_pushO {o : Obj} {f : Nat → HP} (t : ∀ b, T B (ob b o :: H) (f b)) : T B H (semP P (newObj o) f) := fun σ ow => semP_newObj (t σ.size _ (ow.push rfl))

theorem T_range (hm : P.underlying mt = some (.map kt et)) (t : ∀ it, T B (IMI r it g [] :: H) (K (.pointer (some ⟨it, 0, none⟩)))) : T B (IM r g :: H) (semP P (Instr.range mt (.map (some r))) K) := by
  refine IM_open fun es clock hr => ?_
  intro σ o
  unfold Instr.range
  refine semP_bind (semP_underlying hm ?_)
  refine semP_bind (semP_getObj o.headO (semP_bind (semP_pure ?_)))
  refine semP_bind (T_pushO (fun it => ?_) σ o)
  intro σ o
  refine semP_pure ?_
  exact IMI_close (l := []) hr ⟨by simp, by simp, rfl⟩ (t it) σ o

theorem T_range_nil (hm : P.underlying mt = some (.map kt et)) (t : ∀ it, T B (ob it (.mapIter none 0 #[] 0) :: H) (K (.pointer (some ⟨it, 0, none⟩)))) : T B H (semP P (Instr.range mt (.map none)) K) := by
  intro σ o
  unfold Instr.range
  refine semP_bind (semP_underlying hm ?_)
  refine semP_bind (semP_pure ?_)
  refine semP_bind (T_pushO (fun it => ?_) σ o)
  intro σ o
  exact semP_pure (t it σ o)

theorem T_next_nil {it s : Nat} {seen : Array Nat} {l : Nat} {ty : TypeId} {f0 : HP} {f1 : Value → Value → HP} (t : T B (ob it (.mapIter none s seen l) :: H) f0) : T B (ob it (.mapIter none s seen l) :: H) (nextM P (.pointer (some ⟨it, 0, none⟩)) false ty f0 f1) := by
  intro σ o
  unfold nextM Instr.next
  refine semP_bind (semP_getObj o.headO (semP_pure ?_))
  exact .inl ⟨rfl, t σ o⟩

theorem T_next {it : Nat} {ks : List Int} {ty : TypeId} {f0 : HP} {f1 : Value → Value → HP}
    (h0 : (∀ k v, g k = some v → k ∈ ks) → (∀ k, k ∈ ks → ∃ v, g k = some v) → ks.Nodup → T B (IMI r it g ks :: H) f0)
    (h1 : ∀ k v, g k = some v → k ∉ ks → T B (IMI r it g (ks ++ [k]) :: H) (f1 (.int .i64 k) v)) : T B (IMI r it g ks :: H) (nextM P (.pointer (some ⟨it, 0, none⟩)) false ty f0 f1) := by
  refine IMI_open fun es clock l hr hg => ?_
  intro σ o
  have ho2 := (o.perm (List.Perm.swap _ _ _)).headO
  unfold nextM Instr.next
  refine semP_bind (semP_getObj o.headO ?_)
  refine semP_bind (semP_getObj ho2 ?_)
  have hborn := hr.st.1
  have hlast : ((l.map (·.born)).toArray.isEmpty = true ∨ es.isEmpty = true) ∨ ¬ (es.all (fun e => decide (e.born ≥ clock)) = true) := by
    rcases Nat.eq_zero_or_pos es.size with h | h
    · exact .inl (.inr (by simpa using h))
    · refine .inr fun hall => ?_
      have h2 := Array.all_eq_true.1 hall 0 h
      have := hborn (es[0]) (Array.mem_toList_iff.2 (by simp))
      simp at h2; omega
  have hcond : (!((l.map (·.born)).toArray.isEmpty) && !es.isEmpty && es.all (fun e => decide (e.born ≥ clock))) = false := by
    rcases hlast with (h | h) | h
    · simp [h]
    · simp [h]
    · simp only [Bool.not_eq_true] at h; simp [h]
  simp only [hcond, Bool.false_eq_true, if_false]
  generalize hleft : (es.filter fun e => !((l.map (·.born)).toArray).contains e.born) = left
  have hmem : ∀ e, e ∈ left ↔ e ∈ es.toList ∧ e.born ∉ l.map (·.born) := by
    intro e; rw [← hleft, Array.mem_filter]
    simp
  have hold : left.filter (fun e => decide (e.born < clock)) = left := by
    rw [Array.filter_eq_self]
    intro e he
    exact decide_eq_true (hborn e ((hmem e).1 he).1)
  have hnew : left.filter (fun e => decide (e.born ≥ clock)) = #[] := by
    rw [Array.filter_eq_empty_iff]
    intro e he
    have := hborn e ((hmem e).1 he).1
    simp; omega
  rw [hold, hnew]
  have hin : ∀ e, e ∈ es.toList → ∃ k, e.key = key k ∧ g k = some e.val := by
    intro e he
    obtain ⟨k, hk⟩ := IsKey.int (hr.keys e he)
    exact ⟨k, hk, (hr.rep k e.val).2 ⟨e, he, hk, rfl⟩⟩
  have hks : ∀ k, k ∈ ks ↔ ∃ e ∈ l, e.key = key k := by
    intro k
    have h2 : key k ∈ ks.map key ↔ k ∈ ks := by
      simp [key]
    rw [← h2, ← hg.keys, List.mem_map]
  by_cases he : left.isEmpty = true
  · have hle : left = #[] := by simpa using he
    subst hle
    simp only [Array.isEmpty_empty, if_true]
    refine semP_bind (semP_mapNext (by simp) fun i hi => ?_)
    have hi0 : i = 0 := by simp at hi; omega
    subst hi0
    simp
    refine semP_pure (.inl ⟨rfl, ?_⟩)
    refine IMI_close hr hg (h0 ?_ ?_ ?_) σ o
    · intro k v hv
      obtain ⟨e, he, hk, _⟩ := (hr.rep k v).1 hv
      rcases Classical.em (e.born ∈ l.map (·.born)) with h | h
      · obtain ⟨e', he', hb⟩ := List.mem_map.1 h
        have := hr.uniqB (hg.mem e' he') he hb
        subst this
        exact (hks k).2 ⟨_, he', hk⟩
      · exact absurd ((hmem e).2 ⟨he, h⟩) (by simp)
    · intro k hk
      obtain ⟨e, he, hk'⟩ := (hks k).1 hk
      exact ⟨_, (hr.rep k e.val).2 ⟨e, hg.mem e he, hk', rfl⟩⟩
    · have : (ks.map key).Nodup := by
        rw [← hg.keys]
        refine List.pairwise_map.2 ?_
        have hb : l.Pairwise fun a b => a.born ≠ b.born := List.pairwise_map.1 hg.born
        refine hb.imp_of_mem ?_
        intro a b ha hb' hne hk
        exact hne (by rw [hr.uniq (hg.mem a ha) (hg.mem b hb') hk])
      exact (List.pairwise_map.1 this).imp (fun h e => h (by rw [e]))
  · have hle : left.isEmpty = false := by simpa using he
    rw [hle]
    simp only [Bool.false_eq_true, if_false]
    have hcand : ((#[] : Array (Option MapEntry)) ++ (left ++ #[]).map some) = left.map some := by simp
    rw [hcand]
    have hpos : 0 < left.size := by
      rcases Nat.eq_zero_or_pos left.size with h | h
      · simp [h] at hle; simp_all
      · exact h
    refine semP_bind (semP_mapNext (by simpa using hpos) fun i hi => ?_)
    have hi : i < left.size := by simpa using hi
    have hget : (left.map some)[i]? = some (some left[i]) := by simp [hi]
    rw [hget]
    have hmi := (hmem left[i]).1 (by simp)
    generalize left[i] = e at hmi
    obtain ⟨k, hk, hv⟩ := hin e hmi.1
    refine semP_bind (semP_setObj o.headO (semP_pure (.inr ⟨e.key, e.val, rfl, ?_⟩)))
    have hpush : ((l.map (·.born)).toArray.push e.born) = ((l ++ [e]).map (·.born)).toArray := by simp
    rw [hpush, hk]
    refine IMI_close hr (l := l ++ [e]) (ks := ks ++ [k]) ⟨?_, ?_, ?_⟩ (h1 k e.val hv ?_) _ o.setO
    · intro x hx
      rcases List.mem_append.1 hx with h | h
      · exact hg.mem x h
      · simp at h; subst h; exact hmi.1
    · rw [List.map_append]
      refine List.nodup_append.2 ⟨hg.born, by simp, ?_⟩
      intro a ha b hb
      simp at hb; subst hb
      rintro rfl
      exact hmi.2 ha
    · simp [hg.keys, hk]
    · intro hmem'
      obtain ⟨e', he', hk'⟩ := (hks k).1 hmem'
      have := hr.uniq (hg.mem e' he') hmi.1 (hk'.trans hk.symm)
      subst this
      exact hmi.2 (List.mem_map.2 ⟨_, he', rfl⟩)

theorem T_entry {it : Nat} {ks : List Int} {k : Int} {v : Value} {f : Value → Value → HP} (hv : g k = some v)
    (t : T B (IMI r it g (ks ++ [k]) :: H) (f (.int .i64 k) v)) : T B (IMI r it g (ks ++ [k]) :: H) (entryM P (.pointer (some ⟨it, 0, none⟩)) f) := by
  refine IMI_open fun es clock l hr hg => ?_
  intro σ o
  have ho2 := (o.perm (List.Perm.swap _ _ _)).headO
  have hl : ∃ l0 e, l = l0 ++ [e] ∧ e.key = key k := by
    have hk := hg.keys
    rw [List.map_append, List.map_cons, List.map_nil] at hk
    obtain ⟨l0, l1, rfl, h1, h2⟩ := List.map_eq_append_iff.1 hk
    obtain ⟨e, rest, rfl, h3, h4⟩ := List.map_eq_cons_iff.1 h2
    have : rest = [] := by simpa using h4
    subst this
    exact ⟨l0, e, rfl, h3⟩
  obtain ⟨l0, e, rfl, hk⟩ := hl
  have hem : e ∈ es.toList := hg.mem e (by simp)
  have hval : e.val = v := by
    have := (hr.rep k e.val).2 ⟨e, hem, hk, rfl⟩
    rw [hv] at this; cases this; rfl
  unfold entryM Instr.entry
  refine semP_bind (semP_getObj o.headO ?_)
  have hback : ((l0 ++ [e]).map (·.born)).toArray.back? = some e.born := by simp
  simp only [hback]
  refine semP_bind (semP_getObj ho2 ?_)
  simp only [bne_self_eq_false, Bool.false_eq_true, if_false]
  have hfind : es.find? (fun x => x.born == e.born) = some e := by
    cases hf : es.find? (fun x => x.born == e.born) with
    | none =>
      have := Array.find?_eq_none.1 hf e (Array.mem_toList_iff.1 hem)
      simp at this
    | some x =>
      have h2 := Array.find?_some hf
      have h3 := Array.mem_of_find?_eq_some hf
      rw [hr.uniqB (Array.mem_toList_iff.2 h3) hem (by simpa using h2)]
  rw [hfind]
  refine semP_pure ⟨e.key, e.val, rfl, ?_⟩
  rw [hk, hval]
  exact IMI_close hr hg t σ o

/-- The range is done with. -/
theorem IMI_done {it : Nat} {ks : List Int} (t : T B (IM r g :: H) p) : T B (IMI r it g ks :: H) p :=
  IMI_open fun es clock l hr hg => T_drop (IM_close hr t)

end
end Go.XS
