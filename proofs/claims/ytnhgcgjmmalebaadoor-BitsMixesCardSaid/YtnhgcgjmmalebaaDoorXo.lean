/- What a law's argument is made of: a reading of it, opened down to its cells, by a list of their kinds: each rule is proved; no condition. -/
import Derived.Test.YtnhgcgjmmalebaaDoorXn
import Derived.ChangeArms
import Derived.OpenShut
set_option linter.unusedVariables false
set_option linter.unusedSimpArgs false
namespace Go.XS

/-- The kind of one cell. -/
inductive CT where
  | int (k : IntKind)
  | bool
  | str
  | sl (e : TypeId)

def flatFs (fl : TypeId → Option (List CT)) (P : Program) (size : Nat) : Nat → List Field → Option (List CT)
  | off, [] => if off = size then some [] else none
  | off, f :: fs =>
    if f.offset = off then
      match fl f.type, flatFs fl P size (off + P.cellsOf f.type) fs with
      | some a, some b => if a.length = P.cellsOf f.type then some (a ++ b) else none
      | _, _ => none
    else none

/-- The cells of a type, where these are whole numbers, truths, texts and slices alone. -/
def flat (P : Program) : Nat → TypeId → Option (List CT)
  | 0, _ => none
  | n + 1, t =>
    match P.underlying t with
    | some .bool => some [.bool]
    | some (.int k) => some [.int k]
    | some .string => some [.str]
    | some (.slice e) => some [.sl e]
    | some (.struct fs) => flatFs (flat P n) P (P.cellsOf t) 0 fs.toList
    | some (.array m e) =>
      match flat P n e with
      | some a => if a.length = P.cellsOf e ∧ P.cellsOf t = m * P.cellsOf e then some (List.replicate m a).flatten else none
      | none => none
    | _ => none

/-- Some reading holds of it. -/
def Tr {E : Type} (enc : TypeId × Value → E) (P : Program) (w : World) (t : TypeId) (cs : List Value) : Prop := ∃ fuel x, DataW.trod enc P w 0 (fun _ => true) true fuel t cs = some x

def CTok {E : Type} (enc : TypeId × Value → E) (P : Program) (w : World) : CT → Value → Prop
  | .int k, v => ∃ n, v = .int k n ∧ (Lit.int k n).wf = true
  | .bool, v => ∃ b, v = .bool b
  | .str, v => ∃ s : ByteArray, v = .string s ∧ s.size ≤ maxLen
  | .sl e, v => ∃ (a : Option Addr) (len cap : Nat) (css : List (List Value)), v = .slice a len cap ∧ len ≤ cap ∧ cap ≤ maxLen ∧ css.length = cap ∧ (∀ c ∈ css, c.length = P.cellsOf e ∧ Tr enc P w e c) ∧ Arg w.heap a css.flatten

/-- Kind for kind. -/
def Fits {E : Type} (enc : TypeId × Value → E) (P : Program) (w : World) : List CT → List Value → Prop
  | [], [] => True
  | t :: ts, v :: vs => CTok enc P w t v ∧ Fits enc P w ts vs
  | _, _ => False

theorem flat_length {P : Program} : ∀ {n : Nat} {t : TypeId} {cts : List CT}, flat P n t = some cts → True := fun _ => trivial

theorem flatten_get {α : Type} {s : Nat} : ∀ (css : List (List α)), (∀ c ∈ css, c.length = s) → ∀ i j, i < css.length → j < s → css.flatten[i * s + j]? = (css[i]?.getD [])[j]?
  | [], _, i, j, h, _ => by simp at h
  | c :: css, hl, 0, j, _, hj => by
    have := hl c (by simp)
    simp [List.getElem?_append, this, hj]
  | c :: css, hl, i + 1, j, h, hj => by
    have h1 := hl c (by simp)
    have h2 := flatten_get css (fun c h => hl c (by simp [h])) i j (by simpa using h) hj
    have h3 : (i + 1) * s + j = i * s + j + s := by rw [Nat.add_mul]; omega
    simp only [List.flatten_cons, h3]
    rw [List.getElem?_append_right (by omega), h1]
    simpa using h2

theorem flatten_len {α : Type} {s : Nat} : ∀ (css : List (List α)), (∀ c ∈ css, c.length = s) → css.flatten.length = css.length * s
  | [], _ => by simp
  | c :: css, hl => by
    have h1 := hl c (by simp)
    have h2 := flatten_len css (fun c h => hl c (by simp [h]))
    simp [h1, h2, Nat.add_mul, Nat.add_comm]

section
variable {E : Type} {enc : TypeId × Value → E} {P : Program} {w : World}

theorem Fits.append {ts ts' : List CT} {vs vs' : List Value} (h : Fits enc P w ts vs) (h' : Fits enc P w ts' vs') : Fits enc P w (ts ++ ts') (vs ++ vs') := by
  induction ts generalizing vs with
  | nil => cases vs with
    | nil => exact h'
    | cons v vs => exact h.elim
  | cons t ts ih => cases vs with
    | nil => exact h.elim
    | cons v vs => exact ⟨h.1, ih h.2⟩

theorem open_sl {e : TypeId} {t : TypeId} {cs : List Value} (ht : P.underlying t = some (.slice e)) (h : Tr enc P w t cs) : Fits enc P w [.sl e] cs := by
  obtain ⟨fuel, x, h⟩ := h
  rcases DataW.trod_slice ht h with ⟨rfl, _⟩ | ⟨a, len, cap, elems, rest, n, _, rfl, _, hb, hl, hm, hlen, hel, hsp, _⟩
  · exact ⟨⟨none, 0, 0, [], rfl, Nat.le_refl _, Nat.zero_le _, rfl, by simp, fun H => RdV.nil⟩, trivial⟩
  · obtain ⟨hrl, hr⟩ := hsp rfl
    have hall : ∀ i, i < cap → ∃ c, w.cells? 0 (a.add (i * P.cellsOf e)) (P.cellsOf e) = some c ∧ ∃ x, DataW.trod enc P w 0 (fun _ => true) true n e c = some x := by
      intro i hi
      by_cases h1 : i < len
      · have h2 := hel i h1
        rw [List.getElem?_eq_getElem (by omega), Option.bind_eq_some_iff] at h2
        obtain ⟨c, h3, h4⟩ := h2
        exact ⟨c, h3, _, h4⟩
      · have h2 := hr (i - len) (by omega)
        rw [List.getElem?_eq_getElem (by omega), Option.bind_eq_some_iff] at h2
        obtain ⟨c, h3, h4⟩ := h2
        rw [show len + (i - len) = i by omega] at h3
        exact ⟨c, h3, _, h4⟩
    let f : Nat → List Value := fun i => (w.cells? 0 (a.add (i * P.cellsOf e)) (P.cellsOf e)).getD []
    have hf : ∀ i, i < cap → w.cells? 0 (a.add (i * P.cellsOf e)) (P.cellsOf e) = some (f i) ∧ Tr enc P w e (f i) := by
      intro i hi
      obtain ⟨c, h1, x, h2⟩ := hall i hi
      have : f i = c := by simp [f, h1]
      rw [this]
      exact ⟨h1, n, x, h2⟩
    have hmem : ∀ c ∈ (List.range cap).map f, c.length = P.cellsOf e ∧ Tr enc P w e c := by
      intro c hc
      obtain ⟨i, hi, rfl⟩ := List.mem_map.1 hc
      have hi := List.mem_range.1 hi
      obtain ⟨h1, h2⟩ := hf i hi
      exact ⟨(World.cells?_some h1).2.1, h2⟩
    refine ⟨⟨some a, len, cap, (List.range cap).map f, rfl, hl, hm, by simp, hmem, ?_⟩, trivial⟩
    refine fun H => RdV.of_base (fun i hi => ?_) H
    rw [flatten_len _ (fun c h => (hmem c h).1)] at hi
    simp only [List.length_map, List.length_range] at hi
    have hs : 0 < P.cellsOf e := by
      rcases Nat.eq_zero_or_pos (P.cellsOf e) with h | h
      · rw [h] at hi; omega
      · exact h
    have hdiv : i / P.cellsOf e < cap := Nat.div_lt_of_lt_mul (by rw [Nat.mul_comm]; exact hi)
    have hmod : i % P.cellsOf e < P.cellsOf e := Nat.mod_lt _ hs
    have hi2 : i = i / P.cellsOf e * P.cellsOf e + i % P.cellsOf e := (Nat.div_add_mod' i _).symm
    obtain ⟨h1, _⟩ := hf _ hdiv
    have h2 := (World.cells?_some h1).2.2 _ hmod
    rw [add_add, ← hi2] at h2
    have h3 := flatten_get ((List.range cap).map f) (fun c h => (hmem c h).1) (i / P.cellsOf e) (i % P.cellsOf e) (by simpa using hdiv) hmod
    rw [← hi2] at h3
    rw [h3]
    simp only [List.getElem?_map, List.getElem?_range hdiv, Option.map_some, Option.getD_some]
    exact h2

theorem open_fs {fl : TypeId → Option (List CT)} {size : Nat} {cs : List Value} {n : Nat} (hl : cs.length = size)
    (ih : ∀ {t : TypeId} {cts : List CT} {cs : List Value}, fl t = some cts → Tr enc P w t cs → Fits enc P w cts cs) :
    ∀ (fs : List Field) (off : Nat) {cts : List CT}, flatFs fl P size off fs = some cts → (∀ f ∈ fs, ∃ x, DataW.trod enc P w 0 (fun _ => true) true n f.type ((cs.drop f.offset).take (P.cellsOf f.type)) = some x) →
      Fits enc P w cts (cs.drop off)
  | [], off, cts, h, _ => by
    simp only [flatFs] at h
    split at h
    · cases h
      rw [List.drop_eq_nil_of_le (by omega)]
      trivial
    · cases h
  | f :: fs, off, cts, h, hr => by
    simp only [flatFs] at h
    split at h
    · rename_i ho
      cases ha : fl f.type with
      | none => simp [ha] at h
      | some a =>
        cases hb : flatFs fl P size (off + P.cellsOf f.type) fs with
        | none => simp [ha, hb] at h
        | some b =>
          simp only [ha, hb] at h
          split at h
          · cases h
            obtain ⟨x, hx⟩ := hr f (by simp)
            rw [ho] at hx
            have h1 := ih ha ⟨n, x, hx⟩
            have h2 := open_fs (n := n) hl ih fs (off + P.cellsOf f.type) hb (fun g hg => hr g (by simp [hg]))
            have h3 := h1.append h2
            rwa [← List.drop_drop, List.take_append_drop] at h3
          · cases h
    · cases h

theorem open_arr {a : List CT} {s n : Nat} {e : TypeId} {cs : List Value} (hal : a.length = s)
    (ih : ∀ {cs : List Value}, Tr enc P w e cs → Fits enc P w a cs) :
    ∀ (m j : Nat), cs.length = (j + m) * s → (∀ i, i < j + m → ∃ x, DataW.trod enc P w 0 (fun _ => true) true n e ((cs.drop (i * s)).take s) = some x) →
      Fits enc P w (List.replicate m a).flatten (cs.drop (j * s))
  | 0, j, hl, _ => by
    rw [List.drop_eq_nil_of_le (by rw [hl]; exact Nat.le_refl _)]
    trivial
  | m + 1, j, hl, hr => by
    obtain ⟨x, hx⟩ := hr j (by omega)
    have h1 := ih ⟨n, x, hx⟩
    have h2 := open_arr (n := n) hal ih m (j + 1) (by rw [hl]; congr 1; omega) (fun i hi => hr i (by omega))
    have h3 := h1.append h2
    rw [show (j + 1) * s = j * s + s by rw [Nat.add_mul]; omega, ← List.drop_drop, List.take_append_drop] at h3
    simpa [List.replicate_succ] using h3

theorem open_flat : ∀ (n : Nat) {t : TypeId} {cts : List CT} {cs : List Value}, flat P n t = some cts → Tr enc P w t cs → Fits enc P w cts cs
  | 0, t, cts, cs, h, _ => by cases h
  | n + 1, t, cts, cs, h, hr => by
    simp only [flat] at h
    split at h
    · rename_i hu
      cases h
      obtain ⟨fuel, x, hr⟩ := hr
      obtain ⟨b, rfl, _⟩ := DataW.trod_bool hu hr
      exact ⟨⟨b, rfl⟩, trivial⟩
    · rename_i k hu
      cases h
      obtain ⟨fuel, x, hr⟩ := hr
      obtain ⟨b, rfl, _, hw⟩ := DataW.trod_int hu hr
      exact ⟨⟨b, rfl, hw⟩, trivial⟩
    · rename_i hu
      cases h
      obtain ⟨fuel, x, hr⟩ := hr
      obtain ⟨b, rfl, _, hw⟩ := DataW.trod_string hu hr
      exact ⟨⟨b, rfl, hw⟩, trivial⟩
    · rename_i e hu
      cases h
      exact open_sl hu hr
    · rename_i fs hu
      obtain ⟨fuel, x, hr⟩ := hr
      obtain ⟨xs, m, _, _, hl, hxl, hf⟩ := DataW.trod_struct hu hr
      have := open_fs (n := m) (enc := enc) (w := w) (fl := flat P n) hl (fun h1 h2 => open_flat n h1 h2) fs.toList 0 h (by
        intro f hfm
        obtain ⟨i, hi, hfi⟩ := List.mem_iff_getElem.1 hfm
        have h1 := hf i f (by rw [Array.getElem?_eq_getElem (by simpa using hi)]; simpa using hfi)
        rw [h1, List.getElem?_eq_getElem (by rw [hxl]; simpa using hi)]
        exact ⟨_, rfl⟩)
      simpa using this
    · rename_i m e hu
      obtain ⟨fuel, x, hr⟩ := hr
      obtain ⟨xs, n', _, _, hl, hxl, hf⟩ := DataW.trod_array hu hr
      cases ha : flat P n e with
      | none => simp [ha] at h
      | some a =>
        simp only [ha] at h
        split at h
        · rename_i hc
          cases h
          have := open_arr (enc := enc) (P := P) (w := w) (n := n') (cs := cs) hc.1 (fun h2 => open_flat n ha h2) m 0 (by rw [hl, hc.2]; simp) (by
            intro i hi
            rw [hf i (by omega), List.getElem?_eq_getElem (by omega)]
            exact ⟨_, rfl⟩)
          simpa using this
        · cases h
    · cases h

theorem Fits.arr {ts : List CT} {cs : Array Value} (h : Fits enc P w ts cs.toList) : ∃ l, cs = l.toArray ∧ Fits enc P w ts l := ⟨cs.toList, by simp, h⟩
theorem Fits.nil {vs : List Value} (h : Fits enc P w [] vs) : vs = [] := by
  cases vs with
  | nil => rfl
  | cons v vs => exact h.elim
theorem Fits.cons {t : CT} {ts : List CT} {vs : List Value} (h : Fits enc P w (t :: ts) vs) : ∃ v vs', vs = v :: vs' ∧ CTok enc P w t v ∧ Fits enc P w ts vs' := by
  cases vs with
  | nil => exact h.elim
  | cons v vs => exact ⟨v, vs, rfl, h.1, h.2⟩
theorem Fits.int {k : IntKind} {ts : List CT} {vs : List Value} (h : Fits enc P w (.int k :: ts) vs) : ∃ n vs', vs = .int k n :: vs' ∧ (Lit.int k n).wf = true ∧ Fits enc P w ts vs' := by
  obtain ⟨v, vs', rfl, ⟨n, rfl, hw⟩, h2⟩ := h.cons
  exact ⟨n, vs', rfl, hw, h2⟩
theorem Fits.bool {ts : List CT} {vs : List Value} (h : Fits enc P w (.bool :: ts) vs) : ∃ b vs', vs = .bool b :: vs' ∧ Fits enc P w ts vs' := by
  obtain ⟨v, vs', rfl, ⟨n, rfl⟩, h2⟩ := h.cons
  exact ⟨n, vs', rfl, h2⟩
theorem Fits.str {ts : List CT} {vs : List Value} (h : Fits enc P w (.str :: ts) vs) : ∃ (s : ByteArray) (vs' : List Value), vs = .string s :: vs' ∧ s.size ≤ maxLen ∧ Fits enc P w ts vs' := by
  obtain ⟨v, vs', rfl, ⟨n, rfl, hw⟩, h2⟩ := h.cons
  exact ⟨n, vs', rfl, hw, h2⟩
theorem Fits.sl {e : TypeId} {ts : List CT} {vs : List Value} (h : Fits enc P w (.sl e :: ts) vs) : ∃ (a : Option Addr) (len cap : Nat) (css : List (List Value)) (vs' : List Value), vs = .slice a len cap :: vs' ∧ len ≤ cap ∧ cap ≤ maxLen ∧ css.length = cap ∧
    (∀ c ∈ css, c.length = P.cellsOf e ∧ Tr enc P w e c) ∧ Arg w.heap a css.flatten ∧ Fits enc P w ts vs' := by
  obtain ⟨v, vs', rfl, ⟨a, len, cap, css, rfl, h1, h2, h3, h4, h5⟩, h6⟩ := h.cons
  exact ⟨a, len, cap, css, vs', rfl, h1, h2, h3, h4, h5, h6⟩

theorem Tr.of {t : TypeId} {v : Value} {d : DataW E} {ps : List MemPlace} (h : DataW.Trod enc P w 0 (fun _ => true) true t v d ps) : Tr enc P w t v.cells.toList := by
  obtain ⟨fuel, h⟩ := h
  exact ⟨fuel, _, h⟩

end

/-! ## What was loaded is there yet -/
section
variable {B : Heap} {H : List HProp} {b i : Nat} {cs : Array Value}
theorem T_andC [h : HasC B H b cs] {v : Value} {p : HP} (hc : cs[i]? = some v) (t : T B H p) : T B H (andH (fun σ => hcell σ ⟨b, i, none⟩ = some v) p) :=
  T_andH (fun σ o => (h.cell o i).trans hc) t
theorem T_andA [h : HasC B H b cs] {n : Nat} {ds : Array Value} {p : HP} (hn : ds.size = n) (hd : ∀ j, j < n → cs[i + j]? = ds[j]?) (t : T B H p) :
    T B H (andH (fun σ => ∃ es, (Value.agg ds = Value.agg es) ∧ ((Array.size es = n) ∧ (∀ k, (k < n) → (hcell σ ⟨b, i + k, none⟩ = es[k]?)))) p) :=
  T_andH (fun σ o => ⟨ds, rfl, hn, fun k hk => by rw [h.cell o]; exact hd k hk⟩) t
theorem T_andT {p : HP} (t : T B H p) : T B H (andH (fun σ => True) p) := T_andH (fun _ _ => trivial) t
end

/-! ## A row, by an index -/
section
variable {B : Heap} {H : List HProp} {p : Option Addr} {ys : List Value}
theorem T_rowI (h : RdV B H p ys) {n : Int} {l i : Nat} (hn : n = (i : Int)) (hl : i < l) {k : IntKind} {x : Int} {f : Int → HP} (hc : ys[i]? = some (.int k x)) (t : T B H (f x)) :
    T B H (adr p fun a => req ((0 : Int) ≤ n ∧ n < (l : Int)) (ldI k (Addr.add a n.toNat) f)) := by
  subst hn
  have hi : i < ys.length := (List.getElem?_eq_some_iff.1 hc).1
  refine T_rd_adr h (by omega) fun a ha => T_req ⟨by omega, by omega⟩ ?_
  subst ha
  rw [Int.toNat_natCast]
  exact T_rdI h hc t
end
theorem take_succ_of {α : Type} {zs : List α} {i : Nat} {z : α} (h : zs[i]? = some z) : zs.take (i + 1) = zs.take i ++ [z] := by
  rw [List.take_add_one, h]; rfl

theorem okWide_array {P : Program} {w : World} {r : Reach} {base : Nat} {t : TypeId} {v : Value} {n : Nat} {e : TypeId} (ht : P.underlying t = some (.array n e)) (h : Value.okWide P w r base t v) :
    ∃ cs, v = .agg cs ∧ cs.size = P.cellsOf t := by
  simp only [Value.okWide, ht] at h
  obtain ⟨cs, h1, h2, _⟩ := h
  exact ⟨cs, h1, h2⟩

theorem flatten_one {α β : Type} (f : α → β) : ∀ l : List α, (l.map fun a => [f a]).flatten = l.map f
  | [] => rfl
  | a :: l => by simp [flatten_one f l]

/-- Each of a list is made of something. -/
theorem exists_map {α β : Type} {f : α → β} : ∀ (l : List β) {q : α → Prop}, (∀ c ∈ l, ∃ a, c = f a ∧ q a) → ∃ as : List α, l = as.map f ∧ ∀ a ∈ as, q a
  | [], _, _ => ⟨[], rfl, by simp⟩
  | c :: l, q, h => by
    obtain ⟨a, rfl, ha⟩ := h c (by simp)
    obtain ⟨as, rfl, has⟩ := exists_map l (fun c hc => h c (by simp [hc]))
    exact ⟨a :: as, rfl, by simpa using ⟨ha, has⟩⟩

end Go.XS
