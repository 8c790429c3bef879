/- Slices in the logic of blocks: reading through a slice, a slice that one owns whole, append: each rule is proved; no condition. -/
import Derived.Test.YtnhgcgjmmalebaaDoorXl
set_option linter.unusedVariables false
set_option linter.unusedSimpArgs false
namespace Go.XS

theorem add_add (a : Addr) (i j : Nat) : (a.add i).add j = a.add (i + j) := by
  unfold Addr.add
  by_cases hi : i = 0
  · subst hi; simp
  · by_cases hj : j = 0
    · subst hj; simp
    · have : i + j ≠ 0 := by omega
      simp [hi, hj, this, Nat.add_assoc]

/-- Through 'q' these cells are read. -/
def RdV (B : Heap) (H : List HProp) (q : Option Addr) (ys : List Value) : Prop :=
  ∀ σ, Own B H σ → (q = none ∧ ys = []) ∨ ∃ a, q = some a ∧ ∀ i, i < ys.length → hcell σ (a.add i) = ys[i]?

theorem RdV.tail {B : Heap} {H : List HProp} {p : HProp} {q : Option Addr} {ys : List Value} (h : RdV B H q ys) : RdV B (p :: H) q ys := fun σ o => h σ o.drop
theorem RdV.perm {B : Heap} {H H' : List HProp} {q : Option Addr} {ys : List Value} (h : RdV B H q ys) (hp : H'.Perm H) : RdV B H' q ys := fun σ o => h σ (o.perm hp)
theorem RdV.nil {B : Heap} {H : List HProp} : RdV B H none [] := fun σ o => .inl ⟨rfl, rfl⟩

/-- A place of the base. -/
theorem base_cell {B σ : Heap} {H : List HProp} (o : Own B H σ) {a : Addr} {v : Value} (h : hcell B a = some v) : hcell σ a = some v := by
  have hlt : a.block < B.size := by
    unfold hcell at h
    rcases Nat.lt_or_ge a.block B.size with h' | h'
    · exact h'
    · simp [Array.getElem?_eq_none h'] at h
  unfold hcell at h ⊢
  rw [o.base _ hlt]; exact h

theorem RdV.of_base {B : Heap} {a : Addr} {ys : List Value} (h : ∀ i, i < ys.length → hcell B (a.add i) = ys[i]?) (H : List HProp) : RdV B H (some a) ys := by
  intro σ o
  refine .inr ⟨a, rfl, fun i hi => ?_⟩
  have h1 := h i hi
  rw [List.getElem?_eq_getElem hi] at h1 ⊢
  exact base_cell o h1

theorem RdV.of_cl {B : Heap} {H : List HProp} {b o : Nat} {cs : Array Value} [hc : HasC B H b cs] {ys : List Value} (h : ∀ i, i < ys.length → cs[o + i]? = ys[i]?) : RdV B H (some ⟨b, o, none⟩) ys := by
  intro σ ow
  refine .inr ⟨_, rfl, fun i hi => ?_⟩
  rw [add_mk, hc.cell ow]
  exact h i hi

theorem RdV.take {B : Heap} {H : List HProp} {q : Option Addr} {ys : List Value} (h : RdV B H q ys) (n : Nat) (hn : n ≤ ys.length) : RdV B H q (ys.take n) := by
  intro σ o
  rcases h σ o with ⟨rfl, rfl⟩ | ⟨a, rfl, hc⟩
  · exact .inl ⟨rfl, by simp⟩
  · refine .inr ⟨a, rfl, fun i hi => ?_⟩
    simp at hi
    rw [hc i (by omega), List.getElem?_take, if_pos (by omega)]

section
variable {B : Heap} {H : List HProp} {a : Addr} {ys : List Value} {i : Nat} {q : Option Addr}
theorem T_rdI (h : RdV B H (some a) ys) {k : IntKind} {n : Int} {f : Int → HP} (hc : ys[i]? = some (.int k n)) (t : T B H (f n)) : T B H (ldI k (a.add i) f) := by
  intro σ o
  rcases h σ o with ⟨h, _⟩ | ⟨a', h, hh⟩
  · cases h
  · cases h
    have hi : i < ys.length := (List.getElem?_eq_some_iff.1 hc).1
    exact ⟨n, (hh i hi).trans hc, t σ o⟩
theorem T_rdB (h : RdV B H (some a) ys) {n : Bool} {f : Bool → HP} (hc : ys[i]? = some (.bool n)) (t : T B H (f n)) : T B H (ldB (a.add i) f) := by
  intro σ o
  rcases h σ o with ⟨h, _⟩ | ⟨a', h, hh⟩
  · cases h
  · cases h
    have hi : i < ys.length := (List.getElem?_eq_some_iff.1 hc).1
    exact ⟨n, (hh i hi).trans hc, t σ o⟩
theorem T_rdS (h : RdV B H (some a) ys) {p : Option Addr} {l c : Nat} {f : Option Addr → Nat → Nat → HP} (hc : ys[i]? = some (.slice p l c)) (t : T B H (f p l c)) : T B H (ldS (a.add i) f) := by
  intro σ o
  rcases h σ o with ⟨h, _⟩ | ⟨a', h, hh⟩
  · cases h
  · cases h
    have hi : i < ys.length := (List.getElem?_eq_some_iff.1 hc).1
    exact ⟨p, l, c, (hh i hi).trans hc, t σ o⟩
theorem T_rdA (h : RdV B H (some a) ys) {n : Nat} {f : Array Value → HP} (ds : Array Value) (hn : ds.size = n) (hl : i + n ≤ ys.length) (hd : ∀ j, j < n → ys[i + j]? = ds[j]?) (t : T B H (f ds)) :
    T B H (ldA (a.add i) n f) := by
  intro σ o
  rcases h σ o with ⟨h, _⟩ | ⟨a', h, hh⟩
  · cases h
  · cases h
    refine ⟨ds, hn, fun j hj => ?_, t σ o⟩
    rw [add_add, hh _ (by omega)]
    exact hd j hj
/-- A slice with an element is not nil. -/
theorem RdV.some_of (h : RdV B H q ys) (hl : 0 < ys.length) (σ : Heap) (o : Own B H σ) : ∃ a, q = some a := by
  rcases h σ o with ⟨_, h⟩ | ⟨a, h, _⟩
  · subst h; simp at hl
  · exact ⟨a, h⟩
theorem T_rd_adr (h : RdV B H q ys) (hl : 0 < ys.length) {f : Addr → HP} (t : ∀ a, q = some a → T B H (f a)) : T B H (adr q f) := by
  intro σ o
  obtain ⟨a, rfl⟩ := h.some_of hl σ o
  exact t a rfl σ o
end

/-! ## A slice owned whole -/

/-- The slice value (p, l, c), its elements of 's' cells, and its block, all its own. -/
def osl (s : Nat) (p : Option Addr) (l c : Nat) (xs : List Value) : HProp := fun ch =>
  xs.length = l * s ∧ l ≤ c ∧ ((p = none ∧ c = 0 ∧ ch = []) ∨ ∃ b rest, p = some ⟨b, 0, none⟩ ∧ (xs ++ rest).length = c * s ∧ cl b (xs ++ rest).toArray ch)

theorem osl_nil (s : Nat) : osl s none 0 0 [] [] := ⟨by simp, Nat.le_refl _, .inl ⟨rfl, rfl, rfl⟩⟩

theorem T_oslNil {B : Heap} {H : List HProp} {p : HP} (s : Nat) (t : T B (osl s none 0 0 [] :: H) p) : T B H p := by
  intro σ o
  obtain ⟨l, h1, h2⟩ := o.own
  exact t σ ⟨o.base, o.size, l, ⟨[], l, .refl _, osl_nil s, h1⟩, h2⟩

/-- A block that one has turned into an owned slice. -/
theorem T_oslOf {B : Heap} {H : List HProp} {p : HP} {b l : Nat} {cs : Array Value} (s : Nat) (hl : cs.size = l * s) (t : T B (osl s (some ⟨b, 0, none⟩) l l cs.toList :: H) p) : T B (cl b cs :: H) p := by
  intro σ o
  obtain ⟨ch, ⟨l1, l2, hp, h1, h2⟩, h3⟩ := o.own
  refine t σ ⟨o.base, o.size, ch, ⟨l1, l2, hp, ⟨by simpa using hl, Nat.le_refl _, .inr ⟨b, [], rfl, by simpa using hl, by simpa using h1⟩⟩, h2⟩, h3⟩

/-- Either nil, or a block with its cells. -/
theorem T_oslCases {B : Heap} {H : List HProp} {p : HP} {q : Option Addr} {s l c : Nat} {xs : List Value}
    (h0 : q = none → c = 0 → l = 0 → xs = [] → T B H p)
    (h1 : ∀ b rest, q = some ⟨b, 0, none⟩ → xs.length = l * s → l ≤ c → (xs ++ rest).length = c * s → T B (cl b (xs ++ rest).toArray :: H) p) : T B (osl s q l c xs :: H) p := by
  intro σ o
  obtain ⟨ch, ⟨l1, l2, hp, ⟨hx, hlc, h⟩, h2⟩, hn, hc⟩ := o.own
  rcases h with ⟨rfl, rfl, rfl⟩ | ⟨b, rest, rfl, hlen, hcl⟩
  · have : l = 0 := by omega
    subst this
    exact h0 rfl rfl rfl (by simpa using hx) σ o.drop
  · exact h1 b rest rfl hx hlc hlen σ ⟨o.base, o.size, ch, ⟨l1, l2, hp, hcl, h2⟩, hn, hc⟩

theorem RdV.of_osl {B : Heap} {H : List HProp} {q : Option Addr} {s l c : Nat} {xs : List Value} : RdV B (osl s q l c xs :: H) q xs := by
  intro σ o
  obtain ⟨ch, ⟨l1, l2, hp, ⟨hx, hlc, h⟩, h2⟩, hn, hc⟩ := o.own
  rcases h with ⟨rfl, rfl, rfl⟩ | ⟨b, rest, rfl, hlen, t, fr, rfl, hfr⟩
  · have : l = 0 := by omega
    subst this
    exact .inl ⟨rfl, by simpa using hx⟩
  · refine .inr ⟨_, rfl, fun i hi => ?_⟩
    have hb := hc (b, .cells (xs ++ rest).toArray t fr) (hp.mem_iff.2 (by simp))
    rw [add_mk, hcell_of hb.2]
    simp [List.getElem?_append, hi]

theorem growBy_le (n : Nat) : ∀ (r c : Nat), c ≤ n + (n + 768) / 4 → Builtin.growBy n r c ≤ n + (n + 768) / 4
  | 0, c, h => by simpa [Builtin.growBy] using h
  | r + 1, c, h => by
    simp only [Builtin.growBy]
    split
    · exact h
    · exact growBy_le n r _ (by omega)

theorem nextcap_le {n c : Nat} (h : c < n) : Builtin.nextslicecap n c ≤ 2 * n + 1024 := by
  unfold Builtin.nextslicecap
  split
  · omega
  · split
    · omega
    · have := growBy_le n 4 c (by omega)
      omega

theorem setCells_list : ∀ (l : List Value) (i : Nat) (cs : Array Value), i + l.length ≤ cs.size → (setCells cs i l).toList = cs.toList.take i ++ l ++ cs.toList.drop (i + l.length)
  | [], i, cs, h => by simp [setCells]
  | v :: r, i, cs, h => by
    simp only [List.length_cons] at h
    simp only [setCells]
    rw [setCells_list r (i + 1) _ (by simp; omega)]
    have hlt : i < cs.toList.length := by simp; omega
    simp only [Array.toList_setIfInBounds, List.length_cons]
    rw [List.take_succ_eq_append_getElem (by simpa using hlt)]
    simp only [List.getElem_set_self, List.take_set_of_le (Nat.le_refl _), List.append_assoc, List.cons_append, List.nil_append]
    rw [List.drop_set_of_lt (by omega)]
    rw [show i + 1 + r.length = i + (r.length + 1) from by omega]

section
variable {P : Program}

theorem semP_firstCells {s n : Nat} {q : Option Addr} {m d : Nat} {ys : List Value} {K : Array Value → HP} {σ : Heap}
    (h : (q = none ∧ ys = []) ∨ ∃ a, q = some a ∧ ∀ i, i < ys.length → hcell σ (a.add i) = ys[i]?) (hl : ys.length = n * s) (k : K ys.toArray σ) :
    semP P (Builtin.firstCells s n (.slice q m d)) K σ := by
  rcases h with ⟨rfl, rfl⟩ | ⟨a, rfl, hc⟩
  · exact semP_pure k
  · refine semP_loadCells ⟨ys.toArray, by simpa using hl, fun i hi => ?_, k⟩
    rw [hc i (by omega)]; simp

theorem semP_appendCap {need old : Nat} {elem : TypeId} {K : Nat → HP} {σ : Heap} (h : ∀ n, need ≤ n → K n σ) : semP P (choose (.appendCap need old elem)) K σ := by
  intro w hw
  refine ⟨_, { w with drawn := w.drawn + 1 }, ?_, ⟨rfl, rfl, rfl⟩, h ((Question.appendCap need old elem).cut (w.tape w.drawn (.appendCap need old elem))) ?_ |> fun h => by rw [← hw] at h; exact h⟩
  · simp [Question.forced]
  · simp [Question.cut]

theorem app_rule {B : Heap} {H : List HProp} {ats : Array TypeId} {t0 t1 elem : TypeId} {s : Nat} {p : Option Addr} {l c : Nat} {xs : List Value} {q : Option Addr} {m d : Nat} {ys : List Value}
    {f : Option Addr → Nat → Nat → HP} (h0 : ats[0]? = some t0) (h1 : ats[1]? = some t1) (hu : P.underlying t0 = some (.slice elem)) (hu1 : sliceTy P t1 = true)
    (hi : (P.info? elem).isSome = true) (hz : zok P elem = true) (hs : P.cellsOf elem = s) (hb : (2 * (l + m) + 1024) * P.bytesOf elem ≤ 281474976710656) (hbp : 1 ≤ P.bytesOf elem) (hzs : (zc P elem).size = s)
    (hy : RdV B (osl s p l c xs :: H) q ys) (hyl : ys.length = m * s) (hone : ∀ v ∈ ys, v.oneCell' = true)
    (t : ∀ p' c', T B (osl s p' (l + m) c' (xs ++ ys) :: H) (f p' (l + m) c')) : T B (osl s p l c xs :: H) (appS P ats p l c q m d f) := by
  obtain ⟨info, hinfo⟩ := Option.isSome_iff_exists.1 hi
  have hbytes : P.bytesOf elem = info.bytes := by simp [Program.bytesOf, hinfo]
  obtain ⟨e1, hu1⟩ := sliceTy_spec hu1
  intro σ o
  have hrd := hy σ o
  have hxs := RdV.of_osl σ o
  unfold appS
  unfold Builtin.append_
  simp only [h0, h1, List.getElem?_toArray, List.getElem?_cons_zero, List.getElem?_cons_succ]
  refine semP_bind (semP_underlying hu ?_)
  refine semP_bind (semP_sizeOf hi ?_)
  refine semP_bind (semP_underlying hu1 ?_)
  refine semP_bind (semP_pure ?_)
  simp only [Bool.false_eq_true, if_false]
  refine semP_bind (semP_pure ?_)
  have hx0 : ∃ ch : List Chunk, xs.length = l * s ∧ l ≤ c := by
    obtain ⟨ch, ⟨l1, l2, hp, ⟨hx, hlc, h⟩, h2⟩, hn, hc⟩ := o.own
    exact ⟨ch, hx, hlc⟩
  obtain ⟨_, hxl, hlc⟩ := hx0
  by_cases hfit : l + m ≤ c
  · simp only [hfit, if_true, Bool.not_false]
    refine semP_bind (semP_firstCells (s := P.cellsOf elem) (n := m) (q := q) (m := m) (d := d) (ys := ys) hrd (by rw [hs]; exact hyl) ?_)
    clear hrd hxs hy
    revert o
    generalize σ = σ
    refine T_oslCases (p := semP P _ _) (H := H) (q := p) (s := s) (l := l) (c := c) (xs := xs) ?_ ?_ σ
    · rintro rfl rfl rfl rfl σ o
      have hm : m = 0 := by omega
      subst hm
      have hy0 : ys = [] := by simpa using hyl
      subst hy0
      refine semP_pure ?_
      rw [asS_slice]
      exact T_oslNil s (t none 0) σ o
    · intro b rest hp hx hlc hlen
      subst hp
      refine fun σ o => semP_bind (semP_mono (fun _ σ h => semP_pure h) (semP_storeCells ys.toArray.toList 0 ?_))
      rw [add_mk, hs]
      simp only [asS_slice]
      refine T_stL ys (i := 0) (H := cl b (xs ++ rest).toArray :: H) ?_ hone ?_ σ o
      · simp only [List.length_append] at hlen
        have h3 : (l + m) * s ≤ c * s := Nat.mul_le_mul_right s hfit
        simp only [List.size_toArray, List.length_append, hyl]
        have : (l + m) * s = l * s + m * s := Nat.add_mul _ _ _
        omega
      · simp only [List.length_append] at hlen
        have h3 : (l + m) * s ≤ c * s := Nat.mul_le_mul_right s hfit
        have h4 : (l + m) * s = l * s + m * s := Nat.add_mul _ _ _
        have hset := setCells_list ys (0 + l * s + 0) (xs ++ rest).toArray (by simp only [List.size_toArray, List.length_append]; omega)
        have harr : setCells (xs ++ rest).toArray (0 + l * s + 0) ys = (xs ++ ys ++ rest.drop ys.length).toArray := by
          apply Array.ext'
          rw [hset]
          simp only [Nat.zero_add, Nat.add_zero, List.append_assoc]
          rw [← hx, List.take_left' rfl]
          congr 2
          rw [List.drop_append]
          simp
        rw [harr]
        intro σ o
        obtain ⟨ch, ⟨l1, l2, hp, h1, h2⟩, h3'⟩ := o.own
        refine t (some ⟨b, 0, none⟩) c σ ⟨o.base, o.size, ch, ⟨l1, l2, hp, ⟨?_, hfit, .inr ⟨b, rest.drop ys.length, rfl, ?_, h1⟩⟩, h2⟩, h3'⟩
        · simp only [List.length_append]; omega
        · simp only [List.length_append, List.length_drop]; omega
  · simp only [hfit, if_false]
    have hcap := nextcap_le (n := l + m) (c := c) (by omega)
    refine semP_bind (semP_typeInfo hinfo ?_)
    have hnb : ¬ (((l + m : Nat) : Int) > IntKind.i64.max ∧ (False ∨ info.bytes = 0)) := by
      rintro ⟨_, h | h⟩
      · exact h
      · omega
    rw [if_neg (by simpa using hnb)]
    refine semP_bind (semP_typeInfo hinfo ?_)
    have hroom : ¬ (Builtin.nextslicecap (l + m) c * info.bytes > 2 ^ 48) := by
      rw [hbytes] at hb
      have := Nat.mul_le_mul_right info.bytes hcap
      omega
    rw [if_neg hroom]
    refine semP_bind (semP_appendCap fun cap hcap2 => ?_)
    refine semP_bind (semP_typeInfo hinfo ?_)
    refine semP_bind (semP_run () (fun w _ => run_askRoom P w _) ?_)
    refine semP_bind (semP_firstCells (s := P.cellsOf elem) (n := l) (q := p) (m := l) (d := c) (ys := xs) hxs (by rw [hs]; exact hxl) ?_)
    refine semP_bind (semP_firstCells (s := P.cellsOf elem) (n := m) (q := q) (m := m) (d := d) (ys := ys) hrd (by rw [hs]; exact hyl) ?_)
    refine semP_bind (semP_zero hz fun z hzc => ?_)
    unfold newRow
    refine semP_bind (semP_bind (semP_new (semP_pure (semP_pure ?_))))
    simp only [asS_slice]
    refine t (some ⟨σ.size, 0, none⟩) cap _ (o.drop.push ?_)
    have hzl : (Builtin.zeroCells z.cells (cap - (l + m))).size = (cap - (l + m)) * s := by
      simp [Builtin.zeroCells, hzc, hzs]
    have hmul : (l + m) * s + (cap - (l + m)) * s = cap * s := by rw [← Nat.add_mul]; congr 1; omega
    have hmul2 : (l + m) * s = l * s + m * s := Nat.add_mul _ _ _
    refine ⟨by simp only [List.length_append]; omega, hcap2, .inr ⟨σ.size, (Builtin.zeroCells z.cells (cap - (l + m))).toList, rfl, ?_, elem, (0, 0), ?_, by simp⟩⟩
    · simp only [List.length_append, Array.length_toList, hzl]; omega
    · congr 3
      apply Array.ext'
      simp
end

end Go.XS
