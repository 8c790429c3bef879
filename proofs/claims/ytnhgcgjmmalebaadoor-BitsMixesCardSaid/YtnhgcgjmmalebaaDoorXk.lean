/- A small logic of blocks over the predicate transformers: each rule is proved; no condition. -/
import Derived.Test.YtnhgcgjmmalebaaDoorXj
set_option linter.unusedVariables false
set_option linter.unusedSimpArgs false
namespace Go.XS

abbrev Chunk := Nat × Obj
def HProp := List Chunk → Prop

def Sat : List HProp → List Chunk → Prop
  | [], _ => True
  | p :: H, l => ∃ l1 l2, l.Perm (l1 ++ l2) ∧ p l1 ∧ Sat H l2

/-- Block 'b' holds these cells; none of them is frozen. -/
def cl (b : Nat) (cs : Array Value) : HProp := fun l => ∃ t fr, l = [(b, .cells cs t fr)] ∧ ∀ i, i < cs.size → ¬ (fr.1 ≤ i ∧ i < fr.2)
/-- Block 'b' is a map. -/
def mp (b : Nat) (es : Array MapEntry) (clock : Nat) : HProp := fun l => l = [(b, .map es clock)]
/-- Block 'b' is whatever object. -/
def ob (b : Nat) (o : Obj) : HProp := fun l => l = [(b, o)]

/-- The heap is as the base below the base's size, and holds the parts apart from each other above it. -/
structure Own (B : Heap) (H : List HProp) (σ : Heap) : Prop where
  base : ∀ b, b < B.size → σ[b]? = B[b]?
  size : B.size ≤ σ.size
  own : ∃ l : List Chunk, Sat H l ∧ (l.map (·.1)).Nodup ∧ ∀ c ∈ l, B.size ≤ c.1 ∧ σ[c.1]? = some c.2

def T (B : Heap) (H : List HProp) (p : HP) : Prop := ∀ σ, Own B H σ → p σ

theorem Sat.perm : ∀ {H : List HProp} {l l' : List Chunk}, l.Perm l' → Sat H l → Sat H l'
  | [], _, _, _, _ => trivial
  | p :: H, l, l', h, ⟨l1, l2, hp, h1, h2⟩ => ⟨l1, l2, h.symm.trans hp, h1, h2⟩

theorem Sat.permH {H H' : List HProp} (h : H.Perm H') : ∀ {l : List Chunk}, Sat H l → Sat H' l := by
  induction h with
  | nil => exact fun h => h
  | cons p _ ih => rintro l ⟨l1, l2, hp, h1, h2⟩; exact ⟨l1, l2, hp, h1, ih h2⟩
  | swap p q H =>
    rintro l ⟨l1, l2, hp, h1, l3, l4, hp2, h3, h4⟩
    refine ⟨l3, l1 ++ l4, ?_, h3, l1, l4, .refl _, h1, h4⟩
    exact hp.trans ((hp2.append_left l1).trans (by
      rw [← List.append_assoc, ← List.append_assoc]
      exact List.perm_append_comm.append_right l4))
  | trans _ _ ih1 ih2 => exact fun h => ih2 (ih1 h)

theorem Own.perm {B : Heap} {H H' : List HProp} {σ : Heap} (h : H.Perm H') (o : Own B H σ) : Own B H' σ :=
  ⟨o.base, o.size, let ⟨l, h1, h2⟩ := o.own; ⟨l, h1.permH h, h2⟩⟩

theorem T_perm {B : Heap} {H H' : List HProp} {p : HP} (h : H.Perm H') (t : T B H' p) : T B H p := fun σ o => t σ (o.perm h)

theorem Sat.drop {p : HProp} {H : List HProp} {l : List Chunk} (h : Sat (p :: H) l) : ∃ l2, Sat H l2 ∧ l2.Sublist l ∨ True := ⟨[], .inr trivial⟩

theorem Own.drop {B : Heap} {p : HProp} {H : List HProp} {σ : Heap} (o : Own B (p :: H) σ) : Own B H σ := by
  obtain ⟨l, ⟨l1, l2, hp, h1, h2⟩, hn, hc⟩ := o.own
  refine ⟨o.base, o.size, l2, h2, ?_, fun c hc' => hc c (hp.mem_iff.2 (by simp [hc']))⟩
  have := (hp.map (·.1)).nodup hn
  rw [List.map_append] at this
  exact (List.nodup_append.1 this).2.1

/-- A part is let go. -/
theorem T_drop {B : Heap} {q : HProp} {H : List HProp} {p : HP} (t : T B H p) : T B (q :: H) p := fun σ o => t σ o.drop

/-- A part at the head: what it holds. -/
theorem Own.head {B : Heap} {p : HProp} {H : List HProp} {σ : Heap} (o : Own B (p :: H) σ) : ∃ l1, p l1 ∧ ∀ c ∈ l1, B.size ≤ c.1 ∧ σ[c.1]? = some c.2 := by
  obtain ⟨l, ⟨l1, l2, hp, h1, h2⟩, hn, hc⟩ := o.own
  exact ⟨l1, h1, fun c hc' => hc c (hp.mem_iff.2 (by simp [hc']))⟩

inductive Pull : HProp → List HProp → List HProp → Prop where
  | head {p : HProp} {H : List HProp} : Pull p (p :: H) H
  | tail {p q : HProp} {H H' : List HProp} : Pull p H H' → Pull p (q :: H) (q :: H')

theorem Pull.perm {p : HProp} {H H' : List HProp} (h : Pull p H H') : H.Perm (p :: H') := by
  induction h with
  | head => exact .refl _
  | tail _ ih => exact (ih.cons _).trans (.swap _ _ _)

theorem T_pull {B : Heap} {q : HProp} {H H' : List HProp} {p : HP} (h : Pull q H H') (t : T B (q :: H') p) : T B H p := T_perm h.perm t

/-! ## Where a block's cells are found -/

class HasC (B : Heap) (H : List HProp) (b : Nat) (cs : outParam (Array Value)) : Prop where
  has : ∀ σ, Own B H σ → ∃ t fr, σ[b]? = some (.cells cs t fr)

instance (priority := 2000) hasC_head {B : Heap} {H : List HProp} {b : Nat} {cs : Array Value} : HasC B (cl b cs :: H) b cs where
  has σ o := by
    obtain ⟨l1, ⟨t, fr, rfl, _⟩, h⟩ := o.head
    exact ⟨t, fr, (h (b, .cells cs t fr) (by simp)).2⟩

instance (priority := 1000) hasC_tail {B : Heap} {H : List HProp} {p : HProp} {b : Nat} {cs : Array Value} [h : HasC B H b cs] : HasC B (p :: H) b cs where
  has σ o := h.has σ o.drop

theorem HasC.of_base {B : Heap} {b : Nat} {cs : Array Value} {t : TypeId} {fr : Nat × Nat} (h : B[b]? = some (.cells cs t fr)) (H : List HProp) : HasC B H b cs where
  has σ o := by
    have hlt : b < B.size := (Array.getElem?_eq_some_iff.1 h).1
    exact ⟨t, fr, (o.base b hlt).trans h⟩

theorem hcell_of {σ : Heap} {b : Nat} {cs : Array Value} {t : TypeId} {fr : Nat × Nat} (h : σ[b]? = some (.cells cs t fr)) (o : Nat) :
    hcell σ ⟨b, o, none⟩ = cs[o]? := by simp [hcell, h]

theorem HasC.cell {B : Heap} {H : List HProp} {b : Nat} {cs : Array Value} (h : HasC B H b cs) {σ : Heap} (o : Own B H σ) (i : Nat) : hcell σ ⟨b, i, none⟩ = cs[i]? := by
  obtain ⟨t, fr, e⟩ := h.has σ o
  exact hcell_of e i

theorem add_mk (b o n : Nat) : Addr.add ⟨b, o, none⟩ n = ⟨b, o + n, none⟩ := by
  unfold Addr.add
  split
  · simp [*]
  · rfl

section
variable {B : Heap} {H : List HProp} {b i : Nat} {cs : Array Value}

theorem T_ldI [h : HasC B H b cs] {k : IntKind} {n : Int} {f : Int → HP} (hc : cs[i]? = some (.int k n)) (t : T B H (f n)) : T B H (ldI k ⟨b, i, none⟩ f) :=
  fun σ o => ⟨n, (h.cell o i).trans hc, t σ o⟩
theorem T_ldB [h : HasC B H b cs] {n : Bool} {f : Bool → HP} (hc : cs[i]? = some (.bool n)) (t : T B H (f n)) : T B H (ldB ⟨b, i, none⟩ f) :=
  fun σ o => ⟨n, (h.cell o i).trans hc, t σ o⟩
theorem T_ldP [h : HasC B H b cs] {n : Option Addr} {f : Option Addr → HP} (hc : cs[i]? = some (.pointer n)) (t : T B H (f n)) : T B H (ldP ⟨b, i, none⟩ f) :=
  fun σ o => ⟨n, (h.cell o i).trans hc, t σ o⟩
theorem T_ldS [h : HasC B H b cs] {p : Option Addr} {l c : Nat} {f : Option Addr → Nat → Nat → HP} (hc : cs[i]? = some (.slice p l c)) (t : T B H (f p l c)) : T B H (ldS ⟨b, i, none⟩ f) :=
  fun σ o => ⟨p, l, c, (h.cell o i).trans hc, t σ o⟩
theorem T_ldT [h : HasC B H b cs] {n : ByteArray} {f : ByteArray → HP} (hc : cs[i]? = some (.string n)) (t : T B H (f n)) : T B H (ldT ⟨b, i, none⟩ f) :=
  fun σ o => ⟨n, (h.cell o i).trans hc, t σ o⟩
theorem T_ldM [h : HasC B H b cs] {n : Option Nat} {f : Option Nat → HP} (hc : cs[i]? = some (.map n)) (t : T B H (f n)) : T B H (ldM ⟨b, i, none⟩ f) :=
  fun σ o => ⟨n, (h.cell o i).trans hc, t σ o⟩
theorem T_ldV [h : HasC B H b cs] {v : Value} {f : Value → HP} (hc : cs[i]? = some v) (t : T B H (f v)) : T B H (ldV ⟨b, i, none⟩ f) :=
  fun σ o => ⟨v, (h.cell o i).trans hc, t σ o⟩
theorem T_ldA [h : HasC B H b cs] {n : Nat} {f : Array Value → HP} (ds : Array Value) (hn : ds.size = n) (hd : ∀ j, j < n → cs[i + j]? = ds[j]?) (t : T B H (f ds)) :
    T B H (ldA ⟨b, i, none⟩ n f) :=
  fun σ o => ⟨ds, hn, fun j hj => by rw [add_mk, h.cell o]; exact hd j hj, t σ o⟩
/-- A whole block. -/
theorem T_ldA0 [h : HasC B H b cs] {n : Nat} {f : Array Value → HP} (hn : cs.size = n) (t : T B H (f cs)) : T B H (ldA ⟨b, 0, none⟩ n f) :=
  T_ldA cs hn (fun j _ => by simp) t
end

/-! ## Where a block's cells are turned -/

class UpdC (H : List HProp) (b : Nat) (cs : outParam (Array Value)) (H' : outParam (Array Value → List HProp)) : Prop where
  perm : ∃ H0, H.Perm (cl b cs :: H0) ∧ ∀ ds, (H' ds).Perm (cl b ds :: H0)

instance (priority := 2000) updC_head {H : List HProp} {b : Nat} {cs : Array Value} : UpdC (cl b cs :: H) b cs (fun ds => cl b ds :: H) where
  perm := ⟨H, .refl _, fun _ => .refl _⟩

instance (priority := 1000) updC_tail {H : List HProp} {p : HProp} {b : Nat} {cs : Array Value} {H' : Array Value → List HProp} [h : UpdC H b cs H'] :
    UpdC (p :: H) b cs (fun ds => p :: H' ds) where
  perm := by
    obtain ⟨H0, h1, h2⟩ := h.perm
    exact ⟨p :: H0, (h1.cons p).trans (.swap _ _ _), fun ds => ((h2 ds).cons p).trans (.swap _ _ _)⟩

theorem hset_get {σ : Heap} {b : Nat} {cs : Array Value} {t : TypeId} {fr : Nat × Nat} (h : σ[b]? = some (.cells cs t fr)) (i : Nat) (v : Value) :
    (hset σ ⟨b, i, none⟩ v)[b]? = some (.cells (cs.setIfInBounds i v) t fr) := by
  simp [hset, Array.getElem?_modify, h]

theorem hset_other {σ : Heap} {b c : Nat} (h : c ≠ b) (i : Nat) (v : Value) : (hset σ ⟨b, i, none⟩ v)[c]? = σ[c]? := by
  simp [hset, Array.getElem?_modify, Ne.symm h]

theorem hset_size (σ : Heap) (a : Addr) (v : Value) : (hset σ a v).size = σ.size := by simp [hset]

theorem Own.set {B : Heap} {H : List HProp} {b i : Nat} {cs : Array Value} {v : Value} {σ : Heap} (o : Own B (cl b cs :: H) σ) :
    Own B (cl b (cs.setIfInBounds i v) :: H) (hset σ ⟨b, i, none⟩ v) := by
  obtain ⟨l, ⟨l1, l2, hp, ⟨t, fr, rfl, hfr⟩, h2⟩, hn, hc⟩ := o.own
  have hb := hc (b, .cells cs t fr) (hp.mem_iff.2 (by simp))
  have hnd : ((b, Obj.cells cs t fr) :: l2 |>.map (·.1)).Nodup := (hp.map (·.1)).nodup hn
  refine ⟨fun k hk => ?_, by rw [hset_size]; exact o.size, (b, .cells (cs.setIfInBounds i v) t fr) :: l2, ⟨[(b, .cells (cs.setIfInBounds i v) t fr)], l2, .refl _, ⟨t, fr, rfl, by simpa using hfr⟩, h2⟩, by simpa using hnd, ?_⟩
  · rw [hset_other (by have := hb.1; simp at this; omega)]; exact o.base k hk
  · intro c hcm
    rcases List.mem_cons.1 hcm with rfl | hcm
    · exact ⟨hb.1, hset_get hb.2 i v⟩
    · have h3 := hc c (hp.mem_iff.2 (by simp [hcm]))
      refine ⟨h3.1, ?_⟩
      rw [hset_other ?_]; exact h3.2
      intro e
      simp only [List.map_cons, List.nodup_cons] at hnd
      exact hnd.1 (List.mem_map.2 ⟨c, hcm, e⟩)

theorem T_st {B : Heap} {H : List HProp} {b i : Nat} {cs : Array Value} {H' : Array Value → List HProp} [h : UpdC H b cs H'] {v : Value} {k : HP}
    (hi : i < cs.size) (hv : v.oneCell' = true) (t : T B (H' (cs.setIfInBounds i v)) k) : T B H (st ⟨b, i, none⟩ v k) := by
  obtain ⟨H0, h1, h2⟩ := h.perm
  intro σ o
  have o1 := o.perm h1
  obtain ⟨l1, ⟨tt, fr, rfl, hfr⟩, hc⟩ := o1.head
  have hb := (hc (b, .cells cs tt fr) (by simp)).2
  refine ⟨⟨cs[i], ?_⟩, ?_, hv, t _ ((o1.set (i := i) (v := v)).perm (h2 _).symm)⟩
  · rw [hcell_of hb]; simp [hi]
  · simp only [hfrozen, hb]
    have := hfr i hi
    obtain ⟨lo, hi'⟩ := fr
    simpa using this

/-- A store of several cells. -/
def setCells (cs : Array Value) (i : Nat) : List Value → Array Value
  | [] => cs
  | v :: r => setCells (cs.setIfInBounds i v) (i + 1) r

theorem T_stL {B : Heap} {b o : Nat} {k : HP} : ∀ (vs : List Value) (i : Nat) {H : List HProp} {cs : Array Value} {H' : Array Value → List HProp} [h : UpdC H b cs H'],
    o + i + vs.length ≤ cs.size → (∀ v ∈ vs, v.oneCell' = true) → T B (H' (setCells cs (o + i) vs)) k → T B H (stL ⟨b, o, none⟩ i vs k)
  | [], i, H, cs, H', h, hl, hv, t => by
    simp only [stL]
    obtain ⟨H0, h1, h2⟩ := h.perm
    exact T_perm (h1.trans (h2 cs).symm) t
  | v :: r, i, H, cs, H', h, hl, hv, t => by
    simp only [List.length_cons] at hl
    simp only [stL, add_mk]
    refine T_st (by omega) (hv v (by simp)) ?_
    obtain ⟨H0, h1, h2⟩ := h.perm
    refine T_perm (h2 _) ?_
    have := T_stL (B := B) (b := b) (o := o) (k := k) r (i + 1) (H := cl b (cs.setIfInBounds (o + i) v) :: H0) (by simp; omega) (fun u hu => hv u (by simp [hu])) ?_
    · exact this
    · exact T_perm (h2 _).symm t

theorem T_stA {B : Heap} {b o n : Nat} {k : HP} {vs : Array Value} {H : List HProp} {cs : Array Value} {H' : Array Value → List HProp} [h : UpdC H b cs H'] (hn : vs.size = n)
    (hl : o + n ≤ cs.size) (hv : ∀ v ∈ vs.toList, v.oneCell' = true) (t : T B (H' (setCells cs o vs.toList)) k) : T B H (stA ⟨b, o, none⟩ vs n k) := by
  have := T_stL (B := B) (b := b) (o := o) (k := k) vs.toList 0 (H := H) (by simp [hn]; omega) hv (by simpa using t)
  exact fun σ ow => ⟨hn, this σ ow⟩

theorem setCells_all (cs vs : Array Value) (h : vs.size = cs.size) : setCells cs 0 vs.toList = vs := by
  have key : ∀ (l : List Value) (i : Nat) (cs : Array Value), i + l.length = cs.size → (setCells cs i l).toList = cs.toList.take i ++ l := by
    intro l
    induction l with
    | nil => intro i cs h; simp [setCells]; rw [List.take_of_length_le (by simpa using Nat.le_of_eq h.symm)]
    | cons v r ih =>
      intro i cs h
      simp only [List.length_cons] at h
      simp only [setCells]
      rw [ih (i + 1) _ (by simp; omega)]
      have hlt : i < cs.toList.length := by simp; omega
      simp only [Array.toList_setIfInBounds]
      rw [List.take_succ_eq_append_getElem (by simpa using hlt)]
      simp [List.take_set_of_le]
  apply Array.ext'
  have := key vs.toList 0 cs (by simp [h])
  simpa using this

/-- The whole of a block is stored anew. -/
theorem T_stA0 {B : Heap} {b n : Nat} {k : HP} {vs : Array Value} {H : List HProp} {cs : Array Value} {H' : Array Value → List HProp} [h : UpdC H b cs H'] (hn : vs.size = n)
    (hl : cs.size = n) (hv : ∀ v ∈ vs.toList, v.oneCell' = true) (t : T B (H' vs) k) : T B H (stA ⟨b, 0, none⟩ vs n k) :=
  T_stA hn (by omega) hv (by rw [setCells_all _ _ (hn.trans hl.symm)]; exact t)

theorem Own.push {B : Heap} {H : List HProp} {σ : Heap} (o : Own B H σ) {p : HProp} {ob : Obj} (hp : p [(σ.size, ob)]) : Own B (p :: H) (σ.push ob) := by
  obtain ⟨l, h1, hn, hc⟩ := o.own
  have hlt : ∀ c ∈ l, c.1 < σ.size := fun c hcm => (Array.getElem?_eq_some_iff.1 (hc c hcm).2).1
  refine ⟨fun k hk => ?_, by have := o.size; simp; omega, (σ.size, ob) :: l, ⟨[(σ.size, ob)], l, .refl _, hp, h1⟩, ?_, ?_⟩
  · rw [Array.getElem?_push, if_neg (by have := o.size; omega)]; exact o.base k hk
  · simp only [List.map_cons, List.nodup_cons]
    refine ⟨fun hm => ?_, hn⟩
    obtain ⟨c, hcm, e⟩ := List.mem_map.1 hm
    have := hlt c hcm
    omega
  · intro c hcm
    rcases List.mem_cons.1 hcm with rfl | hcm
    · exact ⟨o.size, by simp⟩
    · refine ⟨(hc c hcm).1, ?_⟩
      rw [Array.getElem?_push, if_neg (by have := hlt c hcm; omega)]; exact (hc c hcm).2

theorem T_al {B : Heap} {H : List HProp} {cs : Array Value} {t : TypeId} {f : Nat → HP} (h : ∀ b, T B (cl b cs :: H) (f b)) : T B H (al cs t f) :=
  fun σ o => h σ.size _ (o.push ⟨t, (0, 0), rfl, by simp⟩)

theorem T_newM {B : Heap} {H : List HProp} {f : Nat → HP} (h : ∀ b, T B (mp b #[] 0 :: H) (f b)) : T B H (newM f) :=
  fun σ o => h σ.size _ (o.push rfl)

theorem T_mkSl {P : Program} {B : Heap} {H : List HProp} {elem : TypeId} {l c : Int} {f : Nat → HP} (h0 : 0 ≤ l) (h1 : l ≤ c) (h2 : c < 9223372036854775808) (h3 : (P.bytesOf elem : Int) * c ≤ 2 ^ 48)
    (h4 : (P.info? elem).isSome = true) (h5 : zok P elem = true) (h : ∀ b, T B (cl b (reps (zc P elem) (c.toNat * P.cellsOf elem)) :: H) (f b)) : T B H (mkSl P elem l c f) :=
  fun σ o => ⟨h0, h1, h2, h3, h4, h5, h σ.size _ (o.push ⟨elem, (0, 0), rfl, by simp⟩)⟩

/-! ## The plain rules -/

section
variable {B : Heap} {H : List HProp}

theorem T_of {p q : HP} (h : ∀ {σ}, p σ → q σ) (t : T B H p) : T B H q := fun σ o => h (t σ o)
theorem T_mono {p q : HP} (h : ∀ σ, p σ → q σ) (t : T B H p) : T B H q := fun σ o => h σ (t σ o)
theorem T_xif {c : Bool} {p q : HP} (ht : c = true → T B H p) (hf : c = false → T B H q) : T B H (xif c p q) := fun σ o => ⟨fun h => ht h σ o, fun h => hf h σ o⟩
theorem T_xif_t {c : Bool} {p q : HP} (h : c = true) (ht : T B H p) : T B H (xif c p q) := T_xif (fun _ => ht) (fun h' => by rw [h] at h'; cases h')
theorem T_xif_f {c : Bool} {p q : HP} (h : c = false) (ht : T B H q) : T B H (xif c p q) := T_xif (fun h' => by rw [h] at h'; cases h') (fun _ => ht)
theorem T_req {c : Prop} {p : HP} (hc : c) (t : T B H p) : T B H (req c p) := fun σ o => ⟨hc, t σ o⟩
theorem T_adr {a : Addr} {f : Addr → HP} (t : T B H (f a)) : T B H (adr (some a) f) := t
theorem T_andH {I : Heap → Prop} {p : HP} (hi : ∀ σ, Own B H σ → I σ) (t : T B H p) : T B H (andH I p) := fun σ o => ⟨hi σ o, t σ o⟩
theorem T_asI {k : IntKind} {n : Int} {f : Int → HP} (t : T B H (f n)) : T B H (asI k (.int k n) f) := fun σ o => ⟨n, rfl, t σ o⟩
theorem T_asB {n : Bool} {f : Bool → HP} (t : T B H (f n)) : T B H (asB (.bool n) f) := fun σ o => ⟨n, rfl, t σ o⟩
theorem T_asP {n : Option Addr} {f : Option Addr → HP} (t : T B H (f n)) : T B H (asP (.pointer n) f) := fun σ o => ⟨n, rfl, t σ o⟩
theorem T_asS {p : Option Addr} {l c : Nat} {f : Option Addr → Nat → Nat → HP} (t : T B H (f p l c)) : T B H (asS (.slice p l c) f) := fun σ o => ⟨p, l, c, rfl, t σ o⟩
theorem T_asT {n : ByteArray} {f : ByteArray → HP} (t : T B H (f n)) : T B H (asT (.string n) f) := fun σ o => ⟨n, rfl, t σ o⟩
theorem T_asM {n : Option Nat} {f : Option Nat → HP} (t : T B H (f n)) : T B H (asM (.map n) f) := fun σ o => ⟨n, rfl, t σ o⟩
theorem T_asA {n : Array Value} {f : Array Value → HP} (t : T B H (f n)) : T B H (asA (.agg n) f) := fun σ o => ⟨n, rfl, t σ o⟩
theorem T_ptI {k : IntKind} {cs : Array Value} {i : Nat} {n : Int} {f : Int → HP} (h : cs[i]? = some (.int k n)) (t : T B H (f n)) : T B H (ptI k cs i f) := fun σ o => ⟨n, h, t σ o⟩
theorem T_ptB {cs : Array Value} {i : Nat} {n : Bool} {f : Bool → HP} (h : cs[i]? = some (.bool n)) (t : T B H (f n)) : T B H (ptB cs i f) := fun σ o => ⟨n, h, t σ o⟩
theorem T_ptS {cs : Array Value} {i : Nat} {p : Option Addr} {l c : Nat} {f : Option Addr → Nat → Nat → HP} (h : cs[i]? = some (.slice p l c)) (t : T B H (f p l c)) : T B H (ptS cs i f) := fun σ o => ⟨p, l, c, h, t σ o⟩
theorem T_ptT {cs : Array Value} {i : Nat} {s : ByteArray} {f : ByteArray → HP} (h : cs[i]? = some (.string s)) (t : T B H (f s)) : T B H (ptT cs i f) := fun σ o => ⟨s, h, t σ o⟩

/-- A result of no value. -/
theorem T_unit {p : HP} (t : T B H p) : T B H (fun σ => (Value.tuple #[] = Value.tuple #[]) ∧ p σ) := fun σ o => ⟨rfl, t σ o⟩

theorem T_all {α : Sort _} {q : α → HP} : T B H (fun σ => ∀ x, q x σ) ↔ ∀ x, T B H (q x) := ⟨fun h x σ o => h σ o x, fun h σ o x => h x σ o⟩
theorem T_imp {c : Prop} {q : HP} : T B H (fun σ => c → q σ) ↔ (c → T B H q) := ⟨fun h hc σ o => h σ o hc, fun h σ o hc => h hc σ o⟩
theorem T_ex {α : Sort _} {q : α → HP} (x : α) (t : T B H (q x)) : T B H (fun σ => ∃ x, q x σ) := fun σ o => ⟨x, t σ o⟩
theorem T_and {c : Prop} {q : HP} (hc : c) (t : T B H q) : T B H (fun σ => c ∧ q σ) := fun σ o => ⟨hc, t σ o⟩

theorem T_loop {body : List Value → (List Value → HP) → HP} {init : List Value} (J : List Value → List HProp → Prop) (μ : List Value → Nat) (h0 : J init H)
    (step : ∀ s H R, J s H → (∀ s' H', J s' H' → μ s' < μ s → T B H' (R s')) → T B H (body s R)) : T B H (loopH body init) := by
  intro σ o R hpre
  have key : ∀ n s H, μ s < n → J s H → T B H (R s) := by
    intro n
    induction n with
    | zero => intro s H h; omega
    | succ n ih =>
      intro s H hlt hJ σ o
      exact hpre s σ (step s H R hJ (fun s' H' hJ' hlt' => ih s' H' (by omega) hJ') σ o)
  exact key (μ init + 1) init H (by omega) h0 σ o

theorem T_join {J : List Value → HP} {body : (List Value → HP) → HP} (S : List Value → List HProp → Prop) (hJ : ∀ vs H', S vs H' → T B H' (J vs))
    (hb : ∀ R, (∀ vs H', S vs H' → T B H' (R vs)) → T B H (body R)) : T B H (joinH J body) := hb J hJ

end

end Go.XS
