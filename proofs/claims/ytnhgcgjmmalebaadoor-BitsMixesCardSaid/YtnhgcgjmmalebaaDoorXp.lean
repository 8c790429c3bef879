/- Things one owns that hold several blocks, or something that is not told; append in place: each rule is proved; no condition. -/
import Derived.Test.YtnhgcgjmmalebaaDoorXo
set_option linter.unusedVariables false
set_option linter.unusedSimpArgs false
namespace Go.XS

/-- Some. -/
def exP {α : Sort _} (q : α → HProp) : HProp := fun ch => ∃ x, q x ch
/-- A fact beside. -/
def pureP (c : Prop) (q : HProp) : HProp := fun ch => c ∧ q ch
/-- Several. -/
def packP (Hs : List HProp) : HProp := fun ch => Sat Hs ch

theorem Sat.mono : ∀ {H : List HProp} {l : List Chunk} (x : List Chunk), Sat H l → Sat H (x ++ l)
  | [], _, _, _ => trivial
  | p :: H, l, x, ⟨l1, l2, hp, h1, h2⟩ => by
    refine ⟨l1, x ++ l2, ?_, h1, h2.mono x⟩
    refine (hp.append_left x).trans ?_
    rw [← List.append_assoc, ← List.append_assoc]
    exact List.perm_append_comm.append_right l2

theorem Sat.append : ∀ {H H' : List HProp} {l l' : List Chunk}, Sat H l → Sat H' l' → Sat (H ++ H') (l ++ l')
  | [], H', l, l', h, h' => h'.mono l
  | p :: H, H', l, l', ⟨l1, l2, hp, h1, h2⟩, h' =>
    ⟨l1, l2 ++ l', by rw [← List.append_assoc]; exact hp.append_right l', h1, Sat.append h2 h'⟩

theorem Sat.split : ∀ {H H' : List HProp} {l : List Chunk}, Sat (H ++ H') l → ∃ l1 l2, l.Perm (l1 ++ l2) ∧ Sat H l1 ∧ Sat H' l2
  | [], H', l, h => ⟨[], l, .refl _, trivial, h⟩
  | p :: H, H', l, ⟨l1, l2, hp, h1, h2⟩ => by
    obtain ⟨l3, l4, hp2, h3, h4⟩ := Sat.split h2
    exact ⟨l1 ++ l3, l4, by rw [List.append_assoc]; exact hp.trans (hp2.append_left l1), ⟨l1, l3, .refl _, h1, h3⟩, h4⟩

theorem Own.mapHead {B : Heap} {p q : HProp} {H : List HProp} {σ : Heap} (o : Own B (p :: H) σ) (h : ∀ ch, p ch → q ch) : Own B (q :: H) σ := by
  obtain ⟨ch, ⟨l1, l2, hp, h1, h2⟩, h3⟩ := o.own
  exact ⟨o.base, o.size, ch, ⟨l1, l2, hp, h _ h1, h2⟩, h3⟩

section
variable {B : Heap} {H : List HProp} {p : HP}

theorem T_head {q r : HProp} (h : ∀ ch, q ch → r ch) (t : T B (r :: H) p) : T B (q :: H) p := fun σ o => t σ (o.mapHead h)

theorem T_unex {α : Sort _} {q : α → HProp} (t : ∀ x, T B (q x :: H) p) : T B (exP q :: H) p := by
  intro σ o
  obtain ⟨ch, ⟨l1, l2, hp, ⟨x, h1⟩, h2⟩, h3⟩ := o.own
  exact t x σ ⟨o.base, o.size, ch, ⟨l1, l2, hp, h1, h2⟩, h3⟩
theorem T_toex {α : Sort _} {q : α → HProp} (x : α) (t : T B (exP q :: H) p) : T B (q x :: H) p := T_head (fun _ h => ⟨x, h⟩) t
theorem T_unpure {c : Prop} {q : HProp} (t : c → T B (q :: H) p) : T B (pureP c q :: H) p := by
  intro σ o
  obtain ⟨ch, ⟨l1, l2, hp, ⟨hc, h1⟩, h2⟩, h3⟩ := o.own
  exact t hc σ ⟨o.base, o.size, ch, ⟨l1, l2, hp, h1, h2⟩, h3⟩
theorem T_topure {c : Prop} {q : HProp} (hc : c) (t : T B (pureP c q :: H) p) : T B (q :: H) p := T_head (fun _ h => ⟨hc, h⟩) t
theorem T_unpack {Hs : List HProp} (t : T B (Hs ++ H) p) : T B (packP Hs :: H) p := by
  intro σ o
  obtain ⟨ch, ⟨l1, l2, hp, h1, h2⟩, hn, hc⟩ := o.own
  have h1 : Sat Hs l1 := h1
  exact t σ ⟨o.base, o.size, ch, (h1.append h2).perm hp.symm, hn, hc⟩
theorem T_topack {Hs : List HProp} (t : T B (packP Hs :: H) p) : T B (Hs ++ H) p := by
  intro σ o
  obtain ⟨ch, h1, hn, hc⟩ := o.own
  obtain ⟨l1, l2, hp, h2, h3⟩ := Sat.split h1
  exact t σ ⟨o.base, o.size, ch, ⟨l1, l2, hp, h2, h3⟩, hn, hc⟩
end

/-- A contract of the first thing owned, at any. -/
theorem T_on {B : Heap} {H H0 : List HProp} {q q' : HProp} {p r : HP} (h : Pull q H H0) (hd : T B (q' :: H0) r → T B (q :: H0) p) (t : T B (q' :: H0) r) : T B H p := T_pull h (hd t)

section
variable {P : Program}
/-- Append where there is room. -/
theorem app_fit {B : Heap} {H : List HProp} {ats : Array TypeId} {t0 t1 elem : TypeId} {s b o l c m d : Nat} {cs : Array Value} {H' : Array Value → List HProp} [hu : UpdC H b cs H'] {q : Option Addr} {ys : List Value}
    {f : Option Addr → Nat → Nat → HP} (h0 : ats[0]? = some t0) (h1 : ats[1]? = some t1) (hu0 : P.underlying t0 = some (.slice elem)) (hu1 : sliceTy P t1 = true)
    (hi : (P.info? elem).isSome = true) (hs : P.cellsOf elem = s) (hy : RdV B H q ys) (hyl : ys.length = m * s) (hone : ∀ v ∈ ys, v.oneCell' = true) (hfit : l + m ≤ c) (hsz : o + (l + m) * s ≤ cs.size)
    (t : T B (H' (setCells cs (o + l * s) ys)) (f (some ⟨b, o, none⟩) (l + m) c)) : T B H (appS P ats (some ⟨b, o, none⟩) l c q m d f) := by
  obtain ⟨e1, hu1⟩ := sliceTy_spec hu1
  intro σ ow
  have hrd := hy σ ow
  unfold appS
  unfold Builtin.append_
  simp only [h0, h1, List.getElem?_toArray, List.getElem?_cons_zero, List.getElem?_cons_succ]
  refine semP_bind (semP_underlying hu0 ?_)
  refine semP_bind (semP_sizeOf hi ?_)
  refine semP_bind (semP_underlying hu1 ?_)
  refine semP_bind (semP_pure ?_)
  simp only [Bool.false_eq_true, if_false]
  refine semP_bind (semP_pure ?_)
  simp only [hfit, if_true, Bool.not_false]
  refine semP_bind (semP_firstCells (s := P.cellsOf elem) (n := m) (q := q) (m := m) (d := d) (ys := ys) hrd (by rw [hs]; exact hyl) ?_)
  refine semP_bind (semP_mono (fun _ σ h => semP_pure h) (semP_storeCells ys.toArray.toList 0 ?_))
  rw [add_mk, hs]
  simp only [asS_slice]
  refine T_stL ys (i := 0) (H := H) (cs := cs) ?_ hone ?_ σ ow
  · have h4 : (l + m) * s = l * s + m * s := Nat.add_mul _ _ _
    omega
  · exact t

theorem T_callV {B : Heap} {H : List HProp} {fid : FuncId} {args : Array Value} {K : Value → HP} (h : bodied P fid = true) (t : T B H (callP P fid args K)) : T B H (callV P fid args K) := by
  unfold callV; rw [h]; exact t
end

/-! ## A place of a slice whose block one owns -/
section
variable {B : Heap} {H : List HProp} {b o l i : Nat} {n : Int} {cs : Array Value}
theorem T_idxI [h : HasC B H b cs] (hn : n = (i : Int)) (hi : i < l) {k : IntKind} {x : Int} {f : Int → HP} (hc : cs[o + i]? = some (.int k x)) (t : T B H (f x)) :
    T B H (adr (some ⟨b, o, none⟩) fun a => req ((0 : Int) ≤ n ∧ n < (l : Int)) (ldI k (Addr.add a n.toNat) f)) := by
  subst hn
  refine T_adr (T_req ⟨by omega, by omega⟩ ?_)
  rw [Int.toNat_natCast, add_mk]
  exact T_ldI hc t
theorem T_idxSt {H' : Array Value → List HProp} [h : UpdC H b cs H'] (hn : n = (i : Int)) (hi : i < l) (ho : o + i < cs.size) {v : Value} {k : HP} (hv : v.oneCell' = true) (t : T B (H' (cs.setIfInBounds (o + i) v)) k) :
    T B H (adr (some ⟨b, o, none⟩) fun a => req ((0 : Int) ≤ n ∧ n < (l : Int)) (st (Addr.add a n.toNat) v k)) := by
  subst hn
  refine T_adr (T_req ⟨by omega, by omega⟩ ?_)
  rw [Int.toNat_natCast, add_mk]
  exact T_st ho hv t
end

section
variable {B : Heap} {H : List HProp} {p : Option Addr} {ys : List Value}
/-- A field of an element of a slice that came in. -/
theorem T_argFI (h : Arg B p ys) {n : Int} {l i s j : Nat} (hn : n = (i : Int)) (hl : i < l) {k : IntKind} {x : Int} {f : Int → HP} (hc : ys[i * s + j]? = some (.int k x)) (t : T B H (f x)) :
    T B H (adr p fun a => req ((0 : Int) ≤ n ∧ n < (l : Int)) (ldI k (Addr.add (Addr.add a (n.toNat * s)) j) f)) := by
  subst hn
  have hi : i * s + j < ys.length := (List.getElem?_eq_some_iff.1 hc).1
  refine T_rd_adr (h H) (by omega) fun a ha => T_req ⟨by omega, by omega⟩ ?_
  subst ha
  rw [Int.toNat_natCast, add_add]
  exact T_rdI (h H) hc t
end

theorem reps_one (v : Value) (n : Nat) : reps #[v] n = (List.replicate n v).toArray := by
  apply Array.ext'
  apply List.ext_getElem?
  intro i
  simp only [reps, Array.toList_map, List.getElem?_map]
  by_cases h : i < n
  · simp [h, Array.toList_range, Nat.mod_one]
  · simp [h, Array.toList_range]

end Go.XS
