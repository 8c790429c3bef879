/- Slices of flat structs that came in: an element, whole; each rule is proved; no condition. -/
import Derived.Test.YtnhgcgjmmalebaaDoorXr
set_option linter.unusedVariables false
set_option linter.unusedSimpArgs false
namespace Go.XS

theorem flat_get {α : Type} {f : α → List Value} {s : Nat} (hf : ∀ a, (f a).length = s) : ∀ (rs : List α) (i : Nat) (a : α), rs[i]? = some a → ∀ j, j < s → (rs.flatMap f)[i * s + j]? = (f a)[j]?
  | [], i, a, h, j, hj => by simp at h
  | b :: rs, 0, a, h, j, hj => by
    simp at h; subst h
    have := hf b
    simp [List.getElem?_append, this, hj]
  | b :: rs, i + 1, a, h, j, hj => by
    have h1 := flat_get hf rs i a (by simpa using h) j hj
    have h2 := hf b
    rw [List.flatMap_cons, List.getElem?_append_right (by rw [h2, Nat.add_mul]; omega), h2, ← h1]
    congr 1
    rw [Nat.add_mul]; omega
theorem flat_len {α : Type} {f : α → List Value} {s : Nat} (hf : ∀ a, (f a).length = s) (rs : List α) : (rs.flatMap f).length = rs.length * s := by
  induction rs with
  | nil => simp
  | cons a rs ih => rw [List.flatMap_cons, List.length_append, ih, hf, List.length_cons, Nat.add_mul]; omega

section
variable {B : Heap} {H : List HProp}

/-- Element i of a slice of structs that came in, whole. -/
theorem T_argAI {p : Option Addr} {α : Type} {f : α → List Value} {s : Nat} (hf : ∀ a, (f a).length = s) (hs : 0 < s) {rs : List α} (h : Arg B p (rs.flatMap f)) {n : Int} {l i : Nat} (hn : n = (i : Int)) (hl : i < l) {a : α} (ha : rs[i]? = some a)
    {k : Array Value → HP} (t : T B H (k (f a).toArray)) : T B H (adr p fun x => req ((0 : Int) ≤ n ∧ n < (l : Int)) (ldA (Addr.add x (n.toNat * s)) s k)) := by
  subst hn
  have hi : i < rs.length := (List.getElem?_eq_some_iff.1 ha).1
  have hm : i * s + s ≤ rs.length * s := by rw [← Nat.succ_mul]; exact Nat.mul_le_mul_right s hi
  refine T_rd_adr (h H) (by rw [flat_len hf]; omega) fun x hx => T_req ⟨by omega, by omega⟩ ?_
  subst hx
  rw [Int.toNat_natCast]
  refine T_rdA (h H) (f a).toArray (by simp [hf]) (by rw [flat_len hf]; exact hm) (fun j hj => ?_) t
  rw [flat_get hf rs i a ha j hj]
  simp

theorem T_andRd {ys : List Value} {q : Option Addr} {a : Addr} {i : Nat} {v : Value} {p : HP} (hr : RdV B H q ys) (hq : q = some a) (hc : ys[i]? = some v) (t : T B H p) : T B H (andH (fun σ => hcell σ (a.add i) = some v) p) := by
  subst hq
  refine T_andH (fun σ o => ?_) t
  have hi : i < ys.length := (List.getElem?_eq_some_iff.1 hc).1
  rcases hr σ o with ⟨h, _⟩ | ⟨a', h, hh⟩
  · cases h
  · cases h
    exact (hh i hi).trans hc

end
end Go.XS
