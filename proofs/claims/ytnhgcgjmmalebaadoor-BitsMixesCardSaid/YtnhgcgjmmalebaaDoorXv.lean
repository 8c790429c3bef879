/- Fields of a slice's elements, read and stored: each rule is proved; no condition. -/
import Derived.Test.YtnhgcgjmmalebaaDoorXu
set_option linter.unusedVariables false
set_option linter.unusedSimpArgs false
namespace Go.XS

section
variable {P : Program} {B : Heap} {H : List HProp}

theorem T_rowFI {p : Option Addr} {ys : List Value} (h : RdV B H p ys) {n : Int} {l i s j : Nat} (hn : n = (i : Int)) (hl : i < l) {k : IntKind} {x : Int} {f : Int → HP} (hc : ys[i * s + j]? = some (.int k x)) (t : T B H (f x)) :
    T B H (adr p fun a => req ((0 : Int) ≤ n ∧ n < (l : Int)) (ldI k (Addr.add (Addr.add a (n.toNat * s)) j) f)) := by
  subst hn
  have hi : i * s + j < ys.length := (List.getElem?_eq_some_iff.1 hc).1
  refine T_rd_adr h (by omega) fun a ha => T_req ⟨by omega, by omega⟩ ?_
  subst ha
  rw [Int.toNat_natCast, add_add]
  exact T_rdI h hc t

/-- A field of an element of an owned slice is stored anew. -/
theorem T_oslStF {q : Option Addr} {s l c i j : Nat} {n : Int} {xs : List Value} {v : Value} {k : HP} (hn : n = (i : Int)) (hi : i < l) (hj : i * s + j < xs.length) (hv : v.oneCell' = true)
    (t : T B (osl s q l c (xs.set (i * s + j) v) :: H) k) : T B (osl s q l c xs :: H) (adr q fun a => req ((0 : Int) ≤ n ∧ n < (l : Int)) (st (Addr.add (Addr.add a (n.toNat * s)) j) v k)) := by
  subst hn
  refine T_oslCases (fun h0 h1 h2 h3 => by omega) fun b rest hq hx hlc hlen => ?_
  subst hq
  refine T_adr (T_req ⟨by omega, by omega⟩ ?_)
  rw [Int.toNat_natCast, add_mk, add_mk]
  refine T_st (by simp; omega) hv ?_
  intro σ o
  obtain ⟨ch, ⟨l1, l2, hp, h1, h2⟩, h3⟩ := o.own
  refine t σ ⟨o.base, o.size, ch, ⟨l1, l2, hp, ⟨by simpa using hx, hlc, .inr ⟨b, rest, rfl, by simpa using hlen, ?_⟩⟩, h2⟩, h3⟩
  have e : (xs ++ rest).toArray.setIfInBounds (0 + i * s + j) v = (xs.set (i * s + j) v ++ rest).toArray := by
    simp only [Nat.zero_add, List.setIfInBounds_toArray]
    rw [List.set_append_left _ _ (by omega)]
  rw [e] at h1
  exact h1
end
end Go.XS
