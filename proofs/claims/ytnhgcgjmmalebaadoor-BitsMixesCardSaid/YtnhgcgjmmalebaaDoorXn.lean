/- A law's arguments that are slices, and contracts at a block that is not the first: each rule is proved; no condition. -/
import Derived.Test.YtnhgcgjmmalebaaDoorXm
set_option linter.unusedVariables false
set_option linter.unusedSimpArgs false
namespace Go.XS

/-- A contract of the first block, at any block. -/
theorem T_at {B : Heap} {H : List HProp} {b : Nat} {cs cs' : Array Value} {H' : Array Value → List HProp} [h : UpdC H b cs H'] {p q : HP}
    (hd : ∀ H0, T B (cl b cs' :: H0) q → T B (cl b cs :: H0) p) (t : T B (H' cs') q) : T B H p := by
  obtain ⟨H0, h1, h2⟩ := h.perm
  exact T_perm h1 (hd H0 (T_perm (h2 cs').symm t))

/-- Whatever one owns: through 'p' these cells are read. -/
def Arg (B : Heap) (p : Option Addr) (ys : List Value) : Prop := ∀ H, RdV B H p ys

theorem Arg.take {B : Heap} {p : Option Addr} {ys : List Value} (h : Arg B p ys) (n : Nat) (hn : n ≤ ys.length) : Arg B p (ys.take n) := fun H => (h H).take n hn

def iv (k : IntKind) (zs : List Int) : List Value := zs.map (.int k)
@[simp] theorem iv_length (k : IntKind) (zs : List Int) : (iv k zs).length = zs.length := by simp [iv]
theorem iv_get {k : IntKind} {zs : List Int} {i : Nat} {z : Int} (h : zs[i]? = some z) : (iv k zs)[i]? = some (.int k z) := by simp [iv, h]

/-- A slice of integers that came in: nil, or a row of 'cap' cells. -/
def IsRow (k : IntKind) (w : World) (a : Option Addr) (len cap : Nat) (zs : List Int) : Prop :=
  (a = none ∧ len = 0 ∧ cap = 0 ∧ zs = []) ∨
  ∃ x, a = some x ∧ len ≤ cap ∧ cap ≤ maxLen ∧ zs.length = cap ∧ (∀ i, i < zs.length → w.cell? (x.add i) = some (.int k (zs.getD i 0))) ∧ ∀ n ∈ zs, (Lit.int k n).wf = true

theorem IsRow.arg {k : IntKind} {w : World} {a : Option Addr} {len cap : Nat} {zs : List Int} (h : IsRow k w a len cap zs) : Arg w.heap a (iv k zs) := by
  rcases h with ⟨rfl, _, _, rfl⟩ | ⟨x, rfl, _, _, _, hc, _⟩
  · exact fun H => RdV.nil
  · refine fun H => RdV.of_base (fun i hi => ?_) H
    simp only [iv_length] at hi
    have h1 : hcell w.heap (x.add i) = some (.int k (zs.getD i 0)) := hc i hi
    rw [h1, iv, List.getElem?_map, List.getElem?_eq_getElem hi]
    simp [List.getD, List.getElem?_eq_getElem hi]
theorem IsRow.len {k : IntKind} {w : World} {a : Option Addr} {len cap : Nat} {zs : List Int} (h : IsRow k w a len cap zs) : zs.length = cap ∧ len ≤ cap := by
  rcases h with ⟨rfl, rfl, rfl, rfl⟩ | ⟨x, rfl, h, _, h2, _, _⟩
  · exact ⟨rfl, Nat.le_refl _⟩
  · exact ⟨h2, h⟩
theorem IsRow.wf {k : IntKind} {w : World} {a : Option Addr} {len cap : Nat} {zs : List Int} (h : IsRow k w a len cap zs) : ∀ n ∈ zs, (Lit.int k n).wf = true := by
  rcases h with ⟨rfl, rfl, rfl, rfl⟩ | ⟨x, rfl, _, _, _, _, h⟩
  · simp
  · exact h

section
variable {B : Heap} {H : List HProp} {p : Option Addr} {ys : List Value}
theorem T_argI (h : Arg B p ys) {n : Int} {l i : Nat} (hn : n = (i : Int)) (hl : i < l) {k : IntKind} {x : Int} {f : Int → HP} (hc : ys[i]? = some (.int k x)) (t : T B H (f x)) :
    T B H (adr p fun a => req ((0 : Int) ≤ n ∧ n < (l : Int)) (ldI k (Addr.add a n.toNat) f)) := by
  subst hn
  have hi : i < ys.length := (List.getElem?_eq_some_iff.1 hc).1
  refine T_rd_adr (h H) (by omega) fun a ha => T_req ⟨by omega, by omega⟩ ?_
  subst ha
  rw [Int.toNat_natCast]
  exact T_rdI (h H) hc t
theorem T_argS (h : Arg B p ys) {n : Int} {l i : Nat} (hn : n = (i : Int)) (hl : i < l) {q : Option Addr} {m d : Nat} {f : Option Addr → Nat → Nat → HP} (hc : ys[i]? = some (.slice q m d)) (t : T B H (f q m d)) :
    T B H (adr p fun a => req ((0 : Int) ≤ n ∧ n < (l : Int)) (ldS (Addr.add a n.toNat) f)) := by
  subst hn
  have hi : i < ys.length := (List.getElem?_eq_some_iff.1 hc).1
  refine T_rd_adr (h H) (by omega) fun a ha => T_req ⟨by omega, by omega⟩ ?_
  subst ha
  rw [Int.toNat_natCast]
  exact T_rdS (h H) hc t
end

theorem slBase_zero (p : Option Addr) (s c : Nat) : slBase p s 0 c = p := by
  unfold slBase
  split
  · rfl
  · cases p with
    | none => rfl
    | some a => simp [Addr.add]

theorem wrap_i64 {n : Int} (h0 : -9223372036854775808 ≤ n) (h1 : n ≤ 9223372036854775807) : IntKind.wrap .i64 n = n := IntWalk.i64_in n ⟨h0, h1⟩
theorem wrap_succ {i : Nat} (h : i < 1000000000000) : IntKind.wrap .i64 ((i : Int) + 1) = ((i + 1 : Nat) : Int) := by
  rw [wrap_i64 (by omega) (by omega)]; omega

end Go.XS
