/- 'CountPlays': for every input the law returns true and its arguments read as before; no condition. -/
import Derived.Test.YtnhgcgjmmalebaaRows
import Derived.Test.YtnhgcgjmmalebaaCountPlaysLaw
import Derived.ProofKit
import Derived.OpenShut
import Derived.ShutString
import Derived.ChangeOld
import Derived.Below
set_option linter.unusedVariables false
namespace Go.Proofs.Ytnhgcgjmmalebaa.countPlays
open Go.ChangeShapes Go.WideShapes Go.ChangeAt Go.RowKit
open Go.ChangeMaps (open_string shut_string)

theorem own : ownKnob Try.prog.godebug = none := by kernel_rfl
theorem laidOut : laidOutB Try.prog = true := by kernel_rfl

set_option maxRecDepth 100000 in
theorem walk {E : Type} {enc : TypeId × Value → E} (w : World) (a0 : Int) (w0 : (Lit.int .i64 a0).wf = true) (a1 : Option Addr) (len1 cap1 : Nat) (css1 : List (List Value)) (l1 : len1 ≤ cap1) (m1 : cap1 ≤ maxLen) (c1 : css1.length = cap1) (r1 : ∀ c ∈ css1, c.length = Try.prog.cellsOf 37 ∧ Go.XS.Tr enc Try.prog w 37 c) (h1 : Go.XS.Arg w.heap a1 css1.flatten) :
    Calls Try.prog 4 #[.int .i64 a0, .slice a1 len1 cap1] w fun e w' => e = .returned (.bool true) ∧ Below w.heap.size w w' := by
  obtain ⟨acts, hcs, _⟩ := Go.XS.exists_map (f := pairV) (q := fun _ => True) css1 (fun c hc => by
    have f := Go.XS.open_flat 9 (cts := [.int .i64, .int .i64]) (by kernel_rfl) (r1 c hc).2
    obtain ⟨a, vs, rfl, _, f⟩ := f.int
    obtain ⟨b, vs, rfl, _, f⟩ := f.int
    obtain rfl := f.nil
    exact ⟨(a, b), rfl, trivial⟩)
  subst hcs
  refine Go.XS.law_calls (law_CountPlays (acts := acts) ?_ (by simp at c1; omega) Go.XS.T_fin)
  rw [← List.flatMap_def] at h1
  exact h1

set_option maxRecDepth 100000 in
theorem lifted (os : Os) (started : os.Started) (H : Type) (enc : TypeId × Value → H) :
    ReturnsInHanded {} Try.checked os 4 .any (Rows.countPlaysSpec.pre6 enc Try.prog Try.f4 Rows.countPlaysRow.domain false) (Rows.countPlaysSpec.post enc Try.prog Try.f4 false true false false) := by
  refine returnsInHanded_of_change (C := Try.checked) own started (by kernel_rfl) Try.func4
    (ChangeSpec.witness6 (enc := enc) (C := Try.checked) false ⟨#[], #[.int .i64 0, .slice none 0 0], []⟩ 8 (by kernel_rfl) (by kernel_rfl) (by kernel_rfl) (by kernel_rfl)) ?_
  intro W base args ds gs before hval0 hW hcnd _
  have hval : ∀ (j : Nat) t v, Try.f4.params[j]? = some t → args[j]? = some v → Value.okWide Try.prog W .any base t v := hval0
  have hW' := hW
  obtain ⟨p, q, hA0, hV, rfl, hfz, hnd⟩ := hW
  have hA : DataW.TrodAll enc Try.prog W 0 (fun _ => true) true Try.f4.params.toList args.toList ds p := hA0
  rw [Try.params4] at hA hval
  obtain ⟨v0, vs0, d0, ds0, p0, q0, hargs, rfl, rfl, h0, r0_⟩ := trodAll_cons hA
  obtain ⟨v1, vs1, d1, ds1, p1, q1, rfl, rfl, rfl, h1, r1_⟩ := trodAll_cons r0_
  obtain ⟨rfl, rfl, rfl⟩ := trodAll_nil r1_
  obtain rfl : args = #[v0, v1] := by cases args; simp_all
  obtain ⟨rfl, rfl⟩ := trodVars_none hV
  obtain ⟨a0, rfl, rfl, rfl, w0⟩ := open_int Try.underlying3 (hval 0 3 v0 rfl rfl) h0
  have lt1 : ∀ x ∈ p1, x.block < W.heap.size := by obtain ⟨m, hm⟩ := h1; exact DataW.trod_lt m _ _ _ hm
  obtain ⟨a1, len1, cap1, rfl⟩ := okWide_slice Try.underlying30 (hval 1 30 v1 rfl rfl)
  obtain ⟨⟨_, _, _, css1, he1, l1, m1, c1, r1, g1⟩, _⟩ := Go.XS.open_sl (cs := [.slice a1 len1 cap1]) Try.underlying30 (Go.XS.Tr.of h1)
  obtain ⟨rfl, rfl, rfl⟩ := Value.slice.inj he1
  clear hA0 hval0
  refine (walk (enc := enc) W a0 w0 a1 len1 cap1 css1 l1 m1 c1 r1 g1).mono fun e W' ⟨he, bel⟩ => ?_
  subst he
  exact ⟨_, rfl, _, _, _, [], _, [], hW', trodAll_mk1 (shut_bool Try.underlying4 _), (trodAll_cons_mk (shut_int Try.underlying3 w0) (trodAll_cons_mk (Below.trod laidOut (by kernel_rfl) (of_decide_eq_true (by kernel_rfl)) h1 bel lt1) trodAll_mk0)), rfl, bel.frame _, fun h => by cases h⟩

theorem over : Rows.countPlaysRow.holds Try.pinned (OpenSpec.ofChange Rows.countPlaysSpec) :=
  OpenClaim.holds_of_wide 4 Try.f4 rfl rfl rfl rfl rfl rfl rfl ⟨rfl, rfl, rfl, rfl, rfl⟩ rfl rfl rfl rfl rfl (by kernel_rfl) Try.func4 (by kernel_rfl)
    (of_decide_eq_true (by kernel_rfl)) (by unfold Func.isWrapper; first | (rw [if_pos (by decide +kernel)]; kernel_rfl) | (rw [if_neg (by decide +kernel)]; exact ⟨rfl, rfl⟩))
    (fun os started H enc _ => lifted os started H enc)

theorem proved : Rows.CountPlaysSaid := over
#print axioms proved
end Go.Proofs.Ytnhgcgjmmalebaa.countPlays
