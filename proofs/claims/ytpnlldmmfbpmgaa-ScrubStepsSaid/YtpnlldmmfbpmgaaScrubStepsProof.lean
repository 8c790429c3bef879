/- 'ScrubSteps': for every input the law returns true and its arguments read as before; no condition. -/
import Derived.Test.YtpnlldmmfbpmgaaRows
import Derived.Test.YtpnlldmmfbpmgaaScrubLaw
import Derived.ProofKit
import Derived.OpenShut
import Derived.ShutString
import Derived.ChangeOld
import Derived.Below
set_option linter.unusedVariables false
namespace Go.Proofs.Ytpnlldmmfbpmgaa.scrubSteps
open Go.ChangeShapes Go.WideShapes Go.ChangeAt Go.RowKit
open Go.ChangeMaps (open_string shut_string)

theorem own : ownKnob Try.prog.godebug = none := by kernel_rfl
theorem laidOut : laidOutB Try.prog = true := by kernel_rfl

set_option maxRecDepth 100000 in
theorem walk {E : Type} {enc : TypeId × Value → E} (w : World) (a0 : Int) (w0 : (Lit.int .i64 a0).wf = true) (a1 : Option Addr) (len1 cap1 : Nat) (css1 : List (List Value)) (l1 : len1 ≤ cap1) (m1 : cap1 ≤ maxLen) (c1 : css1.length = cap1) (r1 : ∀ c ∈ css1, c.length = Try.prog.cellsOf 3 ∧ Go.XS.Tr enc Try.prog w 3 c) (h1 : Go.XS.Arg w.heap a1 css1.flatten) (a2 : Int) (w2 : (Lit.int .u16 a2).wf = true) :
    Calls Try.prog 11 #[.int .i64 a0, .slice a1 len1 cap1, .int .u16 a2] w fun e w' => e = .returned (.bool true) ∧ Below w.heap.size w w' := by
  have hb2 := bounds_u16 w2
  obtain ⟨zs, hcs, hz⟩ := Go.XS.exists_map (f := fun a : Int => [Value.int .i64 a]) (q := fun _ => True) css1 (fun c hc => by
    have f := Go.XS.open_flat 9 (cts := [.int .i64]) (by kernel_rfl) (r1 c hc).2
    obtain ⟨a, vs, rfl, hw, f⟩ := f.int
    obtain rfl := f.nil
    exact ⟨a, rfl, trivial⟩)
  subst hcs
  refine Go.XS.law_calls (law_ScrubSteps (zs := zs) ?_ (by simp at c1; omega) hb2.1 hb2.2 Go.XS.T_fin)
  rw [Go.XS.flatten_one] at h1
  exact h1

set_option maxRecDepth 100000 in
theorem lifted (os : Os) (started : os.Started) (H : Type) (enc : TypeId × Value → H) :
    ReturnsInHanded {} Try.checked os 11 .any (Rows.scrubStepsSpec.pre6 enc Try.prog Try.f11 Rows.scrubStepsRow.domain false) (Rows.scrubStepsSpec.post enc Try.prog Try.f11 false true false false) := by
  refine returnsInHanded_of_change (C := Try.checked) own started (by kernel_rfl) Try.func11
    (ChangeSpec.witness6 (enc := enc) (C := Try.checked) false ⟨#[], #[.int .i64 0, .slice none 0 0, .int .u16 0], []⟩ 8 (by kernel_rfl) (by kernel_rfl) (by kernel_rfl) (by kernel_rfl)) ?_
  intro W base args ds gs before hval0 hW hcnd _
  have hval : ∀ (j : Nat) t v, Try.f11.params[j]? = some t → args[j]? = some v → Value.okWide Try.prog W .any base t v := hval0
  have hW' := hW
  obtain ⟨p, q, hA0, hV, rfl, hfz, hnd⟩ := hW
  have hA : DataW.TrodAll enc Try.prog W 0 (fun _ => true) true Try.f11.params.toList args.toList ds p := hA0
  rw [Try.params11] at hA hval
  obtain ⟨v0, vs0, d0, ds0, p0, q0, hargs, rfl, rfl, h0, r0_⟩ := trodAll_cons hA
  obtain ⟨v1, vs1, d1, ds1, p1, q1, rfl, rfl, rfl, h1, r1_⟩ := trodAll_cons r0_
  obtain ⟨v2, vs2, d2, ds2, p2, q2, rfl, rfl, rfl, h2, r2_⟩ := trodAll_cons r1_
  obtain ⟨rfl, rfl, rfl⟩ := trodAll_nil r2_
  obtain rfl : args = #[v0, v1, v2] := by cases args; simp_all
  obtain ⟨rfl, rfl⟩ := trodVars_none hV
  obtain ⟨a0, rfl, rfl, rfl, w0⟩ := open_int Try.underlying3 (hval 0 3 v0 rfl rfl) h0
  have lt1 : ∀ x ∈ p1, x.block < W.heap.size := by obtain ⟨m, hm⟩ := h1; exact DataW.trod_lt m _ _ _ hm
  obtain ⟨a1, len1, cap1, rfl⟩ := okWide_slice Try.underlying34 (hval 1 34 v1 rfl rfl)
  obtain ⟨⟨_, _, _, css1, he1, l1, m1, c1, r1, g1⟩, _⟩ := Go.XS.open_sl (cs := [.slice a1 len1 cap1]) Try.underlying34 (Go.XS.Tr.of h1)
  obtain ⟨rfl, rfl, rfl⟩ := Value.slice.inj he1
  obtain ⟨a2, rfl, rfl, rfl, w2⟩ := open_int Try.underlying45 (hval 2 45 v2 rfl rfl) h2
  clear hA0 hval0
  refine (walk (enc := enc) W a0 w0 a1 len1 cap1 css1 l1 m1 c1 r1 g1 a2 w2).mono fun e W' ⟨he, bel⟩ => ?_
  subst he
  exact ⟨_, rfl, _, _, _, [], _, [], hW', trodAll_mk1 (shut_bool Try.underlying4 _), (trodAll_cons_mk (shut_int Try.underlying3 w0) (trodAll_cons_mk (Below.trod laidOut (by kernel_rfl) (of_decide_eq_true (by kernel_rfl)) h1 bel lt1) (trodAll_cons_mk (shut_int Try.underlying45 w2) trodAll_mk0))), rfl, bel.frame _, fun h => by cases h⟩

theorem over : Rows.scrubStepsRow.holds Try.pinned (OpenSpec.ofChange Rows.scrubStepsSpec) :=
  OpenClaim.holds_of_wide 11 Try.f11 rfl rfl rfl rfl rfl rfl rfl ⟨rfl, rfl, rfl, rfl, rfl⟩ rfl rfl rfl rfl rfl (by kernel_rfl) Try.func11 (by kernel_rfl)
    (of_decide_eq_true (by kernel_rfl)) (by unfold Func.isWrapper; first | (rw [if_pos (by decide +kernel)]; kernel_rfl) | (rw [if_neg (by decide +kernel)]; exact ⟨rfl, rfl⟩))
    (fun os started H enc _ => lifted os started H enc)

theorem proved : Rows.ScrubStepsSaid := over
#print axioms proved
end Go.Proofs.Ytpnlldmmfbpmgaa.scrubSteps
