/- 'MarkParts': for every input the law returns true and its arguments read as before; no condition. -/
import Derived.Test.YtjffekopjfchnaaRows
import Derived.Test.YtjffekopjfchnaaMarkLaw
import Derived.ProofKit
import Derived.OpenShut
import Derived.ShutString
import Derived.ChangeOld
import Derived.Below
set_option linter.unusedVariables false
namespace Go.Proofs.Ytjffekopjfchnaa.markParts
open Go.ChangeShapes Go.WideShapes Go.ChangeAt Go.RowKit
open Go.ChangeMaps (open_string shut_string)

theorem own : ownKnob Try.prog.godebug = none := by kernel_rfl
theorem laidOut : laidOutB Try.prog = true := by kernel_rfl

set_option maxRecDepth 100000 in
theorem walk {E : Type} {enc : TypeId × Value → E} (w : World) (a0 : Option Addr) (len0 cap0 : Nat) (css0 : List (List Value)) (l0 : len0 ≤ cap0) (m0 : cap0 ≤ maxLen) (c0 : css0.length = cap0) (r0 : ∀ c ∈ css0, c.length = Try.prog.cellsOf 26 ∧ Go.XS.Tr enc Try.prog w 26 c) (h0 : Go.XS.Arg w.heap a0 css0.flatten) :
    Calls Try.prog 3 #[.slice a0 len0 cap0] w fun e w' => e = .returned (.bool true) ∧ Below w.heap.size w w' := by
  obtain ⟨rs, hcs, hrs⟩ := Go.XS.exists_map (f := fun r : Option Addr × Nat × Nat × List Int => [Value.slice r.1 r.2.1 r.2.2.1]) (q := fun r => Go.XS.Arg w.heap r.1 (Go.XS.iv .i64 r.2.2.2) ∧ r.2.1 ≤ r.2.2.2.length) css0 (fun c hc => by
    have f := Go.XS.open_flat 9 (t := 26) (cts := [.sl 3]) (by kernel_rfl) (r0 c hc).2
    obtain ⟨a, len, cap, css, vs, rfl, hl, hm, hcl, hr, ha, f⟩ := f.sl
    obtain rfl := f.nil
    obtain ⟨zs, rfl, _⟩ := Go.XS.exists_map (f := fun n : Int => [Value.int .i64 n]) (q := fun _ => True) css (fun c hc => by
      have f := Go.XS.open_flat 9 (t := 3) (cts := [.int .i64]) (by kernel_rfl) (hr c hc).2
      obtain ⟨n, vs, rfl, _, f⟩ := f.int
      obtain rfl := f.nil
      exact ⟨n, rfl, trivial⟩)
    refine ⟨(a, len, cap, zs), rfl, ?_, by simp at hcl; simp only; omega⟩
    rw [Go.XS.flatten_one] at ha
    exact ha)
  subst hcs
  refine Go.XS.law_calls (law_MarkParts (rs := rs) ?_ (by simp at c0; omega) hrs Go.XS.T_fin)
  rw [Go.XS.flatten_one] at h0
  exact h0

set_option maxRecDepth 100000 in
theorem lifted (os : Os) (started : os.Started) (H : Type) (enc : TypeId × Value → H) :
    ReturnsInHanded {} Try.checked os 3 .any (Rows.markPartsSpec.pre6 enc Try.prog Try.f3 Rows.markPartsRow.domain false) (Rows.markPartsSpec.post enc Try.prog Try.f3 false true false false) := by
  refine returnsInHanded_of_change (C := Try.checked) own started (by kernel_rfl) Try.func3
    (ChangeSpec.witness6 (enc := enc) (C := Try.checked) false ⟨#[], #[.slice none 0 0], []⟩ 8 (by kernel_rfl) (by kernel_rfl) (by kernel_rfl) (by kernel_rfl)) ?_
  intro W base args ds gs before hval0 hW hcnd _
  have hval : ∀ (j : Nat) t v, Try.f3.params[j]? = some t → args[j]? = some v → Value.okWide Try.prog W .any base t v := hval0
  have hW' := hW
  obtain ⟨p, q, hA0, hV, rfl, hfz, hnd⟩ := hW
  have hA : DataW.TrodAll enc Try.prog W 0 (fun _ => true) true Try.f3.params.toList args.toList ds p := hA0
  rw [Try.params3] at hA hval
  obtain ⟨v0, vs0, d0, ds0, p0, q0, hargs, rfl, rfl, h0, r0_⟩ := trodAll_cons hA
  obtain ⟨rfl, rfl, rfl⟩ := trodAll_nil r0_
  obtain rfl : args = #[v0] := by cases args; simp_all
  obtain ⟨rfl, rfl⟩ := trodVars_none hV
  have lt0 : ∀ x ∈ p0, x.block < W.heap.size := by obtain ⟨m, hm⟩ := h0; exact DataW.trod_lt m _ _ _ hm
  obtain ⟨a0, len0, cap0, rfl⟩ := okWide_slice Try.underlying22 (hval 0 22 v0 rfl rfl)
  obtain ⟨⟨_, _, _, css0, he0, l0, m0, c0, r0, g0⟩, _⟩ := Go.XS.open_sl (cs := [.slice a0 len0 cap0]) Try.underlying22 (Go.XS.Tr.of h0)
  obtain ⟨rfl, rfl, rfl⟩ := Value.slice.inj he0
  clear hA0 hval0
  refine (walk W a0 len0 cap0 css0 l0 m0 c0 r0 g0).mono fun e W' ⟨he, bel⟩ => ?_
  subst he
  exact ⟨_, rfl, _, _, _, [], _, [], hW', trodAll_mk1 (shut_bool Try.underlying4 _), (trodAll_cons_mk (Below.trod laidOut (by kernel_rfl) (of_decide_eq_true (by kernel_rfl)) h0 bel lt0) trodAll_mk0), rfl, bel.frame _, fun h => by cases h⟩

theorem over : Rows.markPartsRow.holds Try.pinned (OpenSpec.ofChange Rows.markPartsSpec) :=
  OpenClaim.holds_of_wide 3 Try.f3 rfl rfl rfl rfl rfl rfl rfl ⟨rfl, rfl, rfl, rfl, rfl⟩ rfl rfl rfl rfl rfl (by kernel_rfl) Try.func3 (by kernel_rfl)
    (of_decide_eq_true (by kernel_rfl)) (by unfold Func.isWrapper; first | (rw [if_pos (by decide +kernel)]; kernel_rfl) | (rw [if_neg (by decide +kernel)]; exact ⟨rfl, rfl⟩))
    (fun os started H enc _ => lifted os started H enc)

theorem proved : Rows.MarkPartsSaid := over
#print axioms proved
end Go.Proofs.Ytjffekopjfchnaa.markParts
