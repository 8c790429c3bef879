/- 'CountTop': for every input the law returns true and its arguments read as before; no condition. -/
import Derived.Test.YtnhgcgjmmalebaaRows
import Derived.Test.YtnhgcgjmmalebaaCountLaw
import Derived.ProofKit
import Derived.OpenShut
import Derived.ShutString
import Derived.ChangeOld
import Derived.Below
set_option linter.unusedVariables false
namespace Go.Proofs.Ytnhgcgjmmalebaa.countTop
open Go.ChangeShapes Go.WideShapes Go.ChangeAt Go.RowKit
open Go.ChangeMaps (open_string shut_string)

theorem own : ownKnob Try.prog.godebug = none := by kernel_rfl
theorem laidOut : laidOutB Try.prog = true := by kernel_rfl

set_option maxRecDepth 100000 in
theorem walk {E : Type} {enc : TypeId × Value → E} (w : World) (a0 : Option Addr) (len0 cap0 : Nat) (css0 : List (List Value)) (l0 : len0 ≤ cap0) (m0 : cap0 ≤ maxLen) (c0 : css0.length = cap0) (r0 : ∀ c ∈ css0, c.length = Try.prog.cellsOf 46 ∧ Go.XS.Tr enc Try.prog w 46 c) (h0 : Go.XS.Arg w.heap a0 css0.flatten) :
    Calls Try.prog 6 #[.slice a0 len0 cap0] w fun e w' => e = .returned (.bool true) ∧ Below w.heap.size w w' := by
  obtain ⟨zs, hcs, hz⟩ := Go.XS.exists_map (f := fun a : Int => [Value.int .u16 a]) (q := fun a => (Lit.int .u16 a).wf = true) css0 (fun c hc => by
    have f := Go.XS.open_flat 9 (cts := [.int .u16]) (by kernel_rfl) (r0 c hc).2
    obtain ⟨a, vs, rfl, hw, f⟩ := f.int
    obtain rfl := f.nil
    exact ⟨a, rfl, hw⟩)
  subst hcs
  refine Go.XS.law_calls (law_CountTop (zs := zs) ?_ (by simp at c0; omega) (fun z h => bounds_u16 (hz z h)) Go.XS.T_fin)
  rw [Go.XS.flatten_one] at h0
  exact h0

set_option maxRecDepth 100000 in
theorem lifted (os : Os) (started : os.Started) (H : Type) (enc : TypeId × Value → H) :
    ReturnsInHanded {} Try.checked os 6 .any (Rows.countTopSpec.pre6 enc Try.prog Try.f6 Rows.countTopRow.domain false) (Rows.countTopSpec.post enc Try.prog Try.f6 false true false false) := by
  refine returnsInHanded_of_change (C := Try.checked) own started (by kernel_rfl) Try.func6
    (ChangeSpec.witness6 (enc := enc) (C := Try.checked) false ⟨#[], #[.slice none 0 0], []⟩ 8 (by kernel_rfl) (by kernel_rfl) (by kernel_rfl) (by kernel_rfl)) ?_
  intro W base args ds gs before hval0 hW hcnd _
  have hval : ∀ (j : Nat) t v, Try.f6.params[j]? = some t → args[j]? = some v → Value.okWide Try.prog W .any base t v := hval0
  have hW' := hW
  obtain ⟨p, q, hA0, hV, rfl, hfz, hnd⟩ := hW
  have hA : DataW.TrodAll enc Try.prog W 0 (fun _ => true) true Try.f6.params.toList args.toList ds p := hA0
  rw [Try.params6] at hA hval
  obtain ⟨v0, vs0, d0, ds0, p0, q0, hargs, rfl, rfl, h0, r0_⟩ := trodAll_cons hA
  obtain ⟨rfl, rfl, rfl⟩ := trodAll_nil r0_
  obtain rfl : args = #[v0] := by cases args; simp_all
  obtain ⟨rfl, rfl⟩ := trodVars_none hV
  have lt0 : ∀ x ∈ p0, x.block < W.heap.size := by obtain ⟨m, hm⟩ := h0; exact DataW.trod_lt m _ _ _ hm
  obtain ⟨a0, len0, cap0, rfl⟩ := okWide_slice Try.underlying45 (hval 0 45 v0 rfl rfl)
  obtain ⟨⟨_, _, _, css0, he0, l0, m0, c0, r0, g0⟩, _⟩ := Go.XS.open_sl (cs := [.slice a0 len0 cap0]) Try.underlying45 (Go.XS.Tr.of h0)
  obtain ⟨rfl, rfl, rfl⟩ := Value.slice.inj he0
  clear hA0 hval0
  refine (walk (enc := enc) W a0 len0 cap0 css0 l0 m0 c0 r0 g0).mono fun e W' ⟨he, bel⟩ => ?_
  subst he
  exact ⟨_, rfl, _, _, _, [], _, [], hW', trodAll_mk1 (shut_bool Try.underlying4 _), (trodAll_cons_mk (Below.trod laidOut (by kernel_rfl) (of_decide_eq_true (by kernel_rfl)) h0 bel lt0) trodAll_mk0), rfl, bel.frame _, fun h => by cases h⟩

theorem over : Rows.countTopRow.holds Try.pinned (OpenSpec.ofChange Rows.countTopSpec) :=
  OpenClaim.holds_of_wide 6 Try.f6 rfl rfl rfl rfl rfl rfl rfl ⟨rfl, rfl, rfl, rfl, rfl⟩ rfl rfl rfl rfl rfl (by kernel_rfl) Try.func6 (by kernel_rfl)
    (of_decide_eq_true (by kernel_rfl)) (by unfold Func.isWrapper; first | (rw [if_pos (by decide +kernel)]; kernel_rfl) | (rw [if_neg (by decide +kernel)]; exact ⟨rfl, rfl⟩))
    (fun os started H enc _ => lifted os started H enc)

theorem proved : Rows.CountTopSaid := over
#print axioms proved
end Go.Proofs.Ytnhgcgjmmalebaa.countTop
