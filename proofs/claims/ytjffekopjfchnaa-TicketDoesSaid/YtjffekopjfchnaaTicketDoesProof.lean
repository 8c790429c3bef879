/- 'TicketDoes': for every input the law returns true and its arguments read as before; no condition. -/
import Derived.Test.YtjffekopjfchnaaRows
import Derived.Test.YtjffekopjfchnaaTicketLaw
import Derived.ProofKit
import Derived.OpenShut
import Derived.ShutString
import Derived.ChangeOld
import Derived.Below
set_option linter.unusedVariables false
namespace Go.Proofs.Ytjffekopjfchnaa.ticketDoes
open Go.ChangeShapes Go.WideShapes Go.ChangeAt Go.RowKit
open Go.ChangeMaps (open_string shut_string)

theorem own : ownKnob Try.prog.godebug = none := by kernel_rfl
theorem laidOut : laidOutB Try.prog = true := by kernel_rfl

set_option maxRecDepth 100000 in
theorem walk {E : Type} {enc : TypeId × Value → E} (w : World) (cs0 : Array Value) (f0 : Go.XS.Fits enc Try.prog w [.int .i64, .int .i64, .int .i64, .int .i64, .int .i64] cs0.toList) (cs1 : Array Value) (f1 : Go.XS.Fits enc Try.prog w [.int .i64, .int .i64, .int .i64] cs1.toList) :
    Calls Try.prog 6 #[.agg cs0, .agg cs1] w fun e w' => e = .returned (.bool true) ∧ Below w.heap.size w w' := by
  obtain ⟨l0, rfl, f0⟩ := f0.arr
  obtain ⟨a, _, rfl, _, f0⟩ := f0.int
  obtain ⟨b, _, rfl, _, f0⟩ := f0.int
  obtain ⟨c, _, rfl, _, f0⟩ := f0.int
  obtain ⟨d, _, rfl, _, f0⟩ := f0.int
  obtain ⟨e, _, rfl, _, f0⟩ := f0.int
  obtain rfl := f0.nil
  obtain ⟨l1, rfl, f1⟩ := f1.arr
  obtain ⟨x, _, rfl, _, f1⟩ := f1.int
  obtain ⟨y, _, rfl, _, f1⟩ := f1.int
  obtain ⟨z, _, rfl, _, f1⟩ := f1.int
  obtain rfl := f1.nil
  exact Go.XS.law_calls (law_TicketDoes (t := ⟨a, b, c, d, e⟩) Go.XS.T_fin)

set_option maxRecDepth 100000 in
theorem lifted (os : Os) (started : os.Started) (H : Type) (enc : TypeId × Value → H) :
    ReturnsInHanded {} Try.checked os 6 .any (Rows.ticketDoesSpec.pre6 enc Try.prog Try.f6 Rows.ticketDoesRow.domain false) (Rows.ticketDoesSpec.post enc Try.prog Try.f6 false true false false) := by
  refine returnsInHanded_of_change (C := Try.checked) own started (by kernel_rfl) Try.func6
    (ChangeSpec.witness6 (enc := enc) (C := Try.checked) false ⟨#[], #[.agg #[.int .i64 0, .int .i64 0, .int .i64 0, .int .i64 0, .int .i64 0], .agg #[.int .i64 0, .int .i64 0, .int .i64 0]], []⟩ 8 (by kernel_rfl) (by kernel_rfl) (by kernel_rfl) (by kernel_rfl)) ?_
  intro W base args ds gs before hval0 hW hcnd _
  have hval : ∀ (j : Nat) t v, Try.f6.params[j]? = some t → args[j]? = some v → Value.okWide Try.prog W .any base t v := hval0
  have hW' := hW
  obtain ⟨p, q, hA0, hV, rfl, hfz, hnd⟩ := hW
  have hA : DataW.TrodAll enc Try.prog W 0 (fun _ => true) true Try.f6.params.toList args.toList ds p := hA0
  rw [Try.params6] at hA hval
  obtain ⟨v0, vs0, d0, ds0, p0, q0, hargs, rfl, rfl, h0, r0_⟩ := trodAll_cons hA
  obtain ⟨v1, vs1, d1, ds1, p1, q1, rfl, rfl, rfl, h1, r1_⟩ := trodAll_cons r0_
  obtain ⟨rfl, rfl, rfl⟩ := trodAll_nil r1_
  obtain rfl : args = #[v0, v1] := by cases args; simp_all
  obtain ⟨rfl, rfl⟩ := trodVars_none hV
  have lt0 : ∀ x ∈ p0, x.block < W.heap.size := by obtain ⟨m, hm⟩ := h0; exact DataW.trod_lt m _ _ _ hm
  obtain ⟨cs0, rfl⟩ : ∃ cs, v0 = .agg cs := by obtain ⟨cs, h, _⟩ := okWide_struct Try.underlying43 (hval 0 43 v0 rfl rfl); exact ⟨cs, h⟩
  have f0 : Go.XS.Fits enc Try.prog W [.int .i64, .int .i64, .int .i64, .int .i64, .int .i64] cs0.toList := Go.XS.open_flat 9 (t := 43) (by kernel_rfl) (Go.XS.Tr.of h0)
  have lt1 : ∀ x ∈ p1, x.block < W.heap.size := by obtain ⟨m, hm⟩ := h1; exact DataW.trod_lt m _ _ _ hm
  obtain ⟨cs1, rfl⟩ : ∃ cs, v1 = .agg cs := by obtain ⟨cs, h, _⟩ := Go.XS.okWide_array Try.underlying49 (hval 1 49 v1 rfl rfl); exact ⟨cs, h⟩
  have f1 : Go.XS.Fits enc Try.prog W [.int .i64, .int .i64, .int .i64] cs1.toList := Go.XS.open_flat 9 (t := 49) (by kernel_rfl) (Go.XS.Tr.of h1)
  clear hA0 hval0
  refine (walk W cs0 f0 cs1 f1).mono fun e W' ⟨he, bel⟩ => ?_
  subst he
  exact ⟨_, rfl, _, _, _, [], _, [], hW', trodAll_mk1 (shut_bool Try.underlying4 _), (trodAll_cons_mk (Below.trod laidOut (by kernel_rfl) (of_decide_eq_true (by kernel_rfl)) h0 bel lt0) (trodAll_cons_mk (Below.trod laidOut (by kernel_rfl) (of_decide_eq_true (by kernel_rfl)) h1 bel lt1) trodAll_mk0)), rfl, bel.frame _, fun h => by cases h⟩

theorem over : Rows.ticketDoesRow.holds Try.pinned (OpenSpec.ofChange Rows.ticketDoesSpec) :=
  OpenClaim.holds_of_wide 6 Try.f6 rfl rfl rfl rfl rfl rfl rfl ⟨rfl, rfl, rfl, rfl, rfl⟩ rfl rfl rfl rfl rfl (by kernel_rfl) Try.func6 (by kernel_rfl)
    (of_decide_eq_true (by kernel_rfl)) (by unfold Func.isWrapper; first | (rw [if_pos (by decide +kernel)]; kernel_rfl) | (rw [if_neg (by decide +kernel)]; exact ⟨rfl, rfl⟩))
    (fun os started H enc _ => lifted os started H enc)

theorem proved : Rows.TicketDoesSaid := over
#print axioms proved
end Go.Proofs.Ytjffekopjfchnaa.ticketDoes
