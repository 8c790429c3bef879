/- 'BitsWalk': for every input the law returns true and its arguments read as before; no condition. -/
import Derived.Test.YtnhgcgjmmalebaaDoorRows
import Derived.Test.YtnhgcgjmmalebaaDoorBitsWalkLaw
import Derived.Test.YtnhgcgjmmalebaaDoorLaid
import Derived.Test.YtnhgcgjmmalebaaDoorTie
import Derived.Test.YtnhgcgjmmalebaaDoorCards
import Derived.SevenTiedAt
import Derived.ProofKit
import Derived.OpenShut
import Derived.ShutString
import Derived.ChangeOld
import Derived.Below
set_option linter.unusedVariables false
namespace Go.Proofs.YtnhgcgjmmalebaaDoor.bitsWalk
open Go.ChangeShapes Go.WideShapes Go.ChangeAt Go.RowKit
open Go.ChangeMaps (open_string shut_string)

theorem own : ownKnob Tryd.prog.godebug = none := by kernel_rfl
theorem laidOut : laidOutB Tryd.prog = true := by kernel_rfl

set_option maxRecDepth 100000 in
theorem walk {E : Type} {enc : TypeId × Value → E} (w : World) (hT : Tab w.heap) (a0 : Int) (w0 : (Lit.int .u8 a0).wf = true) (a1 : Option Addr) (len1 cap1 : Nat) (css1 : List (List Value)) (l1 : len1 ≤ cap1) (m1 : cap1 ≤ maxLen) (c1 : css1.length = cap1) (r1 : ∀ c ∈ css1, c.length = Tryd.prog.cellsOf 5 ∧ Go.XS.Tr enc Tryd.prog w 5 c) (h1 : Go.XS.Arg w.heap a1 css1.flatten) :
    Calls Tryd.prog 7 #[.int .u8 a0, .slice a1 len1 cap1] w fun e w' => e = .returned (.bool true) ∧ Below w.heap.size w w' := by
  have hb0 := bounds_u8 w0
  obtain ⟨zs, hcs, hz⟩ := Go.XS.exists_map (f := fun a : Int => [Value.int .u8 a]) (q := fun a => (Lit.int .u8 a).wf = true) css1 (fun c hc => by
    have f := Go.XS.open_flat 9 (cts := [.int .u8]) (by kernel_rfl) (r1 c hc).2
    obtain ⟨a, vs, rfl, hw, f⟩ := f.int
    obtain rfl := f.nil
    exact ⟨a, rfl, hw⟩)
  subst hcs
  refine Go.XS.law_calls (law_BitsWalk hT (zs := zs) ?_ (by simp at c1; omega) (fun z h => bounds_u8 (hz z h)) hb0.1 hb0.2 Go.XS.T_fin)
  rw [Go.XS.flatten_one] at h1
  exact h1

set_option maxRecDepth 100000 in
theorem lifted (os : Os) (started : os.Started) (H : Type) (enc : TypeId × Value → H) :
    ReturnsInHanded {} Tryd.checked os 7 .any (fun w args => (Rows.bitsWalkSpec.pre enc Tryd.prog Tryd.f7 [] false w args ∧ laidMetH Tryd.prog theLaid w) ∧ sizedMet enc Tryd.prog Tryd.f7 (OpenSpec.ofChange Rows.bitsWalkSpec) false w args)
      (Rows.bitsWalkSpec.post enc Tryd.prog Tryd.f7 false true false false) := by
  refine returnsInHanded_of_change_and (C := Tryd.checked) (X := fun w _ => laidMetH Tryd.prog theLaid w) (fun _ _ _ hh h => h.of_heap hh) own started (by kernel_rfl) Tryd.func7
    (ChangeSpec.witness_shaped (enc := enc) (C := Tryd.checked) (os := os) (X := fun w _ => laidMetH Tryd.prog theLaid w) false (World.doorLaid Tryd.prog 400 os) #[.int .u8 0, .slice none 0 0] 8 rfl (World.shaped_of_RefB (by kernel_rfl) (by kernel_rfl)) (by kernel_rfl) (by kernel_rfl) (by kernel_rfl) (door_met os _)) ?_
  intro W base args ds gs before hval0 hW _ _ hL _
  have hT := of_laid hL
  have hval : ∀ (j : Nat) t v, Tryd.f7.params[j]? = some t → args[j]? = some v → Value.okWide Tryd.prog W .any base t v := hval0
  have hW' := hW
  obtain ⟨p, q, hA0, hV, rfl, hfz, hnd⟩ := hW
  have hA : DataW.TrodAll enc Tryd.prog W 0 (fun _ => true) true Tryd.f7.params.toList args.toList ds p := hA0
  rw [Tryd.params7] at hA hval
  obtain ⟨v0, vs0, d0, ds0, p0, q0, hargs, rfl, rfl, h0, r0_⟩ := trodAll_cons hA
  obtain ⟨v1, vs1, d1, ds1, p1, q1, rfl, rfl, rfl, h1, r1_⟩ := trodAll_cons r0_
  obtain ⟨rfl, rfl, rfl⟩ := trodAll_nil r1_
  obtain rfl : args = #[v0, v1] := by cases args; simp_all
  obtain ⟨rfl, rfl⟩ := trodVars_none hV
  obtain ⟨a0, rfl, rfl, rfl, w0⟩ := open_int Tryd.underlying5 (hval 0 5 v0 rfl rfl) h0
  have lt1 : ∀ x ∈ p1, x.block < W.heap.size := by obtain ⟨m, hm⟩ := h1; exact DataW.trod_lt m _ _ _ hm
  obtain ⟨a1, len1, cap1, rfl⟩ := okWide_slice Tryd.underlying22 (hval 1 22 v1 rfl rfl)
  obtain ⟨⟨_, _, _, css1, he1, l1, m1, c1, r1, g1⟩, _⟩ := Go.XS.open_sl (cs := [.slice a1 len1 cap1]) Tryd.underlying22 (Go.XS.Tr.of h1)
  obtain ⟨rfl, rfl, rfl⟩ := Value.slice.inj he1
  clear hA0 hval0
  refine (walk (enc := enc) W hT a0 w0 a1 len1 cap1 css1 l1 m1 c1 r1 g1).mono fun e W' ⟨he, bel⟩ => ?_
  subst he
  exact ⟨_, rfl, _, _, _, [], _, [], hW', trodAll_mk1 (shut_bool Tryd.underlying4 _), (trodAll_cons_mk (shut_int Tryd.underlying5 w0) (trodAll_cons_mk (Below.trod laidOut (by kernel_rfl) (of_decide_eq_true (by kernel_rfl)) h1 bel lt1) trodAll_mk0)), rfl, bel.frame _, fun h => by cases h⟩

theorem over : Rows.bitsWalkRow.holds Tryd.pinned (OpenSpec.ofChange Rows.bitsWalkSpec) :=
  OpenClaim.holds_of_wide 7 Tryd.f7 rfl rfl rfl rfl rfl rfl rfl ⟨rfl, rfl, rfl, rfl, rfl⟩ rfl rfl rfl rfl rfl (by kernel_rfl) Tryd.func7 (by kernel_rfl)
    (of_decide_eq_true (by kernel_rfl)) (by unfold Func.isWrapper; first | (rw [if_pos (by decide +kernel)]; kernel_rfl) | (rw [if_neg (by decide +kernel)]; exact ⟨rfl, rfl⟩))
    (fun os started H enc _ => lifted os started H enc)

theorem proved : Rows.BitsWalkCardSaid :=
  Claim7.holds_tied_plain_at .later [] [.data] true (true, "621858cacec48ed71eef2c1dbfb121ce15decd5ca140246d6d8da723dc735fd0") false
    over (fun _ h => by cases h) (by kernel_rfl) (fun _ h => by cases h) bitsWalk_row_tie rfl ⟨rfl, rfl⟩ (by kernel_rfl) rfl
    (fun f fn hf hfn => by
      obtain rfl : f = 7 := Option.some.inj ((show Tryd.prog.funcNamed "copyhold/copyholdlaw02.BitsWalk" = some 7 by kernel_rfl).symm.trans hf) |>.symm
      obtain rfl : fn = Tryd.f7 := (Option.some.inj (Tryd.func7.symm.trans hfn)).symm
      exact ⟨by kernel_rfl, fun j t ht => by
        rw [Tryd.params7] at ht
        have hm : t ∈ [5, 22] := by simpa using Array.mem_of_getElem? ht
        have hall : ([5, 22].all fun u => !Tryd.prog.wantsStandIn u) = true := by kernel_rfl
        exact (show Tryd.prog.wantsStandIn t = false by simpa using List.all_eq_true.1 hall t hm)⟩)
    (by kernel_rfl)
#print axioms proved
end Go.Proofs.YtnhgcgjmmalebaaDoor.bitsWalk
