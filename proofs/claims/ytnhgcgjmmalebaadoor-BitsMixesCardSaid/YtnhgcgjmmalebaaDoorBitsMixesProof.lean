/- 'BitsMixes': for every input the law returns true and its arguments read as before; no condition. -/
import Derived.Test.YtnhgcgjmmalebaaDoorRows
import Derived.Test.YtnhgcgjmmalebaaDoorBitsMixesLaw
import Derived.Test.YtnhgcgjmmalebaaDoorLaid
import Derived.Test.YtnhgcgjmmalebaaDoorTie
import Derived.Test.YtnhgcgjmmalebaaDoorCards
import Derived.SevenTiedAt
import Derived.ProofKit
import Derived.OpenShut
import Derived.ShutString
import Derived.ChangeOld
import Derived.Below
set_option linter.unusedVariables false
namespace Go.Proofs.YtnhgcgjmmalebaaDoor.bitsMixes
open Go.ChangeShapes Go.WideShapes Go.ChangeAt Go.RowKit
open Go.ChangeMaps (open_string shut_string)

theorem own : ownKnob Tryd.prog.godebug = none := by kernel_rfl
theorem laidOut : laidOutB Tryd.prog = true := by kernel_rfl

set_option maxRecDepth 100000 in
theorem walk {E : Type} {enc : TypeId × Value → E} (w : World) (hT : Tab w.heap) (a0 : Option Addr) (len0 cap0 : Nat) (css0 : List (List Value)) (l0 : len0 ≤ cap0) (m0 : cap0 ≤ maxLen) (c0 : css0.length = cap0) (r0 : ∀ c ∈ css0, c.length = Tryd.prog.cellsOf 5 ∧ Go.XS.Tr enc Tryd.prog w 5 c) (h0 : Go.XS.Arg w.heap a0 css0.flatten) (a1 : Option Addr) (len1 cap1 : Nat) (css1 : List (List Value)) (l1 : len1 ≤ cap1) (m1 : cap1 ≤ maxLen) (c1 : css1.length = cap1) (r1 : ∀ c ∈ css1, c.length = Tryd.prog.cellsOf 5 ∧ Go.XS.Tr enc Tryd.prog w 5 c) (h1 : Go.XS.Arg w.heap a1 css1.flatten) (cs2 : Array Value) (f2 : Go.XS.Fits enc Tryd.prog w [.int .u8, .int .u8] cs2.toList) :
    Calls Tryd.prog 8 #[.slice a0 len0 cap0, .slice a1 len1 cap1, .agg cs2] w fun e w' => e = .returned (.bool true) ∧ Below w.heap.size w w' := by
  obtain ⟨ls, rfl, f⟩ := f2.arr
  obtain ⟨x, vs, rfl, wx, f⟩ := f.int
  obtain ⟨y, vs, rfl, wy, f⟩ := f.int
  obtain rfl := f.nil
  obtain ⟨zs, hcs, hz⟩ := Go.XS.exists_map (f := fun a : Int => [Value.int .u8 a]) (q := fun a => (Lit.int .u8 a).wf = true) css0 (fun c hc => by
    have f := Go.XS.open_flat 9 (cts := [.int .u8]) (by kernel_rfl) (r0 c hc).2
    obtain ⟨a, vs, rfl, hw, f⟩ := f.int
    obtain rfl := f.nil
    exact ⟨a, rfl, hw⟩)
  subst hcs
  obtain ⟨ys, hcs, hz2⟩ := Go.XS.exists_map (f := fun a : Int => [Value.int .u8 a]) (q := fun a => (Lit.int .u8 a).wf = true) css1 (fun c hc => by
    have f := Go.XS.open_flat 9 (cts := [.int .u8]) (by kernel_rfl) (r1 c hc).2
    obtain ⟨a, vs, rfl, hw, f⟩ := f.int
    obtain rfl := f.nil
    exact ⟨a, rfl, hw⟩)
  subst hcs
  rw [Go.XS.flatten_one] at h0 h1
  exact Go.XS.law_calls (law_BitsMixes hT (zs := zs) (ys := ys) h0 (by simp at c0; omega) (fun z h => bounds_u8 (hz z h)) h1 (by simp at c1; omega) (fun z h => bounds_u8 (hz2 z h)) (bounds_u8 wx) (bounds_u8 wy) Go.XS.T_fin)

set_option maxRecDepth 100000 in
theorem lifted (os : Os) (started : os.Started) (H : Type) (enc : TypeId × Value → H) :
    ReturnsInHanded {} Tryd.checked os 8 .any (fun w args => (Rows.bitsMixesSpec.pre enc Tryd.prog Tryd.f8 [] false w args ∧ laidMetH Tryd.prog theLaid w) ∧ sizedMet enc Tryd.prog Tryd.f8 (OpenSpec.ofChange Rows.bitsMixesSpec) false w args)
      (Rows.bitsMixesSpec.post enc Tryd.prog Tryd.f8 false true false false) := by
  refine returnsInHanded_of_change_and (C := Tryd.checked) (X := fun w _ => laidMetH Tryd.prog theLaid w) (fun _ _ _ hh h => h.of_heap hh) own started (by kernel_rfl) Tryd.func8
    (ChangeSpec.witness_shaped (enc := enc) (C := Tryd.checked) (os := os) (X := fun w _ => laidMetH Tryd.prog theLaid w) false (World.doorLaid Tryd.prog 400 os) #[.slice none 0 0, .slice none 0 0, .agg #[.int .u8 0, .int .u8 0]] 8 rfl (World.shaped_of_RefB (by kernel_rfl) (by kernel_rfl)) (by kernel_rfl) (by kernel_rfl) (by kernel_rfl) (door_met os _)) ?_
  intro W base args ds gs before hval0 hW _ _ hL _
  have hT := of_laid hL
  have hval : ∀ (j : Nat) t v, Tryd.f8.params[j]? = some t → args[j]? = some v → Value.okWide Tryd.prog W .any base t v := hval0
  have hW' := hW
  obtain ⟨p, q, hA0, hV, rfl, hfz, hnd⟩ := hW
  have hA : DataW.TrodAll enc Tryd.prog W 0 (fun _ => true) true Tryd.f8.params.toList args.toList ds p := hA0
  rw [Tryd.params8] at hA hval
  obtain ⟨v0, vs0, d0, ds0, p0, q0, hargs, rfl, rfl, h0, r0_⟩ := trodAll_cons hA
  obtain ⟨v1, vs1, d1, ds1, p1, q1, rfl, rfl, rfl, h1, r1_⟩ := trodAll_cons r0_
  obtain ⟨v2, vs2, d2, ds2, p2, q2, rfl, rfl, rfl, h2, r2_⟩ := trodAll_cons r1_
  obtain ⟨rfl, rfl, rfl⟩ := trodAll_nil r2_
  obtain rfl : args = #[v0, v1, v2] := by cases args; simp_all
  obtain ⟨rfl, rfl⟩ := trodVars_none hV
  have lt0 : ∀ x ∈ p0, x.block < W.heap.size := by obtain ⟨m, hm⟩ := h0; exact DataW.trod_lt m _ _ _ hm
  obtain ⟨a0, len0, cap0, rfl⟩ := okWide_slice Tryd.underlying22 (hval 0 22 v0 rfl rfl)
  obtain ⟨⟨_, _, _, css0, he0, l0, m0, c0, r0, g0⟩, _⟩ := Go.XS.open_sl (cs := [.slice a0 len0 cap0]) Tryd.underlying22 (Go.XS.Tr.of h0)
  obtain ⟨rfl, rfl, rfl⟩ := Value.slice.inj he0
  have lt1 : ∀ x ∈ p1, x.block < W.heap.size := by obtain ⟨m, hm⟩ := h1; exact DataW.trod_lt m _ _ _ hm
  obtain ⟨a1, len1, cap1, rfl⟩ := okWide_slice Tryd.underlying22 (hval 1 22 v1 rfl rfl)
  obtain ⟨⟨_, _, _, css1, he1, l1, m1, c1, r1, g1⟩, _⟩ := Go.XS.open_sl (cs := [.slice a1 len1 cap1]) Tryd.underlying22 (Go.XS.Tr.of h1)
  obtain ⟨rfl, rfl, rfl⟩ := Value.slice.inj he1
  have lt2 : ∀ x ∈ p2, x.block < W.heap.size := by obtain ⟨m, hm⟩ := h2; exact DataW.trod_lt m _ _ _ hm
  obtain ⟨cs2, rfl⟩ : ∃ cs, v2 = .agg cs := by obtain ⟨cs, h, _⟩ := Go.XS.okWide_array Tryd.underlying75 (hval 2 75 v2 rfl rfl); exact ⟨cs, h⟩
  have f2 : Go.XS.Fits enc Tryd.prog W [.int .u8, .int .u8] cs2.toList := Go.XS.open_flat 9 (t := 75) (by kernel_rfl) (Go.XS.Tr.of h2)
  clear hA0 hval0
  refine (walk (enc := enc) W hT a0 len0 cap0 css0 l0 m0 c0 r0 g0 a1 len1 cap1 css1 l1 m1 c1 r1 g1 cs2 f2).mono fun e W' ⟨he, bel⟩ => ?_
  subst he
  exact ⟨_, rfl, _, _, _, [], _, [], hW', trodAll_mk1 (shut_bool Tryd.underlying4 _), (trodAll_cons_mk (Below.trod laidOut (by kernel_rfl) (of_decide_eq_true (by kernel_rfl)) h0 bel lt0) (trodAll_cons_mk (Below.trod laidOut (by kernel_rfl) (of_decide_eq_true (by kernel_rfl)) h1 bel lt1) (trodAll_cons_mk (Below.trod laidOut (by kernel_rfl) (of_decide_eq_true (by kernel_rfl)) h2 bel lt2) trodAll_mk0))), rfl, bel.frame _, fun h => by cases h⟩

theorem over : Rows.bitsMixesRow.holds Tryd.pinned (OpenSpec.ofChange Rows.bitsMixesSpec) :=
  OpenClaim.holds_of_wide 8 Tryd.f8 rfl rfl rfl rfl rfl rfl rfl ⟨rfl, rfl, rfl, rfl, rfl⟩ rfl rfl rfl rfl rfl (by kernel_rfl) Tryd.func8 (by kernel_rfl)
    (of_decide_eq_true (by kernel_rfl)) (by unfold Func.isWrapper; first | (rw [if_pos (by decide +kernel)]; kernel_rfl) | (rw [if_neg (by decide +kernel)]; exact ⟨rfl, rfl⟩))
    (fun os started H enc _ => lifted os started H enc)

theorem proved : Rows.BitsMixesCardSaid :=
  Claim7.holds_tied_plain_at .later [] [.data] true (true, "621858cacec48ed71eef2c1dbfb121ce15decd5ca140246d6d8da723dc735fd0") false
    over (fun _ h => by cases h) (by kernel_rfl) (fun _ h => by cases h) bitsMixes_row_tie rfl ⟨rfl, rfl⟩ (by kernel_rfl) rfl
    (fun f fn hf hfn => by
      obtain rfl : f = 8 := Option.some.inj ((show Tryd.prog.funcNamed "copyhold/copyholdlaw02.BitsMixes" = some 8 by kernel_rfl).symm.trans hf) |>.symm
      obtain rfl : fn = Tryd.f8 := (Option.some.inj (Tryd.func8.symm.trans hfn)).symm
      exact ⟨by kernel_rfl, fun j t ht => by
        rw [Tryd.params8] at ht
        have hm : t ∈ [22, 22, 75] := by simpa using Array.mem_of_getElem? ht
        have hall : ([22, 22, 75].all fun u => !Tryd.prog.wantsStandIn u) = true := by kernel_rfl
        exact (show Tryd.prog.wantsStandIn t = false by simpa using List.all_eq_true.1 hall t hm)⟩)
    (by kernel_rfl)
#print axioms proved
end Go.Proofs.YtnhgcgjmmalebaaDoor.bitsMixes
