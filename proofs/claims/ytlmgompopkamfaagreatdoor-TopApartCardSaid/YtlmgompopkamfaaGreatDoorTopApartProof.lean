/- 'TopApart': for every input the law returns true and its arguments read as before; no condition. -/
import Derived.Test.YtlmgompopkamfaaGreatDoorRows
import Derived.Test.YtlmgompopkamfaaGreatDoorCards
import Derived.Test.YtlmgompopkamfaaGreatDoorLQ
import Derived.Test.YtlmgompopkamfaaGreatDoorTieC
import Derived.Test.YtlmgompopkamfaaGreatDoorTieD
import Derived.Test.YtlmgompopkamfaaGreatDoorTieE
import Derived.Test.YtlmgompopkamfaaGreatDoorTieF
import Derived.Test.YtlmgompopkamfaaGreatDoorTieG
import Derived.Test.YtlmgompopkamfaaGreatDoorTieH
import Derived.Test.YtlmgompopkamfaaGreatDoorTieI
import Derived.Test.YtlmgompopkamfaaGreatDoorTieJ
import Derived.Test.YtlmgompopkamfaaGreatDoorTieK
import Derived.Test.YtlmgompopkamfaaGreatDoorTieL
import Derived.Test.YtlmgompopkamfaaGreatDoorTieN
import Derived.Test.YtlmgompopkamfaaGreatDoorTieO
import Derived.Test.YtlmgompopkamfaaGreatDoorTieP
import Derived.Test.YtlmgompopkamfaaGreatDoorWitA
import Derived.Test.YtlmgompopkamfaaGreatDoorWitB
import Derived.Test.YtlmgompopkamfaaGreatDoorWitC
import Derived.Test.YtlmgompopkamfaaGreatDoorWitD
import Derived.Test.YtlmgompopkamfaaGreatDoorWitE
import Derived.Test.YtlmgompopkamfaaGreatDoorWitF
import Derived.Test.YtlmgompopkamfaaGreatDoorWitG
import Derived.Test.YtlmgompopkamfaaGreatDoorWitH
import Derived.Test.YtlmgompopkamfaaGreatDoorFA
import Derived.Test.YtlmgompopkamfaaGreatDoorFB
import Derived.Test.YtlmgompopkamfaaGreatDoorFC
import Derived.Test.YtlmgompopkamfaaGreatDoorFD
import Derived.Test.YtlmgompopkamfaaGreatDoorFE
import Derived.Test.YtlmgompopkamfaaGreatDoorFF
import Derived.Test.YtlmgompopkamfaaGreatDoorFG
import Derived.Test.YtlmgompopkamfaaGreatDoorFH
import Derived.Test.YtlmgompopkamfaaGreatDoorFI
import Derived.Test.YtlmgompopkamfaaGreatDoorFJ
import Derived.Test.YtlmgompopkamfaaGreatDoorFK
import Derived.SevenTiedAt
import Derived.ProofKit
import Derived.OpenShut
import Derived.ShutString
import Derived.ChangeOld
import Derived.Below
set_option linter.all false
set_option maxRecDepth 100000
namespace Go.Proofs.YtlmgompopkamfaaGreatDoor.topApart
open Go.ChangeShapes Go.WideShapes Go.ChangeAt Go.RowKit
open Go.ChangeMaps (open_string shut_string)

theorem own : ownKnob Tryz.prog.godebug = none := by kernel_rfl
theorem and_ok {a b : Bool} (ha : a = true) (hb : b = true) : (a && b) = true := by rw [ha, hb]; rfl
theorem laidOut : laidOutB Tryz.prog = true := and_ok (and_ok lo_1 lo_2) lo_3
theorem tabIs {W : World} (h : laidMetH Tryz.prog theLaid W) : Lib.TabIs Tryz.prog W "internal/strconv.uint64pow10" .u64 Lib.pow10Tab :=
  abY (i := 4) (g := 4) (t := 606) (e := 450) (n := 20) (abX h) (by kernel_rfl) (by kernel_rfl) (by kernel_rfl) Tryz.underlying606 (by kernel_rfl) (by kernel_rfl) (by kernel_rfl)
theorem glob {W : World} (h : laidMetH Tryz.prog theLaid W) (o : W.ShapedOpen Tryz.prog) : Gl W.heap :=
  abS (tabIs h) (cell_of_shapedOpen_int (zero := #[.int .i64 0]) (t := 3) o (of_decide_eq_true (by kernel_rfl)) (by kernel_rfl) rfl (by kernel_rfl) (by kernel_rfl) Tryz.underlying3)
theorem lifted (os : Os) (started : os.Started) (H : Type) (enc : TypeId × Value → H) :
    ReturnsInHanded {} Tryz.checked os 4 .any (fun w args => (Rows.topApartSpec.pre enc Tryz.prog Tryz.f4 [] false w args ∧ laidMetH Tryz.prog theLaid w) ∧ sizedMet enc Tryz.prog Tryz.f4 (OpenSpec.ofChange Rows.topApartSpec) false w args)
      (Rows.topApartSpec.post enc Tryz.prog Tryz.f4 false true false false) := by
  refine abU (C := Tryz.checked) (X := fun w _ => laidMetH Tryz.prog theLaid w) (fun _ _ _ hh h => h.of_heap hh) own started (by kernel_rfl) Tryz.func4
    (ChangeSpec.witness_shaped (enc := enc) (C := Tryz.checked) (os := os) (X := fun w _ => laidMetH Tryz.prog theLaid w) false (wit os) wargs 8 (World.layVars_os _ _ _) (World.shaped_of_RefB (wit_5 os) (wit_6 os)) (wit_7 os).2 (pre enc os) (siz enc os) (laidMetH_of_parts3 (fuel := 8) (laidMet_of_run2 8 (wit_1 os) (wit_2 os) (wit_8 os)) (wit_3 os) (wit_4 os))) ?_
  intro W base args ds gs before hval0 hW hL hsh
  have hG := glob hL hsh
  have hval : ∀ (j : Nat) t v, Tryz.f4.params[j]? = some t → args[j]? = some v → Value.okWide Tryz.prog W .any base t v := hval0
  have hW' := hW
  obtain ⟨p, q, hA0, hV, rfl, hfz, hnd⟩ := hW
  have hA : DataW.TrodAll enc Tryz.prog W 0 (fun _ => true) true Tryz.f4.params.toList args.toList ds p := hA0
  rw [Tryz.params4] at hA hval
  obtain ⟨v0, vs0, d0, ds0, p0, q0, hargs, rfl, rfl, h0, r0_⟩ := trodAll_cons hA
  obtain ⟨v1, vs1, d1, ds1, p1, q1, rfl, rfl, rfl, h1, r1_⟩ := trodAll_cons r0_
  obtain ⟨rfl, rfl, rfl⟩ := trodAll_nil r1_
  obtain rfl : args = #[v0, v1] := by cases args; simp_all
  obtain ⟨rfl, rfl⟩ := trodVars_none hV
  have lt0 : ∀ x ∈ p0, x.block < W.heap.size := by obtain ⟨m, hm⟩ := h0; exact DataW.trod_lt m _ _ _ hm
  obtain ⟨cs0, rfl⟩ : ∃ cs, v0 = .agg cs := by obtain ⟨cs, h, _⟩ := okWide_struct Tryz.underlying23 (hval 0 23 v0 rfl rfl); exact ⟨cs, h⟩
  have f0 : Go.XS.Fits enc Tryz.prog W [.int .i64, .int .i64, .int .i64, .int .i64] cs0.toList := Go.XS.Bm 9 (t := 23) (by kernel_rfl) (Go.XS.Tr.of h0)
  have lt1 : ∀ x ∈ p1, x.block < W.heap.size := by obtain ⟨m, hm⟩ := h1; exact DataW.trod_lt m _ _ _ hm
  obtain ⟨a1, len1, cap1, rfl⟩ := okWide_slice Tryz.underlying24 (hval 1 24 v1 rfl rfl)
  obtain ⟨⟨_, _, _, css1, he1, l1, m1, c1, r1, g1⟩, _⟩ := Go.XS.WY (cs := [.slice a1 len1 cap1]) Tryz.underlying24 (Go.XS.Tr.of h1)
  obtain ⟨rfl, rfl, rfl⟩ := Value.slice.inj he1
  clear hA0 hval0
  refine (adR hG cs0 f0 a1 len1 cap1 css1 l1 c1 r1 g1).mono fun e W' ⟨he, bel⟩ => ?_
  subst he
  exact ⟨_, rfl, _, _, _, [], _, [], hW', trodAll_mk1 (shut_bool Tryz.underlying4 _), (trodAll_cons_mk (Below.trod laidOut (by kernel_rfl) (of_decide_eq_true (by kernel_rfl)) h0 bel lt0) (trodAll_cons_mk (Below.trod laidOut (by kernel_rfl) (of_decide_eq_true (by kernel_rfl)) h1 bel lt1) trodAll_mk0)), rfl, bel.frame _, fun h => by cases h⟩

theorem closed : joinedFacts Tryz.prog 4 Tryz.f4 Rows.topApartSpec Rows.topApartRow = true := by
  unfold joinedFacts
  exact and_ok (and_ok (and_ok (and_ok (and_ok (and_ok (and_ok (and_ok (and_ok (and_ok (and_ok (and_ok (and_ok (and_ok (and_ok (and_ok (and_ok (and_ok (and_ok (and_ok (and_ok (and_ok (and_ok (and_ok (and_ok (and_ok (and_ok (and_ok (and_ok (and_ok (and_ok (by kernel_rfl) laidOut) jf_maps) (by kernel_rfl)) (by kernel_rfl)) (by kernel_rfl)) (by kernel_rfl)) (by kernel_rfl)) (by kernel_rfl)) jf_inPlace) jf_unfollowed) jf_recurses) jf_named) (by kernel_rfl)) (by kernel_rfl)) (by kernel_rfl)) (by kernel_rfl)) (by kernel_rfl)) (by kernel_rfl)) (by kernel_rfl)) (by kernel_rfl)) (by kernel_rfl)) jf_plainKeys) (by kernel_rfl)) jf_stopsHeard) jf_mayEnter) (by kernel_rfl)) (by kernel_rfl)) (by kernel_rfl)) (by kernel_rfl)) (by kernel_rfl)) (by kernel_rfl)
theorem over : Rows.topApartRow.holds Tryz.pinned (OpenSpec.ofChange Rows.topApartSpec) :=
  OpenClaim.holds_of_wide 4 Tryz.f4 rfl rfl rfl rfl rfl rfl rfl ⟨rfl, rfl, rfl, rfl, rfl⟩ rfl rfl rfl rfl rfl (by kernel_rfl) Tryz.func4 closed
    (of_decide_eq_true (by kernel_rfl)) (by unfold Func.isWrapper; first | (rw [if_pos (by decide +kernel)]; kernel_rfl) | (rw [if_neg (by decide +kernel)]; exact ⟨rfl, rfl⟩))
    (fun os started H enc _ => lifted os started H enc)

theorem tie : Tryz.prog.laidByTextLater tieL tieK true :=
  Program.laidByTextLater_by_run_h 400 8 tie_w tie_v tie_r tie_k tie_g tie_n tie_d tie_1 tie_2 tie_3
theorem row_tie : Rows.topApartRow.laidByTextAt .later Tryz.pinned [.pinned, .data, .sentinel, .sentinel, .data, .data, .data, .handle] true :=
  OpenClaim.laidByTextAt_pinned rfl rfl tie rfl rfl rfl rfl (fun y hy _e => by
    simp only [Rows.topApartRow, List.zip_cons_cons, List.zip_nil_right, List.mem_cons, List.mem_nil_iff, or_false] at hy
    rcases hy with rfl | rfl | rfl | rfl | rfl | rfl | rfl | rfl
    · exact ⟨tie_p, by kernel_rfl⟩
    all_goals cases _e) tie_f
theorem stays (g : FuncId) : Tryz.prog.goes g = false := by
  have hall : ∀ fn ∈ Tryz.prog.funcs, fn.goes = false := fun fn h => by
    have := Array.all_eq_true_iff_forall_mem.1 tie_o fn h
    simpa using this
  have h2 : Tryz.prog.funcs.any Func.goes = false := by
    rw [Bool.eq_false_iff]
    intro h
    obtain ⟨i, hi, h⟩ := Array.any_eq_true.1 h
    rw [hall _ (Array.getElem_mem hi)] at h
    cases h
  unfold Program.goes
  rw [h2, Bool.and_false, Bool.or_false, List.any_eq_false]
  intro f _ h
  cases hf : Tryz.prog.funcs[f]? with
  | none => rw [hf] at h; cases h
  | some fn => rw [hf] at h; rw [Option.any_some, hall fn (Array.mem_of_getElem? hf)] at h; cases h
theorem noGo : false = Rows.topApartRow.goesBy Tryz.prog := by
  unfold OpenClaim.goesBy Program.goesAt Program.goesFrom
  show false = ((Tryz.prog.funcNamed _).any Tryz.prog.goes || false)
  cases h : Tryz.prog.funcNamed Rows.topApartRow.func with
  | none => rfl
  | some f => rw [Option.any_some, stays]; rfl
theorem proved : Rows.TopApartCardSaid :=
  Claim7.holds_tied_plain_at .later [] [.pinned, .data, .sentinel, .sentinel, .data, .data, .data, .handle] true (true, "df2a081c08c9ad996152c93ff201853e35ac6c94856aa70e801d58063b25ef79") true
    over (fun _ h => by cases h) (by kernel_rfl) (fun _ h => by cases h) row_tie rfl ⟨rfl, rfl⟩ (by kernel_rfl) rfl
    (fun f fn hf hfn => by
      obtain rfl : f = 4 := Option.some.inj ((show Tryz.prog.funcNamed "copyhold/copyholdtop.TopApart" = some 4 by kernel_rfl).symm.trans hf) |>.symm
      obtain rfl : fn = Tryz.f4 := (Option.some.inj (Tryz.func4.symm.trans hfn)).symm
      exact ⟨by kernel_rfl, fun j t ht => by
        rw [Tryz.params4] at ht
        have hm : t ∈ [23, 24] := by simpa using Array.mem_of_getElem? ht
        have hall : ([23, 24].all fun u => !Tryz.prog.wantsStandIn u) = true := by kernel_rfl
        exact (show Tryz.prog.wantsStandIn t = false by simpa using List.all_eq_true.1 hall t hm)⟩)
    noGo
#print axioms proved
end Go.Proofs.YtlmgompopkamfaaGreatDoor.topApart
