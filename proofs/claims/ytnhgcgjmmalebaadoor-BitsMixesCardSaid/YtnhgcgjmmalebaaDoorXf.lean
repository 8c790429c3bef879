/- The interpreter of any operation is sound: for any program in which no function is the runtime's count of goroutines. -/
import Derived.Test.YtnhgcgjmmalebaaDoorXe
set_option linter.unusedVariables false
set_option linter.unusedSimpArgs false
namespace Go.XS

/-- No function of the program is the runtime's count of goroutines. -/
def NoCount (P : Program) : Prop := ∀ (f : Nat) (fn : Func), P.funcs[f]? = some fn → (fn.name == "runtime.NumGoroutine") = false

section
variable {P : Program}

theorem nextP_asK {s : Sem Value} {t : TypeId} {K : SV → HP} {σ : Heap} (h : semP P s (fun v => asK P t v fun v => K (.val v)) σ) :
    nextP P (do let v ← s; pure (.value v)) (lift K) σ :=
  nextP_val (semP_mono (fun v σ h => lift_val (asK_eq h)) h)

theorem nextP_un {s : Sem Unit} {K : SV → HP} {σ : Heap} (h : semP P s (fun _ => K .un) σ) : nextP P (do s; pure .skip) (lift K) σ :=
  nextP_skip (semP_mono (fun _ σ h => ⟨.un, rfl, h⟩) h)

theorem semP_storeVar {t : TypeId} {a : Addr} {v : Value} {k : HP} {σ : Heap} (ht : tyOk P t = true) (hs : v.cells.size = P.cellsOf t)
    (h : stL a 0 v.cells.toList k σ) : semP P (storeVar t a v) (fun _ => k) σ := by
  obtain ⟨hi, hu⟩ := tyOk_spec ht
  unfold storeVar
  refine semP_bind (semP_sizeOf hi ?_)
  have hb : (decide (v.cells.size ≠ P.cellsOf t)) = false := by simp [hs]
  rw [if_neg (by simpa using hs)]
  exact semP_storeCells _ 0 h

theorem mkSl_sound {t elem : TypeId} {kl kc : IntKind} {l c : Int} {f : Nat → HP} {σ : Heap} (hu : P.underlying t = some (.slice elem))
    (h : mkSl P elem l c f σ) : semP P (Instr.makeSlice t (.int kl l) (.int kc c)) (fun v σ' => ∃ b, v = .slice (some ⟨b, 0, none⟩) l.toNat c.toNat ∧ f b σ') σ := by
  obtain ⟨h0, h1, h2, h3, h4, h5, hk⟩ := h
  obtain ⟨i, hi⟩ := Option.isSome_iff_exists.1 h4
  have hzok := h5
  unfold zok at h5
  rw [hi] at h5
  obtain ⟨z, hz⟩ := Option.isSome_iff_exists.1 h5
  have hzc : zc P elem = z.cells := by simp [zc, hi, hz]
  have hb : P.bytesOf elem = i.bytes := by simp [Program.bytesOf, hi]
  have hcs : P.cellsOf elem = i.size := by simp [Program.cellsOf, hi]
  have hl : IntKind.i64.wrap l = l := IntWalk.i64_in _ (by omega)
  have hc : IntKind.i64.wrap c = c := IntWalk.i64_in _ (by omega)
  rw [hb] at h3
  have t1 : (decide (c < 0) || decide ((i.bytes : Int) * c > 2 ^ 48)) = false := by
    simp only [Bool.or_eq_false_iff, decide_eq_false_iff_not]; omega
  intro w hw
  refine ⟨_, { w with heap := w.heap.push (.cells (reps (zc P elem) (c.toNat * P.cellsOf elem)) elem) }, ?_, ⟨rfl, rfl, rfl⟩, ⟨σ.size, rfl, ?_⟩⟩
  · unfold Instr.makeSlice
    simp only [Sem.run_bind, underlying_run hu, Result.andThen_ok, asInt, asIntOf, Sem.run_pure, typeInfo, run_program, hi, hl, hc, t1, Bool.false_or]
    have t2 : (decide (l < 0) || decide (l > c)) = false := by
      simp only [Bool.or_eq_false_iff, decide_eq_false_iff_not]; omega
    rw [show ((decide (l < 0)) || decide (l > c)) = false from t2]
    simp only [Bool.false_eq_true, if_false, Sem.run_bind, run_askRoom, Result.andThen_ok, sizeOf_run h4, hcs]
    by_cases hn : c.toNat * i.size = 0
    · simp only [hn, if_true, Sem.run_pure, Result.andThen_ok, newRow, Sem.run_bind, run_newObj]
      rw [show reps (zc P elem) 0 = #[] from by simp [reps], hw]
      simp [Array.range]
    · simp only [hn, if_false, Sem.run_bind, zeroValue, typeInfo, run_program, Result.andThen_ok, hi, hz, Sem.run_pure, newRow, run_newObj]
      rw [hzc, hw]
      rfl
  · show f σ.size (w.heap.push _)
    rw [hw]; exact hk

theorem alloc_sound {elem : TypeId} {K : SV → HP} {σ : Heap} (hz : zok P elem = true)
    (h : al (zc P elem) elem (fun b => K (.val (.pointer (some ⟨b, 0, none⟩)))) σ) : semP P (Instr.alloc elem true (.tuple #[])) (lift K) σ := by
  unfold Instr.alloc
  refine semP_bind (semP_zero hz fun z hzc => ?_)
  refine semP_bind (semP_newVar (K := fun a => semP P (pure (.pointer (some a))) (lift K)) ?_)
  rw [hzc]
  exact semP_pure (lift_val h)

theorem bodied_spec {f : FuncId} (h : bodied P f = true) : ∃ fn, P.funcs[f]? = some fn ∧ fn.body.isSome = true := by
  unfold bodied at h
  cases hf : P.funcs[f]? with
  | none => rw [hf] at h; cases h
  | some fn => rw [hf] at h; exact ⟨fn, rfl, h⟩

theorem callFunc_run (hN : NoCount P) {f : FuncId} (args : Array Value) (h : bodied P f = true) (w : World) : (callFunc f args).run P w = .ok (.enter f args) w := by
  obtain ⟨fn, hf, hb⟩ := bodied_spec h
  unfold callFunc
  simp only [Sem.run_bind, run_program, Result.andThen_ok, hf, hN f fn hf, Bool.false_eq_true, if_false]
  have : fn.body.isNone = false := by cases hx : fn.body <;> simp_all
  simp [this]

theorem xcall_sound (hN : NoCount P) {f : Value} {args : List Value} {t : TypeId} {K : SV → HP} {σ : Heap} (h : xcall P f args t (fun v => K (.val v)) σ) :
    nextP P (do let d ← Deferred.ofValue f args.toArray; invoke d.target d.args) (lift K) σ := by
  have gen : nextP P (do let d ← Deferred.ofValue f args.toArray; invoke d.target d.args) (fun v => asK P t v fun v => K (.val v)) σ →
      nextP P (do let d ← Deferred.ofValue f args.toArray; invoke d.target d.args) (lift K) σ :=
    nextP_mono fun v σ h => lift_val (asK_eq h)
  cases f
  case func fn first captured =>
    cases fn
    case func fid =>
      simp only [xcall] at h
      have ha : (first.toList ++ args ++ captured.toList).toArray = first ++ args.toArray ++ captured := by apply Array.ext'; simp
      rw [ha] at h
      unfold callV at h
      cases hb : bodied P fid with
      | true =>
        rw [hb] at h
        intro w hw
        refine ⟨.enter fid (first ++ args.toArray ++ captured), w, ?_, .refl w, .inr (.inr ⟨_, _, rfl, ?_⟩)⟩
        · simp only [Deferred.ofValue, Sem.run_bind, Sem.run_pure, Result.andThen_ok, invoke]
          exact callFunc_run hN _ hb w
        · rw [hw]; exact callP_mono (fun v σ h => lift_val (asK_eq h)) h
      | false =>
        rw [hb] at h
        refine gen fun w hw => ?_
        obtain ⟨r, w', h1, h2⟩ := h w hw
        refine ⟨r, w', ?_, h2⟩
        simpa [Deferred.ofValue, invoke] using h1
    all_goals exact gen h
  all_goals exact gen h

theorem xbuiltin_sound {b : Builtin} {ats : Array TypeId} {t : TypeId} {consts : Array Bool} {args : List Value} {K : SV → HP} {σ : Heap}
    (h : xbuiltin P b ats t args (fun v => K (.val v)) σ) : nextP P (builtin b ats t consts args.toArray) (lift K) σ := by
  have gen : ∀ {s : Sem Value}, semP P s (fun v => asK P t v fun v => K (.val v)) σ → nextP P (do let v ← s; pure (.value v)) (lift K) σ := fun h => nextP_asK h
  cases b
  case len =>
    match args, h with
    | [.slice q n c], h =>
      obtain ⟨ht, h⟩ := tyIs_spec h
      obtain ⟨t0, hat, ht⟩ := firstTy_spec ht
      obtain ⟨el, he⟩ := sliceTy_spec ht
      exact semP_yields (v := .int .i64 n) (fun w => by simp [builtin, Builtin.len_, hat, underlying_run he, goInt]) (lift_val h)
    | [.string s], h =>
      obtain ⟨ht, h⟩ := tyIs_spec h
      obtain ⟨t0, hat, ht⟩ := firstTy_spec ht
      have he := strTy_spec ht
      exact semP_yields (v := .int .i64 s.size) (fun w => by simp [builtin, Builtin.len_, hat, underlying_run he, goInt]) (lift_val h)
    | [], h => exact gen h
    | [.bool _], h | [.int _ _], h | [.float _ _], h | [.complex _ _ _], h | [.pointer _], h | [.map _], h | [.chan _], h | [.func _ _ _], h
    | [.nilFunc], h | [.iface _ _], h | [.nilIface], h | [.agg _], h | [.tuple _], h => exact gen h
    | _ :: _ :: _, h => 
      rename_i a b r
      cases a <;> exact gen h
  case cap =>
    match args, h with
    | [.slice q n c], h => exact gen h
    | [], h => exact h.elim
    | [.bool _], h | [.int _ _], h | [.float _ _], h | [.complex _ _ _], h | [.pointer _], h | [.map _], h | [.chan _], h | [.func _ _ _], h
    | [.nilFunc], h | [.iface _ _], h | [.nilIface], h | [.agg _], h | [.tuple _], h | [.string _], h => exact h.elim
    | _ :: _ :: _, h =>
      rename_i a b r
      cases a <;> exact h.elim
  case max =>
    match args, h with
    | [], h => exact gen h
    | [a], h => cases a <;> exact gen h
    | [a, b], h =>
      cases a <;> cases b <;> first | exact gen h | skip
      rename_i k x k' y
      exact semP_yields (v := .int k (if y > x then y else x)) (fun w => by simp [builtin, max2_run]) (lift_val h)
    | a :: b :: c :: r, h => cases a <;> cases b <;> exact gen h
  case min =>
    match args, h with
    | [], h => exact gen h
    | [a], h => cases a <;> exact gen h
    | [a, b], h =>
      cases a <;> cases b <;> first | exact gen h | skip
      rename_i k x k' y
      exact semP_yields (v := .int k (if y < x then y else x)) (fun w => by simp [builtin, min2_run]) (lift_val h)
    | a :: b :: c :: r, h => cases a <;> cases b <;> exact gen h
  case append =>
    match args, h with
    | [.slice p l c, .slice q m d], h =>
      refine nextP_val (semP_mono (fun v σ h => ?_) (show semP P (Builtin.append_ ats t #[.slice p l c, .slice q m d]) _ σ from h))
      obtain ⟨p', l', c', rfl, h⟩ := h
      exact lift_val h
    | [], h => exact gen h
    | [a], h => cases a <;> exact gen h
    | a :: b :: c :: r, h => cases a <;> cases b <;> exact gen h
    | [a, b], h =>
      cases a
      case slice =>
        cases b
        case slice =>
          refine nextP_val (semP_mono (fun v σ h => ?_) (show semP P (Builtin.append_ ats t #[_, _]) _ σ from h))
          obtain ⟨p', l', c', rfl, h⟩ := h
          exact lift_val h
        all_goals exact gen h
      all_goals exact gen h
  case copy => exact gen h
  case clear => exact gen h
  case delete => exact gen h
  all_goals exact h.elim

theorem xpure_sound {e : Env} {ρ : Operand → Value} {o : Oper} {K : SV → HP} {σ : Heap} (hρ : ∀ x v, ev e x = some v → ρ x = v.toV)
    (h : xpure P e o K σ) : nextP P (execOp ρ o) (lift K) σ := by
  obtain ⟨sv, hy, hk⟩ := xpure_spec hρ h
  exact semP_yields hy ⟨sv, rfl, hk⟩

theorem xop_sound (hN : NoCount P) {e : Env} {ρ : Operand → Value} {o : Oper} {K : SV → HP} {σ : Heap} (hρ : ∀ x v, ev e x = some v → ρ x = v.toV)
    (h : xop P e o K σ) : nextP P (execOp ρ o) (lift K) σ := by
  obtain ⟨dst, op, ty, pos, after, guard⟩ := o
  cases op <;> simp only [xop] at h <;> first | exact xpure_sound hρ h | skip
  case alloc elem =>
    obtain ⟨hz, h⟩ := tyIs_spec h
    exact nextP_val (alloc_sound hz h)
  case box elem x =>
    have h := withV_spec hρ h
    refine nextP_val ?_
    unfold Instr.box
    refine semP_bind (semP_newVar (K := fun a => semP P (pure (.pointer (some a))) (lift K)) ?_)
    exact semP_pure (lift_val h)
  case buildSlice t len parts =>
    cases hp : partsOf e parts.toList with
    | none => rw [hp] at h; exact h.elim
    | some ps =>
      cases hu : P.underlying t with
      | none => rw [hp, hu] at h; exact h.elim
      | some d =>
        rw [hp, hu] at h
        cases d <;> (try simp only at h) <;> first | exact h.elim | skip
        obtain ⟨hok, h⟩ := tyIs_spec h
        have hps := partsOf_spec hρ _ _ hp
        have he : parts.map (fun (i, x) => (i, ρ x)) = ps.toArray := by
          rw [← hps]; apply Array.ext'; simp
        simp only [execOp]
        rw [he]
        refine nextP_val (semP_mono ?_ (build_slice hu hok h))
        rintro v σ ⟨b, rfl, hk⟩
        exact lift_val hk
  case load t x =>
    have h := withV_spec hρ h
    cases hx : ρ x <;> rw [hx] at h <;> (try simp only at h) <;> first | exact h.elim | skip
    obtain ⟨a, rfl, h⟩ := adr_spec h
    obtain ⟨ht, h⟩ := tyIs_spec h
    simp only [execOp]
    refine nextP_val ?_
    unfold Instr.loadAt
    refine semP_bind (semP_run a (fun w _ => by simp [Instr.sureAddr, hx]) ?_)
    exact semP_mono (fun v σ h => lift_val h) (semP_loadVar ht h)
  case store t x y =>
    have h := withV_spec hρ (withV_spec hρ h)
    cases hx : ρ x <;> rw [hx] at h <;> (try simp only at h) <;> first | exact h.elim | skip
    obtain ⟨a, rfl, h⟩ := adr_spec h
    obtain ⟨ht, h⟩ := tyIs_spec h
    have h2 : (ρ y).cells.size = P.cellsOf t ∧ stL a 0 (ρ y).cells.toList (K .un) σ := by
      have scal : ∀ u : Value, u.cells = #[u] → stV a u (P.cellsOf t) (K .un) σ → u.cells.size = P.cellsOf t ∧ stL a 0 u.cells.toList (K .un) σ := by
        intro u hu h
        unfold stV at h
        cases hb : Nat.beq (P.cellsOf t) 1 with
        | false => rw [hb] at h; exact h.elim
        | true =>
          rw [hb] at h
          rw [hu, Nat.eq_of_beq_eq_true hb]
          exact ⟨rfl, h⟩
      cases hy : ρ y <;> rw [hy] at h
      case agg cs => exact ⟨h.1, h.2⟩
      all_goals exact scal _ rfl h
    simp only [execOp]
    refine nextP_un ?_
    unfold Instr.storeAt
    refine semP_bind (semP_run a (fun w _ => by simp [Instr.sureAddr, hx]) ?_)
    exact semP_storeVar ht h2.1 h2.2
  case binOp op t x y ty2 =>
    have h := withV_spec hρ (withV_spec hρ h)
    simp only [execOp]
    refine nextP_val ?_
    rcases xbin_cases h with h | h
    · obtain ⟨v, hr, hk⟩ := xbin_pure (x := x) (y := y) h
      exact semP_run v (fun w _ => hr w) (lift_val hk)
    · exact semP_mono (fun v σ h => lift_val (asK_eq h)) h
  case convert src dst x =>
    have h := withV_spec hρ h
    simp only [execOp]
    have gen : semP P (convert src dst (ρ x)) (fun v => asK P dst v fun v => K (.val v)) σ → nextP P (do let v ← convert src dst (ρ x); pure (.value v)) (lift K) σ := fun h => nextP_asK h
    cases hd : P.underlying dst with
    | none => rw [hd] at h; exact gen h
    | some d =>
      rw [hd] at h
      cases d
      case int k =>
        cases hx : ρ x
        case int k' n =>
          rw [hx] at h
          obtain ⟨hs, h⟩ := tyIs_spec h
          obtain ⟨s, hs⟩ := Option.isSome_iff_exists.1 hs
          refine semP_yields (v := .int k (k.wrap n)) (fun w => ?_) (lift_val h)
          unfold convert
          simp only [Sem.run_bind, underlying_run hs, underlying_run hd, Result.andThen_ok]
          rfl
        all_goals (rw [hx] at h gen; exact gen h)
      all_goals exact gen h
  case makeMap t r =>
    cases r with
    | none =>
      simp only [execOp, Option.map_none, Instr.makeMap]
      intro w hw
      refine ⟨.value (.map (some w.heap.size)), { w with heap := w.heap.push (.map #[] 0) }, by simp, ⟨rfl, rfl, rfl⟩, .inl ⟨_, rfl, ?_⟩⟩
      have h : K (.val (.map (some σ.size))) (σ.push (.map #[] 0)) := h
      subst hw
      exact lift_val h
    | some x =>
      have h := withV_spec hρ h
      exact nextP_asK h
  case makeSlice t l c =>
    have h := withV_spec hρ (withV_spec hρ h)
    cases hu : P.underlying t with
    | none => rw [hu] at h; exact h.elim
    | some d =>
      rw [hu] at h
      cases d <;> (try simp only at h) <;> first | exact h.elim | skip
      cases hl : ρ l <;> rw [hl] at h <;> (try simp only at h) <;> first | exact h.elim | skip
      cases hc : ρ c <;> rw [hc] at h <;> (try simp only at h) <;> first | exact h.elim | skip
      simp only [execOp, hl, hc]
      refine nextP_val ?_
      refine semP_mono ?_ (mkSl_sound hu h)
      rintro v σ ⟨b, rfl, hk⟩
      exact lift_val hk
  case lookup t x i ok =>
    have h := withV_spec hρ (withV_spec hρ h)
    exact nextP_asK h
  case mapUpdate t m k x =>
    have h := withV_spec hρ (withV_spec hρ (withV_spec hρ h))
    exact nextP_un h
  case insert t m k x =>
    have h := withV_spec hρ (withV_spec hρ (withV_spec hρ h))
    exact nextP_un h
  case mapEntry t m k =>
    have h := withV_spec hρ (withV_spec hρ h)
    exact nextP_asK h
  case entryStore t m s x =>
    have h := withV_spec hρ (withV_spec hρ (withV_spec hρ h))
    exact nextP_un h
  case range t x =>
    have h := withV_spec hρ h
    exact nextP_val (semP_mono (fun v σ ⟨p, e, h⟩ => by subst e; exact lift_val h) h)
  case next it s =>
    have h := withV_spec hρ h
    refine nextP_val (semP_mono (fun v σ h => ?_) h)
    rcases h with ⟨rfl, h⟩ | ⟨k, x, rfl, h⟩
    · exact lift_val h
    · exact ⟨.nx k x, rfl, h⟩
  case entry it =>
    have h := withV_spec hρ h
    refine nextP_val (semP_mono (fun v σ h => ?_) h)
    obtain ⟨k, x, rfl, h⟩ := h
    exact ⟨.en k x, rfl, h⟩
  case makeInterface t x =>
    have h := withV_spec hρ h
    exact nextP_val (semP_mono (fun v σ h => lift_val h) h)
  case typeAssert x t u ok =>
    have h := withV_spec hρ h
    exact nextP_asK h
  case call c =>
    have h := withVs_spec hρ h
    obtain ⟨callee, args, argTypes⟩ := c
    simp only at h
    have key : args.map ρ = (args.toList.map ρ).toArray := by apply Array.ext'; simp
    cases callee with
    | value f =>
      have h := withV_spec hρ h
      have := xcall_sound hN h
      simp only [execOp, resolve]
      rw [key]
      exact this
    | builtin b =>
      simp only [execOp, resolve, pure_bind, invoke]
      rw [key]
      exact xbuiltin_sound h
    | invoke r n =>
      have h := withV_spec hρ h
      simp only [execOp, resolve, pure_bind]
      rw [key]
      exact nextP_mono (fun v σ h => lift_val (asK_eq h)) h

end
end Go.XS
