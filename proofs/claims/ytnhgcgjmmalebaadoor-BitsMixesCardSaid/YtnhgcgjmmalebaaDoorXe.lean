/- The interpreter of an operation is sound: for any program; no condition. -/
import Derived.Test.YtnhgcgjmmalebaaDoorXd
set_option linter.unusedVariables false
set_option linter.unusedSimpArgs false
namespace Go.XS

section
variable {P : Program}

theorem max2_run {ats : Array TypeId} {t : TypeId} {k k' : IntKind} {x y : Int} (w : World) : (Builtin.max_ ats t #[.int k x, .int k' y]).run P w = .ok (.int k (if y > x then y else x)) w := by
  simp [Builtin.max_, Builtin.max2]
theorem min2_run {ats : Array TypeId} {t : TypeId} {k k' : IntKind} {x y : Int} (w : World) : (Builtin.min_ ats t #[.int k x, .int k' y]).run P w = .ok (.int k (if y < x then y else x)) w := by
  simp [Builtin.min_, Builtin.min2]

theorem firstTy_spec {f : TypeId → Bool} {ats : Array TypeId} (h : firstTy f ats = true) : ∃ t, ats[0]? = some t ∧ f t = true := by
  unfold firstTy at h
  cases ht : ats[0]? with
  | none => rw [ht] at h; cases h
  | some t => rw [ht] at h; exact ⟨t, rfl, h⟩

theorem xpure_spec {e : Env} {ρ : Operand → Value} {o : Oper} {K : SV → HP} {σ : Heap} (hρ : ∀ x v, ev e x = some v → ρ x = v.toV)
    (h : xpure P e o K σ) : ∃ sv : SV, Yields P (execOp ρ o) sv.toV ∧ K sv σ := by
  obtain ⟨dst, op, ty, pos, after, guard⟩ := o
  cases op <;> simp only [xpure] at h <;> first | exact h.elim | skip
  case move x =>
    obtain ⟨v, hv, h⟩ := withSV_spec hρ h
    exact ⟨v, fun w => by simp [execOp, hv], h⟩
  case assign x =>
    obtain ⟨v, hv, h⟩ := withSV_spec hρ h
    exact ⟨v, fun w => by simp [execOp, hv], h⟩
  case pick c a b =>
    obtain ⟨v, hv, h⟩ := withSV_spec hρ h
    cases v with
    | un => exact h.elim
    | nx _ _ => exact h.elim
    | en _ _ => exact h.elim
    | kb t =>
      cases t
      · obtain ⟨u, hu, h⟩ := withSV_spec hρ h
        exact ⟨u, fun w => by simp [execOp, hv, SV.toV, asBool, hu], h⟩
      · obtain ⟨u, hu, h⟩ := withSV_spec hρ h
        exact ⟨u, fun w => by simp [execOp, hv, SV.toV, asBool, hu], h⟩
    | val v =>
      cases v <;> (try simp only at h) <;> first | exact h.elim | skip
      rename_i t
      have := xif_spec h
      cases t
      · obtain ⟨u, hu, h⟩ := withSV_spec hρ this
        exact ⟨u, fun w => by simp [execOp, hv, SV.toV, asBool, hu], h⟩
      · obtain ⟨u, hu, h⟩ := withSV_spec hρ this
        exact ⟨u, fun w => by simp [execOp, hv, SV.toV, asBool, hu], h⟩
  case build t parts =>
    cases hp : partsOf e parts.toList with
    | none => rw [hp] at h; exact h.elim
    | some ps =>
      cases hpl : fieldPlaces P t with
      | none => rw [hp, hpl] at h; cases ps <;> exact h.elim
      | some pl =>
        rw [hp, hpl] at h
        have hps := partsOf_spec hρ _ _ hp
        have he : parts.map (fun (i, x) => (i, ρ x)) = ps.toArray := by
          rw [← hps]; apply Array.ext'; simp
        have fin : ∀ cells : Array Value, zok P t = true → Instr.fill pl (zc P t) ps = some cells → K (.val (.agg cells)) σ → ∃ sv : SV, Yields P (execOp ρ ⟨dst, .build t parts, ty, pos, after, guard⟩) sv.toV ∧ K sv σ := by
          intro cells hz hf h
          refine ⟨_, ?_, h⟩
          simp only [execOp]
          rw [he]
          exact yields_of (build_run hz hpl hf)
        cases ps with
        | nil =>
          obtain ⟨hz, h⟩ := tyIs_spec h
          exact fin _ hz rfl h
        | cons q qs =>
          obtain ⟨hz, h⟩ := tyIs_spec h
          obtain ⟨cells, hf, h⟩ := fillX_spec (q :: qs) (zc P t) h
          exact fin cells hz hf h
  case nilCheck x =>
    have h := withV_spec hρ h
    cases hx : ρ x <;> rw [hx] at h <;> (try simp only at h) <;> first | exact h.elim | skip
    case pointer p =>
      obtain ⟨a, rfl, h⟩ := adr_spec h
      exact ⟨_, fun w => by simp [execOp, hx, SV.toV], h⟩
    case func fn first captured =>
      cases fn <;> (try simp only at h) <;> first | exact h.elim | skip
      exact ⟨_, fun w => by simp [execOp, hx, SV.toV], h⟩
  case binOp op t x y ty2 =>
    have h := withV_spec hρ (withV_spec hρ h)
    obtain ⟨v, hr, hk⟩ := xbin_pure (x := x) (y := y) h
    exact ⟨.val v, yields_of hr, hk⟩
  case unOp op t x =>
    obtain ⟨v, hv, h⟩ := withSV_spec hρ h
    cases op
    case plus => exact h.elim
    case not =>
      cases v with
      | kb b => cases b <;> exact ⟨_, fun w => by simp [execOp, hv, SV.toV, Op.unary], h⟩
      | un => exact h.elim
      | nx _ _ => exact h.elim
      | en _ _ => exact h.elim
      | val v =>
        cases v <;> (try simp only at h) <;> first | exact h.elim | skip
        exact ⟨_, fun w => by simp [execOp, hv, SV.toV, Op.unary], h⟩
    case neg =>
      cases v with
      | kb b => exact h.elim
      | un => exact h.elim
      | nx _ _ => exact h.elim
      | en _ _ => exact h.elim
      | val v =>
        cases v <;> (try simp only at h) <;> first | exact h.elim | skip
        exact ⟨_, fun w => by simp [execOp, hv, SV.toV, Op.unary, Op.intArith], h⟩
    case xor =>
      cases v with
      | kb b => exact h.elim
      | un => exact h.elim
      | nx _ _ => exact h.elim
      | en _ _ => exact h.elim
      | val v =>
        cases v <;> (try simp only at h) <;> first | exact h.elim | skip
        exact ⟨_, fun w => by simp [execOp, hv, SV.toV, Op.unary, Op.intBits, ibits], h⟩
  case convert src dst x =>
    have h := withV_spec hρ h
    cases hd : P.underlying dst with
    | none => rw [hd] at h; exact h.elim
    | some d =>
      rw [hd] at h
      cases d <;> (try simp only at h) <;> first | exact h.elim | skip
      rename_i k
      cases hx : ρ x <;> rw [hx] at h <;> (try simp only at h) <;> first | exact h.elim | skip
      obtain ⟨hs, h⟩ := tyIs_spec h
      obtain ⟨s, hs⟩ := Option.isSome_iff_exists.1 hs
      refine ⟨_, ?_, h⟩
      simp only [execOp]
      refine yields_of fun w => ?_
      unfold convert
      simp only [Sem.run_bind, underlying_run hs, underlying_run hd, Result.andThen_ok, hx]
      rfl
  case makeFunc fn first captured =>
    have h := withVs_spec hρ (withVs_spec hρ h)
    refine ⟨_, fun w => ?_, h⟩
    have key : ∀ (vs : Array Operand), vs.map ρ = (vs.toList.map ρ).toArray := by
      intro vs; apply Array.ext'; simp
    simp only [execOp, Instr.makeFunc, SV.toV, key]
    rfl
  case slice t x lo hi mx =>
    have h := withV_spec hρ h
    cases hu : P.underlying t with
    | none => rw [hu] at h; exact h.elim
    | some d =>
      rw [hu] at h
      cases d <;> (try simp only at h) <;> first | exact h.elim | skip
      case string =>
        cases hx : ρ x <;> rw [hx] at h <;> (try simp only at h) <;> first | exact h.elim | skip
        rename_i s
        cases mx with
        | some m => exact h.elim
        | none =>
          have h' : optB e none s.size s.size (fun m => optB e hi s.size m fun q => optB e lo 0 q fun l => match (none : Option Operand), hi with | some _, none => F | _, _ => K (.val (.string (s.extract l q)))) σ := h
          obtain ⟨l, hh, m, hr, hk⟩ := bounds_run (P := P) (isSlice := false) (f := fun l h m => K (.val (.string (s.extract l h)))) hρ h'
          refine ⟨_, ?_, hk⟩
          simp only [execOp]
          refine yields_of fun w => ?_
          have hr := hr w
          simp only [Option.map_none] at hr
          simp [Instr.sliceAt, underlying_run hu, Instr.slice, hx, hr, SV.toV]
      case slice elem =>
        cases hx : ρ x <;> rw [hx] at h <;> (try simp only at h) <;> first | exact h.elim | skip
        rename_i p len cap
        obtain ⟨ht, h⟩ := tyIs_spec h
        obtain ⟨hi', hu'⟩ := tyOk_spec ht
        obtain ⟨l, hh, m, hr, hk⟩ := bounds_run (P := P) (isSlice := true) (f := fun l h m => K (.val (.slice (slBase p (P.cellsOf elem) l m) (h - l) (m - l)))) hρ h
        refine ⟨_, ?_, hk⟩
        simp only [execOp]
        refine yields_of fun w => ?_
        simp [Instr.sliceAt, underlying_run hu, Instr.slice, hx, hr w, sizeOf_run hi', slBase, SV.toV]
      case array n elem =>
        cases hx : ρ x <;> rw [hx] at h <;> (try simp only at h) <;> first | exact h.elim | skip
        rename_i q
        obtain ⟨a, rfl, h⟩ := adr_spec h
        obtain ⟨ht, h⟩ := tyIs_spec h
        obtain ⟨hi', hu'⟩ := tyOk_spec ht
        obtain ⟨l, hh, m, hr, hk⟩ := bounds_run (P := P) (isSlice := false) (f := fun l h m => K (.val (.slice (some (aBase a (P.cellsOf elem) l m)) (h - l) (m - l)))) hρ h
        refine ⟨_, ?_, hk⟩
        simp only [execOp]
        refine yields_of fun w => ?_
        simp [Instr.sliceAt, Instr.sureAddr, underlying_run hu, hx, hr w, sizeOf_run hi', aBase, SV.toV]
  case fieldAddr s x f =>
    have h := withV_spec hρ h
    cases hx : ρ x <;> rw [hx] at h <;> (try simp only at h) <;> first | exact h.elim | skip
    rename_i q
    cases hf : fieldOff P s f with
    | none => rw [hf] at h; exact h.elim
    | some off =>
      rw [hf] at h
      obtain ⟨a, rfl, h⟩ := adr_spec h
      obtain ⟨fs, fd, h1, h2, h3, h4, rfl⟩ := fieldOff_spec hf
      refine ⟨_, ?_, h⟩
      simp only [execOp]
      refine yields_of fun w => ?_
      simp [Instr.fieldAt, underlying_run h1, h2, Instr.sureAddr, hx, fieldPlace, sizeOf_run h3, h4, SV.toV]
  case field t x f =>
    have h := withV_spec hρ h
    cases hx : ρ x <;> rw [hx] at h <;> (try simp only at h) <;> first | exact h.elim | skip
    rename_i cs
    cases hu : P.underlying t with
    | none => rw [hu] at h; exact h.elim
    | some d =>
      rw [hu] at h
      cases d <;> (try simp only at h) <;> first | exact h.elim | skip
      rename_i fs
      cases hf : fs[f]? with
      | none => rw [hf] at h; exact h.elim
      | some fd =>
        rw [hf] at h
        obtain ⟨ht, h⟩ := tyIs_spec h
        obtain ⟨v, hr, hk⟩ := part_yields ht h
        refine ⟨.val v, ?_, hk⟩
        simp only [execOp]
        refine yields_of fun w => ?_
        simp [Instr.field, underlying_run hu, hf, asAgg, hx, hr w, SV.toV]
  case indexAddr t x i =>
    have h := withV_spec hρ (withV_spec hρ h)
    cases hu : P.underlying t with
    | none => rw [hu] at h; exact h.elim
    | some d =>
      rw [hu] at h
      cases d <;> (try simp only at h) <;> first | exact h.elim | skip
      case slice elem =>
        cases hx : ρ x <;> rw [hx] at h <;> (try simp only at h) <;> first | exact h.elim | skip
        cases hi : ρ i <;> rw [hi] at h <;> (try simp only at h) <;> first | exact h.elim | skip
        obtain ⟨a, rfl, h⟩ := adr_spec h
        obtain ⟨ht, h⟩ := tyIs_spec h
        obtain ⟨hi', hu'⟩ := tyOk_spec ht
        obtain ⟨⟨b0, b1⟩, h⟩ := h
        refine ⟨_, ?_, h⟩
        simp only [execOp]
        refine yields_of fun w => ?_
        simp [scale_eq, Instr.indexAt, asIntOf, underlying_run hu, hx, hi, b0, b1, sizeOf_run hi', SV.toV]
      case array len elem =>
        cases hx : ρ x <;> rw [hx] at h <;> (try simp only at h) <;> first | exact h.elim | skip
        cases hi : ρ i <;> rw [hi] at h <;> (try simp only at h) <;> first | exact h.elim | skip
        obtain ⟨a, rfl, h⟩ := adr_spec h
        obtain ⟨ht, h⟩ := tyIs_spec h
        obtain ⟨hi', hu'⟩ := tyOk_spec ht
        obtain ⟨⟨b0, b1⟩, h⟩ := h
        refine ⟨_, ?_, h⟩
        simp only [execOp]
        refine yields_of fun w => ?_
        simp [scale_eq, Instr.indexAt, asIntOf, underlying_run hu, hx, hi, b0, b1, sizeOf_run hi', SV.toV, Instr.sureAddr]
  case index t x i =>
    have h := withV_spec hρ (withV_spec hρ h)
    cases hu : P.underlying t with
    | none => rw [hu] at h; exact h.elim
    | some d =>
      rw [hu] at h
      cases d <;> (try simp only at h) <;> first | exact h.elim | skip
      case string =>
        cases hx : ρ x <;> rw [hx] at h <;> (try simp only at h) <;> first | exact h.elim | skip
        cases hi : ρ i <;> rw [hi] at h <;> (try simp only at h) <;> first | exact h.elim | skip
        rename_i s k n
        obtain ⟨⟨b0, b1⟩, h⟩ := h
        refine ⟨_, ?_, h⟩
        simp only [execOp]
        refine yields_of fun w => ?_
        have hlt : n.toNat < s.size := by omega
        have hg : s[n.toNat]? = some s[n.toNat] := by simp [hlt]
        have hd : s.data[n.toNat]? = some s[n.toNat] := by
          have : n.toNat < s.data.size := hlt
          rw [Array.getElem?_eq_getElem this]; rfl
        simp [Instr.index, asIntOf, underlying_run hu, hx, hi, b0, hg, strAt, hd, SV.toV]
      case array len elem =>
        cases hx : ρ x <;> rw [hx] at h <;> (try simp only at h) <;> first | exact h.elim | skip
        cases hi : ρ i <;> rw [hi] at h <;> (try simp only at h) <;> first | exact h.elim | skip
        obtain ⟨ht, h⟩ := tyIs_spec h
        obtain ⟨hi', hu'⟩ := tyOk_spec ht
        obtain ⟨⟨b0, b1⟩, h⟩ := h
        rw [scale_eq] at h
        obtain ⟨v, hr, hk⟩ := part_yields ht h
        refine ⟨.val v, ?_, hk⟩
        simp only [execOp]
        refine yields_of fun w => ?_
        simp [Instr.index, asIntOf, underlying_run hu, hx, hi, b0, b1, sizeOf_run hi', SV.toV, hr w]
  case extract x i =>
    obtain ⟨v, hv, h⟩ := withSV_spec hρ h
    cases v with
    | un => exact h.elim
    | kb b => exact h.elim
    | nx k y =>
      have fin : ∀ u, (#[.bool true, k, y] : Array Value)[i]? = some u → K (.val u) σ → ∃ sv : SV, Yields P (execOp ρ ⟨dst, .extract x i, ty, pos, after, guard⟩) sv.toV ∧ K sv σ := by
        intro u hu hk
        refine ⟨.val u, ?_, hk⟩
        simp only [execOp]
        refine yields_of fun w => ?_
        simp [Instr.extract, hv, SV.toV, hu]
      match i, h with
      | 0, h => exact fin _ rfl h
      | 1, h => exact fin _ rfl (asK_eq h)
      | 2, h => exact fin _ rfl (asK_eq h)
    | en k y =>
      have fin : ∀ u, (#[k, y] : Array Value)[i]? = some u → K (.val u) σ → ∃ sv : SV, Yields P (execOp ρ ⟨dst, .extract x i, ty, pos, after, guard⟩) sv.toV ∧ K sv σ := by
        intro u hu hk
        refine ⟨.val u, ?_, hk⟩
        simp only [execOp]
        refine yields_of fun w => ?_
        simp [Instr.extract, hv, SV.toV, hu]
      match i, h with
      | 0, h => exact fin _ rfl (asK_eq h)
      | 1, h => exact fin _ rfl (asK_eq h)
    | val v =>
      cases v <;> (try simp only at h) <;> first | exact h.elim | skip
      rename_i vs
      cases hu : vs[i]? with
      | none => rw [hu] at h; exact h.elim
      | some u =>
        rw [hu] at h
        refine ⟨.val u, ?_, h⟩
        simp only [execOp]
        refine yields_of fun w => ?_
        simp [Instr.extract, hv, SV.toV, hu]
  case call c =>
    have h := withVs_spec hρ h
    obtain ⟨callee, args, argTypes⟩ := c
    simp only at h
    have key : ∀ (vs : List Value), args.toList.map ρ = vs → args.map ρ = vs.toArray := by
      intro vs hv; rw [← hv]; apply Array.ext'; simp
    cases callee with
    | value f => exact h.elim
    | invoke r n => exact h.elim
    | builtin b =>
      cases b <;> (try simp only at h) <;> first | exact h.elim | skip
      case len =>
        cases hl : args.toList.map ρ with
        | nil => rw [hl] at h; exact h.elim
        | cons a r =>
          cases r with
          | cons _ _ => rw [hl] at h; cases a <;> exact h.elim
          | nil =>
            rw [hl] at h
            cases a <;> (try simp only at h) <;> first | exact h.elim | skip
            case slice q n cp =>
              obtain ⟨ht, h⟩ := tyIs_spec h
              obtain ⟨t0, hat, ht⟩ := firstTy_spec ht
              obtain ⟨el, he⟩ := sliceTy_spec ht
              refine ⟨_, fun w => ?_, h⟩
              simp [execOp, resolve, invoke, key _ hl, builtin, Builtin.len_, hat, underlying_run he, goInt, SV.toV]
            case string s =>
              obtain ⟨ht, h⟩ := tyIs_spec h
              obtain ⟨t0, hat, ht⟩ := firstTy_spec ht
              have he := strTy_spec ht
              refine ⟨_, fun w => ?_, h⟩
              simp [execOp, resolve, invoke, key _ hl, builtin, Builtin.len_, hat, underlying_run he, goInt, SV.toV]
      case max =>
        cases hl : args.toList.map ρ with
        | nil => rw [hl] at h; exact h.elim
        | cons a r =>
          cases r with
          | nil => rw [hl] at h; cases a <;> exact h.elim
          | cons b r =>
            cases r with
            | cons _ _ => rw [hl] at h; cases a <;> cases b <;> exact h.elim
            | nil =>
              rw [hl] at h
              cases a <;> cases b <;> (try simp only at h) <;> first | exact h.elim | skip
              refine ⟨_, fun w => ?_, h⟩
              simp [execOp, resolve, invoke, key _ hl, builtin, max2_run, SV.toV]
      case min =>
        cases hl : args.toList.map ρ with
        | nil => rw [hl] at h; exact h.elim
        | cons a r =>
          cases r with
          | nil => rw [hl] at h; cases a <;> exact h.elim
          | cons b r =>
            cases r with
            | cons _ _ => rw [hl] at h; cases a <;> cases b <;> exact h.elim
            | nil =>
              rw [hl] at h
              cases a <;> cases b <;> (try simp only at h) <;> first | exact h.elim | skip
              refine ⟨_, fun w => ?_, h⟩
              simp [execOp, resolve, invoke, key _ hl, builtin, min2_run, SV.toV]

end
end Go.XS
