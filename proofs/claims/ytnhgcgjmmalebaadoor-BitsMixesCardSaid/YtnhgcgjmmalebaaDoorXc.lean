/- Each operation of the interpreter is sound against the model: for any program; no condition. -/
import Derived.Test.YtnhgcgjmmalebaaDoorXb
set_option linter.unusedVariables false
set_option linter.unusedSimpArgs false
namespace Go.XS

section
variable {P : Program}

abbrev lift (K : SV → HP) : Value → HP := fun v σ => ∃ sv : SV, sv.toV = v ∧ K sv σ

theorem lift_val {K : SV → HP} {v : Value} {σ : Heap} (h : K (.val v) σ) : lift K v σ := ⟨.val v, rfl, h⟩

theorem semP_part {t : TypeId} {cs : Array Value} {off : Nat} {K : Value → HP} {σ : Heap} (ht : tyOk P t = true)
    (h : (TK.of P t).pt cs off (P.cellsOf t) K σ) : semP P (part t cs off) K σ := by
  obtain ⟨hi, hu⟩ := tyOk_spec ht
  unfold part
  refine semP_bind (semP_isAgg hu ?_)
  cases hk : (TK.of P t).isAgg with
  | true =>
    have he : TK.of P t = .agg := by
      revert hk
      generalize TK.of P t = k
      cases k <;> simp [TK.isAgg]
    rw [he] at h
    simp only [TK.pt] at h
    simp only [if_true]
    exact semP_bind (semP_sizeOf hi (semP_pure h))
  | false =>
    have hcell : ∃ v, cs[off]? = some v ∧ K v σ := by
      revert h hk
      generalize TK.of P t = k
      intro h hk
      cases k <;> simp only [TK.pt] at h
      case agg => cases hk
      case slice => obtain ⟨p, l, c, e, h⟩ := h; exact ⟨_, e, h⟩
      all_goals (obtain ⟨b, e, h⟩ := h; exact ⟨_, e, h⟩)
    obtain ⟨v, hv, hk2⟩ := hcell
    simp only [Bool.false_eq_true, if_false, hv]
    exact semP_pure hk2

theorem semP_zero {t : TypeId} {K : Value → HP} {σ : Heap} (h : zok P t = true) (k : ∀ z, z.cells = zc P t → K z σ) : semP P (zeroValue t) K σ := by
  unfold zok at h
  cases hi : P.info? t with
  | none => rw [hi] at h; cases h
  | some i =>
    rw [hi] at h
    obtain ⟨z, hz⟩ := Option.isSome_iff_exists.1 h
    refine semP_run z (fun w _ => by simp [zeroValue, typeInfo, hi, hz]) (k z ?_)
    simp [zc, hi, hz]

theorem semP_new {cs : Array Value} {T : TypeId} {K : Nat → HP} {σ : Heap} (h : K σ.size (σ.push (.cells cs T))) : semP P (newObj (.cells cs T)) K σ := by
  intro w hw
  refine ⟨_, _, run_newObj P w _, ⟨rfl, rfl, rfl⟩, ?_⟩
  rw [hw]; exact h

theorem semP_newVar {v : Value} {T : TypeId} {K : Addr → HP} {σ : Heap} (h : al v.cells T (fun b => K ⟨b, 0, none⟩) σ) : semP P (newVar T v) K σ := by
  unfold newVar newRow
  exact semP_bind (semP_new (semP_pure h))

theorem cellsOf_eq {t : TypeId} {i : TypeInfo} (h : P.info? t = some i) : P.cellsOf t = i.size := by simp [Program.cellsOf, h]

def plainPair : Value → Value → Prop
  | .nilIface, .nilIface => False
  | .agg _, .agg _ => False
  | _, _ => True

theorem eqGuard_run {op : BinOp} {t : TypeId} {x y : Operand} {a b : Value} (h : plainPair a b)
    (w : World) : (eqGuard op t x y a b).run P w = .ok () w := by
  unfold eqGuard
  cases op <;> (try rfl)
  all_goals (cases a <;> cases b <;> first | exact h.elim | rfl)

theorem semP_guard {op : BinOp} {t : TypeId} {x y : Operand} {a b : Value} {K : Value → HP} {σ : Heap}
    (h : plainPair a b)
    (k : semP P (binOp op t a b) K σ) : semP P (do eqGuard op t x y a b; binOp op t a b) K σ :=
  semP_bind (semP_run () (fun w _ => eqGuard_run h w) k)

theorem ptrTy_spec {t : TypeId} (h : ptrTy P t = true) : ∃ e, P.underlying t = some (.pointer e) := by
  unfold ptrTy at h
  cases hu : P.underlying t with
  | none => rw [hu] at h; cases h
  | some d => cases d <;> simp [hu] at h; exact ⟨_, rfl⟩
theorem sliceTy_spec {t : TypeId} (h : sliceTy P t = true) : ∃ e, P.underlying t = some (.slice e) := by
  unfold sliceTy at h
  cases hu : P.underlying t with
  | none => rw [hu] at h; cases h
  | some d => cases d <;> simp [hu] at h; exact ⟨_, rfl⟩
theorem mapTy_spec {t : TypeId} (h : mapTy P t = true) : ∃ k e, P.underlying t = some (.map k e) := by
  unfold mapTy at h
  cases hu : P.underlying t with
  | none => rw [hu] at h; cases h
  | some d => cases d <;> simp [hu] at h; exact ⟨_, _, rfl⟩

theorem boolTy_spec {t : TypeId} (h : boolTy P t = true) : P.underlying t = some .bool := by
  unfold boolTy at h
  cases hu : P.underlying t with
  | none => rw [hu] at h; cases h
  | some d => cases d <;> simp [hu] at h; rfl

theorem equal_run {t : TypeId} {x y : Value} {b : Bool} (h : ∀ d (w : World), (Op.equalIn (d + 1) t x y).run P w = .ok b w) (w : World) :
    (Op.equal t x y).run P w = .ok b w := h 9999 w

theorem eql_run {t : TypeId} {x y : Value} {b : Bool} (hb : binOp .eql t x y = (do pure (.bool (← Op.equal t x y))))
    (h : ∀ d (w : World), (Op.equalIn (d + 1) t x y).run P w = .ok b w) (w : World) : (binOp .eql t x y).run P w = .ok (.bool b) w := by
  rw [hb, Sem.run_bind, equal_run h, Result.andThen_ok, Sem.run_pure]

theorem neq_run {t : TypeId} {x y : Value} {b : Bool} (hb : binOp .neq t x y = (do pure (.bool (!(← Op.equal t x y)))))
    (h : ∀ d (w : World), (Op.equalIn (d + 1) t x y).run P w = .ok b w) (w : World) : (binOp .neq t x y).run P w = .ok (.bool !b) w := by
  rw [hb, Sem.run_bind, equal_run h, Result.andThen_ok, Sem.run_pure]

theorem nil_ptr {t e : TypeId} {p : Option Addr} (he : P.underlying t = some (.pointer e)) (d : Nat) (w : World) :
    (Op.equalIn (d + 1) t (.pointer p) (.pointer none)).run P w = .ok p.isNone w := by
  cases p <;> simp only [Op.equalIn, underlying, Sem.run_bind, run_program, Result.andThen_ok, he, Sem.run_pure] <;> rfl
theorem nil_slice {t e : TypeId} {p : Option Addr} {l c l' c' : Nat} (he : P.underlying t = some (.slice e)) (d : Nat) (w : World) :
    (Op.equalIn (d + 1) t (.slice p l c) (.slice none l' c')).run P w = .ok p.isNone w := by
  cases p <;> simp only [Op.equalIn, underlying, Sem.run_bind, run_program, Result.andThen_ok, he, Sem.run_pure] <;> rfl
theorem nil_map {t k e : TypeId} {p : Option Nat} (he : P.underlying t = some (.map k e)) (d : Nat) (w : World) :
    (Op.equalIn (d + 1) t (.map p) (.map none)).run P w = .ok p.isNone w := by
  cases p <;> simp only [Op.equalIn, underlying, Sem.run_bind, run_program, Result.andThen_ok, he, Sem.run_pure] <;> rfl

theorem eq_bool {t : TypeId} {a b : Bool} (he : P.underlying t = some .bool) (d : Nat) (w : World) :
    (Op.equalIn (d + 1) t (.bool a) (.bool b)).run P w = .ok (a == b) w := by
  simp only [Op.equalIn, underlying, Sem.run_bind, run_program, Result.andThen_ok, he, Sem.run_pure]

/-- What a pure operation on two values yields, in whatever world. -/
theorem xbin_pure {op : BinOp} {t : TypeId} {x y : Operand} {a b : Value} {K : Value → HP} {σ : Heap}
    (h : xbin P op t a b K F σ) : ∃ v, (∀ w : World, (do eqGuard op t x y a b; binOp op t a b : Sem Value).run P w = .ok v w) ∧ K v σ := by
  have gd : ∀ {v : Value}, plainPair a b → (∀ w : World, (binOp op t a b).run P w = .ok v w) → 
      ∀ w : World, (do eqGuard op t x y a b; binOp op t a b : Sem Value).run P w = .ok v w := by
    intro v hm hr w
    rw [Sem.run_bind, eqGuard_run hm, Result.andThen_ok, hr]
  cases a
  case int k m =>
    cases b
    case int k' n =>
      by_cases hk : k = k'
      · subst hk
        cases op <;> simp only [xbin, if_true] at h
        case quo => obtain ⟨h1, h2⟩ := h; exact ⟨_, gd trivial (fun w => by simp only [binOp, ne_eq, not_true_eq_false, if_false, Op.intDiv, h1]; rfl), h2⟩
        case rem => obtain ⟨h1, h2⟩ := h; exact ⟨_, gd trivial (fun w => by simp only [binOp, ne_eq, not_true_eq_false, if_false, Op.intDiv, h1]; rfl), h2⟩
        case shl => obtain ⟨h1, h2⟩ := h; exact ⟨_, gd trivial (fun w => by simp only [binOp, Op.shift, if_neg (Int.not_lt.2 h1)]; rfl), h2⟩
        case shr => obtain ⟨h1, h2⟩ := h; exact ⟨_, gd trivial (fun w => by simp only [binOp, Op.shift, if_neg (Int.not_lt.2 h1)]; rfl), h2⟩
        all_goals exact ⟨_, gd trivial (fun w => by simp only [binOp, ne_eq, not_true_eq_false, if_false]; rfl), h⟩
      · cases op <;> simp only [xbin, hk, if_false] at h
        case shl => obtain ⟨h1, h2⟩ := h; exact ⟨_, gd trivial (fun w => by simp only [binOp, Op.shift, if_neg (Int.not_lt.2 h1)]; rfl), h2⟩
        case shr => obtain ⟨h1, h2⟩ := h; exact ⟨_, gd trivial (fun w => by simp only [binOp, Op.shift, if_neg (Int.not_lt.2 h1)]; rfl), h2⟩
        all_goals exact h.elim
    all_goals exact h.elim
  case bool s =>
    cases b
    case bool u =>
      cases op
      case eql => obtain ⟨h1, h2⟩ := tyIs_spec h; exact ⟨_, gd trivial (eql_run rfl (eq_bool (boolTy_spec h1))), h2⟩
      case neq => obtain ⟨h1, h2⟩ := tyIs_spec h; exact ⟨_, gd trivial (neq_run rfl (eq_bool (boolTy_spec h1))), h2⟩
      all_goals exact h.elim
    all_goals exact h.elim
  case string s =>
    cases b
    case string u =>
      cases op
      case eql => exact ⟨_, gd trivial (fun w => rfl), h⟩
      case neq => exact ⟨_, gd trivial (fun w => rfl), h⟩
      all_goals exact h.elim
    all_goals exact h.elim
  case pointer p =>
    cases b
    case pointer q =>
      cases q with
      | some q => cases p <;> exact h.elim
      | none =>
        cases op
        case eql => obtain ⟨h1, h2⟩ := tyIs_spec h; obtain ⟨e, he⟩ := ptrTy_spec h1; exact ⟨_, gd trivial (eql_run (by cases p <;> rfl) (nil_ptr he)), h2⟩
        case neq => obtain ⟨h1, h2⟩ := tyIs_spec h; obtain ⟨e, he⟩ := ptrTy_spec h1; exact ⟨_, gd trivial (neq_run (by cases p <;> rfl) (nil_ptr he)), h2⟩
        all_goals exact h.elim
    all_goals exact h.elim
  case slice p l c =>
    cases b
    case slice q l' c' =>
      cases q with
      | some q => exact h.elim
      | none =>
        cases op
        case eql => obtain ⟨h1, h2⟩ := tyIs_spec h; obtain ⟨e, he⟩ := sliceTy_spec h1; exact ⟨_, gd trivial (eql_run (by cases p <;> rfl) (nil_slice he)), h2⟩
        case neq => obtain ⟨h1, h2⟩ := tyIs_spec h; obtain ⟨e, he⟩ := sliceTy_spec h1; exact ⟨_, gd trivial (neq_run (by cases p <;> rfl) (nil_slice he)), h2⟩
        all_goals exact h.elim
    all_goals exact h.elim
  case map p =>
    cases b
    case map q =>
      cases q with
      | some q => exact h.elim
      | none =>
        cases op
        case eql => obtain ⟨h1, h2⟩ := tyIs_spec h; obtain ⟨k, e, he⟩ := mapTy_spec h1; exact ⟨_, gd trivial (eql_run (by cases p <;> rfl) (nil_map he)), h2⟩
        case neq => obtain ⟨h1, h2⟩ := tyIs_spec h; obtain ⟨k, e, he⟩ := mapTy_spec h1; exact ⟨_, gd trivial (neq_run (by cases p <;> rfl) (nil_map he)), h2⟩
        all_goals exact h.elim
    all_goals exact h.elim
  all_goals exact h.elim

theorem xbin_cases {op : BinOp} {t : TypeId} {a b : Value} {K : Value → HP} {fb : HP} {σ : Heap} (h : xbin P op t a b K fb σ) : xbin P op t a b K F σ ∨ fb σ := by
  cases a
  case int k m =>
    cases b
    case int k' n => exact .inl h
    all_goals exact .inr h
  case bool s =>
    cases b
    case bool u => cases op <;> first | exact .inl h | exact .inr h
    all_goals exact .inr h
  case string s =>
    cases b
    case string u => cases op <;> first | exact .inl h | exact .inr h
    all_goals exact .inr h
  case pointer p =>
    cases b
    case pointer q =>
      cases q with
      | some q => cases p <;> exact .inr h
      | none => cases op <;> first | exact .inl h | exact .inr h
    all_goals exact .inr h
  case slice p l c =>
    cases b
    case slice q l' c' =>
      cases q with
      | some q => exact .inr h
      | none => cases op <;> first | exact .inl h | exact .inr h
    all_goals exact .inr h
  case map p =>
    cases b
    case map q =>
      cases q with
      | some q => exact .inr h
      | none => cases op <;> first | exact .inl h | exact .inr h
    all_goals exact .inr h
  all_goals exact .inr h

theorem xbin_sound {op : BinOp} {t : TypeId} {x y : Operand} {a b : Value} {K : Value → HP} {fb : HP} {σ : Heap}
    (hfb : fb σ → semP P (do eqGuard op t x y a b; binOp op t a b) K σ)
    (h : xbin P op t a b K fb σ) : semP P (do eqGuard op t x y a b; binOp op t a b) K σ := by
  rcases xbin_cases h with h | h
  · obtain ⟨v, hr, hk⟩ := xbin_pure (x := x) (y := y) h
    exact semP_run v (fun w _ => hr w) hk
  · exact hfb h

end
end Go.XS
