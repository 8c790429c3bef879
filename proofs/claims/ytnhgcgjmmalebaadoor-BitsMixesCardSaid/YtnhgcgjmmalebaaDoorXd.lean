/- Each operation of the interpreter is sound against the model (the joined theorem): for any program; no condition. -/
import Derived.Test.YtnhgcgjmmalebaaDoorXc
set_option linter.unusedVariables false
set_option linter.unusedSimpArgs false
namespace Go.XS

section
variable {P : Program}

/-- What is reckoned in every world alike. -/
def Yields (P : Program) (s : Sem Next) (v : Value) : Prop := ∀ w : World, s.run P w = .ok (.value v) w

theorem yields_of {s : Sem Value} {v : Value} (h : ∀ w : World, s.run P w = .ok v w) : Yields P (do let v ← s; pure (.value v)) v :=
  fun w => by simp [h w]

theorem part_yields {t : TypeId} {cs : Array Value} {off : Nat} {K : Value → HP} {σ : Heap} (ht : tyOk P t = true)
    (h : (TK.of P t).pt cs off (P.cellsOf t) K σ) : ∃ v, (∀ w : World, (part t cs off).run P w = .ok v w) ∧ K v σ := by
  obtain ⟨hi, hu⟩ := tyOk_spec ht
  obtain ⟨d, hd⟩ := Option.isSome_iff_exists.1 hu
  cases hk : (TK.of P t).isAgg with
  | true =>
    have he : TK.of P t = .agg := by
      revert hk
      generalize TK.of P t = k
      cases k <;> simp [TK.isAgg]
    rw [he] at h
    simp only [TK.pt] at h
    refine ⟨_, fun w => ?_, h⟩
    obtain ⟨i, hi⟩ := Option.isSome_iff_exists.1 hi
    unfold part
    rw [Sem.run_bind, run_isAgg hd, TK.of_agg hd, hk, Result.andThen_ok]
    simp [sizeOf, typeInfo, hi, Program.cellsOf]
  | false =>
    have hcell : ∃ v, cs[off]? = some v ∧ K v σ := by
      revert h hk
      generalize TK.of P t = k
      intro h hk
      cases k <;> simp only [TK.pt] at h
      case agg => cases hk
      case slice => obtain ⟨p, l, c, e, h⟩ := h; exact ⟨_, e, h⟩
      all_goals (obtain ⟨b, e, h⟩ := h; exact ⟨_, e, h⟩)
    obtain ⟨v, hv, hk2⟩ := hcell
    refine ⟨v, fun w => ?_, hk2⟩
    unfold part
    rw [Sem.run_bind, run_isAgg hd, TK.of_agg hd, hk, Result.andThen_ok]
    simp [hv]

theorem optB_spec {e : Env} {ρ : Operand → Value} (hρ : ∀ x v, ev e x = some v → ρ x = v.toV) {x : Option Operand} {d ub : Nat} {f : Nat → HP} {σ : Heap}
    (h : optB e x d ub f σ) : (x = none ∧ f d σ) ∨ ∃ y k n, x = some y ∧ ρ y = .int k n ∧ 0 ≤ n ∧ n ≤ (ub : Int) ∧ f n.toNat σ := by
  unfold optB at h
  cases x with
  | none => exact .inl ⟨rfl, h⟩
  | some y =>
    right
    simp only at h
    cases hv : ev e y with
    | none => rw [hv] at h; exact h.elim
    | some v =>
      rw [hv] at h
      cases v with
      | val v =>
        cases v <;> first | exact h.elim | skip
        obtain ⟨⟨h1, h2⟩, h3⟩ := h
        exact ⟨y, _, _, rfl, hρ y _ hv, h1, h2, h3⟩
      | kb b => exact h.elim
      | un => exact h.elim
      | nx _ _ => exact h.elim
      | en _ _ => exact h.elim

theorem sliceBound_run {k : IntKind} {n : Int} {ub : Nat} {code : BoundsCode} (h0 : 0 ≤ n) (h1 : n ≤ (ub : Int)) (w : World) :
    (Instr.sliceBound (.int k n) ub code).run P w = .ok n.toNat w := by
  simp [Instr.sliceBound, asIntOf, h0, h1]

/-- The three bounds of a slice expression. -/
theorem bounds_run {ρ : Operand → Value} {isSlice : Bool} {len cap : Nat} {lo hi mx : Option Operand} {e : Env} {σ : Heap} {f : Nat → Nat → Nat → HP}
    (hρ : ∀ x v, ev e x = some v → ρ x = v.toV)
    (h : optB e mx cap cap (fun m => optB e hi len m fun h => optB e lo 0 h fun l => match mx, hi with | some _, none => F | _, _ => f l h m) σ) :
    ∃ l h m, (∀ w : World, (Instr.sliceBounds isSlice len cap (lo.map ρ) (hi.map ρ) (mx.map ρ)).run P w = .ok (l, h, m) w) ∧ f l h m σ := by
  rcases optB_spec hρ h with ⟨rfl, h⟩ | ⟨xm, km, nm, rfl, em, hm0, hm1, h⟩
  · rcases optB_spec hρ h with ⟨rfl, h⟩ | ⟨xh, kh, nh, rfl, eh, hh0, hh1, h⟩
    · rcases optB_spec hρ h with ⟨rfl, h⟩ | ⟨xl, kl, nl, rfl, el, hl0, hl1, h⟩
      · exact ⟨0, len, cap, fun w => by simp [Instr.sliceBounds], h⟩
      · exact ⟨nl.toNat, len, cap, fun w => by simp [Instr.sliceBounds, el, sliceBound_run hl0 hl1], h⟩
    · rcases optB_spec hρ h with ⟨rfl, h⟩ | ⟨xl, kl, nl, rfl, el, hl0, hl1, h⟩
      · exact ⟨0, nh.toNat, cap, fun w => by simp [Instr.sliceBounds, eh, sliceBound_run hh0 hh1], h⟩
      · exact ⟨nl.toNat, nh.toNat, cap, fun w => by simp [Instr.sliceBounds, el, eh, sliceBound_run hh0 hh1, sliceBound_run hl0 hl1], h⟩
  · rcases optB_spec hρ h with ⟨rfl, h⟩ | ⟨xh, kh, nh, rfl, eh, hh0, hh1, h⟩
    · rcases optB_spec hρ h with ⟨rfl, h⟩ | ⟨xl, kl, nl, rfl, el, hl0, hl1, h⟩
      · exact h.elim
      · exact h.elim
    · rcases optB_spec hρ h with ⟨rfl, h⟩ | ⟨xl, kl, nl, rfl, el, hl0, hl1, h⟩
      · exact ⟨0, nh.toNat, nm.toNat, fun w => by simp [Instr.sliceBounds, eh, em, sliceBound_run hm0 hm1, sliceBound_run hh0 hh1], h⟩
      · exact ⟨nl.toNat, nh.toNat, nm.toNat, fun w => by simp [Instr.sliceBounds, el, eh, em, sliceBound_run hm0 hm1, sliceBound_run hh0 hh1, sliceBound_run hl0 hl1], h⟩

theorem sizeOf_run {t : TypeId} (h : (P.info? t).isSome = true) (w : World) : (sizeOf t).run P w = .ok (P.cellsOf t) w := by
  obtain ⟨i, hi⟩ := Option.isSome_iff_exists.1 h
  simp [sizeOf, typeInfo, hi, Program.cellsOf]

theorem underlying_run {t : TypeId} {d : TypeDesc} (h : P.underlying t = some d) (w : World) : (underlying t).run P w = .ok d w := by
  simp [underlying, h]

theorem fieldOff_spec {s : TypeId} {f off : Nat} (h : fieldOff P s f = some off) :
    ∃ fs fd, P.underlying s = some (.struct fs) ∧ fs[f]? = some fd ∧ (P.info? fd.type).isSome = true ∧ P.cellsOf fd.type ≠ 0 ∧ fd.offset = off := by
  unfold fieldOff at h
  cases hu : P.underlying s with
  | none => rw [hu] at h; cases h
  | some d =>
    rw [hu] at h
    cases d <;> simp only at h <;> first | (cases h; done) | skip
    rename_i fs
    cases hf : fs[f]? with
    | none => rw [hf] at h; cases h
    | some fd =>
      rw [hf] at h
      simp only at h
      split at h
      · cases h
      · rename_i hne
        cases h
        refine ⟨fs, fd, rfl, hf, ?_, hne, rfl⟩
        unfold Program.cellsOf at hne
        cases hi : P.info? fd.type with
        | none => rw [hi] at hne; simp at hne
        | some i => rfl

theorem semP_yields {s : Sem Next} {v : Value} {K : Value → HP} {σ : Heap} (h : Yields P s v) (k : K v σ) : nextP P s K σ :=
  fun w hw => ⟨_, w, h w, .refl w, .inl ⟨v, rfl, hw ▸ k⟩⟩

theorem strTy_spec {t : TypeId} (h : strTy P t = true) : P.underlying t = some .string := by
  unfold strTy at h
  cases hu : P.underlying t with
  | none => rw [hu] at h; cases h
  | some d => cases d <;> simp [hu] at h; rfl

theorem fill_places {pl pl' : Nat → Option (Nat × Nat)} (h : ∀ i, pl i = pl' i) (z : Array Value) (ps : List (Nat × Value)) : Instr.fill pl z ps = Instr.fill pl' z ps := by
  rw [show pl = pl' from funext h]

theorem mapM_places (fs : List Field) (h : fs.all (fun f => (P.info? f.type).isSome) = true) (w : World) :
    (fs.mapM (fun f => do pure (f.offset, ← sizeOf f.type) : Field → Sem (Nat × Nat))).run P w = .ok (fs.map fun f => (f.offset, P.cellsOf f.type)) w := by
  induction fs with
  | nil => rfl
  | cons f fs ih =>
    simp only [List.all_cons, Bool.and_eq_true] at h
    rw [List.mapM_cons]
    simp only [Sem.run_bind, sizeOf_run h.1, Result.andThen_ok, Sem.run_pure, ih h.2, List.map_cons]

theorem build_run {t : TypeId} {pl : Nat → Option (Nat × Nat)} {ps : List (Nat × Value)} {cells : Array Value} (hz : zok P t = true) (hp : fieldPlaces P t = some pl)
    (hf : Instr.fill pl (zc P t) ps = some cells) (w : World) : (Instr.build t ps.toArray).run P w = .ok (.agg cells) w := by
  unfold zok at hz
  cases hi : P.info? t with
  | none => rw [hi] at hz; cases hz
  | some i =>
    rw [hi] at hz
    obtain ⟨z, hzz⟩ := Option.isSome_iff_exists.1 hz
    have hzc : z.cells = zc P t := by simp [zc, hi, hzz]
    unfold Instr.build
    have hzv : (zeroValue t).run P w = .ok z w := by simp [zeroValue, typeInfo, hi, hzz]
    unfold fieldPlaces at hp
    cases hu : P.underlying t with
    | none => rw [hu] at hp; cases hp
    | some d =>
      rw [hu] at hp
      simp only [Sem.run_bind, hzv, Result.andThen_ok, underlying_run hu, hzc]
      cases d <;> simp only at hp <;> first | (cases hp; done) | skip
      case struct fs =>
        split at hp
        · rename_i hall
          cases hp
          have := mapM_places (P := P) fs.toList hall w
          simp only [Sem.run_bind]
          have hm : (fs.mapM (fun f => do pure (f.offset, ← sizeOf f.type) : Field → Sem (Nat × Nat))).run P w = .ok ((fs.toList.map fun f => (f.offset, P.cellsOf f.type)).toArray) w := by
            rw [Array.mapM_eq_mapM_toList]
            simp only [Sem.run_map, this, Result.andThen_ok]
          rw [hm]
          simp only [Result.andThen_ok]
          rw [fill_places (pl' := fun i => (fs[i]?).map fun f => (f.offset, P.cellsOf f.type)) (fun i => by simp)]
          rw [hf]
          rfl
        · cases hp
      case array n elem =>
        split at hp
        · rename_i hs
          cases hp
          simp only [Sem.run_bind, sizeOf_run hs, Result.andThen_ok, hf]
          rfl
        · cases hp

theorem fold_parts (off : Nat) : ∀ (l : List Value) (k : Nat) (cs : Array Value), off + k + l.length ≤ cs.size →
    ((l.zipIdx k).foldl (fun (cs : Array Value) (x : Value × Nat) => cs.setIfInBounds (off + x.2) x.1) cs).toList = cs.toList.take (off + k) ++ l ++ cs.toList.drop (off + k + l.length)
  | [], k, cs, h => by simp
  | v :: l, k, cs, h => by
    simp only [List.length_cons] at h
    simp only [List.zipIdx_cons, List.foldl_cons]
    rw [fold_parts off l (k + 1) _ (by simp; omega)]
    have hlt : off + k < cs.toList.length := by simp; omega
    simp only [Array.toList_setIfInBounds, List.length_cons]
    rw [show off + (k + 1) = (off + k) + 1 from by omega, List.take_succ_eq_append_getElem (by simpa using hlt)]
    simp only [List.getElem_set_self, List.take_set_of_le (Nat.le_refl _), List.append_assoc, List.cons_append, List.nil_append]
    rw [List.drop_set_of_lt (by omega)]
    rw [show off + k + 1 + l.length = off + k + (l.length + 1) from by omega]

theorem fillX_spec {pl : Nat → Option (Nat × Nat)} : ∀ (ps : List (Nat × Value)) (cells : Array Value) {k : List Value → HP} {σ : Heap}, fillX pl cells.size cells.toList ps k σ →
    ∃ cells', Instr.fill pl cells ps = some cells' ∧ k cells'.toList σ
  | [], cells, k, σ, h => ⟨cells, rfl, h⟩
  | (i, v) :: r, cells, k, σ, h => by
    simp only [fillX] at h
    cases hp : pl i with
    | none => rw [hp] at h; exact h.elim
    | some os =>
      obtain ⟨off, size⟩ := os
      rw [hp] at h
      have key : ∀ (vs : Array Value), v.cells = vs → vs.size = size → off + size ≤ cells.size →
          fillX pl cells.size (cells.toList.take off ++ vs.toList ++ cells.toList.drop (off + size)) r k σ →
          ∃ cells', Instr.fill pl cells ((i, v) :: r) = some cells' ∧ k cells'.toList σ := by
        intro vs hv hs hle h
        simp only [Instr.fill, hp]
        rw [if_neg (by rw [hv, hs]; simp; omega)]
        have hf := fold_parts off vs.toList 0 cells (by simpa [hs] using hle)
        have he : (v.cells.zipIdx.foldl (fun cs (c, j) => cs.setIfInBounds (off + j) c) cells).toList = cells.toList.take off ++ vs.toList ++ cells.toList.drop (off + size) := by
          rw [hv, ← Array.foldl_toList]
          simp only [Array.toList_zipIdx]
          simpa [hs] using hf
        have hsz : (v.cells.zipIdx.foldl (fun cs (c, j) => cs.setIfInBounds (off + j) c) cells).size = cells.size := by
          rw [← Array.length_toList, he]
          simp only [List.length_append, List.length_take, List.length_drop, Array.length_toList, hs]
          omega
        have := fillX_spec (pl := pl) r (v.cells.zipIdx.foldl (fun cs (c, j) => cs.setIfInBounds (off + j) c) cells) (k := k) (σ := σ)
        rw [hsz, he] at this
        exact this h
      have scal : (v.cells = #[v]) → tyIs (Nat.beq size 1 && Nat.ble (off + 1) cells.size) (fillX pl cells.size (cells.toList.take off ++ [v] ++ cells.toList.drop (off + 1)) r k) σ →
          ∃ cells', Instr.fill pl cells ((i, v) :: r) = some cells' ∧ k cells'.toList σ := by
        intro hv h
        obtain ⟨hb, h2⟩ := tyIs_spec h
        simp only [Bool.and_eq_true] at hb
        obtain rfl := Nat.eq_of_beq_eq_true hb.1
        exact key #[v] hv rfl (Nat.le_of_ble_eq_true hb.2) h2
      cases v
      case agg cs =>
        obtain ⟨hs, h⟩ := h
        obtain ⟨hb, h⟩ := tyIs_spec h
        exact key cs rfl hs (Nat.le_of_ble_eq_true hb) h
      all_goals exact scal rfl h

theorem repL_length (z : List Value) : ∀ n, (repL z n).length = n * z.length
  | 0 => by simp [repL]
  | n + 1 => by simp [repL, repL_length z n, Nat.succ_mul]; omega

theorem reps_list (z : Array Value) : ∀ n, (reps z (n * z.size)).toList = repL z.toList n
  | 0 => by simp [reps, repL, Array.range]
  | n + 1 => by
    have ih := reps_list z n
    simp only [repL]
    rw [← ih]
    apply List.ext_getElem?
    intro i
    have hsz : (n + 1) * z.size = z.size + n * z.size := by rw [Nat.succ_mul]; omega
    simp only [reps, Array.getElem?_toList, Array.getElem?_map, List.getElem?_append, Array.length_toList]
    by_cases h1 : i < z.size
    · have h2 : i < (n + 1) * z.size := by omega
      rw [if_pos h1]
      simp [Array.getElem?_range, h2, Nat.mod_eq_of_lt h1, h1]
    · rw [if_neg h1]
      by_cases h2 : i < (n + 1) * z.size
      · have h3 : i - z.size < n * z.size := by omega
        have hm : i % z.size = (i - z.size) % z.size := by
          rw [Nat.mod_eq_sub_mod (by omega)]
        simp [Array.getElem?_range, h2, h3, hm]
      · have h3 : ¬ i - z.size < n * z.size := by omega
        simp [Array.getElem?_range, h2, h3]

theorem build_slice {t elem : TypeId} {len : Nat} {ps : List (Nat × Value)} {K : Nat → HP} {σ : Heap} (hu : P.underlying t = some (.slice elem)) (hok : bldOk P elem len = true)
    (h : fillX (fun i => some (i * P.cellsOf elem, P.cellsOf elem)) (len * P.cellsOf elem) (repL (zc P elem).toList len) ps (fun cells => al cells.toArray elem K) σ) :
    semP P (Instr.buildSlice t len ps.toArray) (fun v σ' => ∃ b, v = .slice (some ⟨b, 0, none⟩) len len ∧ K b σ') σ := by
  simp only [bldOk, Bool.and_eq_true] at hok
  obtain ⟨⟨hz, hle⟩, hs⟩ := hok
  have hs := Nat.eq_of_beq_eq_true hs
  have hle := Nat.le_of_ble_eq_true hle
  have hi : (P.info? elem).isSome = true := by
    unfold zok at hz
    cases hi : P.info? elem with
    | none => rw [hi] at hz; cases hz
    | some i => rfl
  have hlist := reps_list (zc P elem) len
  rw [hs] at hlist
  have hsize : (reps (zc P elem) (len * P.cellsOf elem)).size = len * P.cellsOf elem := by simp [reps]
  have h1 := fillX_spec (pl := fun i => some (i * P.cellsOf elem, P.cellsOf elem)) ps (reps (zc P elem) (len * P.cellsOf elem)) (k := fun cells => al cells.toArray elem K) (σ := σ)
    (by rw [hsize, hlist]; exact h)
  obtain ⟨cells, hf, hk⟩ := h1
  unfold Instr.buildSlice
  refine semP_bind (semP_underlying hu ?_)
  refine semP_bind (semP_sizeOf hi ?_)
  rw [if_neg (by omega)]
  have fin : ∀ z : Array Value, (len * P.cellsOf elem = 0 ∧ z = #[]) ∨ z = zc P elem → semP P (do
      let some cells := Instr.fill (fun i => some (i * P.cellsOf elem, P.cellsOf elem)) ((Array.range (len * P.cellsOf elem)).map (z[· % z.size]!)) ps.toArray.toList
        | stuck "buildSlice: a part of the wrong size"
      pure (.slice (some (← newRow elem cells)) len len) : Sem Value) (fun v σ' => ∃ b, v = .slice (some ⟨b, 0, none⟩) len len ∧ K b σ') σ := by
    intro z hz
    have hzz : (Array.range (len * P.cellsOf elem)).map (z[· % z.size]!) = reps (zc P elem) (len * P.cellsOf elem) := by
      rcases hz with ⟨h0, rfl⟩ | rfl
      · rw [h0]; simp [reps, Array.range]
      · rfl
    rw [hzz]
    simp only [hf]
    unfold newRow
    exact semP_bind (semP_bind (semP_new (semP_pure (semP_pure ⟨σ.size, rfl, hk⟩))))
  by_cases h0 : len * P.cellsOf elem = 0
  · rw [if_pos h0]
    exact semP_bind (semP_pure (fin _ (.inl ⟨h0, rfl⟩)))
  · rw [if_neg h0]
    exact semP_bind (semP_zero hz fun z hzc => semP_bind (semP_pure (fin _ (.inr hzc))))

end
end Go.XS
