/- Further rules of the logic of blocks: equality of flat structs, the atomics, the end of a law: each is proved; no condition. -/
import Derived.Test.YtnhgcgjmmalebaaDoorXk
import Derived.Laws.StructEq
import Derived.Below
set_option linter.unusedVariables false
set_option linter.unusedSimpArgs false
namespace Go.XS
open Go.RowKit (Below)

theorem adr_some {a : Addr} {f : Addr → HP} : adr (some a) f = f a := rfl
theorem xif_true {p q : HP} : xif true p q = p := by funext σ; simp [xif]
theorem xif_false {p q : HP} : xif false p q = q := by funext σ; simp [xif]
theorem asI_int {k : IntKind} {n : Int} {f : Int → HP} : asI k (.int k n) f = f n := by funext σ; simp [asI]
theorem asB_bool {b : Bool} {f : Bool → HP} : asB (.bool b) f = f b := by funext σ; simp [asB]
theorem asP_ptr {p : Option Addr} {f : Option Addr → HP} : asP (.pointer p) f = f p := by funext σ; simp [asP]
theorem asT_str {p : ByteArray} {f : ByteArray → HP} : asT (.string p) f = f p := by funext σ; simp [asT]
theorem asM_map {p : Option Nat} {f : Option Nat → HP} : asM (.map p) f = f p := by funext σ; simp [asM]
theorem asA_agg {p : Array Value} {f : Array Value → HP} : asA (.agg p) f = f p := by funext σ; simp [asA]
theorem asS_slice {p : Option Addr} {l c : Nat} {f : Option Addr → Nat → Nat → HP} : asS (.slice p l c) f = f p l c := by
  funext σ; simp [asS]; constructor
  · rintro ⟨_, _, _, ⟨rfl, rfl, rfl⟩, h⟩; exact h
  · exact fun h => ⟨p, l, c, ⟨rfl, rfl, rfl⟩, h⟩
theorem req_true {c : Prop} (hc : c) {p : HP} : req c p = p := by funext σ; simp [req, hc]

/-! ## The end of a law -/

def fin (B : Heap) (v : Value) : HP := fun σ => v = .bool true ∧ (∀ b, b < B.size → σ[b]? = B[b]?) ∧ B.size ≤ σ.size

theorem T_fin {B : Heap} {H : List HProp} : T B H (fin B (.bool true)) := fun σ o => ⟨rfl, o.base, o.size⟩

theorem own_start (B : Heap) : Own B [] B := ⟨fun _ _ => rfl, Nat.le_refl _, [], trivial, by simp, by simp⟩

theorem law_calls {P : Program} {f : FuncId} {args : Array Value} {w : World} (h : T w.heap [] (callP P f args (fin w.heap))) :
    Calls P f args w fun e w' => e = .returned (.bool true) ∧ Below w.heap.size w w' := by
  refine (h w.heap (own_start _) w rfl).mono ?_
  rintro e w' ⟨v, rfl, ⟨rfl, h1, h2⟩, ho⟩
  exact ⟨rfl, ho.1, ho.2.1, ho.2.2, h2, h1⟩

section
variable {P : Program} {B : Heap} {H : List HProp}

/-! ## Computations of the model -/

theorem T_sem {α : Type} {s : Sem α} {K : α → HP} (v : α) (h : ∀ σ, Own B H σ → ∀ w : World, w.heap = σ → s.run P w = .ok v w) (t : T B H (K v)) : T B H (semP P s K) :=
  fun σ o => semP_run v (h σ o) (t σ o)
theorem T_semBind {α β : Type} {s : Sem α} {f : α → Sem β} {K : β → HP} (t : T B H (semP P s fun v => semP P (f v) K)) : T B H (semP P (s >>= f) K) :=
  fun σ o => semP_bind (t σ o)
theorem T_semPure {α : Type} {v : α} {K : α → HP} (t : T B H (K v)) : T B H (semP P (pure v) K) := fun σ o => semP_pure (t σ o)

/-- The cells of two flat structs, field by field. -/
def eqCell : TK → Option Value → Option Value → Option Bool
  | .bool, some (.bool a), some (.bool b) => some (a == b)
  | .int k, some (.int k1 a), some (.int k2 b) => if k1 = k ∧ k2 = k then some (a == b) else none
  | .str, some (.string a), some (.string b) => some (a.toList == b.toList)
  | _, _, _ => none

def flatEq (P : Program) (xs ys : Array Value) : List Field → Option Bool
  | [] => some true
  | f :: fs =>
    if f.name ≠ "_" then
      match eqCell (TK.of P f.type) (xs[f.offset]?) (ys[f.offset]?), flatEq P xs ys fs with
      | some r, some q => some (r && q)
      | _, _ => none
    else flatEq P xs ys fs

theorem eqCell_run {t : TypeId} {a b : Option Value} {r : Bool} (h : eqCell (TK.of P t) a b = some r) :
    (TK.of P t).isAgg = false ∧ ∃ x y, a = some x ∧ b = some y ∧ ∀ d (w : World), (Op.equalIn (d + 1) t x y).run P w = .ok r w := by
  unfold TK.of at h ⊢
  cases hu : P.underlying t with
  | none => simp [hu, eqCell] at h
  | some d =>
    rw [hu] at h
    cases d <;> simp only [eqCell] at h <;> first | (cases h; done) | skip
    case bool =>
      cases a with
      | none => cases h
      | some x =>
        cases b with
        | none => cases x <;> cases h
        | some y =>
          cases x <;> cases y <;> first | (cases h; done) | skip
          cases h
          exact ⟨rfl, _, _, rfl, rfl, fun d w => eq_bool hu d w⟩
    case int k =>
      cases a with
      | none => cases h
      | some x =>
        cases b with
        | none => cases x <;> cases h
        | some y =>
          cases x <;> cases y <;> first | (cases h; done) | skip
          simp only at h
          split at h
          · rename_i hk
            obtain ⟨rfl, rfl⟩ := hk
            cases h
            exact ⟨rfl, _, _, rfl, rfl, fun d w => run_equalIn_int w d t _ _ _ _ hu⟩
          · cases h
    case string =>
      cases a with
      | none => cases h
      | some x =>
        cases b with
        | none => cases x <;> cases h
        | some y =>
          cases x <;> cases y <;> first | (cases h; done) | skip
          cases h
          exact ⟨rfl, _, _, rfl, rfl, fun d w => run_equalIn_string w d t _ _ hu⟩

theorem part_run {t : TypeId} {cs : Array Value} {off : Nat} {v : Value} (hu : (P.underlying t).isSome = true) (hk : (TK.of P t).isAgg = false) (hv : cs[off]? = some v) (w : World) :
    (part t cs off).run P w = .ok v w := by
  obtain ⟨d, hd⟩ := Option.isSome_iff_exists.1 hu
  unfold part
  rw [Sem.run_bind, run_isAgg hd, TK.of_agg hd, hk, Result.andThen_ok]
  simp [hv]

theorem flatEq_run {xs ys : Array Value} (d : Nat) : ∀ (fs : List Field) {r : Bool} (h : flatEq P xs ys fs = some r) (w : World), (Op.eqFields (d + 1) xs ys fs).run P w = .ok r w
  | [], r, h, w => by cases h; rfl
  | f :: fs, r, h, w => by
    simp only [flatEq] at h
    simp only [Op.eqFields]
    split at h
    · rename_i hne
      rw [if_pos hne]
      cases hc : eqCell (TK.of P f.type) (xs[f.offset]?) (ys[f.offset]?) with
      | none => rw [hc] at h; cases h
      | some r1 =>
        cases hq : flatEq P xs ys fs with
        | none => rw [hc, hq] at h; cases h
        | some q =>
          rw [hc, hq] at h
          cases h
          obtain ⟨hagg, x, y, hx, hy, hr⟩ := eqCell_run hc
          have hu : (P.underlying f.type).isSome = true := by
            unfold TK.of at hc
            cases hu : P.underlying f.type with
            | none => simp [hu, eqCell] at hc
            | some d => rfl
          simp only [Sem.run_bind, part_run hu hagg hx, part_run hu hagg hy, Result.andThen_ok, hr d]
          cases r1
          · simp
          · simpa using flatEq_run d fs hq w
    · rename_i hne
      rw [if_neg hne]
      exact flatEq_run d fs h w

theorem T_eqAgg {t : TypeId} {x y : Operand} {xs ys : Array Value} {K : Value → HP} {b : Bool} (hm : P.eqGuardType P.depth t = false)
    (ht : P.underlying t = some (.struct (P.fieldsOf t))) (hp : P.stoodInHeld t = false) (hf : flatEq P xs ys (P.fieldsOf t).toList = some b) (h : T B H (K (.bool b))) :
    T B H (semP P (do eqGuard .eql t x y (.agg xs) (.agg ys); binOp .eql t (.agg xs) (.agg ys)) K) := by
  refine T_sem (.bool b) (fun σ o w hw => ?_) h
  rw [Sem.run_bind, run_eqGuard_agg w .eql t x y xs ys hm, Result.andThen_ok, run_eql_struct, run_equalIn_struct w 9999 t xs ys ht hp, flatEq_run 9998 _ hf, Result.andThen_ok]

theorem T_neqAgg {t : TypeId} {x y : Operand} {xs ys : Array Value} {K : Value → HP} {b : Bool} (hm : P.eqGuardType P.depth t = false)
    (ht : P.underlying t = some (.struct (P.fieldsOf t))) (hp : P.stoodInHeld t = false) (hf : flatEq P xs ys (P.fieldsOf t).toList = some b) (h : T B H (K (.bool (!b)))) :
    T B H (semP P (do eqGuard .neq t x y (.agg xs) (.agg ys); binOp .neq t (.agg xs) (.agg ys)) K) := by
  refine T_sem (.bool (!b)) (fun σ o w hw => ?_) h
  rw [Sem.run_bind, run_eqGuard_agg w .neq t x y xs ys hm, Result.andThen_ok, run_neq_struct, run_equalIn_struct w 9999 t xs ys ht hp, flatEq_run 9998 _ hf, Result.andThen_ok]

/-! ## Functions without a body -/

def ExtIs (P : Program) (k : FuncId) (e : Array Value → Sem Value) : Prop := ∀ (args : Array Value) (w : World), (callFunc k args).run P w = (do pure (.value (← e args)) : Sem Next).run P w

theorem ext_of (hN : NoCount P) {k : FuncId} {fn : Func} {e : Array Value → Sem Value} (hf : P.funcs[k]? = some fn) (hb : fn.body.isNone = true) (h1 : Extern.findNext fn = none) (h2 : Extern.find fn = some e) :
    ExtIs P k e := by
  intro args w
  unfold callFunc
  simp only [Sem.run_bind, run_program, Result.andThen_ok, hf, hN k fn hf, Bool.false_eq_true, if_false, hb, if_true, h1, h2, run_mark]

theorem T_ext {k : FuncId} {e : Array Value → Sem Value} {args : Array Value} {K : Value → HP} (hx : ExtIs P k e) (t : T B H (semP P (e args) K)) : T B H (nextP P (callFunc k args) K) := by
  intro σ o w hw
  obtain ⟨v, w', h1, h2, h3⟩ := t σ o w hw
  exact ⟨.value v, w', by rw [hx args w]; simp [h1], h2, .inl ⟨v, rfl, h3⟩⟩

theorem T_aload {b i : Nat} {cs : Array Value} [h : HasC B H b cs] {k : IntKind} {n : Int} {K : Value → HP} (hc : cs[i]? = some (.int k n)) (t : T B H (K (.int k n))) :
    T B H (semP P (Extern.Atomic.loadT (.int k) #[.pointer (some ⟨b, i, none⟩)]) K) := by
  refine T_sem (.int k n) (fun σ o w hw => ?_) t
  have hcell := (h.cell o i).trans hc
  rw [← hw] at hcell
  show (do let a ← asAddr (.pointer (some ⟨b, i, none⟩)); Extern.Atomic.read (.int k) a : Sem Value).run P w = _
  simp [Extern.Atomic.read, asAddr, cell_eq, hcell]

theorem semP_storeA {a : Addr} {v : Value} {m : Mode} {k : HP} {σ : Heap} (h : st a v k σ) : semP P (store a v m) (fun _ => k) σ := by
  obtain ⟨⟨u, hu⟩, hf, ho, hk⟩ := h
  intro w hw
  refine ⟨(), w.setCell a v, ?_, ⟨rfl, rfl, rfl⟩, ?_⟩
  · rw [run_store _ _ _ _ _ ho, cell_eq, hw, hu]
    simp only [frozen_eq, hw, hf]
    rfl
  · rw [setCell_eq, hw]; exact hk

theorem T_astore {b i : Nat} {cs : Array Value} {H' : Array Value → List HProp} [h : UpdC H b cs H'] {v : Value} {K : Value → HP} (hi : i < cs.size) (hv : v.oneCell' = true)
    (t : T B (H' (cs.setIfInBounds i v)) (K (.tuple #[]))) : T B H (semP P (Extern.Atomic.storeT #[.pointer (some ⟨b, i, none⟩), v]) K) := by
  intro σ o
  have h1 : st ⟨b, i, none⟩ v (K (.tuple #[])) σ := T_st hi hv t σ o
  unfold Extern.Atomic.storeT
  refine semP_bind (semP_run (⟨b, i, none⟩ : Addr) (fun w _ => rfl) ?_)
  exact semP_bind (semP_mono (fun _ σ h => semP_pure h) (semP_storeA h1))

theorem T_aadd {b i : Nat} {cs : Array Value} {H' : Array Value → List HProp} [h : UpdC H b cs H'] {k : IntKind} {n y : Int} {K : Value → HP} (hc : cs[i]? = some (.int k n))
    (t : T B (H' (cs.setIfInBounds i (.int k (k.wrap (n + y))))) (K (.int k (k.wrap (n + y))))) :
    T B H (semP P (Extern.Atomic.update (Op.intArith .add) k true #[.pointer (some ⟨b, i, none⟩), .int k y]) K) := by
  intro σ o
  have hi : i < cs.size := (Array.getElem?_eq_some_iff.1 hc).1
  have h1 : st ⟨b, i, none⟩ (.int k (k.wrap (n + y))) (K (.int k (k.wrap (n + y)))) σ := T_st hi rfl t σ o
  obtain ⟨H0, p1, p2⟩ := h.perm
  have hcell : hcell σ ⟨b, i, none⟩ = some (.int k n) := ((hasC_head (B := B) (H := H0)).cell (o.perm p1) i).trans hc
  unfold Extern.Atomic.update
  refine semP_bind (semP_run (⟨b, i, none⟩ : Addr) (fun w _ => rfl) ?_)
  refine semP_bind (semP_run (.int k n) (fun w hw => ?_) ?_)
  · rw [← hw] at hcell
    simp [Extern.Atomic.read, cell_eq, hcell]
  refine semP_bind (semP_run n (fun w _ => rfl) ?_)
  refine semP_bind (semP_run y (fun w _ => rfl) ?_)
  refine semP_bind (semP_run (.int k (k.wrap (n + y))) (fun w _ => rfl) ?_)
  exact semP_bind (semP_mono (fun _ σ h => semP_pure h) (semP_storeA h1))

end
end Go.XS
