/- A call of a function by its body: what the interpreter asks for is enough: for any program under the wide order. -/
import Derived.Test.YtnhgcgjmmalebaaDoorXi
set_option linter.unusedVariables false
set_option linter.unusedSimpArgs false
namespace Go.XS

def argEnv : List Value → Nat → Env
  | [], _ => fun _ => none
  | v :: r, i => upd (argEnv r (i + 1)) (some i) (.val v)

def resX (P : Program) (e : Env) : List ResultVar → (List Value → HP) → HP
  | [], k => k []
  | .tmp t :: r, k => match e t with
    | some v => resX P e r fun vs => k (v.toV :: vs)
    | none => F
  | .cell t T :: r, k => match e t with
    | some (.val (.pointer p)) => adr p fun a => tyIs (tyOk P T) ((TK.of P T).ld a (P.cellsOf T) fun v => resX P e r fun vs => k (v :: vs))
    | _ => F

def retV (vs : List Value) : Value := match vs with | [v] => v | vs => .tuple vs.toArray

def retQ (P : Program) (rs : List ResultVar) (K : Value → HP) : Exit → Env → HP
  | .normal, e => resX P e rs fun vs => K (retV vs)
  | .ret, e => resX P e rs fun vs => K (retV vs)
  | _, _ => F

section
variable {P : Program}

theorem resX_spec {n : Nat} {e : Env} {a : Act} (hE : EnvOk n e a) (w : World) : ∀ {rs : List ResultVar} {k : List Value → HP}, resX P e rs k w.heap →
    ∃ vs, ((rs.mapM fun (r : ResultVar) => (match r with
      | .tmp t => pure (a.tmps.getD t undef)
      | .cell t T => do loadVar T (← asAddr (a.tmps.getD t undef)) : Sem Value)) : Sem (List Value)).run P w = .ok vs w ∧ k vs w.heap
  | [], k, h => ⟨[], rfl, h⟩
  | .tmp t :: r, k, h => by
    simp only [resX] at h
    cases hv : e t with
    | none => rw [hv] at h; exact h.elim
    | some sv =>
      rw [hv] at h
      obtain ⟨vs, hr, hk⟩ := resX_spec hE w h
      refine ⟨sv.toV :: vs, ?_, hk⟩
      rw [List.mapM_cons]
      simp only [Sem.run_bind, Sem.run_pure, Result.andThen_ok, hr, hE.val t sv hv]
  | .cell t T :: r, k, h => by
    simp only [resX] at h
    cases hv : e t with
    | none => rw [hv] at h; exact h.elim
    | some sv =>
      rw [hv] at h
      have hval := hE.val t sv hv
      cases sv with
      | un => exact h.elim
      | nx _ _ => exact h.elim
      | en _ _ => exact h.elim
      | kb b => exact h.elim
      | val v =>
        cases v <;> (try simp only at h) <;> first | exact h.elim | skip
        obtain ⟨ad, rfl, h⟩ := adr_spec h
        obtain ⟨ht, h⟩ := tyIs_spec h
        obtain ⟨v, hI, h⟩ := held_of_ld h
        obtain ⟨vs, hr, hk⟩ := resX_spec hE w h
        refine ⟨v :: vs, ?_, hk⟩
        rw [List.mapM_cons]
        have hval : a.tmps.getD t undef = .pointer (some ad) := hval
        have hA : (asAddr (a.tmps.getD t undef)).run P w = .ok ad w := by rw [hval]; rfl
        simp only [hA, Sem.run_bind, Sem.run_pure, Result.andThen_ok, held_load ht w hI, hr]

theorem results_run {n : Nat} {e : Env} {a : Act} {fn : Func} (hE : EnvOk n e a) {w : World} {K : Value → HP}
    (h : resX P e fn.results.toList (fun vs => K (retV vs)) w.heap) : ∃ v, (results fn a.tmps).run P w = .ok v w ∧ K v w.heap := by
  obtain ⟨vs, hr, hk⟩ := resX_spec hE w h
  refine ⟨_, ?_, hk⟩
  unfold results
  rw [Array.mapM_eq_mapM_toList]
  simp only [Sem.run_bind, Sem.run_map]
  have : ∀ (s t : Sem (List Value)), s = t → s.run P w = .ok vs w → t.run P w = .ok vs w := fun s t e h => e ▸ h
  rw [this _ _ ?_ hr]
  · simp only [Result.andThen_ok]
    match vs with
    | [] => rfl
    | [v] => rfl
    | a :: b :: r => 
      simp [retV]
  · rfl

theorem argEnv_ok : ∀ (l : List Value) (i t : Nat) (v : SV), argEnv l i t = some v → ∃ u, v = .val u ∧ i ≤ t ∧ l[t - i]? = some u
  | [], i, t, v, h => by cases h
  | u :: r, i, t, v, h => by
    simp only [argEnv, upd] at h
    cases hb : Nat.beq t i with
    | true =>
      rw [hb] at h
      obtain rfl := Nat.eq_of_beq_eq_true hb
      cases h
      exact ⟨u, rfl, Nat.le_refl _, by simp⟩
    | false =>
      rw [hb] at h
      obtain ⟨w, rfl, h1, h2⟩ := argEnv_ok r (i + 1) t v h
      refine ⟨w, rfl, by omega, ?_⟩
      rw [show t - i = (t - (i + 1)) + 1 from by omega]
      simpa using h2

theorem callP_x (hN : NoCount P) (hm : P.follows .mixedOrders = true) {hs : Hints} {f : FuncId} {fn : Func} {c : Code} {args : List Value} {K : Value → HP} {σ : Heap}
    (hf : P.funcs[f]? = some fn) (hb : fn.body = some c) (hok : codeOk hs fn.ntmps c = true) (hlen : args.length ≤ fn.ntmps)
    (h : x P hs c 0 (argEnv args 0) (retQ P fn.results.toList K) σ) : callP P f args.toArray K σ := by
  intro w hw
  subst hw
  refine calls_of_wp hf hb ?_
  have hE : EnvOk fn.ntmps (argEnv args 0) { tmps := args.toArray ++ Array.replicate (fn.ntmps - args.toArray.size) undef, defers := [] } := by
    refine ⟨by simp; omega, fun t v hv => ?_⟩
    obtain ⟨u, rfl, _, h2⟩ := argEnv_ok args 0 t v hv
    simp only [Nat.sub_zero] at h2
    have hlt : t < args.length := (List.getElem?_eq_some_iff.1 h2).1
    simp [Array.getD_eq_getD_getElem?, Array.getElem?_append, hlt, SV.toV]
    rw [List.getElem?_eq_getElem hlt] at h2
    exact Option.some.inj h2
  refine x_sound hN hm c 0 (argEnv args 0) (retQ P fn.results.toList K) _ _ w w hok hE (.refl w) ?_ h
  intro ex e' a' w' hend hq
  cases ex with
  | normal =>
    obtain ⟨v, hr, hk⟩ := results_run hend.env hq
    exact ⟨hend.defers, v, hr, v, rfl, hk, hend.outer⟩
  | ret =>
    obtain ⟨v, hr, hk⟩ := results_run hend.env hq
    exact ⟨hend.defers, v, hr, v, rfl, hk, hend.outer⟩
  | exit i => exact hq.elim
  | goto l => exact hq.elim
  | panic ch => exact hq.elim
  | outgrown => exact hq.elim

end
end Go.XS
