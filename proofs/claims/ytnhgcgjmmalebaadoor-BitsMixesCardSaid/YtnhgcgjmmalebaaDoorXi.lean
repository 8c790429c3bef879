/- Whole bodies of functions: what the interpreter asks for is enough for a call: for any program under the wide order; the hints are looked over by a closed test. -/
import Derived.Test.YtnhgcgjmmalebaaDoorXh
set_option linter.unusedVariables false
set_option linter.unusedSimpArgs false
namespace Go.XS

structure Hints where
  scheds : List (Nat × (List Nat × Sch))
  loops : List (Nat × List (Nat × TK))
  joins : List (Nat × List (Nat × TK))
  bjoins : List (Nat × List (Nat × TK))

def look {α : Type} : List (Nat × α) → Nat → Option α
  | [], _ => none
  | (k, v) :: r, i => match Nat.beq k i with | true => some v | false => look r i

def memN : List Nat → Nat → Bool
  | [], _ => false
  | k :: r, i => match Nat.beq k i with | true => true | false => memN r i

def wr : Code → List Nat
  | .region _ ops _ => ops.toList.filterMap (·.dst)
  | .seq a b => wr a ++ wr b
  | .cond _ a b => wr a ++ wr b
  | .block _ c => wr c
  | .loop c => wr c
  | _ => []

def forget (e : Env) (l : List Nat) : Env := fun t => match memN l t with | true => none | false => e t

def setMany (e : Env) : List (Nat × TK) → List Value → Env
  | (s, _) :: r, v :: vs => upd (setMany e r vs) (some s) (.val v)
  | _, _ => e

def tkFits : TK → Value → Bool
  | .bool, .bool _ => true
  | .int k, .int k' _ => k == k'
  | .str, .string _ => true
  | .ptr, .pointer _ => true
  | .slice, .slice .. => true
  | .map, .map _ => true
  | .agg, .agg _ => true
  | .any, _ => true
  | _, _ => false

def gat (e : Env) : List (Nat × TK) → (List Value → HP) → HP
  | [], k => k []
  | (s, tk) :: r, k => match e s with
    | some sv => match tkFits tk sv.toV with
      | true => gat e r fun vs => k (sv.toV :: vs)
      | false => F
    | none => F

def xops (P : Program) (ops : Array Oper) : List Oper → Env → (Env → HP) → HP
  | [], e, K => K e
  | o :: r, e, K => xguard ops e o (fun e => xop P e o fun v => xops P ops r (upd e o.dst v) K) (fun e => xops P ops r (upd e o.dst .un) K)

def seqK (k : Env → HP) (Q : Exit → Env → HP) : Exit → Env → HP
  | .normal, e => k e
  | ex, e => Q ex e

def blockK (id : Nat) (Q : Exit → Env → HP) : Exit → Env → HP
  | .exit i, e => match Nat.beq i id with | true => Q .normal e | false => Q (.exit i) e
  | ex, e => Q ex e

def joinAt (hs : Hints) : Code → Option (List (Nat × TK))
  | .region id _ _ => look hs.joins (100000 + id)
  | .seq (.region id _ _) (.cond _ _ _) => look hs.joins id
  | .block id _ => look hs.bjoins id
  | _ => none

def know (e : Env) (c : Operand) (b : Bool) : Env := match c with
  | .tmp t => upd e (some t) (.kb b)
  | _ => e

def x (P : Program) (hs : Hints) : Code → Nat → Env → (Exit → Env → HP) → HP
  | .skip, _, e, Q => Q .normal e
  | .region id ops d, _, e, Q => match d with
    | false => xops P ops ops.toList e fun e => Q .normal e
    | true => match look hs.scheds id with
      | some (_, s) => xsched P ops s [] e fun e => Q .normal e
      | none => F
  | .seq a b, _, e, Q => match joinAt hs a with
    | none => x P hs a 0 e (seqK (fun e => x P hs b 0 e Q) Q)
    | some slots => joinH (typedJ (slots.map (·.2)) fun vs => x P hs b 0 (setMany (forget e (wr a)) slots vs) Q) fun J =>
        x P hs a 0 e (seqK (fun e => gat e slots J) Q)
  | .cond c a b, _, e, Q => match ev e c with
    | some (.kb true) => x P hs a 0 e Q
    | some (.kb false) => x P hs b 0 e Q
    | some (.val (.bool t)) => xif t (x P hs a 0 (know e c true) Q) (x P hs b 0 (know e c false) Q)
    | _ => F
  | .block id c, _, e, Q => x P hs c (id + 1) e (blockK id Q)
  | .loop c, cur, e, Q => match look hs.loops cur with
    | none => F
    | some slots => gat e slots fun vs => loopH (fun s R => typedJ (slots.map (·.2))
        (fun vs => x P hs c 0 (setMany (forget e (wr c)) slots vs) (seqK (fun e => gat e slots R) Q)) s) vs
  | .exit id, _, e, Q => Q (.exit id) e
  | .ret, _, e, Q => Q .ret e
  | _, _, _, _ => F

def opsOk (n : Nat) (ops : Array Oper) : Bool := ops.toList.all fun o => match o.dst with | some d => decide (d < n) | none => true

/-- The closed test of a body and its hints. -/
def codeOk (hs : Hints) (n : Nat) : Code → Bool
  | .region id ops d => opsOk n ops && match d with
    | false => true
    | true => match look hs.scheds id with
      | some (tab, s) => regOk ops tab s
      | none => true
  | .seq a b => codeOk hs n a && codeOk hs n b
  | .cond _ a b => codeOk hs n a && codeOk hs n b
  | .block _ c => codeOk hs n c
  | .loop c => codeOk hs n c
  | _ => true

section
variable {P : Program}

theorem opsOk_spec {n : Nat} {ops : Array Oper} (h : opsOk n ops = true) : dstsIn n ops := by
  intro i o d hi hd
  simp only [opsOk, List.all_eq_true] at h
  have hm : o ∈ ops.toList := by
    have := Array.mem_of_getElem? hi
    simpa using this
  have h1 := h o hm
  rw [hd] at h1
  simpa using h1

theorem put_defers (a : Act) (d : Option Tmp) (v : Value) : (a.put d v).defers = a.defers := by cases d <;> rfl

theorem xops_sound (hN : NoCount P) {n : Nat} {ops : Array Oper} {w0 : World} {Fr : Act → Prop} {K : Env → HP} {Q : Exit → Act → World → Prop}
    (hK : ∀ e a w, EnvOk n e a → Fr a → Outer w0 w → K e w.heap → Q .normal a w) :
    ∀ (l : List Oper) (e : Env) (a : Act) (w : World), (∀ o ∈ l, ∀ d, o.dst = some d → d < n) → (∀ (o : Oper) a v, o ∈ l → Fr a → Fr (a.put o.dst v)) → EnvOk n e a → Fr a → Outer w0 w →
      xops P ops l e K w.heap → wpList P ops Q l a w
  | [], e, a, w, _, _, hE, hds, ho, h => hK e a w hE hds ho h
  | o :: r, e, a, w, hd, hFr, hE, hds, ho, h => by
    simp only [xops] at h
    have hdst := hd o (by simp)
    unfold wpList
    rcases xguard_spec hE h with ⟨e', hE', hw, h⟩ | ⟨e', hE', hw, h⟩
    · simp only [hw, if_true]
      refine .inl (wp_of_next (K := fun v => xops P ops r (upd e' o.dst v) K) (xop_sound hN hE'.ev h) ?_)
      exact fun sv w' how hk => xops_sound hN hK r _ _ _ (fun o ho => hd o (by simp [ho])) (fun o a v ho => hFr o a v (by simp [ho])) (hE'.put hdst sv) (hFr o _ _ (by simp) hds) (ho.trans how) hk
    · simp only [hw, Bool.false_eq_true, if_false]
      exact xops_sound hN hK r _ _ _ (fun o ho => hd o (by simp [ho])) (fun o a v ho => hFr o a v (by simp [ho])) (hE'.put hdst .un) (hFr o _ _ (by simp) hds) ho h

/-! ### Gathering and handing on the slots of a loop -/

theorem tkFits_typed {tk : TK} {v : Value} {ts : List TK} {vs : List Value} (h : tkFits tk v = true) (ht : Typed ts vs) : Typed (tk :: ts) (v :: vs) := by
  intro hall
  refine ht ?_
  cases tk <;> cases v <;> first | (cases h; done) | skip
  all_goals first
    | (simp only [allV] at hall; exact allV_mono _ _ _ (fun r hr e => hr (by rw [e])) (hall _))
    | (simp only [allV] at hall; exact allV_mono _ _ _ (fun r hr e => hr (by rw [e])) (hall _ _ _))
    | (simp only [tkFits, beq_iff_eq] at h; subst h; simp only [allV] at hall; exact allV_mono _ _ _ (fun r hr e => hr (by rw [e])) (hall _))

theorem typed_nil : Typed [] [] := fun h => h rfl

theorem gat_spec {e : Env} : ∀ {slots : List (Nat × TK)} {k : List Value → HP} {σ : Heap}, gat e slots k σ →
    ∃ vs, Typed (slots.map (·.2)) vs ∧ (∀ n a, EnvOk n e a → ∀ e0, EnvOk n e0 a → EnvOk n (setMany e0 slots vs) a) ∧ k vs σ
  | [], k, σ, h => ⟨[], typed_nil, fun n a _ e0 h0 => h0, h⟩
  | (s, tk) :: r, k, σ, h => by
    simp only [gat] at h
    cases hs : e s with
    | none => rw [hs] at h; exact h.elim
    | some sv =>
      rw [hs] at h
      simp only at h
      cases hf : tkFits tk sv.toV with
      | false => rw [hf] at h; exact h.elim
      | true =>
        rw [hf] at h
        obtain ⟨vs, ht, hset, hk⟩ := gat_spec h
        refine ⟨sv.toV :: vs, tkFits_typed hf ht, fun n a hE e0 h0 => ?_, hk⟩
        have h1 := hset n a hE e0 h0
        refine ⟨h1.size, fun t u hu => ?_⟩
        simp only [setMany, upd] at hu
        cases hb : Nat.beq t s with
        | true =>
          rw [hb] at hu
          simp only [Option.some.injEq] at hu
          subst hu
          obtain rfl := Nat.eq_of_beq_eq_true hb
          exact hE.val t sv hs
        | false => rw [hb] at hu; exact h1.val t u hu

theorem memN_spec {l : List Nat} {t : Nat} : memN l t = false ↔ t ∉ l := by
  induction l with
  | nil => simp [memN]
  | cons k r ih =>
    simp only [memN]
    cases hb : Nat.beq k t with
    | true => obtain rfl := Nat.eq_of_beq_eq_true hb; simp
    | false =>
      have hne : ¬ t = k := fun e => by subst e; simp at hb
      simp [ih, hne]

/-- All slots but those of a list stand as they stood. -/
def SameBut (l : List Nat) (a a' : Act) : Prop := a'.tmps.size = a.tmps.size ∧ ∀ t, t ∉ l → a'.tmps.getD t undef = a.tmps.getD t undef

theorem SameBut.forget {n : Nat} {l : List Nat} {a a' : Act} {e : Env} (h : SameBut l a a') (hE : EnvOk n e a) : EnvOk n (forget e l) a' := by
  refine ⟨h.1.trans hE.size, fun t v hv => ?_⟩
  unfold XS.forget at hv
  cases hm : memN l t with
  | true => rw [hm] at hv; cases hv
  | false =>
    rw [hm] at hv
    rw [h.2 t (memN_spec.1 hm)]
    exact hE.val t v hv

theorem SameBut.refl (l : List Nat) (a : Act) : SameBut l a a := ⟨rfl, fun _ _ => rfl⟩
theorem SameBut.trans {l : List Nat} {a b c : Act} (h : SameBut l a b) (k : SameBut l b c) : SameBut l a c :=
  ⟨k.1.trans h.1, fun t ht => (k.2 t ht).trans (h.2 t ht)⟩
theorem SameBut.mono {l l' : List Nat} {a b : Act} (hs : ∀ t, t ∈ l → t ∈ l') (h : SameBut l a b) : SameBut l' a b :=
  ⟨h.1, fun t ht => h.2 t fun hl => ht (hs t hl)⟩
theorem SameBut.put {l : List Nat} {a b : Act} (h : SameBut l a b) {d : Option Nat} (hd : ∀ t, d = some t → t ∈ l) (v : Value) : SameBut l a (b.put d v) := by
  cases d with
  | none => exact h
  | some d =>
    refine ⟨by simp [Act.put, h.1], fun t ht => ?_⟩
    have hne : d ≠ t := fun e => ht (e ▸ hd d rfl)
    rw [← h.2 t ht]
    simp [Act.put, Array.getElem?_setIfInBounds_ne hne]

theorem dst_in_wr {id : Nat} {ops : Array Oper} {d : Bool} {o : Oper} (ho : o ∈ ops.toList) : ∀ t, o.dst = some t → t ∈ wr (.region id ops d) := by
  intro t ht
  simp only [wr, List.mem_filterMap]
  exact ⟨o, ho, ht⟩

/-- The head of a round. -/
def inLoop (P : Program) (c : Code) (Q : Exit → Act → World → Prop) (a : Act) (w : World) : Prop :=
  ∀ (b : Frame) (k : List Item) (cs : List Frame), ∃ e a' w', Q e a' w' ∧ Arrives P (lone (b.at a (.code c :: .inLoop c :: k)) cs w) b k cs e a' w'

theorem inLoop_round {c : Code} {Q : Exit → Act → World → Prop} {a : Act} {w : World} (h : c.wp P (Exit.then (inLoop P c Q) Q) a w) : inLoop P c Q a w := by
  intro b k cs
  obtain ⟨e, a₁, w₁, hq, harr⟩ := h b (.inLoop c :: k) cs
  cases e with
  | normal =>
    obtain ⟨e₂, a₂, w₂, hq₂, harr₂⟩ := hq b k cs
    exact ⟨e₂, a₂, w₂, hq₂, .of_steps (Steps.trans harr (.one step_inLoop)) harr₂⟩
  | exit id => exact ⟨_, a₁, w₁, hq, .pass (x := .inLoop c) rfl (fun _ _ => .inl (by simp)) harr⟩
  | goto l => exact ⟨_, a₁, w₁, hq, .pass (x := .inLoop c) rfl (fun _ _ => .inl (by simp)) harr⟩
  | ret => exact ⟨_, a₁, w₁, hq, .pass (x := .inLoop c) rfl (fun _ _ => .inl (by simp)) harr⟩
  | panic ch => exact ⟨_, a₁, w₁, hq, .pass (x := .inLoop c) rfl (fun _ _ => .inl (by simp)) harr⟩
  | outgrown => exact ⟨_, a₁, w₁, hq, .pass (x := .inLoop c) rfl (fun _ _ => .inl (by simp)) harr⟩

theorem wp_of_inLoop {c : Code} {Q : Exit → Act → World → Prop} {a : Act} {w : World} (h : inLoop P c Q a w) : (Code.loop c).wp P Q a w := by
  intro b k cs
  obtain ⟨e, a', w', hq, harr⟩ := h b k cs
  exact ⟨e, a', w', hq, .of_steps (.one step_loop) harr⟩

/-- What is handed on at an end of a piece of code. -/
structure End (n : Nat) (l : List Nat) (w0 : World) (a0 : Act) (e : Env) (a : Act) (w : World) : Prop where
  env : EnvOk n e a
  defers : a.defers = a0.defers
  outer : Outer w0 w
  same : SameBut l a0 a

theorem EnvOk.know_c {n : Nat} {e : Env} {a : Act} (h : EnvOk n e a) {c : Operand} {b : Bool} (hb : a.eval c = .bool b) : EnvOk n (XS.know e c b) a := by
  cases c with
  | tmp t => exact h.know hb
  | const v => exact h
  | global g => exact h
  | func f => exact h

theorem x_sound (hN : NoCount P) (hm : P.follows .mixedOrders = true) {hs : Hints} {n : Nat} : ∀ (c : Code) (cur : Nat) (e : Env) (Q : Exit → Env → HP)
    (Qw : Exit → Act → World → Prop) (a : Act) (w w0 : World), codeOk hs n c = true → EnvOk n e a → Outer w0 w →
    (∀ ex e' a' w', End n (wr c) w0 a e' a' w' → Q ex e' w'.heap → Qw ex a' w') → x P hs c cur e Q w.heap → c.wp P Qw a w := by
  intro c
  induction c with
  | skip => exact fun cur e Q Qw a w w0 _ hE ho hQ h => wp_skip (hQ _ _ _ _ ⟨hE, rfl, ho, .refl _ _⟩ h)
  | region id ops d =>
    intro cur e Q Qw a w w0 hok hE ho hQ h
    simp only [codeOk, Bool.and_eq_true] at hok
    obtain ⟨hops, hok⟩ := hok
    have hd := opsOk_spec hops
    have hmem : ∀ o ∈ ops.toList, ∀ t, o.dst = some t → t < n := by
      intro o hm' t ht
      simp only [opsOk, List.all_eq_true] at hops
      have h1 := hops o hm'
      rw [ht] at h1
      simpa using h1
    cases d with
    | false =>
      simp only [x] at h
      refine wp_region_list (xops_sound hN (Fr := fun a' => a'.defers = a.defers ∧ SameBut (wr (.region id ops false)) a a') (fun e' a' w' h1 h2 h3 h4 => hQ _ _ _ _ ⟨h1, h2.1, h3, h2.2⟩ h4)
        ops.toList e a w hmem (fun o a' v hm' hf => ⟨(put_defers _ _ _).trans hf.1, hf.2.put (dst_in_wr hm') v⟩) hE ⟨rfl, .refl _ _⟩ ho h)
    | true =>
      simp only [x] at h
      cases hl : look hs.scheds id with
      | none => rw [hl] at h; exact h.elim
      | some ts =>
        obtain ⟨tab, s⟩ := ts
        rw [hl] at h hok
        refine xdraw_sound hN hm (Fr := fun a' => a'.defers = a.defers ∧ SameBut (wr (.region id ops true)) a a') hok hd (fun i o a' v hi hf => ?_) ⟨rfl, .refl _ _⟩ hE ho
          (fun e' a' w' h1 h2 h3 h4 => hQ _ _ _ _ ⟨h1, h2.1, h3, h2.2⟩ h4) h
        have hmm : o ∈ ops.toList := by simpa using Array.mem_of_getElem? hi
        exact ⟨(put_defers _ _ _).trans hf.1, hf.2.put (dst_in_wr hmm) v⟩
  | seq c1 c2 ih1 ih2 =>
    intro cur e Q Qw a w w0 hok hE ho hQ h
    simp only [codeOk, Bool.and_eq_true] at hok
    simp only [x] at h
    have left : ∀ t, t ∈ wr c1 → t ∈ wr (.seq c1 c2) := fun t ht => by simp [wr, ht]
    have right : ∀ t, t ∈ wr c2 → t ∈ wr (.seq c1 c2) := fun t ht => by simp [wr, ht]
    have hrest : ∀ ex e' a' w', ex ≠ .normal → End n (wr c1) w0 a e' a' w' → Q ex e' w'.heap → Exit.then (c2.wp P Qw) Qw ex a' w' := by
      intro ex e' a' w' hne hend hq
      have := hQ ex e' a' w' ⟨hend.env, hend.defers, hend.outer, hend.same.mono left⟩ hq
      cases ex <;> first | exact absurd rfl hne | exact this
    have hgo : ∀ e' e'' a' w', End n (wr c1) w0 a e' a' w' → EnvOk n e'' a' → x P hs c2 0 e'' Q w'.heap → c2.wp P Qw a' w' := by
      intro e' e'' a' w' hend hE2 hx
      refine ih2 0 e'' Q Qw a' w' w0 hok.2 hE2 hend.outer (fun ex e3 a3 w3 hend3 hq => hQ _ _ _ _ ⟨hend3.env, hend3.defers.trans hend.defers, hend3.outer, ?_⟩ hq) hx
      exact (hend.same.mono left).trans (hend3.same.mono right)
    refine wp_seq ?_
    cases hj : joinAt hs c1 with
    | none =>
      rw [hj] at h
      refine ih1 0 e _ _ a w w0 hok.1 hE ho (fun ex e' a' w' hend hq => ?_) h
      cases ex with
      | normal => exact hgo e' e' a' w' hend hend.env hq
      | exit i => exact hrest _ _ _ _ (by simp) hend hq
      | goto l => exact hrest _ _ _ _ (by simp) hend hq
      | ret => exact hrest _ _ _ _ (by simp) hend hq
      | panic ch => exact hrest _ _ _ _ (by simp) hend hq
      | outgrown => exact hrest _ _ _ _ (by simp) hend hq
    | some slots =>
      rw [hj] at h
      refine ih1 0 e _ _ a w w0 hok.1 hE ho (fun ex e' a' w' hend hq => ?_) h
      cases ex with
      | normal =>
        obtain ⟨vs, ht, hset, hk⟩ := gat_spec (show gat e' slots _ w'.heap from hq)
        have hk := ht.use hk
        exact hgo e' _ a' w' hend (hset n a' hend.env _ (hend.same.forget hE)) hk
      | exit i => exact hrest _ _ _ _ (by simp) hend hq
      | goto l => exact hrest _ _ _ _ (by simp) hend hq
      | ret => exact hrest _ _ _ _ (by simp) hend hq
      | panic ch => exact hrest _ _ _ _ (by simp) hend hq
      | outgrown => exact hrest _ _ _ _ (by simp) hend hq
  | cond c c1 c2 ih1 ih2 =>
    intro cur e Q Qw a w w0 hok hE ho hQ h
    simp only [codeOk, Bool.and_eq_true] at hok
    simp only [x] at h
    have left : ∀ t, t ∈ wr c1 → t ∈ wr (.cond c c1 c2) := fun t ht => by simp [wr, ht]
    have right : ∀ t, t ∈ wr c2 → t ∈ wr (.cond c c1 c2) := fun t ht => by simp [wr, ht]
    have go1 : ∀ e', EnvOk n e' a → x P hs c1 0 e' Q w.heap → c1.wp P Qw a w := fun e' hE' h =>
      ih1 0 e' Q Qw a w w0 hok.1 hE' ho (fun ex e3 a3 w3 hend hq => hQ _ _ _ _ ⟨hend.env, hend.defers, hend.outer, hend.same.mono left⟩ hq) h
    have go2 : ∀ e', EnvOk n e' a → x P hs c2 0 e' Q w.heap → c2.wp P Qw a w := fun e' hE' h =>
      ih2 0 e' Q Qw a w w0 hok.2 hE' ho (fun ex e3 a3 w3 hend hq => hQ _ _ _ _ ⟨hend.env, hend.defers, hend.outer, hend.same.mono right⟩ hq) h
    cases hv : ev e c with
    | none => rw [hv] at h; exact h.elim
    | some sv =>
      rw [hv] at h
      have hval := hE.ev c sv hv
      cases sv with
      | un => exact h.elim
      | nx _ _ => exact h.elim
      | en _ _ => exact h.elim
      | kb b =>
        cases b
        · exact wp_cond_false hval (go2 e hE h)
        · exact wp_cond_true hval (go1 e hE h)
      | val v =>
        cases v <;> (try simp only at h) <;> first | exact h.elim | skip
        rename_i t
        have := xif_spec h
        cases t
        · exact wp_cond_false hval (go2 _ (hE.know_c hval) this)
        · exact wp_cond_true hval (go1 _ (hE.know_c hval) this)
  | block id c ih =>
    intro cur e Q Qw a w w0 hok hE ho hQ h
    simp only [x] at h
    refine wp_block (ih (id + 1) e _ _ a w w0 hok hE ho (fun ex e' a' w' hend hq => ?_) h)
    have hend' : End n (wr (.block id c)) w0 a e' a' w' := hend
    cases ex with
    | exit i =>
      simp only [Exit.inBlock]
      simp only [blockK] at hq
      cases hb : Nat.beq i id with
      | true =>
        rw [hb] at hq
        rw [if_pos (Nat.eq_of_beq_eq_true hb)]
        exact hQ _ _ _ _ hend' hq
      | false =>
        rw [hb] at hq
        have hne : i ≠ id := fun e => by subst e; simp at hb
        rw [if_neg hne]
        exact hQ _ _ _ _ hend' hq
    | normal => exact hQ _ _ _ _ hend' hq
    | goto l => exact hQ _ _ _ _ hend' hq
    | ret => exact hQ _ _ _ _ hend' hq
    | panic ch => exact hQ _ _ _ _ hend' hq
    | outgrown => exact hQ _ _ _ _ hend' hq
  | loop c ih =>
    intro cur e Q Qw a w w0 hok hE ho hQ h
    simp only [x] at h
    cases hl : look hs.loops cur with
    | none => rw [hl] at h; exact h.elim
    | some slots =>
      rw [hl] at h
      obtain ⟨vs, ht, hset, hk⟩ := gat_spec h
      refine wp_of_inLoop ?_
      have key := hk (fun s σ => Typed (slots.map (·.2)) s → ∀ (a' : Act) (w' : World), w'.heap = σ → EnvOk n (setMany (forget e (wr c)) slots s) a' → a'.defers = a.defers →
          Outer w0 w' → SameBut (wr c) a a' → inLoop P c Qw a' w') ?_
      · exact key ht a w rfl (hset n a hE _ (SameBut.forget (.refl _ _) hE)) rfl ho (.refl _ _)
      · intro s σ hbody hty a' w' hw' hE' hds' ho' hsame'
        subst hw'
        have hx := hty.use hbody
        refine inLoop_round (ih 0 _ _ _ a' w' w0 hok hE' ho' (fun ex e2 a2 w2 hend hq => ?_) hx)
        have hend2 : End n (wr (.loop c)) w0 a e2 a2 w2 := ⟨hend.env, hend.defers.trans hds', hend.outer, hsame'.trans hend.same⟩
        cases ex with
        | normal =>
          obtain ⟨us, hut, huset, huk⟩ := gat_spec (show gat e2 slots _ w2.heap from hq)
          exact huk hut a2 w2 rfl (huset n a2 hend.env _ (SameBut.forget hend2.same hE)) hend2.defers hend.outer hend2.same
        | exit i => exact hQ _ _ _ _ hend2 hq
        | goto l => exact hQ _ _ _ _ hend2 hq
        | ret => exact hQ _ _ _ _ hend2 hq
        | panic ch => exact hQ _ _ _ _ hend2 hq
        | outgrown => exact hQ _ _ _ _ hend2 hq
  | rangeFunc f ps c1 c2 => exact fun cur e Q Qw a w w0 _ hE ho hQ h => h.elim
  | exit id => exact fun cur e Q Qw a w w0 _ hE ho hQ h => wp_exit (hQ _ _ _ _ ⟨hE, rfl, ho, .refl _ _⟩ h)
  | scope c => exact fun cur e Q Qw a w w0 _ hE ho hQ h => h.elim
  | label l => exact fun cur e Q Qw a w w0 _ hE ho hQ h => h.elim
  | goto l => exact fun cur e Q Qw a w w0 _ hE ho hQ h => h.elim
  | ret => exact fun cur e Q Qw a w w0 _ hE ho hQ h => wp_ret (hQ _ _ _ _ ⟨hE, rfl, ho, .refl _ _⟩ h)
  | refuse y => exact fun cur e Q Qw a w w0 _ hE ho hQ h => h.elim

end
end Go.XS
