/- A region whose order is open, walked in one order that serves all: for any program; the schedule is looked over by a closed test. -/
import Derived.Test.YtnhgcgjmmalebaaDoorXf
import Derived.Orders
set_option linter.unusedVariables false
set_option linter.unusedSimpArgs false
namespace Go.XS

section
variable {P : Program} {ops : Array Oper} {md : Region.Mode}

/-- Only the normal way out is of use. -/
def Qn (N : Act → World → Prop) : Exit → Act → World → Prop
  | .normal, a, w => N a w
  | _, _, _ => False

abbrev HeldL := List (Nat × (Heap → Prop))

def wpH (P : Program) (md : Region.Mode) (ops : Array Oper) (N : Act → World → Prop) (dep : Nat → Nat → Bool) (H : HeldL) : Nat → Array Bool → Act → World → Prop
  | 0, listed, a, w => Region.ready md ops listed = [] ∧ N a w
  | fuel + 1, listed, a, w =>
    (Region.ready md ops listed = [] → N a w) ∧
    ∀ i ∈ Region.ready md ops listed, wpOp P ops (Qn N) i (fun a' w' =>
      (∀ p ∈ H, dep i p.1 = false → p.2 w.heap → p.2 w'.heap) ∧ wpH P md ops N dep H fuel (listed.setIfInBounds i true) a' w') a w

theorem wpH_drop {N : Act → World → Prop} {dep : Nat → Nat → Bool} {H H' : HeldL} (hsub : ∀ p ∈ H', p ∈ H) : ∀ (fuel : Nat) (listed : Array Bool) (a : Act) (w : World),
    wpH P md ops N dep H fuel listed a w → wpH P md ops N dep H' fuel listed a w
  | 0, _, _, _, h => h
  | fuel + 1, listed, a, w, h => ⟨h.1, fun i hi => wpOp_mono (fun a' w' hh => ⟨fun p hp => hh.1 p (hsub p hp), wpH_drop hsub fuel _ _ _ hh.2⟩) (h.2 i hi)⟩

theorem wpAny_of_H {N : Act → World → Prop} {dep : Nat → Nat → Bool} {H : HeldL} : ∀ (fuel : Nat) (listed : Array Bool) (a : Act) (w : World),
    wpH P md ops N dep H fuel listed a w → wpAny P md ops (Qn N) fuel listed a w
  | 0, _, _, _, h => h
  | fuel + 1, listed, a, w, h => ⟨h.1, fun i hi => wpOp_mono (fun a' w' hh => wpAny_of_H fuel _ _ _ hh.2) (h.2 i hi)⟩

/-- In whatever world that holds 'I' the operation yields 'v'; or it is passed over. -/
def YieldI (P : Program) (ops : Array Oper) (I : Heap → Prop) (o : Oper) (v : Value) (a : Act) : Prop :=
  (Region.wanted o (yielded ops a.tmps) = true ∧ ∀ w : World, I w.heap → (execOp a.eval o).run P w = .ok (.value v) w) ∨
  (Region.wanted o (yielded ops a.tmps) = false ∧ v = undef)

theorem YieldI.wpOp {i : Nat} {o : Oper} {v : Value} {a : Act} {I : Heap → Prop} {Q : Exit → Act → World → Prop} (hi : ops[i]? = some o) (hy : YieldI P ops I o v a)
    {K : Act → World → Prop} {w : World} (hI : I w.heap) (h : K (a.put o.dst v) w) : Go.wpOp P ops Q i K a w := by
  unfold Go.wpOp
  simp only [hi]
  rcases hy with ⟨hw, hv⟩ | ⟨hw, rfl⟩
  · simp only [hw, if_true, Oper.wp, hv w hI, Oper.upon]; exact .inl h
  · simp only [hw, Bool.false_eq_true, if_false]; exact h

theorem YieldI.of_same {o : Oper} {v : Value} {a a' : Act} {I : Heap → Prop} (hy : YieldI P ops I o v a) (he : execOp a'.eval o = execOp a.eval o)
    (hw : Region.wanted o (yielded ops a'.tmps) = Region.wanted o (yielded ops a.tmps)) : YieldI P ops I o v a' := by
  unfold YieldI at *
  rw [he, hw]
  exact hy

theorem wpOp_putI {j : Nat} {oi oj : Oper} {v : Value} {I : Heap → Prop} {N : Act → World → Prop} (hj : ops[j]? = some oj) (hap : oi.apart ops oj = true)
    (hsi : ∀ cs b, oi.op ≠ .select cs b) (hsj : ∀ cs b, oj.op ≠ .select cs b) {K : Act → World → Prop} {a : Act} {w : World}
    (hy : YieldI P ops I oi v a) (h : wpOp P ops (Qn N) j K (a.put oi.dst v) w) :
    wpOp P ops (Qn N) j (fun a' w' => YieldI P ops I oi v a' ∧ K (a'.put oi.dst v) w') a w := by
  obtain ⟨h1, h2, h3⟩ := Oper.apart_spec hap
  have keep : ∀ (a : Act), YieldI P ops I oi v a → ∀ u, YieldI P ops I oi v (a.put oj.dst u) := fun a hy u =>
    hy.of_same (execOp_put oi hsi a oj.dst u h3) (wanted_put oi a oj.dst u h3)
  have keepD : ∀ d, YieldI P ops I oi v { a with defers := d :: a.defers } := fun d => hy.of_same rfl rfl
  unfold wpOp at *
  simp only [hj] at *
  rw [wanted_put oj a oi.dst v h1] at h
  split
  · rename_i hw
    simp only [hw, if_true] at h
    rcases h with h | ⟨hasks, hlets⟩
    case inr => exact .inr ⟨by unfold Oper.asks at *; rw [execOp_put oj hsj a oi.dst v h1] at hasks; exact hasks, hlets⟩
    refine .inl ?_
    unfold Oper.wp at *
    rw [execOp_put oj hsj a oi.dst v h1] at h
    generalize (execOp a.eval oj).run P w = r at *
    cases r with
    | ok n w' =>
      cases n <;> simp only [Oper.upon] at h ⊢
      case value u => exact ⟨keep a hy u, by rw [← Act.put_comm a v u h2]; exact h⟩
      case skip => exact ⟨keep a hy _, by rw [← Act.put_comm a v undef h2]; exact h⟩
      case defer d =>
        refine ⟨keep _ (keepD d) _, ?_⟩
        rw [← Act.put_comm _ v undef h2, ← Act.put_defers]
        exact h
      case enter f args =>
        refine Calls.mono h fun e w'' he => ?_
        cases e with
        | returned u => exact ⟨keep a hy u, by rw [← Act.put_comm a v u h2]; exact he⟩
        | panicked c => exact he.elim
        | outgrown => exact he
      case row row args => exact Rows.mono h fun u w'' he => ⟨keep a hy u, by rw [← Act.put_comm a v u h2]; exact he⟩
    | halt x w' =>
      cases x <;> simp only [Oper.upon] at h ⊢
      case panic u => exact h.elim
  · rename_i hw
    simp only [hw] at h
    exact ⟨keep a hy _, by rw [← Act.put_comm a v undef h2]; exact h⟩

/-- What the table of what leans on what must say. -/
def DepOk (md : Region.Mode) (ops : Array Oper) (dep : Nat → Nat → Bool) : Prop :=
  ∀ j i o, ops[j]? = some o → dep j i = true → ∃ e ∈ o.after, Region.binds md e = true ∧ (e.on = i ∨ dep e.on i = true)

def Closed (dep : Nat → Nat → Bool) (listed : Array Bool) : Prop := ∀ j, listed.getD j false = true → ∀ i, dep j i = true → listed.getD i false = true

theorem dep_ready {dep : Nat → Nat → Bool} (hd : DepOk md ops dep) {listed : Array Bool} (hc : Closed dep listed) {j i : Nat} (hj : j ∈ Region.ready md ops listed)
    (h : dep j i = true) : listed.getD i false = true := by
  obtain ⟨h0, o, ho, hall⟩ := mem_ready.1 hj
  obtain ⟨e, he, hb, h⟩ := hd j i o ho h
  rcases h with rfl | h
  · exact hall e he hb
  · exact hc _ (hall e he hb) i h

theorem Closed.set {dep : Nat → Nat → Bool} (hd : DepOk md ops dep) {listed : Array Bool} (hc : Closed dep listed) {j : Nat} (hj : j ∈ Region.ready md ops listed) :
    Closed dep (listed.setIfInBounds j true) := by
  intro k hk i hi
  by_cases hkj : k = j
  · subst hkj
    exact getD_set_true (dep_ready hd hc hj hi)
  · rw [getD_set_ne false (Ne.symm hkj)] at hk
    exact getD_set_true (hc k hk i hi)

theorem wpH_first {N : Act → World → Prop} {dep : Nat → Nat → Bool} {H : HeldL} {i : Nat} {oi : Oper} {v : Value} {I : Heap → Prop} (hd : DepOk md ops dep)
    (hi : ops[i]? = some oi) (hsel : ∀ (j : Nat) (o : Oper) cs b, ops[j]? = some o → o.op ≠ .select cs b) :
    ∀ (fuel : Nat) (listed : Array Bool) (a : Act) (w : World), Closed dep listed →
      (∀ j oj, ops[j]? = some oj → j ≠ i → listed.getD j true = false → (∀ e ∈ oj.after, Region.binds md e = true → e.on ≠ i) → oi.apart ops oj = true) →
      i ∈ Region.ready md ops listed → YieldI P ops I oi v a → I w.heap →
      wpH P md ops N dep ((i, I) :: H) fuel (listed.setIfInBounds i true) (a.put oi.dst v) w → wpH P md ops N dep H (fuel + 1) listed a w := by
  intro fuel
  induction fuel with
  | zero =>
    intro listed a w hc _ hr hy hI hh
    refine ⟨fun h => (by rw [h] at hr; cases hr), fun j hj => ?_⟩
    by_cases hji : j = i
    · subst hji; exact hy.wpOp hi hI ⟨fun _ _ _ h => h, wpH_drop (fun p hp => List.mem_cons_of_mem _ hp) _ _ _ _ hh⟩
    · have := ready_mono hj hji
      rw [hh.1] at this
      cases this
  | succ fuel ih =>
    intro listed a w hc hfree hr hy hI hh
    refine ⟨fun h => (by rw [h] at hr; cases hr), fun j hj => ?_⟩
    by_cases hji : j = i
    · subst hji; exact hy.wpOp hi hI ⟨fun _ _ _ h => h, wpH_drop (fun p hp => List.mem_cons_of_mem _ hp) _ _ _ _ hh⟩
    · have h1 := hh.2 j (ready_mono hj hji)
      obtain ⟨hjun, oj, hoj, hall⟩ := mem_ready.1 hj
      have hun : listed.getD i false = false := by
        have h0 := (mem_ready.1 hr).1
        rcases Nat.lt_or_ge i listed.size with h' | h'
        · simp [h'] at h0 ⊢; exact h0
        · simp [Array.getElem?_eq_none h']
      have hnot : ∀ e ∈ oj.after, Region.binds md e = true → e.on ≠ i := fun e he hb heq => by
        have h1 := hall e he hb
        rw [heq, hun] at h1
        cases h1
      have hdep : dep j i = false := by
        cases hd' : dep j i with
        | false => rfl
        | true => rw [dep_ready hd hc hj hd'] at hun; cases hun
      have h2 := wpOp_putI hoj (hfree j oj hoj hji hjun hnot) (fun cs b => hsel i oi cs b hi) (fun cs b => hsel j oj cs b hoj) hy h1
      have hfree' : ∀ k ok, ops[k]? = some ok → k ≠ i → (listed.setIfInBounds j true).getD k true = false →
          (∀ e ∈ ok.after, Region.binds md e = true → e.on ≠ i) → oi.apart ops ok = true := fun k ok hk hki hun hno => by
        refine hfree k ok hk hki ?_ hno
        by_cases hjk : j = k
        · subst hjk; exact hjun
        · rw [getD_set_ne true hjk] at hun; exact hun
      refine wpOp_mono (fun a' w' h3 => ⟨fun p hp => h3.2.1 p (List.mem_cons_of_mem _ hp), ?_⟩) h2
      refine ih (listed.setIfInBounds j true) a' w' (hc.set hd hj) hfree' (ready_mono hr (Ne.symm hji)) h3.1 (h3.2.1 (i, I) (by simp) hdep hI) ?_
      rw [Array.setIfInBounds_comm _ _ hji]
      exact h3.2.2

/-! ## The schedule -/

/-- How an operation of a schedule is taken: as one that leaves memory alone; as a load; as any other, the places held meanwhile being looked at behind it. -/
inductive Md where
  | pure | load | loud (chk : List Nat)

inductive Sch where
  | done
  | step (i : Nat) (m : Md) (r : Sch)
  | fork (i : Nat) (ci : List Nat) (ri : Sch) (j : Nat) (cj : List Nat) (rj : Sch)

def andH (I : Heap → Prop) (p : HP) : HP := fun σ => I σ ∧ p σ

def chkH (chk : List Nat) : HeldL → HP → HP
  | [], p => p
  | (i, I) :: H, p => match chk.contains i with
    | true => andH I (chkH chk H p)
    | false => chkH chk H p

def upd (e : Env) (d : Option Nat) (v : SV) : Env := match d with
  | none => e
  | some d => fun t => match Nat.beq t d with | true => some v | false => e t

def xguard (ops : Array Oper) (e : Env) (o : Oper) (yes no : Env → HP) : HP :=
  match o.guard with
  | none => yes e
  | some (j, want) =>
    match (ops[j]?).bind (·.dst) with
    | none => F
    | some d =>
      match e d with
      | some (.kb true) => match want with | true => yes e | false => no e
      | some (.kb false) => match want with | true => no e | false => yes e
      | some (.val (.bool t)) =>
        match want with
        | true => xif t (yes (upd e (some d) (.kb true))) (no (upd e (some d) (.kb false)))
        | false => xif t (no (upd e (some d) (.kb true))) (yes (upd e (some d) (.kb false)))
      | some .un => no e
      | _ => F

/-- What a load held. -/
def TK.held : TK → Addr → Nat → Value → Heap → Prop
  | .agg, a, n, v, σ => ∃ cs, v = .agg cs ∧ cs.size = n ∧ ∀ i, i < n → hcell σ (a.add i) = cs[i]?
  | _, a, _, v, σ => hcell σ a = some v

def xload (P : Program) (e : Env) (o : Oper) (K : SV → (Heap → Prop) → HP) : HP :=
  match o.op with
  | .load t x => withV e x fun v => match v with
    | .pointer p => adr p fun a => tyIs (tyOk P t) ((TK.of P t).ld a (P.cellsOf t) fun v => K (.val v) ((TK.of P t).held a (P.cellsOf t) v))
    | _ => F
  | _ => F

def xsched (P : Program) (ops : Array Oper) : Sch → HeldL → Env → (Env → HP) → HP
  | .done, _, e, K => K e
  | .step i m r, H, e, K =>
    match ops[i]? with
    | none => F
    | some o => xguard ops e o
      (fun e => match m with
        | .pure => xpure P e o fun v => xsched P ops r ((i, fun _ => True) :: H) (upd e o.dst v) K
        | .load => xload P e o fun v I => xsched P ops r ((i, I) :: H) (upd e o.dst v) K
        | .loud chk => xop P e o fun v => chkH chk H (xsched P ops r H (upd e o.dst v) K))
      (fun e => match m with
        | .loud chk => chkH chk H (xsched P ops r H (upd e o.dst .un) K)
        | _ => xsched P ops r ((i, fun _ => True) :: H) (upd e o.dst .un) K)
  | .fork i ci ri j cj rj, H, e, K => fun σ =>
    (match ops[i]? with
    | none => F
    | some o => xguard ops e o
      (fun e => xop P e o fun v => chkH ci H (xsched P ops ri H (upd e o.dst v) K))
      (fun e => chkH ci H (xsched P ops ri H (upd e o.dst .un) K))) σ ∧
    (match ops[j]? with
    | none => F
    | some o => xguard ops e o
      (fun e => xop P e o fun v => chkH cj H (xsched P ops rj H (upd e o.dst v) K))
      (fun e => chkH cj H (xsched P ops rj H (upd e o.dst .un) K))) σ

def depT (tab : List Nat) (j i : Nat) : Bool := (tab.getD j 0).testBit i

def tabOk (ops : Array Oper) (tab : List Nat) : Bool :=
  tab.length == ops.size && (List.range ops.size).all fun j => match ops[j]? with
    | some o => tab.getD j 0 == o.after.toList.foldl (fun s e => if Region.binds .any e then s ||| 2 ^ e.on ||| tab.getD e.on 0 else s) 0
    | none => true

/-- The closed test of a schedule; 'ls': what is held. -/
def schOk (ops : Array Oper) (tab : List Nat) : Sch → List Nat → Array Bool → Bool
  | .done, _, listed => (Region.ready .any ops listed).isEmpty
  | .step i m r, ls, listed =>
    match m with
    | .loud chk => Region.ready .any ops listed == [i] && ls.all (fun p => depT tab i p || chk.contains p) && schOk ops tab r ls (listed.setIfInBounds i true)
    | .load => (Region.ready .any ops listed).contains i && Region.free .any ops listed i && schOk ops tab r (i :: ls) (listed.setIfInBounds i true)
    | .pure => (Region.ready .any ops listed).contains i && Region.free .any ops listed i && schOk ops tab r ls (listed.setIfInBounds i true)
  | .fork i ci ri j cj rj, ls, listed =>
    Region.ready .any ops listed == [i, j] && ls.all (fun p => depT tab i p || ci.contains p) && ls.all (fun p => depT tab j p || cj.contains p) &&
      schOk ops tab ri ls (listed.setIfInBounds i true) && schOk ops tab rj ls (listed.setIfInBounds j true)

def Sch.len : Sch → Nat
  | .done => 0
  | .step _ _ r => r.len + 1
  | .fork _ _ ri _ _ rj => max ri.len rj.len + 1

def regOk (ops : Array Oper) (tab : List Nat) (s : Sch) : Bool :=
  Region.noSelect ops && tabOk ops tab && decide (s.len ≤ ops.size) && schOk ops tab s [] (Array.replicate ops.size false)

theorem foldl_bit (f : Edge → Bool) (g : Edge → Nat) (i : Nat) : ∀ (l : List Edge) (s : Nat), (l.foldl (fun s e => if f e then s ||| 2 ^ e.on ||| g e else s) s).testBit i = true →
    s.testBit i = true ∨ ∃ e ∈ l, f e = true ∧ (e.on = i ∨ (g e).testBit i = true)
  | [], s, h => .inl h
  | e :: l, s, h => by
    rcases foldl_bit f g i l _ h with h | ⟨e', he', h⟩
    · simp only at h
      split at h
      · rename_i hf
        simp only [Nat.testBit_or, Bool.or_eq_true, Nat.testBit_two_pow, decide_eq_true_eq] at h
        rcases h with (h | h) | h
        · exact .inl h
        · exact .inr ⟨e, by simp, hf, .inl h⟩
        · exact .inr ⟨e, by simp, hf, .inr h⟩
      · exact .inl h
    · exact .inr ⟨e', by simp [he'], h⟩

theorem tabOk_spec {tab : List Nat} (h : tabOk ops tab = true) : DepOk .any ops (depT tab) := by
  intro j i o ho hd
  simp only [tabOk, Bool.and_eq_true, List.all_eq_true, List.mem_range] at h
  have hlt := (Array.getElem?_eq_some_iff.1 ho).1
  have h1 := h.2 j hlt
  rw [ho] at h1
  simp only [beq_iff_eq] at h1
  unfold depT at hd
  rw [h1] at hd
  rcases foldl_bit _ _ i _ _ hd with h | ⟨e, he, hb, h⟩
  · simp at h
  · exact ⟨e, by simpa using he, hb, h⟩

/-! ## What is known of a frame -/

structure EnvOk (n : Nat) (e : Env) (a : Act) : Prop where
  size : a.tmps.size = n
  val : ∀ t v, e t = some v → a.tmps.getD t undef = v.toV

theorem EnvOk.ev {n : Nat} {e : Env} {a : Act} (h : EnvOk n e a) : ∀ x v, ev e x = some v → a.eval x = v.toV := by
  intro x v hv
  cases x with
  | tmp t => exact h.val t v hv
  | const c =>
    cases c <;> simp only [XS.ev, Option.some.injEq] at hv <;> subst hv <;> rfl
  | global g => simp only [XS.ev, Option.some.injEq] at hv; subst hv; rfl
  | func f => simp only [XS.ev, Option.some.injEq] at hv; subst hv; rfl

theorem EnvOk.put {n : Nat} {e : Env} {a : Act} (h : EnvOk n e a) {d : Option Nat} (hd : ∀ t, d = some t → t < n) (v : SV) : EnvOk n (upd e d v) (a.put d v.toV) := by
  cases d with
  | none => exact h
  | some d =>
    have hlt := hd d rfl
    refine ⟨by simp [Act.put, h.size], fun t u hu => ?_⟩
    simp only [upd] at hu
    cases hb : Nat.beq t d with
    | true =>
      rw [hb] at hu
      simp only [Option.some.injEq] at hu
      subst hu
      obtain rfl := Nat.eq_of_beq_eq_true hb
      simp [Act.put, h.size, hlt]
    | false =>
      rw [hb] at hu
      have hne : d ≠ t := fun he => by subst he; simp at hb
      have := h.val t u hu
      simp only [Act.put, Array.getD_eq_getD_getElem?, Array.getElem?_setIfInBounds_ne hne] at this ⊢
      exact this

theorem EnvOk.know {n : Nat} {e : Env} {a : Act} (h : EnvOk n e a) {d : Nat} {b : Bool} (hb : a.tmps.getD d undef = .bool b) : EnvOk n (upd e (some d) (.kb b)) a := by
  refine ⟨h.size, fun t u hu => ?_⟩
  simp only [upd] at hu
  cases hq : Nat.beq t d with
  | true =>
    rw [hq] at hu
    simp only [Option.some.injEq] at hu
    subst hu
    obtain rfl := Nat.eq_of_beq_eq_true hq
    exact hb
  | false => rw [hq] at hu; exact h.val t u hu

theorem yielded_bool {a : Act} {j d : Nat} {b : Bool} (hj : (ops[j]?).bind (·.dst) = some d) (hb : a.tmps.getD d undef = .bool b) : yielded ops a.tmps j = some b := by
  unfold yielded
  rw [hj]
  simp only [Option.bind_some]
  cases ht : a.tmps[d]? with
  | none => simp [Array.getD_eq_getD_getElem?, ht, undef] at hb
  | some v => simp [Array.getD_eq_getD_getElem?, ht] at hb; subst hb; rfl

theorem yielded_un {a : Act} {j d : Nat} (hj : (ops[j]?).bind (·.dst) = some d) (hb : a.tmps.getD d undef = undef) : yielded ops a.tmps j = none := by
  unfold yielded
  rw [hj]
  simp only [Option.bind_some]
  cases ht : a.tmps[d]? with
  | none => rfl
  | some v => simp [Array.getD_eq_getD_getElem?, ht] at hb; subst hb; rfl

/-- A guard's two ways. -/
theorem xguard_spec {n : Nat} {e : Env} {a : Act} {o : Oper} {yes no : Env → HP} {σ : Heap} (hE : EnvOk n e a) (h : xguard ops e o yes no σ) :
    (∃ e', EnvOk n e' a ∧ Region.wanted o (yielded ops a.tmps) = true ∧ yes e' σ) ∨ (∃ e', EnvOk n e' a ∧ Region.wanted o (yielded ops a.tmps) = false ∧ no e' σ) := by
  unfold xguard at h
  unfold Region.wanted
  cases hg : o.guard with
  | none => rw [hg] at h; exact .inl ⟨e, hE, rfl, h⟩
  | some jw =>
    obtain ⟨j, want⟩ := jw
    rw [hg] at h
    simp only at h ⊢
    cases hj : (ops[j]?).bind (·.dst) with
    | none => rw [hj] at h; exact h.elim
    | some d =>
      rw [hj] at h
      simp only at h
      cases hv : e d with
      | none => rw [hv] at h; exact h.elim
      | some sv =>
        rw [hv] at h
        have hval := hE.val d sv hv
        cases sv with
        | un =>
          rw [yielded_un hj hval]
          exact .inr ⟨e, hE, rfl, h⟩
        | nx _ _ => exact h.elim
        | en _ _ => exact h.elim
        | kb b =>
          rw [yielded_bool hj hval]
          cases b <;> cases want <;> first | exact .inl ⟨e, hE, rfl, h⟩ | exact .inr ⟨e, hE, rfl, h⟩
        | val v =>
          cases v <;> (try simp only at h) <;> first | exact h.elim | skip
          rename_i t
          have hval : a.tmps.getD d undef = .bool t := hval
          rw [yielded_bool hj hval]
          cases want
          · have := xif_spec h
            cases t
            · exact .inl ⟨_, hE.know hval, rfl, this⟩
            · exact .inr ⟨_, hE.know hval, rfl, this⟩
          · have := xif_spec h
            cases t
            · exact .inr ⟨_, hE.know hval, rfl, this⟩
            · exact .inl ⟨_, hE.know hval, rfl, this⟩

/-- From an operation's precondition to the model's. -/
theorem wp_of_next {o : Oper} {a : Act} {w : World} {K : SV → HP} {next : Act → World → Prop} {Q : Exit → Act → World → Prop}
    (h : nextP P (execOp a.eval o) (lift K) w.heap) (hk : ∀ (sv : SV) (w' : World), Outer w w' → K sv w'.heap → next (a.put o.dst sv.toV) w') : o.wp P a w next Q := by
  obtain ⟨r, w1, hr, ho, h⟩ := h w rfl
  unfold Oper.wp
  rw [hr]
  rcases h with ⟨v, rfl, sv, rfl, hK⟩ | ⟨rfl, sv, hsv, hK⟩ | ⟨f, args, rfl, hc⟩
  · exact hk sv w1 ho hK
  · have := hk sv w1 ho hK
    rw [hsv] at this
    exact this
  · refine (hc w1 rfl).mono ?_
    rintro e w2 ⟨v, rfl, ⟨sv, rfl, hK⟩, ho2⟩
    exact hk sv w2 (ho.trans ho2) hK

end
end Go.XS
