/- A symbolic interpreter of function bodies into predicate transformers over the heap alone, proved sound against the model: for any program; no condition. -/
import Derived.WalkKit
import Derived.KernelRfl
set_option linter.unusedVariables false
set_option linter.unusedSimpArgs false
namespace Go.XS

abbrev Heap := Array Obj
abbrev HP := Heap → Prop

/-- A slot's known value: a value, a bool that is known, or the mark of an operation passed over. -/
inductive SV where
  | val (v : Value)
  | kb (b : Bool)
  | un
  | nx (k x : Value)
  | en (k x : Value)

def SV.toV : SV → Value
  | .val v => v
  | .kb b => .bool b
  | .un => undef
  | .nx k x => .tuple #[.bool true, k, x]
  | .en k x => .tuple #[k, x]

abbrev Env := Nat → Option SV

def F : HP := fun _ => False

/-- What a call leaves alone beside the heap. -/
def Outer (w w' : World) : Prop := w'.os = w.os ∧ w'.tape = w.tape ∧ w'.output = w.output

theorem Outer.refl (w : World) : Outer w w := ⟨rfl, rfl, rfl⟩
theorem Outer.trans {a b c : World} (h : Outer a b) (k : Outer b c) : Outer a c :=
  ⟨k.1.trans h.1, k.2.1.trans h.2.1, k.2.2.trans h.2.2⟩

def hcell (s : Heap) (a : Addr) : Option Value :=
  match s[a.block]? with
  | some (.cells c _ _) => if a.spot.isSome then none else c[a.off]?
  | _ => none

def hfrozen (s : Heap) (a : Addr) : Bool :=
  match s[a.block]? with
  | some (.cells _ _ (lo, hi)) => lo ≤ a.off && a.off < hi
  | _ => false

def hset (s : Heap) (a : Addr) (v : Value) : Heap :=
  s.modify a.block fun
      | .cells c elem frozen => .cells (if a.spot.isSome then c else c.setIfInBounds a.off v) elem frozen
      | o => o

theorem cell_eq (w : World) (a : Addr) : w.cell? a = hcell w.heap a := rfl
theorem frozen_eq (w : World) (a : Addr) : w.frozen? a = hfrozen w.heap a := rfl
theorem setCell_eq (w : World) (a : Addr) (v : Value) : w.setCell a v = { w with heap := hset w.heap a v } := rfl

/-- The weakest precondition of a computation of the model. -/
def semP {α : Type} (P : Program) (s : Sem α) (K : α → HP) : HP := fun σ =>
  ∀ w : World, w.heap = σ → ∃ v w', s.run P w = .ok v w' ∧ Outer w w' ∧ K v w'.heap

section
variable {P : Program}
theorem semP_pure {α : Type} {v : α} {K : α → HP} {σ : Heap} (h : K v σ) : semP P (pure v) K σ :=
  fun w hw => ⟨v, w, rfl, .refl w, hw ▸ h⟩
theorem semP_bind {α β : Type} {s : Sem α} {f : α → Sem β} {K : β → HP} {σ : Heap} (h : semP P s (fun v => semP P (f v) K) σ) :
    semP P (s >>= f) K σ := by
  intro w hw
  obtain ⟨v, w1, h1, o1, k1⟩ := h w hw
  obtain ⟨u, w2, h2, o2, k2⟩ := k1 w1 rfl
  exact ⟨u, w2, by rw [Sem.run_bind, h1, Result.andThen_ok, h2], o1.trans o2, k2⟩
theorem semP_mono {α : Type} {s : Sem α} {K K' : α → HP} {σ : Heap} (hk : ∀ v σ, K v σ → K' v σ) (h : semP P s K σ) : semP P s K' σ :=
  fun w hw => let ⟨v, w', h1, h2, h3⟩ := h w hw; ⟨v, w', h1, h2, hk _ _ h3⟩
theorem semP_run {α : Type} {s : Sem α} {K : α → HP} {σ : Heap} (v : α) (h : ∀ w : World, w.heap = σ → s.run P w = .ok v w) (hk : K v σ) : semP P s K σ :=
  fun w hw => ⟨v, w, h w hw, .refl w, hw ▸ hk⟩
theorem semP_same {α : Type} {s t : Sem α} {K : α → HP} {σ : Heap} (h : ∀ w : World, w.heap = σ → s.run P w = t.run P w) (hk : semP P t K σ) : semP P s K σ :=
  fun w hw => let ⟨v, w', h1, h2, h3⟩ := hk w hw; ⟨v, w', (h w hw).trans h1, h2, h3⟩
end

/-! ## The combinators -/

def xif (b : Bool) (p q : HP) : HP := fun σ => (b = true → p σ) ∧ (b = false → q σ)
def req (c : Prop) (p : HP) : HP := fun σ => c ∧ p σ
def adr (p : Option Addr) (f : Addr → HP) : HP := match p with | some a => f a | none => F
def ldI (k : IntKind) (a : Addr) (f : Int → HP) : HP := fun σ => ∃ n, hcell σ a = some (.int k n) ∧ f n σ
def ldB (a : Addr) (f : Bool → HP) : HP := fun σ => ∃ b, hcell σ a = some (.bool b) ∧ f b σ
def ldP (a : Addr) (f : Option Addr → HP) : HP := fun σ => ∃ p, hcell σ a = some (.pointer p) ∧ f p σ
def ldS (a : Addr) (f : Option Addr → Nat → Nat → HP) : HP := fun σ => ∃ p l c, hcell σ a = some (.slice p l c) ∧ f p l c σ
def ldT (a : Addr) (f : ByteArray → HP) : HP := fun σ => ∃ s, hcell σ a = some (.string s) ∧ f s σ
def ldM (a : Addr) (f : Option Nat → HP) : HP := fun σ => ∃ m, hcell σ a = some (.map m) ∧ f m σ
def ldV (a : Addr) (f : Value → HP) : HP := fun σ => ∃ v, hcell σ a = some v ∧ f v σ
def ldA (a : Addr) (n : Nat) (f : Array Value → HP) : HP := fun σ => ∃ cs : Array Value, cs.size = n ∧ (∀ i, i < n → hcell σ (a.add i) = cs[i]?) ∧ f cs σ
def asI (k : IntKind) (v : Value) (f : Int → HP) : HP := fun σ => ∃ n, v = .int k n ∧ f n σ
def asB (v : Value) (f : Bool → HP) : HP := fun σ => ∃ b, v = .bool b ∧ f b σ
def asP (v : Value) (f : Option Addr → HP) : HP := fun σ => ∃ p, v = .pointer p ∧ f p σ
def asS (v : Value) (f : Option Addr → Nat → Nat → HP) : HP := fun σ => ∃ p l c, v = .slice p l c ∧ f p l c σ
def asT (v : Value) (f : ByteArray → HP) : HP := fun σ => ∃ s, v = .string s ∧ f s σ
def asM (v : Value) (f : Option Nat → HP) : HP := fun σ => ∃ m, v = .map m ∧ f m σ
def asA (v : Value) (f : Array Value → HP) : HP := fun σ => ∃ cs, v = .agg cs ∧ f cs σ
def st (a : Addr) (v : Value) (k : HP) : HP := fun σ => (∃ u, hcell σ a = some u) ∧ hfrozen σ a = false ∧ v.oneCell' = true ∧ k (hset σ a v)
def stL (a : Addr) : Nat → List Value → HP → HP
  | _, [], k => k
  | i, v :: r, k => st (a.add i) v (stL a (i + 1) r k)
def stA (a : Addr) (cs : Array Value) (n : Nat) (k : HP) : HP := req (cs.size = n) (stL a 0 cs.toList k)
/-- A store of one cell's value. -/
def stV (a : Addr) (v : Value) (n : Nat) (k : HP) : HP := match Nat.beq n 1 with | true => st a v k | false => F
def al (cs : Array Value) (T : TypeId) (f : Nat → HP) : HP := fun σ => f σ.size (σ.push (.cells cs T))
def newM (f : Nat → HP) : HP := fun σ => f σ.size (σ.push (.map #[] 0))
/-- A call of a function. -/
def callP (P : Program) (f : FuncId) (args : Array Value) (K : Value → HP) : HP := fun σ =>
  ∀ w : World, w.heap = σ → Calls P f args w fun e w' => ∃ v, e = .returned v ∧ K v w'.heap ∧ Outer w w'
/-- An operation, or a call of whatever: what the model makes of it. -/
def nextP (P : Program) (s : Sem Next) (K : Value → HP) : HP := fun σ =>
  ∀ w : World, w.heap = σ → ∃ r w', s.run P w = .ok r w' ∧ Outer w w' ∧
    ((∃ v, r = .value v ∧ K v w'.heap) ∨ (r = .skip ∧ K undef w'.heap) ∨ (∃ f args, r = .enter f args ∧ callP P f args K w'.heap))
def loopH (body : List Value → (List Value → HP) → HP) (init : List Value) : HP := fun σ =>
  ∀ R : List Value → HP, (∀ s σ, body s R σ → R s σ) → R init σ
def joinH (J : List Value → HP) (body : (List Value → HP) → HP) : HP := body J

theorem callP_mono {P : Program} {f : FuncId} {args : Array Value} {K K' : Value → HP} {σ : Heap} (hk : ∀ v σ, K v σ → K' v σ)
    (h : callP P f args K σ) : callP P f args K' σ :=
  fun w hw => (h w hw).mono fun _ _ ⟨v, e, k, o⟩ => ⟨v, e, hk _ _ k, o⟩

/-- An iterator's next: over, or a key and a value. -/
def nextM (P : Program) (it : Value) (s : Bool) (t : TypeId) (f0 : HP) (f1 : Value → Value → HP) : HP :=
  semP P (Instr.next it s t) fun r σ => (r = .tuple #[.bool false] ∧ f0 σ) ∨ ∃ k x, r = .tuple #[.bool true, k, x] ∧ f1 k x σ

/-- An iterator's entry: a key and a value. -/
def entryM (P : Program) (it : Value) (f : Value → Value → HP) : HP :=
  semP P (Instr.entry it) fun r σ => ∃ k x, r = .tuple #[k, x] ∧ f k x σ

/-- What append is asked of slices of one type. -/
def appS (P : Program) (ats : Array TypeId) (p : Option Addr) (l c : Nat) (q : Option Addr) (m d : Nat) (f : Option Addr → Nat → Nat → HP) : HP :=
  semP P (Builtin.append_ ats 0 #[.slice p l c, .slice q m d]) fun v => asS v f

/-! ## Kinds of types -/

inductive TK where
  | bool | int (k : IntKind) | str | ptr | slice | map | agg | any

def TK.of (P : Program) (t : TypeId) : TK :=
  match P.underlying t with
  | some .bool => .bool
  | some (.int k) => .int k
  | some .string => .str
  | some (.pointer _) => .ptr
  | some (.slice _) => .slice
  | some (.map ..) => .map
  | some (.struct _) => .agg
  | some (.array ..) => .agg
  | _ => .any

def TK.as : TK → Value → (Value → HP) → HP
  | .bool, v, f => asB v fun b => f (.bool b)
  | .int k, v, f => asI k v fun n => f (.int k n)
  | .str, v, f => asT v fun s => f (.string s)
  | .ptr, v, f => asP v fun p => f (.pointer p)
  | .slice, v, f => asS v fun p l c => f (.slice p l c)
  | .map, v, f => asM v fun m => f (.map m)
  | .agg, v, f => asA v fun cs => f (.agg cs)
  | .any, v, f => f v

def TK.ld : TK → Addr → Nat → (Value → HP) → HP
  | .bool, a, _, f => ldB a fun b => f (.bool b)
  | .int k, a, _, f => ldI k a fun n => f (.int k n)
  | .str, a, _, f => ldT a fun s => f (.string s)
  | .ptr, a, _, f => ldP a fun p => f (.pointer p)
  | .slice, a, _, f => ldS a fun p l c => f (.slice p l c)
  | .map, a, _, f => ldM a fun m => f (.map m)
  | .agg, a, n, f => ldA a n fun cs => f (.agg cs)
  | .any, a, _, f => ldV a f

/-- For all values of these kinds. -/
def allV : List TK → (List Value → Prop) → Prop
  | [], g => g []
  | .bool :: ts, g => ∀ b, allV ts fun r => g (.bool b :: r)
  | .int k :: ts, g => ∀ n, allV ts fun r => g (.int k n :: r)
  | .str :: ts, g => ∀ s, allV ts fun r => g (.string s :: r)
  | .ptr :: ts, g => ∀ p, allV ts fun r => g (.pointer p :: r)
  | .slice :: ts, g => ∀ p l c, allV ts fun r => g (.slice p l c :: r)
  | .map :: ts, g => ∀ m, allV ts fun r => g (.map m :: r)
  | .agg :: ts, g => ∀ cs, allV ts fun r => g (.agg cs :: r)
  | .any :: ts, g => ∀ v, allV ts fun r => g (v :: r)

theorem TK.as_eq (tk : TK) {v : Value} {f : Value → HP} {σ : Heap} (h : tk.as v f σ) : f v σ := by
  cases tk <;> simp only [TK.as] at h
  case bool => obtain ⟨b, rfl, h⟩ := h; exact h
  case int => obtain ⟨b, rfl, h⟩ := h; exact h
  case str => obtain ⟨b, rfl, h⟩ := h; exact h
  case ptr => obtain ⟨b, rfl, h⟩ := h; exact h
  case slice => obtain ⟨p, l, c, rfl, h⟩ := h; exact h
  case map => obtain ⟨b, rfl, h⟩ := h; exact h
  case agg => obtain ⟨b, rfl, h⟩ := h; exact h
  case any => exact h

theorem TK.ld_cell (tk : TK) (hn : tk ≠ .agg) {a : Addr} {n : Nat} {f : Value → HP} {σ : Heap} (h : tk.ld a n f σ) : ∃ v, hcell σ a = some v ∧ f v σ := by
  cases tk <;> simp only [TK.ld] at h
  case bool => obtain ⟨b, e, h⟩ := h; exact ⟨_, e, h⟩
  case int => obtain ⟨b, e, h⟩ := h; exact ⟨_, e, h⟩
  case str => obtain ⟨b, e, h⟩ := h; exact ⟨_, e, h⟩
  case ptr => obtain ⟨b, e, h⟩ := h; exact ⟨_, e, h⟩
  case slice => obtain ⟨p, l, c, e, h⟩ := h; exact ⟨_, e, h⟩
  case map => obtain ⟨b, e, h⟩ := h; exact ⟨_, e, h⟩
  case agg => exact absurd rfl hn
  case any => exact h

/-- There are values of these kinds. -/
def exV : List TK → (List Value → Prop) → Prop
  | [], g => g []
  | .bool :: ts, g => ∃ b, exV ts fun r => g (.bool b :: r)
  | .int k :: ts, g => ∃ n, exV ts fun r => g (.int k n :: r)
  | .str :: ts, g => ∃ s, exV ts fun r => g (.string s :: r)
  | .ptr :: ts, g => ∃ p, exV ts fun r => g (.pointer p :: r)
  | .slice :: ts, g => ∃ p l c, exV ts fun r => g (.slice p l c :: r)
  | .map :: ts, g => ∃ m, exV ts fun r => g (.map m :: r)
  | .agg :: ts, g => ∃ cs, exV ts fun r => g (.agg cs :: r)
  | .any :: ts, g => ∃ v, exV ts fun r => g (v :: r)

theorem exV_some : ∀ (ts : List TK) (g : List Value → Prop), exV ts g → ∃ vs, g vs := by
  intro ts
  induction ts with
  | nil => intro g h; exact ⟨_, h⟩
  | cons t ts ih =>
    intro g h
    cases t <;> simp only [exV] at h
    case slice => obtain ⟨p, l, c, h⟩ := h; obtain ⟨vs, h⟩ := ih _ h; exact ⟨_, h⟩
    all_goals (obtain ⟨x, h⟩ := h; obtain ⟨vs, h⟩ := ih _ h; exact ⟨_, h⟩)

theorem allV_mono : ∀ (ts : List TK) (g g' : List Value → Prop), (∀ r, g r → g' r) → allV ts g → allV ts g' := by
  intro ts
  induction ts with
  | nil => intro g g' h hh; exact h _ hh
  | cons t ts ih =>
    intro g g' h hh
    cases t <;> simp only [allV] at hh ⊢
    case slice => intro p l c; exact ih _ _ (fun r => h _) (hh p l c)
    all_goals (intro x; exact ih _ _ (fun r => h _) (hh x))

/-- A list of values of these kinds. -/
def Typed (ts : List TK) (s : List Value) : Prop := ¬ allV ts (fun r => s ≠ r)

theorem Typed.use {ts : List TK} {s : List Value} {f : List Value → Prop} (ht : Typed ts s) (h : allV ts (fun r => s = r → f r)) : f s := by
  refine Classical.byContradiction fun hn => ht (allV_mono ts _ _ (fun r hr he => ?_) h)
  subst he
  exact hn (hr rfl)

/-- What is asked of a list of values at the head of a loop, or where ways meet. -/
def typedJ (ts : List TK) (f : List Value → HP) : List Value → HP := fun s σ => allV ts fun r => s = r → f r σ

/-! ## The interpreter -/

def ev (e : Env) : Operand → Option SV
  | .tmp t => e t
  | .const (.bool b) => some (.kb b)
  | .const v => some (.val v)
  | .global g => some (.val (.pointer (some ⟨g, 0, none⟩)))
  | .func f => some (.val (.func (.func f) #[] #[]))

def evs (e : Env) : List Operand → Option (List Value)
  | [] => some []
  | x :: r =>
    match ev e x with
    | some v => match evs e r with
      | some vs => some (v.toV :: vs)
      | none => none
    | none => none

def withV (e : Env) (x : Operand) (f : Value → HP) : HP := match ev e x with | some v => f v.toV | none => F
def withSV (e : Env) (x : Operand) (f : SV → HP) : HP := match ev e x with | some v => f v | none => F
def withVs (e : Env) (x : List Operand) (f : List Value → HP) : HP := match evs e x with | some v => f v | none => F

def zok (P : Program) (t : TypeId) : Bool := match P.info? t with | some i => i.zero.isSome | none => false
def zc (P : Program) (t : TypeId) : Array Value := match P.info? t with | some i => (i.zero.getD undef).cells | none => #[]

/-- A result of a type: a value of its kind, or a tuple of such. -/
def asK (P : Program) (t : TypeId) (v : Value) (f : Value → HP) : HP :=
  match P.underlying t with
  | some (.tuple ts) => fun σ => exV (ts.toList.map (TK.of P)) fun vs => v = .tuple vs.toArray ∧ f (.tuple vs.toArray) σ
  | _ => (TK.of P t).as v f

theorem asK_eq {P : Program} {t : TypeId} {v : Value} {f : Value → HP} {σ : Heap} (h : asK P t v f σ) : f v σ := by
  unfold asK at h
  generalize P.underlying t = d at h
  cases d with
  | none => exact TK.as_eq _ h
  | some d =>
    cases d
    case tuple ts =>
      obtain ⟨vs, hv, h2⟩ := exV_some _ _ h
      rw [hv]; exact h2
    all_goals exact TK.as_eq _ h

def ibits (op : BinOp) (k : IntKind) (x y : Int) : Int :=
  k.wrap (match op with
    | .and => BitVec.ofInt k.bits x &&& BitVec.ofInt k.bits y
    | .or => BitVec.ofInt k.bits x ||| BitVec.ofInt k.bits y
    | .xor => BitVec.ofInt k.bits x ^^^ BitVec.ofInt k.bits y
    | _ => BitVec.ofInt k.bits x &&& ~~~ BitVec.ofInt k.bits y).toNat

def ishl (k : IntKind) (x y : Int) : Int := k.wrap (x * 2 ^ (min y.toNat k.bits))
def ishr (k : IntKind) (x y : Int) : Int := x.fdiv (2 ^ (min y.toNat k.bits))

def refTy (P : Program) (t : TypeId) : Bool :=
  match P.underlying t with | some (.pointer _) => true | some (.slice _) => true | some (.map ..) => true | _ => false

def boolTy (P : Program) (t : TypeId) : Bool := match P.underlying t with | some .bool => true | _ => false
def ptrTy (P : Program) (t : TypeId) : Bool := match P.underlying t with | some (.pointer _) => true | _ => false
def sliceTy (P : Program) (t : TypeId) : Bool := match P.underlying t with | some (.slice _) => true | _ => false
def mapTy (P : Program) (t : TypeId) : Bool := match P.underlying t with | some (.map ..) => true | _ => false
def funcTy (P : Program) (t : TypeId) : Bool := match P.underlying t with | some (.func ..) => true | _ => false

def tyIs (b : Bool) (p : HP) : HP := match b with | true => p | false => F

def xbin (P : Program) (op : BinOp) (t : TypeId) (a b : Value) (K : Value → HP) (fb : HP) : HP :=
  match a, b with
  | .int k m, .int k' n =>
    match op with
    | .add => if k = k' then K (.int k (k.wrap (m + n))) else F
    | .sub => if k = k' then K (.int k (k.wrap (m - n))) else F
    | .mul => if k = k' then K (.int k (k.wrap (m * n))) else F
    | .quo => if k = k' then req (n ≠ 0) (K (.int k (k.wrap (m.tdiv n)))) else F
    | .rem => if k = k' then req (n ≠ 0) (K (.int k (m.tmod n))) else F
    | .and => if k = k' then K (.int k (ibits .and k m n)) else F
    | .or => if k = k' then K (.int k (ibits .or k m n)) else F
    | .xor => if k = k' then K (.int k (ibits .xor k m n)) else F
    | .andNot => if k = k' then K (.int k (ibits .andNot k m n)) else F
    | .shl => req (0 ≤ n) (K (.int k (ishl k m n)))
    | .shr => req (0 ≤ n) (K (.int k (ishr k m n)))
    | .eql => if k = k' then K (.bool (m == n)) else F
    | .neq => if k = k' then K (.bool (m != n)) else F
    | .lss => if k = k' then K (.bool (m < n)) else F
    | .leq => if k = k' then K (.bool (m ≤ n)) else F
    | .gtr => if k = k' then K (.bool (m > n)) else F
    | .geq => if k = k' then K (.bool (m ≥ n)) else F
  | .bool s, .bool u =>
    match op with
    | .eql => tyIs (boolTy P t) (K (.bool (s == u)))
    | .neq => tyIs (boolTy P t) (K (.bool !(s == u)))
    | _ => fb
  | .string s, .string u =>
    match op with
    | .eql => K (.bool (s.toList == u.toList))
    | .neq => K (.bool !(s.toList == u.toList))
    | _ => fb
  | .pointer p, .pointer none =>
    match op with
    | .eql => tyIs (ptrTy P t) (K (.bool p.isNone))
    | .neq => tyIs (ptrTy P t) (K (.bool !p.isNone))
    | _ => fb
  | .slice p _ _, .slice none _ _ =>
    match op with
    | .eql => tyIs (sliceTy P t) (K (.bool p.isNone))
    | .neq => tyIs (sliceTy P t) (K (.bool !p.isNone))
    | _ => fb
  | .map p, .map none =>
    match op with
    | .eql => tyIs (mapTy P t) (K (.bool p.isNone))
    | .neq => tyIs (mapTy P t) (K (.bool !p.isNone))
    | _ => fb
  | _, _ => fb

end Go.XS
