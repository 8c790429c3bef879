/- The interpreter of one operation, proved sound against the model: for any program; no condition. -/
import Derived.Test.YtnhgcgjmmalebaaDoorXa
set_option linter.unusedVariables false
set_option linter.unusedSimpArgs false
namespace Go.XS

def fieldOff (P : Program) (s : TypeId) (f : Nat) : Option Nat :=
  match P.underlying s with
  | some (.struct fs) => match fs[f]? with
    | some fd => if P.cellsOf fd.type = 0 then none else some fd.offset
    | none => none
  | _ => none

def tyOk (P : Program) (t : TypeId) : Bool := (P.info? t).isSome && (P.underlying t).isSome

def TK.isAgg : TK → Bool | .agg => true | _ => false

/-- A part of a struct or an array by value. -/
def ptI (k : IntKind) (cs : Array Value) (off : Nat) (f : Int → HP) : HP := fun σ => ∃ n, cs[off]? = some (.int k n) ∧ f n σ
def ptB (cs : Array Value) (off : Nat) (f : Bool → HP) : HP := fun σ => ∃ n, cs[off]? = some (.bool n) ∧ f n σ
def ptT (cs : Array Value) (off : Nat) (f : ByteArray → HP) : HP := fun σ => ∃ n, cs[off]? = some (.string n) ∧ f n σ
def ptP (cs : Array Value) (off : Nat) (f : Option Addr → HP) : HP := fun σ => ∃ n, cs[off]? = some (.pointer n) ∧ f n σ
def ptS (cs : Array Value) (off : Nat) (f : Option Addr → Nat → Nat → HP) : HP := fun σ => ∃ p l c, cs[off]? = some (.slice p l c) ∧ f p l c σ
def ptM (cs : Array Value) (off : Nat) (f : Option Nat → HP) : HP := fun σ => ∃ n, cs[off]? = some (.map n) ∧ f n σ
def ptV (cs : Array Value) (off : Nat) (f : Value → HP) : HP := fun σ => ∃ v, cs[off]? = some v ∧ f v σ

def TK.pt : TK → Array Value → Nat → Nat → (Value → HP) → HP
  | .bool, cs, o, _, f => ptB cs o fun b => f (.bool b)
  | .int k, cs, o, _, f => ptI k cs o fun n => f (.int k n)
  | .str, cs, o, _, f => ptT cs o fun s => f (.string s)
  | .ptr, cs, o, _, f => ptP cs o fun p => f (.pointer p)
  | .slice, cs, o, _, f => ptS cs o fun p l c => f (.slice p l c)
  | .map, cs, o, _, f => ptM cs o fun m => f (.map m)
  | .agg, cs, o, n, f => f (.agg (cs.extract o (o + n)))
  | .any, cs, o, _, f => ptV cs o f

/-- A bound of a slice expression. -/
def optB (e : Env) (x : Option Operand) (dflt ub : Nat) (f : Nat → HP) : HP :=
  match x with
  | none => f dflt
  | some x => match ev e x with
    | some (.val (.int _ n)) => req (0 ≤ n ∧ n ≤ (ub : Int)) (f n.toNat)
    | _ => F

def slBase (p : Option Addr) (size l m : Nat) : Option Addr := if m = l then p else p.map (·.add (l * size))
def aBase (a : Addr) (size l m : Nat) : Addr := if m = l then a else a.add (l * size)

/-- A new slice. -/
def reps (z : Array Value) (n : Nat) : Array Value := (Array.range n).map (z[· % z.size]!)
def mkSl (P : Program) (elem : TypeId) (l c : Int) (f : Nat → HP) : HP := fun σ =>
  0 ≤ l ∧ l ≤ c ∧ c < 9223372036854775808 ∧ (P.bytesOf elem : Int) * c ≤ 2 ^ 48 ∧ (P.info? elem).isSome = true ∧ (zok P elem = true) ∧
    f σ.size (σ.push (.cells (reps (zc P elem) (c.toNat * P.cellsOf elem)) elem))

/-- A place in a row of elements of a size. -/
def scale (n : Nat) : Nat → Nat
  | 1 => n
  | s => n * s

theorem scale_eq (n s : Nat) : scale n s = n * s := by
  unfold scale
  split
  · simp
  · rfl

def strTy (P : Program) (t : TypeId) : Bool := match P.underlying t with | some .string => true | _ => false

def firstTy (f : TypeId → Bool) (ats : Array TypeId) : Bool := match ats[0]? with | some t => f t | none => false

def strAt (s : ByteArray) (i : Int) : Int := ((s.data[i.toNat]?).getD 0).toNat

def partsOf (e : Env) : List (Nat × Operand) → Option (List (Nat × Value))
  | [] => some []
  | (i, x) :: r =>
    match ev e x with
    | some v => match partsOf e r with
      | some vs => some ((i, v.toV) :: vs)
      | none => none
    | none => none

def fieldPlaces (P : Program) (t : TypeId) : Option (Nat → Option (Nat × Nat)) :=
  match P.underlying t with
  | some (.struct fs) => if fs.toList.all (fun f => (P.info? f.type).isSome) then some fun i => (fs[i]?).map fun f => (f.offset, P.cellsOf f.type) else none
  | some (.array _ elem) => if (P.info? elem).isSome then some fun i => some (i * P.cellsOf elem, P.cellsOf elem) else none
  | _ => none

/-- The zeros of a row. -/
def repL (z : List Value) : Nat → List Value
  | 0 => []
  | n + 1 => z ++ repL z n

def bldOk (P : Program) (elem : TypeId) (len : Nat) : Bool :=
  zok P elem && Nat.ble (len * P.cellsOf elem) 16777216 && Nat.beq (zc P elem).size (P.cellsOf elem)

def execOpV (P : Program) (ρ : Operand → Value) (o : Oper) : Sem Next := execOp ρ o

def bodied (P : Program) (f : FuncId) : Bool := match P.funcs[f]? with | some fn => fn.body.isSome | none => false

/-- A call of a function of any number. -/
def callV (P : Program) (fid : FuncId) (args : Array Value) (K : Value → HP) : HP :=
  match bodied P fid with
  | true => callP P fid args K
  | false => nextP P (callFunc fid args) K

/-- A call of a value. -/
def xcall (P : Program) (f : Value) (args : List Value) (t : TypeId) (K : Value → HP) : HP :=
  match f with
  | .func (.func fid) first captured => callV P fid (first.toList ++ args ++ captured.toList).toArray fun v => asK P t v K
  | f => nextP P (do let d ← Deferred.ofValue f args.toArray; invoke d.target d.args) fun v => asK P t v K

def rho (e : Env) (x : Operand) : Value := match ev e x with | some v => v.toV | none => undef

def xbuiltin (P : Program) (b : Builtin) (ats : Array TypeId) (t : TypeId) (args : List Value) (K : Value → HP) : HP :=
  match b, args with
  | .len, [.slice _ n _] => tyIs (firstTy (sliceTy P) ats) (K (.int .i64 n))
  | .len, [.string s] => tyIs (firstTy (strTy P) ats) (K (.int .i64 s.size))
  | .cap, [.slice p n c] => semP P (Builtin.cap_ ats t #[.slice p n c]) fun v => asK P t v K
  | .max, [.int k x, .int _ y] => K (.int k (if y > x then y else x))
  | .min, [.int k x, .int _ y] => K (.int k (if y < x then y else x))
  | .append, [.slice p l c, .slice q m d] => appS P ats p l c q m d fun p l c => K (.slice p l c)
  | .append, vs => semP P (Builtin.append_ ats t vs.toArray) fun v => asK P t v K
  | .copy, vs => semP P (Builtin.copy_ ats t vs.toArray) fun v => asK P t v K
  | .clear, vs => semP P (Builtin.clear_ ats t vs.toArray) fun v => asK P t v K
  | .delete, vs => semP P (Builtin.delete_ ats t vs.toArray) fun v => asK P t v K
  | .len, vs => semP P (Builtin.len_ ats t vs.toArray) fun v => asK P t v K
  | .max, vs => semP P (Builtin.max_ ats t vs.toArray) fun v => asK P t v K
  | .min, vs => semP P (Builtin.min_ ats t vs.toArray) fun v => asK P t v K
  | _, _ => F

/-- The parts of a composite laid over its zero. -/
def fillX (pl : Nat → Option (Nat × Nat)) (n : Nat) : List Value → List (Nat × Value) → (List Value → HP) → HP
  | cells, [], k => k cells
  | cells, (i, v) :: r, k => match pl i with
    | none => F
    | some (off, size) => match v with
      | .agg cs => req (cs.size = size) (tyIs (Nat.ble (off + size) n) (fillX pl n (cells.take off ++ cs.toList ++ cells.drop (off + size)) r k))
      | v => tyIs (Nat.beq size 1 && Nat.ble (off + 1) n) (fillX pl n (cells.take off ++ [v] ++ cells.drop (off + 1)) r k)

/-- An operation that neither reads nor changes memory. -/
def xpure (P : Program) (e : Env) (o : Oper) (K : SV → HP) : HP :=
  match o.op with
  | .move x => withSV e x K
  | .assign x => withSV e x K
  | .pick c a b => withSV e c fun v => match v with
    | .kb true => withSV e a K
    | .kb false => withSV e b K
    | .val (.bool t) => xif t (withSV e a K) (withSV e b K)
    | _ => F
  | .build t parts =>
    match partsOf e parts.toList, fieldPlaces P t with
    | some [], some _ => tyIs (zok P t) (K (.val (.agg (zc P t))))
    | some ps, some pl => tyIs (zok P t) (fillX pl (zc P t).size (zc P t).toList ps fun cells => K (.val (.agg cells.toArray)))
    | _, _ => F
  | .nilCheck x => withV e x fun v => match v with
    | .pointer p => adr p fun a => K (.val (.pointer (some a)))
    | .func (.func f) first captured => K (.val (.func (.func f) first captured))
    | _ => F
  | .binOp op t x y _ => withV e x fun a => withV e y fun b => xbin P op t a b (fun v => K (.val v)) F
  | .unOp op _ x => withSV e x fun v => match op, v with
    | .not, .kb b => K (.kb (match b with | true => false | false => true))
    | .not, .val (.bool b) => K (.val (.bool !b))
    | .neg, .val (.int k n) => K (.val (.int k (k.wrap (0 - n))))
    | .xor, .val (.int k n) => K (.val (.int k (ibits .xor k (if k.signed then -1 else k.max) n)))
    | _, _ => F
  | .convert src dst x => withV e x fun v => match P.underlying dst, v with
    | some (.int k), .int _ n => tyIs (P.underlying src).isSome (K (.val (.int k (k.wrap n))))
    | _, _ => F
  | .makeFunc fn first captured => withVs e first.toList fun fs => withVs e captured.toList fun cs => K (.val (.func fn fs.toArray cs.toArray))
  | .slice t x lo hi mx => withV e x fun v => match P.underlying t, v with
    | some (.slice elem), .slice p len cap => tyIs (tyOk P elem) (
        optB e mx cap cap fun m => optB e hi len m fun h => optB e lo 0 h fun l =>
          match mx, hi with
          | some _, none => F
          | _, _ => K (.val (.slice (slBase p (P.cellsOf elem) l m) (h - l) (m - l))))
    | some .string, .string s =>
        match mx with
        | some _ => F
        | none => optB e hi s.size s.size fun h => optB e lo 0 h fun l => K (.val (.string (s.extract l h)))
    | some (.array n elem), .pointer q => adr q fun a => tyIs (tyOk P elem) (
        optB e mx n n fun m => optB e hi n m fun h => optB e lo 0 h fun l =>
          match mx, hi with
          | some _, none => F
          | _, _ => K (.val (.slice (some (aBase a (P.cellsOf elem) l m)) (h - l) (m - l))))
    | _, _ => F
  | .fieldAddr s x f => withV e x fun v => match v, fieldOff P s f with
    | .pointer q, some off => adr q fun a => K (.val (.pointer (some (a.add off))))
    | _, _ => F
  | .field t x f => withV e x fun v => match v, P.underlying t with
    | .agg cs, some (.struct fs) => match fs[f]? with
      | some fd => tyIs (tyOk P fd.type) ((TK.of P fd.type).pt cs fd.offset (P.cellsOf fd.type) fun v => K (.val v))
      | none => F
    | _, _ => F
  | .indexAddr t x i => withV e x fun v => withV e i fun iv => match P.underlying t, v, iv with
    | some (.slice elem), .slice q len _, .int _ n => adr q fun a => tyIs (tyOk P elem) (
        req (0 ≤ n ∧ n < (len : Int)) (K (.val (.pointer (some (a.add (scale n.toNat (P.cellsOf elem))))))))
    | some (.array len elem), .pointer q, .int _ n => adr q fun a => tyIs (tyOk P elem) (
        req (0 ≤ n ∧ n < (len : Int)) (K (.val (.pointer (some (a.add (scale n.toNat (P.cellsOf elem))))))))
    | _, _, _ => F
  | .index t x i => withV e x fun v => withV e i fun iv => match P.underlying t, v, iv with
    | some (.array len elem), .agg cs, .int _ n => tyIs (tyOk P elem) (
        req (0 ≤ n ∧ n < (len : Int)) ((TK.of P elem).pt cs (scale n.toNat (P.cellsOf elem)) (P.cellsOf elem) fun v => K (.val v)))
    | some .string, .string s, .int _ n => req (0 ≤ n ∧ n < (s.size : Int)) (K (.val (.int .u8 (strAt s n))))
    | _, _, _ => F
  | .extract x i => withSV e x fun sv => match sv with
    | .nx k x => match i with
      | 0 => K (.val (.bool true))
      | 1 => asK P o.type k fun v => K (.val v)
      | 2 => asK P o.type x fun v => K (.val v)
      | _ => F
    | .en k x => match i with
      | 0 => asK P o.type k fun v => K (.val v)
      | 1 => asK P o.type x fun v => K (.val v)
      | _ => F
    | .val (.tuple vs) => match vs[i]? with
      | some u => K (.val u)
      | none => F
    | _ => F
  | .call c => withVs e c.args.toList fun args =>
    match c.callee, args with
    | .builtin .len, [.slice _ n _] => tyIs (firstTy (sliceTy P) c.argTypes) (K (.val (.int .i64 n)))
    | .builtin .len, [.string s] => tyIs (firstTy (strTy P) c.argTypes) (K (.val (.int .i64 s.size)))
    | .builtin .max, [.int k x, .int _ y] => K (.val (.int k (if y > x then y else x)))
    | .builtin .min, [.int k x, .int _ y] => K (.val (.int k (if y < x then y else x)))
    | _, _ => F
  | _ => F

def xop (P : Program) (e : Env) (o : Oper) (K : SV → HP) : HP :=
  match o.op with
  | .alloc elem => tyIs (zok P elem) (al (zc P elem) elem fun b => K (.val (.pointer (some ⟨b, 0, none⟩))))
  | .box elem x => withV e x fun v => al v.cells elem fun b => K (.val (.pointer (some ⟨b, 0, none⟩)))
  | .buildSlice t len parts =>
    match partsOf e parts.toList, P.underlying t with
    | some ps, some (.slice elem) => tyIs (bldOk P elem len) (fillX (fun i => some (i * P.cellsOf elem, P.cellsOf elem)) (len * P.cellsOf elem) (repL (zc P elem).toList len) ps fun cells =>
        al cells.toArray elem fun b => K (.val (.slice (some ⟨b, 0, none⟩) len len)))
    | _, _ => F
  | .load t x => withV e x fun v => match v with
    | .pointer p => adr p fun a => tyIs (tyOk P t) ((TK.of P t).ld a (P.cellsOf t) fun v => K (.val v))
    | _ => F
  | .store t x y => withV e x fun v => withV e y fun u => match v with
    | .pointer p => adr p fun a => tyIs (tyOk P t) (match u with
      | .agg cs => stA a cs (P.cellsOf t) (K .un)
      | u => stV a u (P.cellsOf t) (K .un))
    | _ => F
  | .binOp op t x y _ => withV e x fun a => withV e y fun b =>
      xbin P op t a b (fun v => K (.val v)) (semP P (do eqGuard op t x y a b; binOp op t a b) fun v => asK P o.type v fun v => K (.val v))
  | .convert src dst x => withV e x fun v => match P.underlying dst, v with
    | some (.int k), .int _ n => tyIs (P.underlying src).isSome (K (.val (.int k (k.wrap n))))
    | _, _ => semP P (convert src dst v) fun v => asK P dst v fun v => K (.val v)
  | .makeMap t none => newM fun b => K (.val (.map (some b)))
  | .makeMap t (some x) => withV e x fun v => semP P (Instr.makeMap t (some v)) fun v => asK P t v fun v => K (.val v)
  | .makeSlice t l c => withV e l fun lv => withV e c fun cv => match P.underlying t, lv, cv with
    | some (.slice elem), .int _ l, .int _ c => mkSl P elem l c fun b => K (.val (.slice (some ⟨b, 0, none⟩) l.toNat c.toNat))
    | _, _, _ => F
  | .lookup t x i ok => withV e x fun v => withV e i fun iv => semP P (Instr.lookup t v iv ok) fun v => asK P o.type v fun v => K (.val v)
  | .mapUpdate t m k x => withV e m fun mv => withV e k fun kv => withV e x fun xv => semP P (Instr.mapUpdate t mv kv xv) fun _ => K .un
  | .insert t m k x => withV e m fun mv => withV e k fun kv => withV e x fun xv => semP P (Instr.mapUpdate t mv kv xv) fun _ => K .un
  | .mapEntry t m k => withV e m fun mv => withV e k fun kv => semP P (Instr.mapEntry t mv kv) fun v => asK P o.type v fun v => K (.val v)
  | .entryStore t m s x => withV e m fun mv => withV e s fun kv => withV e x fun xv => semP P (Instr.entryStore t mv kv xv) fun _ => K .un
  | .range t x => withV e x fun v => semP P (Instr.range t v) fun v => asP v fun p => K (.val (.pointer p))
  | .next it s => withV e it fun v => nextM P v s o.type (K (.val (.tuple #[.bool false]))) fun k x => K (.nx k x)
  | .entry it => withV e it fun v => entryM P v fun k x => K (.en k x)
  | .makeInterface t x => withV e x fun v => semP P (Instr.makeInterface t v) fun v => K (.val v)
  | .typeAssert x t u ok => withV e x fun v => semP P (Instr.typeAssert v t u ok) fun v => asK P o.type v fun v => K (.val v)
  | .call c => withVs e c.args.toList fun args =>
    match c.callee with
    | .value f => withV e f fun fv => xcall P fv args o.type fun v => K (.val v)
    | .builtin b => xbuiltin P b c.argTypes o.type args fun v => K (.val v)
    | .invoke r name => withV e r fun rv => nextP P (invoke (.fn (.method name) #[]) (#[rv] ++ args.toArray)) fun v => asK P o.type v fun v => K (.val v)
  | _ => xpure P e o K

/-! ## Soundness -/

theorem withV_spec {e : Env} {ρ : Operand → Value} (hρ : ∀ x v, ev e x = some v → ρ x = v.toV) {x : Operand} {f : Value → HP} {σ : Heap}
    (h : withV e x f σ) : f (ρ x) σ := by
  unfold withV at h
  cases hv : ev e x with
  | none => rw [hv] at h; exact h.elim
  | some v => rw [hv] at h; rw [hρ x v hv]; exact h

theorem withSV_spec {e : Env} {ρ : Operand → Value} (hρ : ∀ x v, ev e x = some v → ρ x = v.toV) {x : Operand} {f : SV → HP} {σ : Heap}
    (h : withSV e x f σ) : ∃ v, ρ x = v.toV ∧ f v σ := by
  unfold withSV at h
  cases hv : ev e x with
  | none => rw [hv] at h; exact h.elim
  | some v => rw [hv] at h; exact ⟨v, hρ x v hv, h⟩

theorem evs_spec {e : Env} {ρ : Operand → Value} (hρ : ∀ x v, ev e x = some v → ρ x = v.toV) : ∀ (l : List Operand) (vs : List Value),
    evs e l = some vs → l.map ρ = vs
  | [], vs, h => by simpa [evs] using h
  | x :: r, vs, h => by
    simp only [evs] at h
    split at h
    · rename_i v hv
      split at h
      · rename_i us hu
        cases h
        simp [hρ x v hv, evs_spec hρ r us hu]
      · cases h
    · cases h

theorem withVs_spec {e : Env} {ρ : Operand → Value} (hρ : ∀ x v, ev e x = some v → ρ x = v.toV) {l : List Operand} {f : List Value → HP} {σ : Heap}
    (h : withVs e l f σ) : f (l.map ρ) σ := by
  unfold withVs at h
  cases hv : evs e l with
  | none => rw [hv] at h; exact h.elim
  | some vs => rw [hv] at h; rw [evs_spec hρ l vs hv]; exact h

theorem partsOf_spec {e : Env} {ρ : Operand → Value} (hρ : ∀ x v, ev e x = some v → ρ x = v.toV) : ∀ (l : List (Nat × Operand)) (vs : List (Nat × Value)),
    partsOf e l = some vs → l.map (fun p => (p.1, ρ p.2)) = vs
  | [], vs, h => by simpa [partsOf] using h
  | (i, x) :: r, vs, h => by
    simp only [partsOf] at h
    split at h
    · rename_i v hv
      split at h
      · rename_i us hu
        cases h
        simp [hρ x v hv, partsOf_spec hρ r us hu]
      · cases h
    · cases h

theorem tyIs_spec {b : Bool} {p : HP} {σ : Heap} (h : tyIs b p σ) : b = true ∧ p σ := by
  cases b
  · exact h.elim
  · exact ⟨rfl, h⟩

theorem adr_spec {p : Option Addr} {f : Addr → HP} {σ : Heap} (h : adr p f σ) : ∃ a, p = some a ∧ f a σ := by
  cases p
  · exact h.elim
  · exact ⟨_, rfl, h⟩

theorem xif_spec {b : Bool} {p q : HP} {σ : Heap} (h : xif b p q σ) : (if b then p else q) σ := by
  cases b
  · exact h.2 rfl
  · exact h.1 rfl

section
variable {P : Program}

/-- A value's computation in an operation's place. -/
theorem nextP_val {s : Sem Value} {K : Value → HP} {σ : Heap} (h : semP P s K σ) : nextP P (do let v ← s; pure (.value v)) K σ := by
  intro w hw
  obtain ⟨v, w', h1, h2, h3⟩ := h w hw
  exact ⟨.value v, w', by simp [h1], h2, .inl ⟨v, rfl, h3⟩⟩

theorem nextP_pure {v : Value} {K : Value → HP} {σ : Heap} (h : K v σ) : nextP P (pure (.value v)) K σ :=
  fun w hw => ⟨_, w, rfl, .refl w, .inl ⟨v, rfl, hw ▸ h⟩⟩

theorem nextP_skip {s : Sem Unit} {K : Value → HP} {σ : Heap} (h : semP P s (fun _ => K undef) σ) : nextP P (do s; pure .skip) K σ := by
  intro w hw
  obtain ⟨v, w', h1, h2, h3⟩ := h w hw
  exact ⟨.skip, w', by simp [h1], h2, .inr (.inl ⟨rfl, h3⟩)⟩

theorem nextP_mono {s : Sem Next} {K K' : Value → HP} {σ : Heap} (hk : ∀ v σ, K v σ → K' v σ) (h : nextP P s K σ) : nextP P s K' σ := by
  intro w hw
  obtain ⟨r, w', h1, h2, h3⟩ := h w hw
  refine ⟨r, w', h1, h2, ?_⟩
  rcases h3 with ⟨v, e, k⟩ | ⟨e, k⟩ | ⟨f, args, e, k⟩
  · exact .inl ⟨v, e, hk _ _ k⟩
  · exact .inr (.inl ⟨e, hk _ _ k⟩)
  · exact .inr (.inr ⟨f, args, e, callP_mono hk k⟩)

theorem nextP_bind {α : Type} {s : Sem α} {f : α → Sem Next} {K : Value → HP} {σ : Heap} (h : semP P s (fun v => nextP P (f v) K) σ) : nextP P (s >>= f) K σ := by
  intro w hw
  obtain ⟨v, w1, h1, o1, k1⟩ := h w hw
  obtain ⟨u, w2, h2, o2, k2⟩ := k1 w1 rfl
  exact ⟨u, w2, by rw [Sem.run_bind, h1, Result.andThen_ok, h2], o1.trans o2, k2⟩

theorem semP_underlying {t : TypeId} {d : TypeDesc} {K : TypeDesc → HP} {σ : Heap} (h : P.underlying t = some d) (k : K d σ) : semP P (underlying t) K σ :=
  semP_run d (fun w _ => by simp [underlying, h]) k

theorem semP_typeInfo {t : TypeId} {i : TypeInfo} {K : TypeInfo → HP} {σ : Heap} (h : P.info? t = some i) (k : K i σ) : semP P (typeInfo t) K σ :=
  semP_run i (fun w _ => by simp [typeInfo, h]) k

theorem semP_sizeOf {t : TypeId} {K : Nat → HP} {σ : Heap} (h : (P.info? t).isSome = true) (k : K (P.cellsOf t) σ) : semP P (sizeOf t) K σ := by
  obtain ⟨i, hi⟩ := Option.isSome_iff_exists.1 h
  refine semP_run _ (fun w _ => ?_) k
  simp [sizeOf, typeInfo, hi, Program.cellsOf]

theorem run_isAgg {t : TypeId} {d : TypeDesc} (h : P.underlying t = some d) (w : World) :
    (isAgg t).run P w = .ok (match d with | .struct _ | .array _ _ => true | _ => false) w := by
  simp only [isAgg, Sem.run_bind, underlying, run_program, Result.andThen_ok, h, Sem.run_pure]
  cases d <;> rfl

theorem TK.of_agg {t : TypeId} {d : TypeDesc} (h : P.underlying t = some d) :
    (match d with | .struct _ | .array _ _ => true | _ => false) = (TK.of P t).isAgg := by
  simp only [TK.of, h]
  cases d <;> rfl

theorem semP_isAgg {t : TypeId} {K : Bool → HP} {σ : Heap} (h : (P.underlying t).isSome = true) (k : K (TK.of P t).isAgg σ) : semP P (isAgg t) K σ := by
  obtain ⟨d, hd⟩ := Option.isSome_iff_exists.1 h
  refine semP_run _ (fun w _ => ?_) k
  rw [run_isAgg hd, TK.of_agg hd]

theorem semP_load {a : Addr} {K : Value → HP} {σ : Heap} (h : ∃ v, hcell σ a = some v ∧ K v σ) : semP P (load a) K σ := by
  obtain ⟨v, hv, hk⟩ := h
  refine semP_run v (fun w hw => ?_) hk
  rw [run_load, cell_eq, hw, hv]

theorem semP_store {a : Addr} {v : Value} {k : HP} {σ : Heap} (h : st a v k σ) : semP P (store a v) (fun _ => k) σ := by
  obtain ⟨⟨u, hu⟩, hf, ho, hk⟩ := h
  intro w hw
  refine ⟨(), w.setCell a v, ?_, ⟨rfl, rfl, rfl⟩, ?_⟩
  · rw [run_store _ _ _ _ _ ho, cell_eq, hw, hu]
    simp only [frozen_eq, hw, hf]
    rfl
  · rw [setCell_eq, hw]; exact hk

theorem semP_storeCells {a : Addr} : ∀ (vs : List Value) (i : Nat) {k : HP} {σ : Heap}, stL a i vs k σ → semP P (storeCells a vs i) (fun _ => k) σ
  | [], i, k, σ, h => by simp only [storeCells]; exact semP_pure h
  | v :: r, i, k, σ, h => by
    simp only [storeCells]
    simp only [stL] at h
    exact semP_bind (semP_mono (fun _ σ h => semP_storeCells r (i + 1) h) (semP_store h))

theorem semP_loadCells {a : Addr} {n : Nat} {K : Array Value → HP} {σ : Heap} (h : ldA a n K σ) : semP P (loadCells a n) K σ := by
  obtain ⟨cs, hn, hc, hk⟩ := h
  refine semP_run cs (fun w hw => ?_) hk
  have := run_loadCells_list (P := P) w a cs.toList (fun j v hj => by
    have hlt : j < n := by
      have := List.getElem?_eq_some_iff.1 hj
      obtain ⟨h1, _⟩ := this
      simpa [hn] using h1
    rw [cell_eq, hw, hc j hlt]
    simpa using hj)
  simpa [hn] using this

theorem underlying_of_info {t : TypeId} (h : (TK.of P t).isAgg = true) : (P.underlying t).isSome = true := by
  unfold TK.of at h
  cases hu : P.underlying t with
  | none => simp [hu, TK.isAgg] at h
  | some d => rfl

theorem tyOk_spec {t : TypeId} (h : tyOk P t = true) : (P.info? t).isSome = true ∧ (P.underlying t).isSome = true := by
  simpa [tyOk] using h

theorem semP_loadVar {t : TypeId} {a : Addr} {K : Value → HP} {σ : Heap} (ht : tyOk P t = true)
    (h : (TK.of P t).ld a (P.cellsOf t) K σ) : semP P (loadVar t a) K σ := by
  obtain ⟨hi, hu⟩ := tyOk_spec ht
  unfold loadVar
  refine semP_bind (semP_isAgg hu ?_)
  cases hk : (TK.of P t).isAgg with
  | true =>
    have he : TK.of P t = .agg := by
      revert hk
      generalize TK.of P t = k
      cases k <;> simp [TK.isAgg]
    rw [he] at h
    simp only [TK.ld] at h
    simp only [if_true]
    refine semP_bind (semP_sizeOf hi ?_)
    refine semP_bind (semP_mono (fun v σ h => semP_pure h) (semP_loadCells h))
  | false =>
    have he : TK.of P t ≠ .agg := by
      intro he; rw [he] at hk; cases hk
    simp only [Bool.false_eq_true, if_false]
    exact semP_load (TK.ld_cell _ he h)

end

end Go.XS
