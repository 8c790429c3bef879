/- Lemmas that lead to TopWhole (their names made short by a program); no condition. -/
import Derived.Test.YtlmgompopkamfaaGreatDoorLA
import Derived.Orders
import Derived.RangeFuncRecord
set_option linter.all false
namespace Go.XS
section
def j'(P:Program):Prop:=∀(f:Nat) (fn:Func),P.funcs[f]?=some fn->(fn.name== "runtime.NumGoroutine")=false
section
variable {P:Program}
def uW{s:Sem Value}{t:TypeId}{K:SV->HP}{σ:Heap}(h:aI P s (λv=>fw P t v λv=>K (.val v)) σ):eF P (do let v<-s;pure (.value v)) (lift K) σ:=ku (gU (λv σ h=>gv (nB h)) h)
def xD{s:Sem Unit}{K:SV->HP}{σ:Heap}(h:aI P s (λ_=>K .un) σ):eF P (do s;pure .skip) (lift K) σ:=Wf (gU (λ_ σ h=>⟨.un,rfl,h⟩) h)
def YL{t:TypeId}{a:Addr}{v:Value}{k:HP}{σ:Heap}(b:jD P t=true)(hs:v.cells.size=P.cellsOf t)(h:hF a 0 v.cells.toList k σ):aI P (storeVar t a v) (λ_=>k) σ:=by
 obtain⟨hi,hu⟩:=po b;unfold storeVar;refine aY (o8 hi ?_);have c:(decide (v.cells.size≠P.cellsOf t))=false:=by simp[hs]
 rw[ak (by simpa using hs)];exact qu _ 0 h
def V8{t elem:TypeId}{g kc:IntKind}{l c:Int}{f:Nat->HP}{σ:Heap}(hu:P.underlying t=some (.slice elem))(h:c7 P elem l c f σ):aI P (Instr.makeSlice t (.int g l) (.int kc c)) (λv eI=>∃b,v= .slice (some ⟨b,0,none⟩) l.toNat c.toNat/\f b eI) σ:=by
 obtain⟨h0,U,o,j,d,a,I⟩:=h;obtain⟨i,hi⟩:=hY.1 d;have p:=a;unfold hI at a;rw[hi]at a;obtain⟨z,hz⟩:=hY.1 a;have k:zc P elem=z.cells:=by simp[zc,hi,hz]
 have m:P.bytesOf elem=i.bytes:=by simp[Program.bytesOf,hi]
 have n:P.cellsOf elem=i.size:=by simp[Program.cellsOf,hi]
 have hl:IntKind.i64.wrap l=l:=IntWalk.i64_in _ (by omega);have hc:IntKind.i64.wrap c=c:=IntWalk.i64_in _ (by omega);rw[m]at j
 have t1:(decide (c<0)||decide ((i.bytes:Int)*c>2^48))=false:=by simp only[tC,fN];omega
 intro w hw;refine⟨_,{w with heap:=w.heap.push (.cells (gx (zc P elem) (c.toNat*P.cellsOf elem)) elem)},?_,⟨rfl,rfl,rfl⟩,⟨σ.size,rfl,?_⟩⟩
 ·unfold Instr.makeSlice
  simp only[Sem.run_bind,hV hu,Result.andThen_ok,asInt,asIntOf,Sem.run_pure,typeInfo,run_program,hi,hl,hc,t1,Bool.false_or]
  have t2:(decide (l<0)||decide (l>c))=false:=by simp only[tC,fN];omega
  rw[show((decide (l<0))||decide (l>c))=false from t2];simp only[fM,ej,Sem.run_bind,run_askRoom,Result.andThen_ok,nZ d,n];by_cases e:c.toNat*i.size=0
  ·simp only[e,dT,Sem.run_pure,Result.andThen_ok,newRow,Sem.run_bind,run_newObj]
   rw[show gx (zc P elem) 0=#[]from by simp[gx],hw];simp[Array.range]
  ·simp only[e,ej,Sem.run_bind,zeroValue,typeInfo,run_program,Result.andThen_ok,hi,hz,Sem.run_pure,newRow,run_newObj]
   rw[k,hw];rfl
 ·show f σ.size (w.heap.push _)
  rw[hw];exact I
def Km{elem:TypeId}{K:SV->HP}{σ:Heap}(hz:hI P elem=true)(h:al (zc P elem) elem (λb=>K (.val (.pointer (some ⟨b,0,none⟩)))) σ):aI P (Instr.alloc elem true (.tuple #[])) (lift K) σ:=by unfold Instr.alloc;refine aY (qv hz λz a=>?_);refine aY (Hr ?_);rw[a];exact cu (gv h)
def KK{f:FuncId}(h:gb P f=true):∃fn,P.funcs[f]?=some fn/\fn.body.isSome=true:=by
 unfold gb at h
 cases hf:P.funcs[f]? with
 |none=>rw[hf]at h;cases h
 |some fn=>rw[hf]at h;exact⟨fn,rfl,h⟩
def zI(a:j' P){f:FuncId}(args:ax)(h:gb P f=true)(w:World):(callFunc f args).run P w= .ok (.enter f args) w:=by
 obtain⟨fn,hf,b⟩:=KK h;unfold callFunc;simp only[Sem.run_bind,run_program,Result.andThen_ok,hf,a f fn hf,fM,ej];have:fn.body.isNone=false:=by cases c:fn.body<;>simp_all
 simp[this]
def aa4(c:j' P){f:Value}{args:aB}{t:TypeId}{K:SV->HP}{σ:Heap}(h:Cm P f args t (λv=>K (.val v)) σ):eF P (do let d<-Deferred.ofValue f args.toArray;invoke d.target d.args) (lift K) σ:=by
 have gen:eF P (do let d<-Deferred.ofValue f args.toArray;invoke d.target d.args) (λv=>fw P t v λv=>K (.val v)) σ->
   eF P (do let d<-Deferred.ofValue f args.toArray;invoke d.target d.args) (lift K) σ:=
  Gj λv σ h=>gv (nB h)
 cases f
 case func fn first captured=>
  cases fn
  case func b=>
   simp only[Cm,lx]at h;have ha:(first.toList++args++captured.toList).toArray=first++args.toArray++captured:=by apply g';simp
   rw[ha]at h;unfold kj at h
   cases a:gb P b with
   |true=>
    rw[a]at h;intro w hw;refine⟨.enter b (first++args.toArray++captured),w,?_,.refl w,.inr (.inr (.inl ⟨_,_,rfl,?_⟩))⟩
    ·simp only[Deferred.ofValue,Sem.run_bind,Sem.run_pure,Result.andThen_ok,invoke]
     exact zI c _ a w
    ·rw[hw];exact D2 (λv σ h=>gv (nB h)) h
   |false=>rw[a]at h;refine gen λw hw=>?_;obtain⟨r,w',U,e⟩:=h w hw;refine⟨r,w',?_,e⟩;simpa[Deferred.ofValue,invoke]using U
  all_goals exact gen h
 all_goals exact gen h
def aa3{b:Builtin}{f:Array TypeId}{t:TypeId}{consts:Array Bool}{args:aB}{K:SV->HP}{σ:Heap}(h:Ir P b f t args (λv=>K (.val v)) σ):eF P (builtin b f t consts args.toArray) (lift K) σ:=by
 have gen:∀{s:Sem Value},aI P s (λv=>fw P t v λv=>K (.val v)) σ->eF P (do let v<-s;pure (.value v)) (lift K) σ:=λh=>uW h;cases b
 case len=>
  match args,h with
  |[.slice q n c],h=>obtain⟨e,h⟩:=e4 h;obtain⟨t0,g,e⟩:=w4 e;obtain⟨o,he⟩:=rP e;exact tl (λw=>by simp[builtin,Builtin.len_,g,hV he,goInt]) (gv h)
  |[.string s],h=>obtain⟨e,h⟩:=e4 h;obtain⟨t0,g,e⟩:=w4 e;have he:=HM e;exact tl (λw=>by simp[builtin,Builtin.len_,g,hV he,goInt]) (gv h)
  |[],h=>exact gen h
  |[.bool _],h|[.int _ _],h|[.float _ _],h|[.complex _ _ _],h|[.pointer _],h|[.map _],h|[.chan _],h|[.func _ _ _],h
  |[.nilFunc],h|[.iface _ _],h|[.nilIface],h|[.agg _],h|[.tuple _],h=>exact gen h
  |_::_::_,h=>rename_i a b r;cases a<;>exact gen h
 case cap=>
  match args,h with
  |[.slice q n c],h=>exact gen h
  |[],h=>exact h.elim
  |[.bool _],h|[.int _ _],h|[.float _ _],h|[.complex _ _ _],h|[.pointer _],h|[.map _],h|[.chan _],h|[.func _ _ _],h
  |[.nilFunc],h|[.iface _ _],h|[.nilIface],h|[.agg _],h|[.tuple _],h|[.string _],h=>exact h.elim
  |_::_::_,h=>rename_i a b r;cases a<;>exact h.elim
 case max=>
  match args,h with
  |[],h=>exact gen h
  |[a],h=>cases a<;>exact gen h
  |[a,b],h=>
   cases a<;>cases b<;>first|exact gen h|skip
   rename_i k x k' y;exact tl (λw=>by simp[builtin,F5]) (gv h)
  |a::b::c::r,h=>cases a<;>cases b<;>exact gen h
 case min=>
  match args,h with
  |[],h=>exact gen h
  |[a],h=>cases a<;>exact gen h
  |[a,b],h=>
   cases a<;>cases b<;>first|exact gen h|skip
   rename_i k x k' y;exact tl (λw=>by simp[builtin,Gc]) (gv h)
  |a::b::c::r,h=>cases a<;>cases b<;>exact gen h
 case append=>
  match args,h with
  |[.slice p l c,.slice q m d],h=>refine ku (gU (λv σ h=>?_) (show aI P (Builtin.append_ f t #[.slice p l c,.slice q m d]) _ σ from h));obtain⟨i,j,c',rfl,h⟩:=h;exact gv h
  |[],h=>exact gen h
  |[a],h=>cases a<;>exact gen h
  |a::b::c::r,h=>cases a<;>cases b<;>exact gen h
  |[a,b],h=>
   cases a
   case slice=>
    cases b
    case slice=>refine ku (gU (λv σ h=>?_) (show aI P (Builtin.append_ f t #[_,_]) _ σ from h));obtain⟨i,j,c',rfl,h⟩:=h;exact gv h
    all_goals exact gen h
   all_goals exact gen h
 case copy=>exact gen h
 case clear=>exact gen h
 case delete=>exact gen h
 all_goals exact h.elim
def aa8{e:Env}{ρ:Operand->Value}{o:Oper}{K:SV->HP}{σ:Heap}(a:∀x v,ev e x=some v->ρ x=v.cd)(h:vH P e o K σ):eF P (execOp ρ o) (lift K) σ:=by obtain⟨b,c,I⟩:=It a h;exact tl c ⟨b,rfl,I⟩
def Is(C:j' P){e:Env}{ρ:Operand->Value}{o:Oper}{K:SV->HP}{σ:Heap}(g:∀x v,ev e x=some v->ρ x=v.cd)(h:n' P e o K σ):eF P (execOp ρ o) (lift K) σ:=by
 obtain⟨dst,op,ty,pos,after,guard⟩:=o;cases op<;>simp only[n']at h<;>first|exact aa8 g h|skip
 case alloc elem=>obtain⟨hz,h⟩:=e4 h;exact ku (Km hz h)
 case box elem x=>have h:=dI g h;apply ku;unfold Instr.box;refine aY (Hr ?_);exact cu (gv h)
 case buildSlice t len parts=>
  cases q:partsOf e parts.toList with
  |none=>rw[q]at h;exact h.elim
  |some ps=>
   cases hu:P.underlying t with
   |none=>rw[q,hu]at h;exact h.elim
   |some d=>
    rw[q,hu]at h;cases d<;>(try simp only at h)<;>first|exact h.elim|skip
    obtain⟨aP,h⟩:=e4 h;have D:=Be g _ _ q
    have he:parts.map (λ(i,x)=>(i,ρ x))=ps.toArray:=by rw[<-D];apply g';simp
    simp only[execOp];rw[he];refine ku (gU ?_ (KX hu aP h));rintro v σ ⟨b,rfl,I⟩;exact gv I
 case load t x=>
  have h:=dI g h;cases j:ρ x<;>rw[j]at h<;>(try simp only at h)<;>first|exact h.elim|skip
  obtain⟨a,rfl,h⟩:=oL h;obtain⟨A,h⟩:=e4 h;simp only[execOp];apply ku;unfold Instr.loadAt;refine aY (dK a (λw _=>by simp[Instr.sureAddr,j]) ?_);exact gU (λv σ h=>gv h) (YI A h)
 case store t x y=>
  have h:=dI g (dI g h);cases j:ρ x<;>rw[j]at h<;>(try simp only at h)<;>first|exact h.elim|skip
  obtain⟨a,rfl,h⟩:=oL h;obtain⟨A,h⟩:=e4 h
  have z:(ρ y).cells.size=P.cellsOf t/\hF a 0 (ρ y).cells.toList (K .un) σ:=by
   have E:∀u:Value,u.cells=#[u]->BT a u (P.cellsOf t) (K .un) σ->u.cells.size=P.cellsOf t/\hF a 0 u.cells.toList (K .un) σ:=by
    intro u hu h;unfold BT at h
    cases B:Nat.beq (P.cellsOf t) 1 with
    |false=>rw[B]at h;exact h.elim
    |true=>rw[B]at h;rw[hu,lE B];exact⟨rfl,h⟩
   cases F:ρ y<;>rw[F]at h
   case agg cs=>exact⟨h.1,h.2⟩
   all_goals exact E _ rfl h
  simp only[execOp];apply xD;unfold Instr.storeAt;refine aY (dK a (λw _=>by simp[Instr.sureAddr,j]) ?_);exact YL A z.1 z.2
 case binOp op t x y G=>
  have h:=dI g (dI g h);simp only[execOp];apply ku
  have z:aI P (do eqGuard op t x y (ρ x) (ρ y);binOp op t (ρ x) (ρ y)) (λv=>fw P ty v λv=>K (.val v)) σ\/
    qC P op t (ρ x) (ρ y) (λv=>K (.val v)) (aI P (do eqGuard op t x y (ρ x) (ρ y);binOp op t (ρ x) (ρ y)) λv=>fw P ty v λv=>K (.val v)) σ:=by
   revert h;cases TK.of P t<;>intro h<;>first|exact .inr h|exact .inl h
  rcases z with h|h
  ·exact gU (λv σ h=>gv (nB h)) h
  rcases aa2 h with h|h
  ·obtain⟨v,hr,I⟩:=Iq h
   exact dK v (λw _=>hr w) (gv I)
  ·exact gU (λv σ h=>gv (nB h)) h
 case convert src dst x=>
  have h:=dI g h;simp only[execOp];have gen:aI P (convert src dst (ρ x)) (λv=>fw P dst v λv=>K (.val v)) σ->eF P (do let v<-convert src dst (ρ x);pure (.value v)) (lift K) σ:=λh=>uW h
  cases hd:P.underlying dst with
  |none=>rw[hd]at h;exact gen h
  |some d=>
   rw[hd]at h;cases d
   case int k=>
    cases j:ρ x
    case int k' n=>rw[j]at h;obtain⟨hs,h⟩:=e4 h;obtain⟨s,hs⟩:=hY.1 hs;refine tl (λw=>?_) (gv h);unfold convert;simp only[Sem.run_bind,hV hs,hV hd,Result.andThen_ok];rfl
    all_goals (rw[j]at h gen;exact gen h)
   all_goals exact gen h
 case makeMap t r=>
  cases r with
  |none=>simp only[execOp,y8,Instr.makeMap];intro w hw;refine⟨.value (.map (some w.heap.size)),{w with heap:=w.heap.push (.map #[] 0)},by simp,⟨rfl,rfl,rfl⟩,.inl ⟨_,rfl,?_⟩⟩;have h:K (.val (.map (some σ.size))) (σ.push (.map #[] 0)):=h;subst hw;exact gv h
  |some x=>have h:=dI g h;exact uW h
 case makeSlice t l c=>
  have h:=dI g (dI g h)
  cases hu:P.underlying t with
  |none=>rw[hu]at h;exact h.elim
  |some d=>
   rw[hu]at h;cases d<;>(try simp only at h)<;>first|exact h.elim|skip
   cases hl:ρ l<;>rw[hl]at h<;>(try simp only at h)<;>first|exact h.elim|skip
   cases hc:ρ c<;>rw[hc]at h<;>(try simp only at h)<;>first|exact h.elim|skip
   simp only[execOp,hl,hc];refine ku (gU ?_ (V8 hu h));rintro v σ ⟨b,rfl,I⟩;exact gv I
 case lookup t x i ok=>have h:=dI g (dI g h);exact uW h
 case mapUpdate t m k x=>have h:=dI g (dI g (dI g h));exact xD h
 case insert t m k x=>have h:=dI g (dI g (dI g h));exact xD h
 case mapEntry t m k=>have h:=dI g (dI g h);exact ku (gU (λv σ ⟨x,n,e,h⟩=>by subst e;exact gv h) h)
 case entryStore t m s x=>have h:=dI g (dI g (dI g h));exact xD h
 case range t x=>have h:=dI g h;exact ku (gU (λv σ ⟨p,e,h⟩=>by subst e;exact gv h) h)
 case next it s=>
  have h:=dI g h;refine ku (gU (λv σ h=>?_) h);rcases h with⟨rfl,h⟩|⟨k,x,rfl,h⟩
  ·exact gv h
  ·exact⟨.nx k x,rfl,h⟩
 case entry it=>have h:=dI g h;refine ku (gU (λv σ h=>?_) h);obtain⟨k,x,rfl,h⟩:=h;exact⟨.en k x,rfl,h⟩
 case makeInterface t x=>
  have h:=dI g h;obtain⟨hc,h⟩:=e4 h;refine ku (dK (.iface t (ρ x)) (λw _=>?_) (gv h));unfold Er at hc
  cases hu:P.underlying t with
  |none=>rw[hu]at hc;cases hc
  |some d=>rw[hu]at hc;unfold Instr.makeInterface;simp only[Sem.run_bind,hV hu,Result.andThen_ok];cases d<;>first|rfl|cases hc
 case typeAssert x t u ok=>have h:=dI g h;exact uW h
 case call c=>
  have h:=yy g h;obtain⟨callee,args,argTypes⟩:=c;simp only at h;have key:args.map ρ=(args.toList.map ρ).toArray:=by apply g';simp
  cases callee with
  |value f=>have h:=dI g h;have:=aa4 C h;simp only[execOp,resolve];rw[key];exact this
  |builtin b=>simp only[execOp,resolve,pure_bind,invoke];rw[key];exact aa3 h
  |invoke r n=>have h:=dI g h;simp only[execOp,resolve,pure_bind];rw[key];exact Gj (λv σ h=>gv (nB h)) h
end
end
section
section
variable {P:Program}{ops:Array Oper}{md:Region.Mode}
def FW:Option Nat->Fence
 |none=> .wide
 |some l=>Fence.wide.inRound l
def wb(ro:Option Nat)(f:FuncId):(FW ro).fn f:=by cases ro<;>trivial
def C7(ro:Option Nat):(FW ro).depth=none:=by cases ro<;>rfl
def I0(ro:Option Nat):(FW ro).round=ro:=by cases ro<;>rfl
def C6{ro:Option Nat}{n:Nat}{f:FuncId}{args:ax}{w:World}{R:Ending->World->Prop}(h:Calls P f args w R):CallsIn (FW ro) n P f args w R:=by
 have h:=(callsIn_wide (n:=n)).2 h
 cases ro with
 |none=>exact h
 |some l=>exact h
def I1{ro:Option Nat}{n:Nat}{l:Nat}{f:FuncId}{ts:ax}{a body:Code}{w:World}{R:Ending->World->Prop}(h:RoundIn Fence.wide 0 P l f ts a body w R):RoundIn (FW ro) n P l f ts a body w R:=by
 have h:RoundIn Fence.wide n P l f ts a body w R:=⟨trivial,λc cs _=>h.2 c cs (room_wide _)⟩
 cases ro with
 |none=>exact h
 |some k=>exact h
def vC(P:Program)(o:Oper)(a:Act)(next:Act->World->Prop):Result Next->Prop
 | .ok (.value v) w'=>next (a.put o.dst v) w'
 | .ok .skip w'=>next (a.put o.dst undef) w'
 | .ok (.enter f args) w'=>Calls P f args w' λe pr=>∃v,e= .returned v/\next (a.put o.dst v) pr
 | .ok (.round l f ts b body) w'=>RoundIn Fence.wide 0 P l f ts b body w' λe pr=>∃v,e= .returned v/\next (a.put o.dst v) pr
 |_=>False
def tz(P:Program)(o:Oper)(a:Act)(w:World)(next:Act->World->Prop):Prop:=(∀c,o.op≠ .defer c)/\vC P o a next ((execOp a.eval o).run P w)
def lu(P:Program)(ops:Array Oper)(i:Nat)(K:Act->World->Prop)(a:Act)(w:World):Prop:=
 match ops[i]? with
 |none=>K a w
 |some o=>if Region.wanted o (yielded ops a.tmps)then tz P o a w K else K (a.put o.dst undef) w
def Io{ro:Option Nat}{o:Oper}{a:Act}{w:World}{K b:Act->World->Prop}{Q:Exit->Act->World->Prop}(I:∀a w,K a w->b a w)(h:tz P o a w K):o.wpIn (FW ro) 0 P a w b Q:=by
 obtain⟨hd,h⟩:=h;refine⟨λf _=>wb ro f,?_⟩;rw[I0,Oper.semAt_eq _ _ _ hd];generalize(execOp a.eval o).run P w=r at*
 cases r with
 |ok n w'=>
  cases n<;>simp only[vC]at h<;>first|exact h.elim|skip
  case value v=>exact I _ _ h
  case skip=>exact I _ _ h
  case enter f args=>rw[Oper.uponIn_enter];refine⟨λh=>(by rw[C7]at h;cases h),CallsIn.mono (C6 h) ?_⟩;rintro e w2 ⟨v,rfl,h⟩;exact I _ _ h
  case round l f ts c body=>rw[Oper.uponIn_round];refine⟨λh=>(by rw[C7]at h;cases h),RoundIn.mono (I1 h) ?_⟩;rintro e w2 ⟨v,rfl,h⟩;exact I _ _ h
 |halt x w'=>cases x<;>exact h.elim
def aaX{o:Oper}{a:Act}{w:World}{K c:Act->World->Prop}(I:∀a w,K a w->c a w)(h:tz P o a w K):tz P o a w c:=by
 obtain⟨hd,h⟩:=h;refine⟨hd,?_⟩;generalize(execOp a.eval o).run P w=r at*
 cases r with
 |ok n w'=>
  cases n<;>simp only[vC]at h⊢<;>first|exact h.elim|skip
  case value v=>exact I _ _ h
  case skip=>exact I _ _ h
  case enter f args=>exact Calls.mono h λe w2 ⟨v,b,h⟩=>⟨v,b,I _ _ h⟩
  case round l f ts d body=>exact RoundIn.mono h λe w2 ⟨v,b,h⟩=>⟨v,b,I _ _ h⟩
 |halt x w'=>cases x<;>exact h.elim
def Il{i:Nat}{a:Act}{w:World}{K b:Act->World->Prop}(I:∀a w,K a w->b a w)(h:lu P ops i K a w):lu P ops i b a w:=by
 unfold lu at*;split
 ·exact I _ _ (by simpa[*]using h)
 ·rename_i o c
  simp only[c]at h;split
  ·rename_i hw;simp only[hw,dT]at h;exact aaX I h
  ·rename_i hw;simp only[hw]at h;exact I _ _ h
def aaV{ro:Option Nat}{i:Nat}{a:Act}{w:World}{K b:Act->World->Prop}{Q:Exit->Act->World->Prop}(I:∀a w,K a w->b a w)(h:lu P ops i K a w):wpOpIn (FW ro) 0 P ops Q i b a w:=by
 unfold lu at h;unfold wpOpIn;split
 ·exact I _ _ (by simpa[*]using h)
 ·rename_i o c
  simp only[c]at h;split
  ·rename_i hw;simp only[hw,dT]at h;exact Io I h
  ·rename_i hw;simp only[hw]at h;exact⟨λf _=>wb ro f,I _ _ h⟩
abbrev pH:=List (Nat×(Heap->Prop))
def rU(P:Program)(md:Region.Mode)(ops:Array Oper)(N:Act->World->Prop)(dep:Nat->Nat->Bool)(H:pH):Nat->Array Bool->Act->World->Prop
 |0,listed,a,w=>Region.ready md ops listed=[]/\N a w
 |fuel+1,listed,a,w=>
  (Region.ready md ops listed=[]->N a w)/\
  ∀i∈Region.ready md ops listed,lu P ops i (λa' w'=>(∀p∈H,dep i p.1=false->p.2 w.heap->p.2 w'.heap)/\rU P md ops N dep H fuel (listed.setIfInBounds i true) a' w') a w
def Ck{N:Act->World->Prop}{dep:Nat->Nat->Bool}{H H':pH}(b:∀p∈H',p∈H):∀(fuel:Nat) (listed:Array Bool) (a:Act) (w:World),rU P md ops N dep H fuel listed a w->rU P md ops N dep H' fuel listed a w
 |0,_,_,_,h=>h
 |fuel+1,listed,a,w,h=>⟨h.1,λi hi=>Il (λa' w' c=>⟨λp d=>c.1 p (b p d),Ck b fuel _ _ _ c.2⟩) (h.2 i hi)⟩
def Ik{ro:Option Nat}{N:Act->World->Prop}{Q:Exit->Act->World->Prop}(b:∀a w,N a w->Q .normal a w){dep:Nat->Nat->Bool}{H:pH}:∀(fuel:Nat) (listed:Array Bool) (a:Act) (w:World),rU P md ops N dep H fuel listed a w->wpAnyIn (FW ro) 0 P md ops Q fuel listed a w
 |0,_,_,_,h=>⟨h.1,b _ _ h.2⟩
 |fuel+1,listed,a,w,h=>⟨λhr=>b _ _ (h.1 hr),λi hi=>aaV (λa' w' c=>Ik b fuel _ _ _ c.2) (h.2 i hi)⟩
def mD(P:Program)(ops:Array Oper)(c9:Heap->Prop)(o:Oper)(v:Value)(a:Act):Prop:=
 (Region.wanted o (yielded ops a.tmps)=true/\∀w:World,c9 w.heap->(execOp a.eval o).run P w= .ok (.value v) w)\/
 (Region.wanted o (yielded ops a.tmps)=false/\v=undef)
def mD.wpOp{i:Nat}{o:Oper}{v:Value}{a:Act}{c9:Heap->Prop}(hi:ops[i]?=some o)(hd:∀c,o.op≠ .defer c)(b:mD P ops c9 o v a){K:Act->World->Prop}{w:World}(d:c9 w.heap)(h:K (a.put o.dst v) w):lu P ops i K a w:=by
 unfold lu;simp only[hi];rcases b with⟨hw,e⟩|⟨hw,rfl⟩
 ·simp only[hw,dT,tz,e w d,vC];exact⟨hd,h⟩
 ·simp only[hw,fM,ej];exact h
def mD.of_same{o:Oper}{v:Value}{a a':Act}{c9:Heap->Prop}(b:mD P ops c9 o v a)(he:execOp a'.eval o=execOp a.eval o)(hw:Region.wanted o (yielded ops a'.tmps)=Region.wanted o (yielded ops a.tmps)):mD P ops c9 o v a':=by unfold mD at*;rw[he,hw];exact b
def aaW{j:Nat}{c d:Oper}{v:Value}{c9:Heap->Prop}(o:ops[j]?=some d)(p:c.apart ops d=true)(q:∀cs b,c.op≠ .select cs b)(s:∀cs b,d.op≠ .select cs b){K:Act->World->Prop}{a:Act}{w:World}(g:mD P ops c9 c v a)(h:lu P ops j K (a.put c.dst v) w):lu P ops j (λa' w'=>mD P ops c9 c v a'/\K (a'.put c.dst v) w') a w:=by
 obtain⟨U,i,m⟩:=Oper.apart_spec p
 have k:∀(a:Act),mD P ops c9 c v a->∀u,mD P ops c9 c v (a.put d.dst u):=λa g u=>g.of_same (execOp_put c q a d.dst u m) (wanted_put c a d.dst u m)
 unfold lu at*;simp only[o]at*;rw[wanted_put d a c.dst v U]at h;split
 ·rename_i hw
  simp only[hw,dT]at h;obtain⟨hd,h⟩:=h;refine⟨hd,?_⟩;rw[execOp_put d s a c.dst v U]at h;generalize(execOp a.eval d).run P w=r at*
  cases r with
  |ok n w'=>
   cases n<;>simp only[vC]at h⊢
   case value u=>exact⟨k a g u,by rw[<-Act.put_comm a v u i];exact h⟩
   case skip=>exact⟨k a g _,by rw[<-Act.put_comm a v undef i];exact h⟩
   case enter f args=>refine Calls.mono h λe pr he=>?_;obtain⟨u,rfl,he⟩:=he;exact⟨u,rfl,k a g u,by rw[<-Act.put_comm a v u i];exact he⟩
   case round l f ts t body=>refine RoundIn.mono h λe pr he=>?_;obtain⟨u,rfl,he⟩:=he;exact⟨u,rfl,k a g u,by rw[<-Act.put_comm a v u i];exact he⟩
  |halt x w'=>cases x<;>exact h.elim
 ·rename_i hw
  simp only[hw]at h;exact⟨k a g _,by rw[<-Act.put_comm a v undef i];exact h⟩
def tT(md:Region.Mode)(ops:Array Oper)(dep:Nat->Nat->Bool):Prop:=
 ∀j i o,ops[j]?=some o->dep j i=true->∃e∈o.after,Region.binds md e=true/\(e.on=i\/dep e.on i=true)
def sc(dep:Nat->Nat->Bool)(listed:Array Bool):Prop:=∀j,listed.getD j false=true->∀i,dep j i=true->listed.getD i false=true
def Ez{dep:Nat->Nat->Bool}(hd:tT md ops dep){listed:Array Bool}(hc:sc dep listed){j i:Nat}(c:j∈Region.ready md ops listed)(h:dep j i=true):listed.getD i false=true:=by
 obtain⟨h0,o,d,a⟩:=mem_ready.1 c;obtain⟨e,he,b,h⟩:=hd j i o d h;rcases h with rfl|h
 ·exact a e he b
 ·exact hc _ (a e he b) i h
def sc.set{dep:Nat->Nat->Bool}(hd:tT md ops dep){listed:Array Bool}(hc:sc dep listed){j:Nat}(b:j∈Region.ready md ops listed):sc dep (listed.setIfInBounds j true):=by
 intro k I i hi;by_cases a:k=j
 ·subst a
  exact getD_set_true (Ez hd hc b hi)
 ·rw[getD_set_ne false (Ne.symm a)]at I
  exact getD_set_true (hc k I i hi)
def yC{N:Act->World->Prop}{dep:Nat->Nat->Bool}{H:pH}{i:Nat}{g:Oper}{v:Value}{c9:Heap->Prop}(hd:tT md ops dep)(hi:ops[i]?=some g)(y:∀(j:Nat) (o:Oper) cs b,ops[j]?=some o->o.op≠ .select cs b)(z:∀(j:Nat) (o:Oper) c,ops[j]?=some o->o.op≠ .defer c):∀(fuel:Nat) (listed:Array Bool) (a:Act) (w:World),sc dep listed->(∀j f,ops[j]?=some f->j≠i->listed.getD j true=false->(∀e∈f.after,Region.binds md e=true->e.on≠i)->g.apart ops f=true)->i∈Region.ready md ops listed->mD P ops c9 g v a->c9 w.heap->rU P md ops N dep ((i,c9)::H) fuel (listed.setIfInBounds i true) (a.put g.dst v) w->rU P md ops N dep H (fuel+1) listed a w:=by
 intro fuel
 induction fuel with
 |zero=>
  intro listed a w hc _ hr r s n;refine⟨λh=>(by rw[h]at hr;cases hr),λj l=>?_⟩;by_cases d:j=i
  ·subst d;exact r.wpOp hi (λc=>z _ _ c hi) s ⟨λ_ _ _ h=>h,Ck (λp q=>iJ _ q) _ _ _ _ n⟩
  ·have:=ready_mono l d
   rw[n.1]at this;cases this
 |succ fuel D=>
  intro listed a w hc A hr r s n;refine⟨λh=>(by rw[h]at hr;cases hr),λj l=>?_⟩;by_cases d:j=i
  ·subst d;exact r.wpOp hi (λc=>z _ _ c hi) s ⟨λ_ _ _ h=>h,Ck (λp q=>iJ _ q) _ _ _ _ n⟩
  ·have U:=n.2 j (ready_mono l d)
   obtain⟨B,f,u,E⟩:=mem_ready.1 l
   have m:listed.getD i false=false:=by
    have h0:=(mem_ready.1 hr).1;rcases vZ i listed.size with x|x
    ·simp[x]at h0⊢;exact h0
    ·simp[yM x]
   have hy:∀e∈f.after,Region.binds md e=true->e.on≠i:=λe he F heq=>by have U:=E e he F;rw[heq,m]at U;cases U
   have G:dep j i=false:=by
    cases J:dep j i with
    |false=>rfl
    |true=>rw[Ez hd hc l J]at m;cases m
   have K:=aaW u (A j f u d B hy) (λcs b=>y i g cs b hi) (λcs b=>y j f cs b u) r U
   have L:∀k ok,ops[k]?=some ok->k≠i->(listed.setIfInBounds j true).getD k true=false->
     (∀e∈ok.after,Region.binds md e=true->e.on≠i)->g.apart ops ok=true:=λk ok I M m O=>by
    refine A k ok I M ?_ O;by_cases C:j=k
    ·subst C;exact B
    ·rw[getD_set_ne true C]at m;exact m
   refine Il (λa' w' t=>⟨λp q=>t.2.1 p (iJ _ q),?_⟩) K;apply D (listed.setIfInBounds j true) a' w' (hc.set hd l) L (ready_mono hr (Ne.symm d)) t.1 (t.2.1 (i,c9) (by simp) G s);rw[Array.setIfInBounds_comm _ _ d];exact t.2.2
inductive Md where
 |pure|load|ay (jT:List Nat)
inductive fD where
 |done
 |step (i:Nat) (m:Md) (r:fD)
 |fork (i:Nat) (ci:List Nat) (ri:fD) (j:Nat) (kS:List Nat) (rj:fD)
 |uC (i:Nat) (ci:List Nat) (ri:fD) (j:Nat) (kS:List Nat) (rj:fD) (k:Nat) (cE:List Nat) (rk:fD)
abbrev fD.s(i:Nat)(m:Md)(r:fD):fD:= .step i m r
abbrev fD.d:fD:= .done
abbrev Md.l:Md:= .load
abbrev fD.l(i:Nat)(r:fD):fD:= .step i .load r
def dA(c9:Heap->Prop)(p:HP):HP:=λσ=>c9 σ/\p σ
def jo(jT:List Nat):pH->HP->HP
 |[],p=>p
 |(i,c9)::H,p=>match jT.contains i with
  |true=>dA c9 (jo jT H p)
  |false=>jo jT H p
def bN(e:Env)(d:Option Nat)(v:SV):Env:=match d with
 |none=>e
 |some d=>λt=>match Nat.beq t d with|true=>some v|false=>e t
def n9(ops:Array Oper)(e:Env)(o:Oper)(yes no:Env->HP):HP:=
 match o.guard with
 |none=>yes e
 |some (j,want)=>
  match(ops[j]?).bind (·.dst)with
  |none=>F
  |some d=>
   match e d with
   |some (.kb true)=>match want with|true=>yes e|false=>no e
   |some (.kb false)=>match want with|true=>no e|false=>yes e
   |some (.val (.bool t))=>
    match want with
    |true=>ae t (yes (bN e (some d) (.kb true))) (no (bN e (some d) (.kb false)))
    |false=>ae t (no (bN e (some d) (.kb true))) (yes (bN e (some d) (.kb false)))
   |some .un=>no e
   |_=>F
def TK.held:TK->Addr->Nat->Value->Heap->Prop
 | .agg,a,n,v,σ=>∃cs,v= .agg cs/\cs.size=n/\∀i,i<n->cA σ (a.add i)=cs[i]?
 |_,a,_,v,σ=>cA σ a=some v
def Co(P:Program)(e:Env)(o:Oper)(K:SV->(Heap->Prop)->HP):HP:=
 match o.op with
 | .load t x=>dy e x λv=>match v with
  | .pointer p=>aA p λa=>eS (jD P t) ((TK.of P t).ld a (P.cellsOf t) λv=>K (.val v) ((TK.of P t).held a (P.cellsOf t) v))
  |_=>F
 |_=>F
def hH(P:Program)(ops:Array Oper):fD->pH->Env->(Env->HP)->HP
 | .done,_,e,K=>K e
 | .step i m r,H,e,K=>
  match ops[i]? with
  |none=>F
  |some o=>n9 ops e o
   (λe=>match m with
    | .pure=>vH P e o λv=>hH P ops r ((i,λ_=>True)::H) (bN e o.dst v) K
    | .load=>Co P e o λv c9=>hH P ops r ((i,c9)::H) (bN e o.dst v) K
    | .ay jT=>n' P e o λv=>jo jT H (hH P ops r H (bN e o.dst v) K))
   (λe=>match m with
    | .ay jT=>jo jT H (hH P ops r H (bN e o.dst .un) K)
    |_=>hH P ops r ((i,λ_=>True)::H) (bN e o.dst .un) K)
 | .fork i ci ri j kS rj,H,e,K=>λσ=>
  (match ops[i]? with
  |none=>F
  |some o=>n9 ops e o
   (λe=>n' P e o λv=>jo ci H (hH P ops ri H (bN e o.dst v) K))
   λe=>jo ci H (hH P ops ri H (bN e o.dst .un) K)) σ/\
  (match ops[j]? with
  |none=>F
  |some o=>n9 ops e o
   (λe=>n' P e o λv=>jo kS H (hH P ops rj H (bN e o.dst v) K))
   λe=>jo kS H (hH P ops rj H (bN e o.dst .un) K)) σ
 | .uC i ci ri j kS rj k cE rk,H,e,K=>λσ=>
  (match ops[i]? with
  |none=>F
  |some o=>n9 ops e o
   (λe=>n' P e o λv=>jo ci H (hH P ops ri H (bN e o.dst v) K))
   λe=>jo ci H (hH P ops ri H (bN e o.dst .un) K)) σ/\
  (match ops[j]? with
  |none=>F
  |some o=>n9 ops e o
   (λe=>n' P e o λv=>jo kS H (hH P ops rj H (bN e o.dst v) K))
   λe=>jo kS H (hH P ops rj H (bN e o.dst .un) K)) σ/\
  (match ops[k]? with
  |none=>F
  |some o=>n9 ops e o
   (λe=>n' P e o λv=>jo cE H (hH P ops rk H (bN e o.dst v) K))
   λe=>jo cE H (hH P ops rk H (bN e o.dst .un) K)) σ
def mG(cY:List Nat)(j i:Nat):Bool:=(cY.getD j 0).testBit i
def BY(ops:Array Oper)(cY:List Nat):Bool:=
 cY.length==ops.size&&(List.range ops.size).all λj=>match ops[j]? with
  |some o=>cY.getD j 0==o.after.toList.foldl (λs e=>if Region.binds .any e then s|||2^e.on|||cY.getD e.on 0 else s) 0
  |none=>true
def jB(ops:Array Oper)(cY:List Nat):fD->List Nat->Array Bool->Bool
 | .done,_,listed=>(Region.ready .any ops listed).isEmpty
 | .step i m r,ls,listed=>
  match m with
  | .ay jT=>Region.ready .any ops listed==[i]&&ls.all (λp=>mG cY i p||jT.contains p)&&jB ops cY r ls (listed.setIfInBounds i true)
  | .load=>(Region.ready .any ops listed).contains i&&Region.free .any ops listed i&&jB ops cY r (i::ls) (listed.setIfInBounds i true)
  | .pure=>(Region.ready .any ops listed).contains i&&Region.free .any ops listed i&&jB ops cY r ls (listed.setIfInBounds i true)
 | .fork i ci ri j kS rj,ls,listed=>
  Region.ready .any ops listed==[i,j]&&ls.all (λp=>mG cY i p||ci.contains p)&&ls.all (λp=>mG cY j p||kS.contains p)&&
   jB ops cY ri ls (listed.setIfInBounds i true)&&jB ops cY rj ls (listed.setIfInBounds j true)
 | .uC i ci ri j kS rj k cE rk,ls,listed=>
  Region.ready .any ops listed==[i,j,k]&&ls.all (λp=>mG cY i p||ci.contains p)&&ls.all (λp=>mG cY j p||kS.contains p)&&ls.all (λp=>mG cY k p||cE.contains p)&&
   jB ops cY ri ls (listed.setIfInBounds i true)&&jB ops cY rj ls (listed.setIfInBounds j true)&&jB ops cY rk ls (listed.setIfInBounds k true)
def fD.len:fD->Nat
 | .done=>0
 | .step _ _ r=>r.len+1
 | .fork _ _ ri _ _ rj=>max ri.len rj.len+1
 | .uC _ _ ri _ _ rj _ _ rk=>max ri.len (max rj.len rk.len)+1
def uY(ops:Array Oper):Bool:=ops.toList.all λo=>match o.op with| .defer _=>false|_=>true
def Wh(h:uY ops=true)(j:Nat)(o:Oper)(c:Call)(a:ops[j]?=some o):o.op≠ .defer c:=by
 intro e;simp only[uY,ig]at h;have hm:o∈ops.toList:=by simpa using oc a
 have:=h o hm;rw[e]at this;cases this
def Br(ops:Array Oper)(cY:List Nat)(s:fD):Bool:=
 Region.noSelect ops&&uY ops&&BY ops cY&&decide (s.len<=ops.size)&&jB ops cY s [] (Array.replicate ops.size false)
def Fa(f:Edge->Bool)(g:Edge->Nat)(i:Nat):∀(l:List Edge) (s:Nat),(l.foldl (λs e=>if f e then s|||2^e.on|||g e else s) s).testBit i=true->s.testBit i=true\/∃e∈l,f e=true/\(e.on=i\/(g e).testBit i=true)
 |[],s,h=> .inl h
 |e::l,s,h=>by
  rcases Fa f g i l _ h with h|⟨a,b,h⟩
  ·simp only at h
   split at h
   ·rename_i hf
    simp only[Nat.testBit_or,tD,CZ,bz]at h;rcases h with(h|h)|h
    ·exact .inl h
    ·exact .inr ⟨e,by simp,hf,.inl h⟩
    ·exact .inr ⟨e,by simp,hf,.inr h⟩
   ·exact .inl h
  ·exact .inr ⟨a,by simp[b],h⟩
def Z9{cY:List Nat}(h:BY ops cY=true):tT .any ops (mG cY):=by
 intro j i o a hd;simp only[BY,b9,ig,om]at h;have b:=(gF.1 a).1;have U:=h.2 j b;rw[a]at U;simp only[gB]at U;unfold mG at hd;rw[U]at hd;rcases Fa _ _ i _ _ hd with h|⟨e,he,c,h⟩
 ·simp at h
 ·exact⟨e,by simpa using he,c,h⟩
structure dM(n:Nat)(e:Env)(a:Act):Prop where
 size:a.tmps.size=n
 val:∀t v,e t=some v->a.tmps.getD t undef=v.cd
def dM.ev{n:Nat}{e:Env}{a:Act}(h:dM n e a):∀x v,ev e x=some v->a.eval x=v.cd:=by
 intro x v b
 cases x with
 |tmp t=>exact h.val t v b
 |const c=>cases c<;>simp only[XS.ev,iO]at b<;>subst b<;>rfl
 |global g=>simp only[XS.ev,iO]at b;subst b;rfl
 |func f=>simp only[XS.ev,iO]at b;subst b;rfl
def dM.put{n:Nat}{e:Env}{a:Act}(h:dM n e a){d:Option Nat}(hd:∀t,d=some t->t<n)(v:SV):dM n (bN e d v) (a.put d v.cd):=by
 cases d with
 |none=>exact h
 |some d=>
  have c:=hd d rfl;refine⟨by simp[Act.put,h.size],λt u hu=>?_⟩;simp only[bN]at hu
  cases b:Nat.beq t d with
  |true=>rw[b]at hu;simp only[iO]at hu;subst hu;obtain rfl:=lE b;simp[Act.put,h.size,c]
  |false=>
   rw[b]at hu;have f:d≠t:=λhe=>by subst he;simp at b
   have:=h.val t u hu;simp only[Act.put,oa,vI f]at this⊢;exact this
def dM.oU{n:Nat}{e:Env}{a:Act}(h:dM n e a){d:Nat}{b:Bool}(f:a.tmps.getD d undef= .bool b):dM n (bN e (some d) (.kb b)) a:=by
 refine⟨h.size,λt u hu=>?_⟩;simp only[bN]at hu
 cases c:Nat.beq t d with
 |true=>rw[c]at hu;simp only[iO]at hu;subst hu;obtain rfl:=lE c;exact f
 |false=>rw[c]at hu;exact h.val t u hu
def Iv{a:Act}{j d:Nat}{b:Bool}(f:(ops[j]?).bind (·.dst)=some d)(c:a.tmps.getD d undef= .bool b):yielded ops a.tmps j=some b:=by
 unfold yielded;rw[f];simp only[C0]
 cases e:a.tmps[d]? with
 |none=>simp[oa,e,undef]at c
 |some v=>simp[oa,e]at c;subst c;rfl
def aa'{a:Act}{j d:Nat}(c:(ops[j]?).bind (·.dst)=some d)(b:a.tmps.getD d undef=undef):yielded ops a.tmps j=none:=by
 unfold yielded;rw[c];simp only[C0]
 cases e:a.tmps[d]? with
 |none=>rfl
 |some v=>simp[oa,e]at b;subst b;rfl
def yG{n:Nat}{e:Env}{a:Act}{o:Oper}{yes no:Env->HP}{σ:Heap}(c:dM n e a)(h:n9 ops e o yes no σ):(∃g,dM n g a/\Region.wanted o (yielded ops a.tmps)=true/\yes g σ)\/(∃g,dM n g a/\Region.wanted o (yielded ops a.tmps)=false/\no g σ):=by
 unfold n9 at h;unfold Region.wanted
 cases l:o.guard with
 |none=>rw[l]at h;exact .inl ⟨e,c,rfl,h⟩
 |some p=>
  obtain⟨j,want⟩:=p;rw[l]at h;simp only at h⊢
  cases i:(ops[j]?).bind (·.dst)with
  |none=>rw[i]at h;exact h.elim
  |some d=>
   rw[i]at h;simp only at h
   cases k:e d with
   |none=>rw[k]at h;exact h.elim
   |some m=>
    rw[k]at h;have f:=c.val d m k
    cases m with
    |un=>rw[aa' i f];exact .inr ⟨e,c,rfl,h⟩
    |nx _ _=>exact h.elim
    |en _ _=>exact h.elim
    |kb b=>rw[Iv i f];cases b<;>cases want<;>first|exact .inl ⟨e,c,rfl,h⟩|exact .inr ⟨e,c,rfl,h⟩
    |val v=>
     cases v<;>(try simp only at h)<;>first|exact h.elim|skip
     rename_i t;have f:a.tmps.getD d undef= .bool t:=f;rw[Iv i f];cases want
     ·have:=yH h
      cases t
      ·exact .inl ⟨_,c.oU f,rfl,this⟩
      ·exact .inr ⟨_,c.oU f,rfl,this⟩
     ·have:=yH h
      cases t
      ·exact .inr ⟨_,c.oU f,rfl,this⟩
      ·exact .inl ⟨_,c.oU f,rfl,this⟩
def Ip{o:Oper}{a:Act}{w:World}{K:SV->HP}{next:Act->World->Prop}(hd:∀c,o.op≠ .defer c)(h:eF P (execOp a.eval o) (lift K) w.heap)(I:∀(b:SV) (w':World),ft w w'->K b w'.heap->next (a.put o.dst b.cd) w'):tz P o a w next:=by
 obtain⟨r,d,hr,g,h⟩:=h w rfl;refine⟨hd,?_⟩;rw[hr];rcases h with⟨v,rfl,b,rfl,hK⟩|⟨rfl,b,j,hK⟩|⟨f,args,rfl,hc⟩|⟨l,f,ts,as,wF,rfl,hc⟩
 ·exact I b d g hK
 ·have:=I b d g hK
  rw[j]at this;exact this
 ·apply Calls.mono (hc d rfl)
  rintro e w2 ⟨v,rfl,⟨b,rfl,hK⟩,i⟩;exact⟨_,rfl,I b w2 (g.trans i) hK⟩
 ·apply RoundIn.mono (hc d rfl)
  rintro e w2 ⟨v,rfl,⟨b,rfl,hK⟩,i⟩;exact⟨_,rfl,I b w2 (g.trans i) hK⟩
end
end
section
section
variable {P:Program}{ops:Array Oper}
def pW{jT:List Nat}{p:HP}{σ:Heap}:∀{H:pH},jo jT H p σ->p σ/\∀x∈H,jT.contains x.1=true->x.2 σ
 |[],h=>⟨h,by simp⟩
 |(i,c9)::H,h=>by
  simp only[jo]at h
  cases hc:jT.contains i with
  |true=>
   rw[hc]at h;obtain⟨d,h⟩:=h;obtain⟨U,c⟩:=pW h;refine⟨U,λx a b=>?_⟩;rcases cR.1 a with rfl|a
   ·exact d
   ·exact c x a b
  |false=>
   rw[hc]at h;obtain⟨U,c⟩:=pW h;refine⟨U,λx a b=>?_⟩;rcases cR.1 a with rfl|a
   ·rw[hc]at b;cases b
   ·exact c x a b
def UN{k:TK}(I:k.isAgg=false){a:Addr}{n:Nat}{v:Value}{σ:Heap}(h:k.held a n v σ):cA σ a=some v:=by cases k<;>first|exact h|cases I
def Fp{k:TK}{a:Addr}{n:Nat}{f:aK}{σ:Heap}(h:k.ld a n f σ):∃v,k.held a n v σ/\f v σ:=by
 cases k<;>simp only[TK.ld]at h
 case agg=>obtain⟨cs,U,d,e⟩:=h;exact⟨_,⟨cs,rfl,U,d⟩,e⟩
 case slice=>obtain⟨p,l,c,U,d⟩:=h;exact⟨_,U,d⟩
 all_goals (obtain⟨b,U,d⟩:=h;exact⟨_,U,d⟩)
def Fm{t:TypeId}{a:Addr}{v:Value}(e:jD P t=true)(w:World)(h:(TK.of P t).held a (P.cellsOf t) v w.heap):(loadVar t a).run P w= .ok v w:=by
 obtain⟨hi,hu⟩:=po e;obtain⟨d,hd⟩:=hY.1 hu;unfold loadVar;rw[Sem.run_bind,vo hd,TK.u2 hd,Result.andThen_ok]
 cases I:(TK.of P t).isAgg with
 |true=>
  have he:TK.of P t= .agg:=by revert I;generalize TK.of P t=k;cases k<;>simp[TK.isAgg]
  rw[he]at h;obtain⟨cs,rfl,b,hc⟩:=h
  have:=run_loadCells_list (P:=P) w a cs.toList (λj v c=>by
   have f:j<P.cellsOf t:=by have:=b0.1 c;obtain⟨U,_⟩:=this;simpa[b]using U
   rw[kQ,hc j f];simpa using c)
  simp only[dT,Sem.run_bind,nZ hi,Result.andThen_ok];have hl:cs.toList.length=P.cellsOf t:=by simpa using b
  rw[hl]at this;rw[this];simp
 |false=>simp only[fM,ej,run_load,kQ,UN I h]
def aa7{e:Env}{ρ:Operand->Value}{o:Oper}{K:SV->(Heap->Prop)->HP}{σ:Heap}(c:∀x v,ev e x=some v->ρ x=v.cd)(h:Co P e o K σ):∃(v:Value) (c9:Heap->Prop),c9 σ/\(∀w:World,c9 w.heap->(execOp ρ o).run P w= .ok (.value v) w)/\K (.val v) c9 σ:=by
 obtain⟨dst,op,ty,pos,after,guard⟩:=o;cases op<;>simp only[Co]at h<;>first|exact h.elim|skip
 case load t x=>
 have h:=dI c h;cases b:ρ x<;>rw[b]at h<;>(try simp only at h)<;>first|exact h.elim|skip
 obtain⟨a,rfl,h⟩:=oL h;obtain⟨d,h⟩:=e4 h;obtain⟨v,f,I⟩:=Fp h;refine⟨v,_,f,λw hw=>?_,I⟩;simp[execOp,Instr.loadAt,Instr.sureAddr,b,Fm d w hw]
def wR(n:Nat)(ops:Array Oper):Prop:=∀(i:Nat) o d,ops[i]?=some o->o.dst=some d->d<n
def contains_of{l:List Nat}{i:Nat}(h:l.contains i=true):i∈l:=by simpa using h
def tB(g:j' P)(l:∀(j:Nat) (o:Oper) c,ops[j]?=some o->o.op≠ .defer c){n i:Nat}{e:Env}{a:Act}{w:World}{o:Oper}{k:SV->Env->HP}{next:Act->World->Prop}(hd:wR n ops)(hi:ops[i]?=some o)(m:dM n e a)(h:n9 ops e o (λe=>n' P e o λv=>k v e) (λe=>k .un e) w.heap)(I:∀b (d:SV) (w':World),dM n b a->ft w w'->k d b w'.heap->next (a.put o.dst d.cd) w'):lu P ops i next a w:=by
 unfold lu;simp only[hi];rcases yG m h with⟨b,f,hw,h⟩|⟨b,f,hw,h⟩
 ·simp only[hw,dT]
  exact Ip (λc=>l _ _ c hi) (Is g f.ev h) (λd w' p hK=>I b d w' f p hK)
 ·simp only[hw,fM,ej]
  exact I b .un w f (.refl w) h
def aa9(Q:j' P)(J:∀(j:Nat) (o:Oper) c,ops[j]?=some o->o.op≠ .defer c){n:Nat}{cY:List Nat}{w0:World}{Fr:Act->Prop}{K:Env->HP}{N:Act->World->Prop}(V:∀(j:Nat) (o:Oper) cs b,ops[j]?=some o->o.op≠ .select cs b)(y:tT .any ops (mG cY))(hd:wR n ops)(L:∀(i:Nat) o a v,ops[i]?=some o->Fr a->Fr (a.put o.dst v))(hK:∀e a w,dM n e a->Fr a->ft w0 w->K e w.heap->N a w):∀(s:fD) (ls:List Nat) (H:pH) (listed:Array Bool) (fuel:Nat) (e:Env) (a:Act) (w:World),jB ops cY s ls listed=true->s.len<=fuel->sc (mG cY) listed->(∀p∈H,p.1∈ls\/∀σ,p.2 σ)->dM n e a->Fr a->ft w0 w->hH P ops s H e K w.heap->rU P .any ops N (mG cY) H fuel listed a w:=by
 intro s
 induction s with
 |done=>
  intro ls H listed fuel e a w hs hf hc u C z A h;have hr:Region.ready .any ops listed=[]:=by simpa[jB]using hs
  have af:=hK e a w C z A h
  cases fuel with
  |zero=>exact⟨hr,af⟩
  |succ fuel=>exact⟨λ_=>af,λi hi=>by rw[hr]at hi;cases hi⟩
 |step i m r R=>
  intro ls H listed fuel e a w hs hf hc u C z A h;simp only[fD.len]at hf;obtain⟨fuel,rfl⟩:∃f,fuel=f+1:=⟨fuel-1,by omega⟩;simp only[hH]at h
  cases hi:ops[i]? with
  |none=>rw[hi]at h;exact h.elim
  |some o=>
   rw[hi]at h;simp only at h;have x:∀t,o.dst=some t->t<n:=λt D=>hd i o t hi D
   cases m with
   |pure=>
    simp only[jB,b9]at hs;obtain⟨⟨hr,S⟩,hs⟩:=hs;have hr:=contains_of hr;rcases yG C h with⟨M,l,hw,h⟩|⟨M,l,hw,h⟩
    ·obtain⟨B,X,h⟩:=It l.ev h
     refine yC y hi V J fuel listed a w hc (Region.free_spec hi S) hr (.inl ⟨hw,λw' _=>X w'⟩) trivial (R ls ((i,λ_=>True)::H) _ fuel _ _ _ hs (by omega) (hc.set y hr) ?_ (l.put x B) (L _ _ _ _ hi z) A h);exact λp d=>(cR.1 d).elim (λe=> .inr (by subst e;exact λ_=>trivial)) (u p)
    ·refine yC y hi V J fuel listed a w hc (Region.free_spec hi S) hr (.inr ⟨hw,rfl⟩) trivial (R ls ((i,λ_=>True)::H) _ fuel _ _ _ hs (by omega) (hc.set y hr) ?_ (l.put x .un) (L _ _ _ _ hi z) A h)
     exact λp d=>(cR.1 d).elim (λe=> .inr (by subst e;exact λ_=>trivial)) (u p)
   |load=>
    simp only[jB,b9]at hs;obtain⟨⟨hr,S⟩,hs⟩:=hs;have hr:=contains_of hr;rcases yG C h with⟨M,l,hw,h⟩|⟨M,l,hw,h⟩
    ·obtain⟨v,c9,ah,X,h⟩:=aa7 l.ev h
     refine yC y hi V J fuel listed a w hc (Region.free_spec hi S) hr (.inl ⟨hw,X⟩) ah (R (i::ls) ((i,c9)::H) _ fuel _ _ _ hs (by omega) (hc.set y hr) ?_ (l.put x (.val v)) (L _ _ _ _ hi z) A h);exact λp d=>(cR.1 d).elim (λe=> .inl (by subst e;simp)) (λd=>(u p d).imp (λh=>by simp[h]) id)
    ·refine yC y hi V J fuel listed a w hc (Region.free_spec hi S) hr (.inr ⟨hw,rfl⟩) trivial (R (i::ls) ((i,λ_=>True)::H) _ fuel _ _ _ hs (by omega) (hc.set y hr) ?_ (l.put x .un) (L _ _ _ _ hi z) A h)
     exact λp d=>(cR.1 d).elim (λe=> .inr (by subst e;exact λ_=>trivial)) (λd=>(u p d).imp (λh=>by simp[h]) id)
   |ay jT=>
    simp only[jB,b9,gB,ig,tD]at hs;obtain⟨⟨hr,ai⟩,hs⟩:=hs;have T:i∈Region.ready .any ops listed:=by rw[hr];simp
    refine⟨λh0=>(by rw[hr]at h0;cases h0),λj ag=>?_⟩;rw[hr]at ag;obtain rfl:j=i:=by simpa using ag
    apply tB Q J hd hi C h;intro M B w' l E I;obtain⟨I,F⟩:=pW I;refine⟨λp d G _=>?_,?_⟩
    ·rcases u p d with g|g
     ·rcases ai p.1 g with U|U
      ·rw[G]at U;cases U
      ·exact F p d U
     ·exact g _
    ·exact R ls H _ fuel _ _ _ hs (by omega) (hc.set y T) u (l.put x B) (L _ _ _ _ hi z) (A.trans E) I
 |fork i ci ri j kS rj Y Z=>
  intro ls H listed fuel e a w hs hf hc u C z A h;simp only[fD.len]at hf;obtain⟨fuel,rfl⟩:∃f,fuel=f+1:=⟨fuel-1,by omega⟩;simp only[hH]at h;obtain⟨hl,O⟩:=h;simp only[jB,b9,gB,ig,tD]at hs;obtain⟨⟨⟨⟨hr,aa⟩,ab⟩,ac⟩,ad⟩:=hs;have T:i∈Region.ready .any ops listed:=by rw[hr];simp
  have ae:j∈Region.ready .any ops listed:=by rw[hr];simp
  refine⟨λh0=>(by rw[hr]at h0;cases h0),λk I=>?_⟩;rw[hr]at I;have I:k=i\/k=j:=by simpa using I
  rcases I with rfl|rfl
  ·cases hi:ops[k]? with
   |none=>rw[hi]at hl;exact hl.elim
   |some o=>
    rw[hi]at hl;have x:∀t,o.dst=some t->t<n:=λt D=>hd k o t hi D;apply tB Q J hd hi C hl;intro M B w' l E I;obtain⟨I,F⟩:=pW I;refine⟨λp d G _=>?_,?_⟩
    ·rcases u p d with g|g
     ·rcases aa p.1 g with U|U
      ·rw[G]at U;cases U
      ·exact F p d U
     ·exact g _
    ·exact Y ls H _ fuel _ _ _ ac (by omega) (hc.set y T) u (l.put x B) (L _ _ _ _ hi z) (A.trans E) I
  ·cases hi:ops[k]? with
   |none=>rw[hi]at O;exact O.elim
   |some o=>
    rw[hi]at O;have x:∀t,o.dst=some t->t<n:=λt D=>hd k o t hi D;apply tB Q J hd hi C O;intro M B w' l E I;obtain⟨I,F⟩:=pW I;refine⟨λp d G _=>?_,?_⟩
    ·rcases u p d with g|g
     ·rcases ab p.1 g with U|U
      ·rw[G]at U;cases U
      ·exact F p d U
     ·exact g _
    ·exact Z ls H _ fuel _ _ _ ad (by omega) (hc.set y ae) u (l.put x B) (L _ _ _ _ hi z) (A.trans E) I
 |uC i ci ri j kS rj k cE rk Y Z aj=>
  intro ls H listed fuel e a w hs hf hc u C z A h;simp only[fD.len]at hf;obtain⟨fuel,rfl⟩:∃f,fuel=f+1:=⟨fuel-1,by omega⟩;simp only[hH]at h;obtain⟨hl,hm,O⟩:=h;simp only[jB,b9,gB,ig,tD]at hs;obtain⟨⟨⟨⟨⟨⟨hr,aa⟩,ab⟩,ak⟩,ac⟩,ad⟩,al⟩:=hs;have T:i∈Region.ready .any ops listed:=by rw[hr];simp
  have ae:j∈Region.ready .any ops listed:=by rw[hr];simp
  have am:k∈Region.ready .any ops listed:=by rw[hr];simp
  refine⟨λh0=>(by rw[hr]at h0;cases h0),λq W=>?_⟩;rw[hr]at W;have W:q=i\/q=j\/q=k:=by simpa using W
  rcases W with rfl|rfl|rfl
  ·cases hi:ops[q]? with
   |none=>rw[hi]at hl;exact hl.elim
   |some o=>
    rw[hi]at hl;have x:∀t,o.dst=some t->t<n:=λt D=>hd q o t hi D;apply tB Q J hd hi C hl;intro M B w' l E I;obtain⟨I,F⟩:=pW I;refine⟨λp d G _=>?_,?_⟩
    ·rcases u p d with g|g
     ·rcases aa p.1 g with U|U
      ·rw[G]at U;cases U
      ·exact F p d U
     ·exact g _
    ·exact Y ls H _ fuel _ _ _ ac (by omega) (hc.set y T) u (l.put x B) (L _ _ _ _ hi z) (A.trans E) I
  ·cases hi:ops[q]? with
   |none=>rw[hi]at hm;exact hm.elim
   |some o=>
    rw[hi]at hm;have x:∀t,o.dst=some t->t<n:=λt D=>hd q o t hi D;apply tB Q J hd hi C hm;intro M B w' l E I;obtain⟨I,F⟩:=pW I;refine⟨λp d G _=>?_,?_⟩
    ·rcases u p d with g|g
     ·rcases ab p.1 g with U|U
      ·rw[G]at U;cases U
      ·exact F p d U
     ·exact g _
    ·exact Z ls H _ fuel _ _ _ ad (by omega) (hc.set y ae) u (l.put x B) (L _ _ _ _ hi z) (A.trans E) I
  ·cases hi:ops[q]? with
   |none=>rw[hi]at O;exact O.elim
   |some o=>
    rw[hi]at O;have x:∀t,o.dst=some t->t<n:=λt D=>hd q o t hi D;apply tB Q J hd hi C O;intro M B w' l E I;obtain⟨I,F⟩:=pW I;refine⟨λp d G _=>?_,?_⟩
    ·rcases u p d with g|g
     ·rcases ak p.1 g with U|U
      ·rw[G]at U;cases U
      ·exact F p d U
     ·exact g _
    ·exact aj ls H _ fuel _ _ _ al (by omega) (hc.set y am) u (l.put x B) (L _ _ _ _ hi z) (A.trans E) I
def aa5(g:j' P)(hm:P.follows .mixedOrders=true){ro:Option Nat}{Fr:Act->Prop}{n id:Nat}{cY:List Nat}{s:fD}{w0:World}{K:Env->HP}{e:Env}{a:Act}{w:World}{Q:Exit->Act->World->Prop}(c:Br ops cY s=true)(hd:wR n ops)(k:∀(i:Nat) o a v,ops[i]?=some o->Fr a->Fr (a.put o.dst v))(l:Fr a)(m:dM n e a)(b:ft w0 w)(hK:∀d a' w',dM n d a'->Fr a'->ft w0 w'->K d w'.heap->Q .normal a' w')(h:hH P ops s [] e K w.heap):(Code.region id ops true).wpIn (FW ro) 0 P Q a w:=by
 simp only[Br,b9,bz]at c;obtain⟨⟨⟨⟨p,q⟩,r⟩,hlen⟩,t⟩:=c
 have key:=aa9 g (Wh q) (Region.noSelect_spec p) (Z9 r) hd k
  (λe a w U u x y=>hK e a w U u x y) s [] [] (Array.replicate ops.size false) ops.size e a {w with drawn:=w.drawn+1} t hlen
  (λj f=>by
   exfalso
   have:(Array.replicate ops.size false).getD j false=false:=by by_cases z:j<ops.size<;>simp[oa,z]
   rw[this]at f;cases f) (by simp) m l ⟨b.1,b.2.1,b.2.2⟩ h
 exact wpIn_region_any hm (Ik (λ_ _ h=>h) _ _ _ _ key)
end
end
section
structure Hints where
 BH:List (Nat×(List Nat×fD))
 loops:List (Nat×List (Nat×TK))
 FD:List (Nat×List (Nat×TK))
 KH:List (Nat×List (Nat×TK))
def look{α:Type}:List (Nat×α)->Nat->Option α
 |[],_=>none
 |(k,v)::r,i=>match Nat.beq k i with|true=>some v|false=>look r i
def sV:List Nat->Nat->Bool
 |[],_=>false
 |k::r,i=>match Nat.beq k i with|true=>true|false=>sV r i
def wr:Code->List Nat
 | .region _ ops _=>ops.toList.filterMap (·.dst)
 | .seq a b=>wr a++wr b
 | .cond _ a b=>wr a++wr b
 | .block _ c=>wr c
 | .loop c=>wr c
 |_=>[]
def forget(e:Env)(l:List Nat):Env:=λt=>match sV l t with|true=>none|false=>e t
def iE(e:Env):List (Nat×TK)->aB->Env
 |(s,_)::r,v::vs=>bN (iE e r vs) (some s) (.val v)
 |_,_=>e
def yt:TK->Value->Bool
 | .bool,.bool _=>true
 | .int k,.int k' _=>k==k'
 | .str,.string _=>true
 | .ptr,.pointer _=>true
 | .slice,.slice .. =>true
 | .map,.map _=>true
 | .agg,.agg _=>true
 | .any,_=>true
 |_,_=>false
def nE(e:Env):List (Nat×TK)->(aB->HP)->HP
 |[],k=>k []
 |(s,tk)::r,k=>match e s with
  |some a=>match yt tk a.cd with
   |true=>nE e r λvs=>k (a.cd::vs)
   |false=>F
  |none=>F
def vG(P:Program)(ops:Array Oper):List Oper->Env->(Env->HP)->HP
 |[],e,K=>K e
 |o::r,e,K=>n9 ops e o (λe=>n' P e o λv=>vG P ops r (bN e o.dst v) K) (λe=>vG P ops r (bN e o.dst .un) K)
def yi(k:Env->HP)(Q:Exit->Env->HP):Exit->Env->HP
 | .normal,e=>k e
 |ex,e=>Q ex e
def DS(id:Nat)(Q:Exit->Env->HP):Exit->Env->HP
 | .exit i,e=>match Nat.beq i id with|true=>Q .normal e|false=>Q (.exit i) e
 |ex,e=>Q ex e
def xm(hs:Hints):Code->Option (List (Nat×TK))
 | .region id _ _=>look hs.FD (100000+id)
 | .seq (.region id _ _) (.cond _ _ _)=>look hs.FD id
 | .block id _=>look hs.KH id
 |_=>none
def oU(e:Env)(c:Operand)(b:Bool):Env:=match c with
 | .tmp t=>bN e (some t) (.kb b)
 |_=>e
def x(P:Program)(hs:Hints):Code->Nat->Env->(Exit->Env->HP)->HP
 | .skip,_,e,Q=>Q .normal e
 | .region id ops d,_,e,Q=>match d with
  |false=>vG P ops ops.toList e λe=>Q .normal e
  |true=>match look hs.BH id with
   |some (_,s)=>hH P ops s [] e λe=>Q .normal e
   |none=>F
 | .seq a b,_,e,Q=>match xm hs a with
  |none=>x P hs a 0 e (yi (λe=>x P hs b 0 e Q) Q)
  |some aX=>bq (B8 (aX.map (·.2)) λvs=>x P hs b 0 (iE (forget e (wr a)) aX vs) Q) λf=>x P hs a 0 e (yi (λe=>nE e aX f) Q)
 | .cond c a b,_,e,Q=>match ev e c with
  |some (.kb true)=>x P hs a 0 e Q
  |some (.kb false)=>x P hs b 0 e Q
  |some (.val (.bool t))=>ae t (x P hs a 0 (oU e c true) Q) (x P hs b 0 (oU e c false) Q)
  |_=>F
 | .block id c,_,e,Q=>x P hs c (id+1) e (DS id Q)
 | .loop c,cur,e,Q=>match look hs.loops cur with
  |none=>F
  |some aX=>nE e aX λvs=>bm (λs R=>B8 (aX.map (·.2))
    (λvs=>x P hs c 0 (iE (forget e (wr c)) aX vs) (yi (λe=>nE e aX R) Q)) s) vs
 | .exit id,_,e,Q=>Q (.exit id) e
 | .ret,_,e,Q=>Q .ret e
 | .label _,_,e,Q=>Q .normal e
 | .goto l,_,e,Q=>Q (.goto l) e
 |_,_,_,_=>F
def xI(n:Nat)(ops:Array Oper):Bool:=ops.toList.all λo=>match o.dst with|some d=>decide (d<n)|none=>true
def codeOk(hs:Hints)(n:Nat):Code->Bool
 | .region id ops d=>xI n ops&&uY ops&&match d with
  |false=>true
  |true=>match look hs.BH id with
   |some (cY,s)=>Br ops cY s
   |none=>true
 | .seq a b=>codeOk hs n a&&codeOk hs n b
 | .cond _ a b=>codeOk hs n a&&codeOk hs n b
 | .block _ c=>codeOk hs n c
 | .loop c=>codeOk hs n c
 |_=>true
section
variable {P:Program}
def WL{n:Nat}{ops:Array Oper}(h:xI n ops=true):wR n ops:=by
 intro i o d hi hd;simp only[xI,ig]at h
 have hm:o∈ops.toList:=by have:=oc hi;simpa using this
 have U:=h o hm;rw[hd]at U;simpa using U
def put_defers(a:Act)(d:Option Tmp)(v:Value):(a.put d v).defers=a.defers:=by cases d<;>rfl
def Cp(k:j' P){ro:Option Nat}{n:Nat}{ops:Array Oper}{w0:World}{Fr:Act->Prop}{K:Env->HP}{Q:Exit->Act->World->Prop}(hK:∀e a w,dM n e a->Fr a->ft w0 w->K e w.heap->Q .normal a w):∀(l:List Oper) (e:Env) (a:Act) (w:World),(∀o∈l,∀d,o.dst=some d->d<n)->(∀o∈l,∀c,o.op≠ .defer c)->(∀(o:Oper) a v,o∈l->Fr a->Fr (a.put o.dst v))->dM n e a->Fr a->ft w0 w->vG P ops l e K w.heap->wpListIn (FW ro) 0 P ops Q l a w
 |[],e,a,w,_,_,_,m,g,b,h=>hK e a w m g b h
 |o::r,e,a,w,hd,p,i,m,g,b,h=>by
  simp only[vG]at h;have q:=hd o (by simp);unfold wpListIn;rcases yG m h with⟨s,j,hw,h⟩|⟨s,j,hw,h⟩
  ·simp only[hw,dT]
   refine Io (λ_ _ h=>h) (Ip (p o (by simp)) (Is k j.ev h) ?_);exact λt w' u I=>Cp k hK r _ _ _ (λo b=>hd o (by simp[b])) (λo b=>p o (by simp[b])) (λo a v b=>i o a v (by simp[b])) (j.put q t) (i o _ _ (by simp) g) (b.trans u) I
  ·simp only[hw,fM,ej]
   exact⟨λf _=>wb ro f,Cp k hK r _ _ _ (λo b=>hd o (by simp[b])) (λo b=>p o (by simp[b])) (λo a v b=>i o a v (by simp[b])) (j.put q .un) (i o _ _ (by simp) g) b h⟩
def aaf{tk:TK}{v:Value}{ts:List TK}{vs:aB}(h:yt tk v=true)(b:Typed ts vs):Typed (tk::ts) (v::vs):=by
 intro a;apply b;cases tk<;>cases v<;>first|(cases h;done)|skip
 all_goals first
  |(simp only[iW]at a;exact wC _ _ _ (λr hr e=>hr (by rw[e])) (a _))
  |(simp only[iW]at a;exact wC _ _ _ (λr hr e=>hr (by rw[e])) (a _ _ _))
  |(simp only[yt,gB]at h;subst h;simp only[iW]at a;exact wC _ _ _ (λr hr e=>hr (by rw[e])) (a _))
def aau:Typed [] []:=λh=>h rfl
def uD{e:Env}:∀{aX:List (Nat×TK)} {k:aB->HP} {σ:Heap},nE e aX k σ->∃vs,Typed (aX.map (·.2)) vs/\(∀n a,dM n e a->∀b,dM n b a->dM n (iE b aX vs) a)/\k vs σ
 |[],k,σ,h=>⟨[],aau,λn a _ b h0=>h0,h⟩
 |(s,tk)::r,k,σ,h=>by
  simp only[nE]at h
  cases hs:e s with
  |none=>rw[hs]at h;exact h.elim
  |some c=>
   rw[hs]at h;simp only at h
   cases hf:yt tk c.cd with
   |false=>rw[hf]at h;exact h.elim
   |true=>
    rw[hf]at h;obtain⟨vs,g,eW,I⟩:=uD h;refine⟨c.cd::vs,aaf hf g,λn a f b h0=>?_,I⟩;have U:=eW n a f b h0;refine⟨U.size,λt u hu=>?_⟩;simp only[iE,bN]at hu
    cases d:Nat.beq t s with
    |true=>rw[d]at hu;simp only[iO]at hu;subst hu;obtain rfl:=lE d;exact f.val t c hs
    |false=>rw[d]at hu;exact U.val t u hu
def V0{l:List Nat}{t:Nat}:sV l t=false↔t∉l:=by
 induction l with
 |nil=>simp[sV]
 |cons k r b=>
  simp only[sV]
  cases a:Nat.beq k t with
  |true=>obtain rfl:=lE a;simp
  |false=>
   have c:¬t=k:=λe=>by subst e;simp at a
   simp[b,c]
def hh(l:List Nat)(a a':Act):Prop:=a'.tmps.size=a.tmps.size/\∀t,t∉l->a'.tmps.getD t undef=a.tmps.getD t undef
def hh.forget{n:Nat}{l:List Nat}{a a':Act}{e:Env}(h:hh l a a')(c:dM n e a):dM n (forget e l) a':=by
 refine⟨h.1.trans c.size,λt v b=>?_⟩;unfold XS.forget at b
 cases hm:sV l t with
 |true=>rw[hm]at b;cases b
 |false=>rw[hm]at b;rw[h.2 t (V0.1 hm)];exact c.val t v b
def hh.refl(l:List Nat)(a:Act):hh l a a:=⟨rfl,λ_ _=>rfl⟩
def hh.trans{l:List Nat}{a b c:Act}(h:hh l a b)(k:hh l b c):hh l a c:=⟨k.1.trans h.1,λt d=>(k.2 t d).trans (h.2 t d)⟩
def hh.mono{l c:List Nat}{a b:Act}(hs:∀t,t∈l->t∈c)(h:hh l a b):hh c a b:=⟨h.1,λt d=>h.2 t λhl=>d (hs t hl)⟩
def hh.put{l:List Nat}{a b:Act}(h:hh l a b){d:Option Nat}(hd:∀t,d=some t->t∈l)(v:Value):hh l a (b.put d v):=by
 cases d with
 |none=>exact h
 |some d=>refine⟨by simp[Act.put,h.1],λt c=>?_⟩;have f:d≠t:=λe=>c (e▸hd d rfl);rw[<-h.2 t c];simp[Act.put,vI f]
def EE{id:Nat}{ops:Array Oper}{d:Bool}{o:Oper}(a:o∈ops.toList):∀t,o.dst=some t->t∈wr (.region id ops d):=by intro t b;simp only[wr,List.mem_filterMap];exact⟨o,a,b⟩
def inLoop(ro:Option Nat)(P:Program)(c:Code)(Q:Exit->Act->World->Prop)(a:Act)(w:World):Prop:=
 ∀(b:Frame) (k:List Item) (cs:List Frame),b.roundOf=(FW ro).round->(FW ro).fn b.fn->(FW ro).room (cs.length+1+0)->
  ∃e a' w',Q e a' w'/\ArrivesIn (Machine.fenced P (FW ro)) P (lone (b.atR a (.code c:: .inLoop c::k)) cs w) b k cs e a' w'
def UT{ro:Option Nat}{c:Code}{Q:Exit->Act->World->Prop}{a:Act}{w:World}(h:c.wpIn (FW ro) 0 P (Exit.then (inLoop ro P c Q) Q) a w):inLoop ro P c Q a w:=by
 intro b k cs m j hr;obtain⟨e,g,i,d,f⟩:=h b (.inLoop c::k) cs m j hr
 cases e with
 |normal=>obtain⟨n,o,p,q,r⟩:=d b k cs m j hr;exact⟨n,o,p,q,.of_steps (StepsIn.trans f (.one (fenced_calm j hr rfl) stepR_inLoop)) r⟩
 |exit id=>exact⟨_,g,i,d,.pass rfl (λ_ _=> .inl (by simp)) f⟩
 |goto l=>exact⟨_,g,i,d,.pass rfl (λ_ _=> .inl (by simp)) f⟩
 |ret=>exact⟨_,g,i,d,.pass rfl (λ_ _=> .inl (by simp)) f⟩
 |panic ch=>exact⟨_,g,i,d,.pass rfl (λ_ _=> .inl (by simp)) f⟩
 |outgrown=>exact⟨_,g,i,d,.pass rfl (λ_ _=> .inl (by simp)) f⟩
def aaY{ro:Option Nat}{c:Code}{Q:Exit->Act->World->Prop}{a:Act}{w:World}(h:inLoop ro P c Q a w):(Code.loop c).wpIn (FW ro) 0 P Q a w:=by intro b k cs f d hr;obtain⟨e,a',w',g,i⟩:=h b k cs f d hr;exact⟨e,a',w',g,.of_steps (.one (fenced_calm d hr rfl) stepR_loop) i⟩
structure End(n:Nat)(l:List Nat)(w0:World)(a0:Act)(e:Env)(a:Act)(w:World):Prop where
 env:dM n e a
 defers:a.defers=a0.defers
 outer:ft w0 w
 same:hh l a0 a
def dM.FH{n:Nat}{e:Env}{a:Act}(h:dM n e a){c:Operand}{b:Bool}(d:a.eval c= .bool b):dM n (XS.oU e c b) a:=by
 cases c with
 |tmp t=>exact h.oU d
 |const v=>exact h
 |global g=>exact h
 |func f=>exact h
def yF(W:j' P)(hm:P.follows .mixedOrders=true){ro:Option Nat}{hs:Hints}{n:Nat}:∀(c:Code) (cur:Nat) (e:Env) (Q:Exit->Env->HP) (r:Exit->Act->World->Prop) (a:Act) (w w0:World),codeOk hs n c=true->dM n e a->ft w0 w->(∀ex p a' w',End n (wr c) w0 a p a' w'->Q ex p w'.heap->r ex a' w')->x P hs c cur e Q w.heap->c.wpIn (FW ro) 0 P r a w:=by
 intro c
 induction c with
 |skip=>exact λcur e Q r a w w0 _ m q k h=>wpIn_skip (k _ _ _ _ ⟨m,rfl,q,.refl _ _⟩ h)
 |region id ops d=>
  intro cur e Q r a w w0 aP m q k h;simp only[codeOk,b9]at aP;obtain⟨⟨K,X⟩,aP⟩:=aP;have hd:=WL K
  have af:∀o∈ops.toList,∀t,o.dst=some t->t<n:=by intro o L t u;simp only[xI,ig]at K;have U:=K o L;rw[u]at U;simpa using U
  cases d with
  |false=>
   simp only[x]at h
   refine wpIn_region_list (Cp W (Fr:=λa'=>a'.defers=a.defers/\hh (wr (.region id ops false)) a a') (λp a' w' U D M N=>k _ _ _ _ ⟨U,D.1,M,D.2⟩ N)
    ops.toList e a w af (λo q c e=>by simp only[uY,ig]at X;have:=X o q;rw[e]at this;cases this) (λo a' v L hf=>⟨(put_defers _ _ _).trans hf.1,hf.2.put (EE L) v⟩) m ⟨rfl,.refl _ _⟩ q h)
  |true=>
   simp only[x]at h
   cases hl:look hs.BH id with
   |none=>rw[hl]at h;exact h.elim
   |some ts=>
    obtain⟨cY,s⟩:=ts;rw[hl]at h aP
    refine aa5 W hm (Fr:=λa'=>a'.defers=a.defers/\hh (wr (.region id ops true)) a a') aP hd (λi o a' v hi hf=>?_) ⟨rfl,.refl _ _⟩ m q
     (λp a' w' U D M N=>k _ _ _ _ ⟨U,D.1,M,D.2⟩ N) h
    have ag:o∈ops.toList:=by simpa using oc hi
    exact⟨(put_defers _ _ _).trans hf.1,hf.2.put (EE ag) v⟩
 |seq c1 c2 F O=>
  intro cur e Q r a w w0 aP m q k h;simp only[codeOk,b9]at aP;simp only[x]at h;have left:∀t,t∈wr c1->t∈wr (.seq c1 c2):=λt u=>by simp[wr,u]
  have right:∀t,t∈wr c2->t∈wr (.seq c1 c2):=λt u=>by simp[wr,u]
  have z:∀ex p a' w',ex≠ .normal->End n (wr c1) w0 a p a' w'->Q ex p w'.heap->Exit.then (c2.wpIn (FW ro) 0 P r) r ex a' w':=by intro ex p a' w' R g j;have:=k ex p a' w' ⟨g.env,g.defers,g.outer,g.same.mono left⟩ j;cases ex<;>first|exact absurd rfl R|exact this
  have Y:∀p G a' w',End n (wr c1) w0 a p a' w'->dM n G a'->x P hs c2 0 G Q w'.heap->c2.wpIn (FW ro) 0 P r a' w':=by intro p G a' w' g ai S;refine O 0 G Q r a' w' w0 aP.2 ai g.outer (λex Z a3 aa H j=>k _ _ _ _ ⟨H.env,H.defers.trans g.defers,H.outer,?_⟩ j) S;exact(g.same.mono left).trans (H.same.mono right)
  apply wpIn_seq
  cases ab:xm hs c1 with
  |none=>
   rw[ab]at h;refine F 0 e _ _ a w w0 aP.1 m q (λex p a' w' g j=>?_) h
   cases ex with
   |normal=>exact Y p p a' w' g g.env j
   |exit i=>exact z _ _ _ _ (by simp) g j
   |goto l=>exact z _ _ _ _ (by simp) g j
   |ret=>exact z _ _ _ _ (by simp) g j
   |panic ch=>exact z _ _ _ _ (by simp) g j
   |outgrown=>exact z _ _ _ _ (by simp) g j
  |some aX=>
   rw[ab]at h;refine F 0 e _ _ a w w0 aP.1 m q (λex p a' w' g j=>?_) h
   cases ex with
   |normal=>obtain⟨vs,u,eW,I⟩:=uD (show nE p aX _ w'.heap from j);have I:=u.use I;exact Y p _ a' w' g (eW n a' g.env _ (g.same.forget m)) I
   |exit i=>exact z _ _ _ _ (by simp) g j
   |goto l=>exact z _ _ _ _ (by simp) g j
   |ret=>exact z _ _ _ _ (by simp) g j
   |panic ch=>exact z _ _ _ _ (by simp) g j
   |outgrown=>exact z _ _ _ _ (by simp) g j
 |cond c c1 c2 F O=>
  intro cur e Q r a w w0 aP m q k h;simp only[codeOk,b9]at aP;simp only[x]at h;have left:∀t,t∈wr c1->t∈wr (.cond c c1 c2):=λt u=>by simp[wr,u]
  have right:∀t,t∈wr c2->t∈wr (.cond c c1 c2):=λt u=>by simp[wr,u]
  have ac:∀p,dM n p a->x P hs c1 0 p Q w.heap->c1.wpIn (FW ro) 0 P r a w:=λp E h=>F 0 p Q r a w w0 aP.1 E q (λex Z a3 aa g j=>k _ _ _ _ ⟨g.env,g.defers,g.outer,g.same.mono left⟩ j) h
  have go2:∀p,dM n p a->x P hs c2 0 p Q w.heap->c2.wpIn (FW ro) 0 P r a w:=λp E h=>O 0 p Q r a w w0 aP.2 E q (λex Z a3 aa g j=>k _ _ _ _ ⟨g.env,g.defers,g.outer,g.same.mono right⟩ j) h
  cases T:ev e c with
  |none=>rw[T]at h;exact h.elim
  |some ad=>
   rw[T]at h;have C:=m.ev c ad T
   cases ad with
   |un=>exact h.elim
   |nx _ _=>exact h.elim
   |en _ _=>exact h.elim
   |kb b=>
    cases b
    ·exact wpIn_cond_false C (go2 e m h)
    ·exact wpIn_cond_true C (ac e m h)
   |val v=>
    cases v<;>(try simp only at h)<;>first|exact h.elim|skip
    rename_i t;have:=yH h;cases t
    ·exact wpIn_cond_false C (go2 _ (m.FH C) this)
    ·exact wpIn_cond_true C (ac _ (m.FH C) this)
 |block id c V=>
  intro cur e Q r a w w0 aP m q k h;simp only[x]at h;refine wpIn_block (V (id+1) e _ _ a w w0 aP m q (λex p a' w' g j=>?_) h);have B:End n (wr (.block id c)) w0 a p a' w':=g
  cases ex with
  |exit i=>
   simp only[Exit.inBlock];simp only[DS]at j
   cases J:Nat.beq i id with
   |true=>rw[J]at j;rw[ah (lE J)];exact k _ _ _ _ B j
   |false=>
    rw[J]at j;have R:i≠id:=λe=>by subst e;simp at J
    rw[ak R];exact k _ _ _ _ B j
  |normal=>exact k _ _ _ _ B j
  |goto l=>exact k _ _ _ _ B j
  |ret=>exact k _ _ _ _ B j
  |panic ch=>exact k _ _ _ _ B j
  |outgrown=>exact k _ _ _ _ B j
 |loop c V=>
  intro cur e Q r a w w0 aP m q k h;simp only[x]at h
  cases hl:look hs.loops cur with
  |none=>rw[hl]at h;exact h.elim
  |some aX=>
   rw[hl]at h;obtain⟨vs,u,eW,I⟩:=uD h;apply aaY
   have key:=I (λs σ=>Typed (aX.map (·.2)) s->∀(a':Act) (w':World),w'.heap=σ->dM n (iE (forget e (wr c)) aX s) a'->a'.defers=a.defers->
     ft w0 w'->hh (wr c) a a'->inLoop ro P c r a' w') ?_
   ·exact key u a w rfl (eW n a m _ (hh.forget (.refl _ _) m)) rfl q (.refl _ _)
   ·intro s σ aj al a' w' am E an ao ap
    subst am;have S:=al.use aj;refine UT (V 0 _ _ _ a' w' w0 aP E ao (λex ae a2 w2 g j=>?_) S);have A:End n (wr (.loop c)) w0 a ae a2 w2:=⟨g.env,g.defers.trans an,g.outer,ap.trans g.same⟩
    cases ex with
    |normal=>obtain⟨us,aq,ar,au⟩:=uD (show nE ae aX _ w2.heap from j);exact au aq a2 w2 rfl (ar n a2 g.env _ (hh.forget A.same m)) A.defers g.outer A.same
    |exit i=>exact k _ _ _ _ A j
    |goto l=>exact k _ _ _ _ A j
    |ret=>exact k _ _ _ _ A j
    |panic ch=>exact k _ _ _ _ A j
    |outgrown=>exact k _ _ _ _ A j
 |rangeFunc f ps c1 c2=>exact λcur e Q r a w w0 _ m q k h=>h.elim
 |exit id=>exact λcur e Q r a w w0 _ m q k h=>wpIn_exit (k _ _ _ _ ⟨m,rfl,q,.refl _ _⟩ h)
 |scope c=>exact λcur e Q r a w w0 _ m q k h=>h.elim
 |label l=>exact λcur e Q r a w w0 _ m q k h=>wpIn_label (k _ _ _ _ ⟨m,rfl,q,.refl _ _⟩ h)
 |goto l=>exact λcur e Q r a w w0 _ m q k h=>wpIn_goto (k _ _ _ _ ⟨m,rfl,q,.refl _ _⟩ h)
 |ret=>exact λcur e Q r a w w0 _ m q k h=>wpIn_ret (k _ _ _ _ ⟨m,rfl,q,.refl _ _⟩ h)
 |refuse y=>exact λcur e Q r a w w0 _ m q k h=>h.elim
end
end
section
def mE:aB->Nat->Env
 |[],_=>λ_=>none
 |v::r,i=>bN (mE r (i+1)) (some i) (.val v)
def nc(P:Program)(e:Env):List ResultVar->(aB->HP)->HP
 |[],k=>k []
 | .tmp t::r,k=>match e t with
  |some v=>nc P e r λvs=>k (v.cd::vs)
  |none=>F
 | .cell t T::r,k=>match e t with
  |some (.val (.pointer p))=>aA p λa=>eS (jD P T) ((TK.of P T).ld a (P.cellsOf T) λv=>nc P e r λvs=>k (v::vs))
  |_=>F
def rM(vs:aB):Value:=match vs with|[v]=>v|vs=> .tuple vs.toArray
def Bv(P:Program)(rs:List ResultVar)(K:aK):Exit->Env->HP
 | .normal,e=>nc P e rs λvs=>K (rM vs)
 | .ret,e=>nc P e rs λvs=>K (rM vs)
 |_,_=>F
section
variable {P:Program}
def Bs{n:Nat}{e:Env}{a:Act}(f:dM n e a)(w:World):∀{rs:List ResultVar} {k:aB->HP},nc P e rs k w.heap->∃vs,((rs.mapM λ(r:ResultVar)=>(match r with
   | .tmp t=>pure (a.tmps.getD t undef)
   | .cell t T=>do loadVar T (<-asAddr (a.tmps.getD t undef)):Sem Value)):Sem aB).run P w= .ok vs w/\k vs w.heap
 |[],k,h=>⟨[],rfl,h⟩
 | .tmp t::r,k,h=>by
  simp only[nc]at h
  cases c:e t with
  |none=>rw[c]at h;exact h.elim
  |some d=>rw[c]at h;obtain⟨vs,hr,I⟩:=Bs f w h;refine⟨d.cd::vs,?_,I⟩;rw[CO];simp only[Sem.run_bind,Sem.run_pure,Result.andThen_ok,hr,f.val t d c]
 | .cell t T::r,k,h=>by
  simp only[nc]at h
  cases c:e t with
  |none=>rw[c]at h;exact h.elim
  |some d=>
   rw[c]at h;have g:=f.val t d c
   cases d with
   |un=>exact h.elim
   |nx _ _=>exact h.elim
   |en _ _=>exact h.elim
   |kb b=>exact h.elim
   |val v=>
    cases v<;>(try simp only at h)<;>first|exact h.elim|skip
    obtain⟨ag,rfl,h⟩:=oL h;obtain⟨i,h⟩:=e4 h;obtain⟨v,j,h⟩:=Fp h;obtain⟨vs,hr,I⟩:=Bs f w h;refine⟨v::vs,?_,I⟩;rw[CO];have g:a.tmps.getD t undef= .pointer (some ag):=g;have l:(asAddr (a.tmps.getD t undef)).run P w= .ok ag w:=by rw[g];rfl
    simp only[l,Sem.run_bind,Sem.run_pure,Result.andThen_ok,Fm i w j,hr]
def Bu{n:Nat}{e:Env}{a:Act}{fn:Func}(c:dM n e a){w:World}{K:aK}(h:nc P e fn.results.toList (λvs=>K (rM vs)) w.heap):∃v,(results fn a.tmps).run P w= .ok v w/\K v w.heap:=by
 obtain⟨vs,hr,I⟩:=Bs c w h;refine⟨_,?_,I⟩;unfold results;rw[Iy];simp only[Sem.run_bind,Sem.run_map];have:∀(s t:Sem aB),s=t->s.run P w= .ok vs w->t.run P w= .ok vs w:=λs t e h=>e▸h;rw[this _ _ ?_ hr]
 ·simp only[Result.andThen_ok]
  match vs with
  |[]=>rfl
  |[v]=>rfl
  |a::b::r=>simp[rM]
 ·rfl
def zu:∀(l:aB) (i t:Nat) (v:SV),mE l i t=some v->∃u,v= .val u/\i<=t/\l[t-i]?=some u
 |[],i,t,v,h=>by cases h
 |u::r,i,t,v,h=>by
  simp only[mE,bN]at h
  cases a:Nat.beq t i with
  |true=>rw[a]at h;obtain rfl:=lE a;cases h;exact⟨u,rfl,d' _,by simp⟩
  |false=>rw[a]at h;obtain⟨w,rfl,U,b⟩:=zu r (i+1) t v h;refine⟨w,rfl,by omega,?_⟩;rw[show t-i=(t-(i+1))+1 from by omega];simpa using b
def Lh(g:j' P)(hm:P.follows .mixedOrders=true){hs:Hints}{f:FuncId}{fn:Func}{c:Code}{args:aB}{K:aK}{σ:Heap}(hf:P.funcs[f]?=some fn)(j:fn.body=some c)(aP:codeOk hs fn.ntmps c=true)(hlen:args.length<=fn.ntmps)(h:x P hs c 0 (mE args 0) (Bv P fn.results.toList K) σ):ab P f args.toArray K σ:=by
 intro w hw;subst hw;refine calls_of_wp hf j ((wpIn_wide (n:=0)).1 ?_)
 have k:dM fn.ntmps (mE args 0) {tmps:=args.toArray++Array.replicate (fn.ntmps-args.toArray.size) undef,defers:=[]}:=by refine⟨by simp;omega,λt v m=>?_⟩;obtain⟨u,rfl,_,d⟩:=zu args 0 t v m;simp only[iN]at d;have e:t<args.length:=(b0.1 d).1;simp[oa,Ix,e,SV.cd];rw[ba e]at d;exact qL d
 refine yF (ro:=none) g hm c 0 (mE args 0) (Bv P fn.results.toList K) _ _ w w aP k (.refl w) ?_ h;intro ex o a' w' a b
 cases ex with
 |normal=>obtain⟨v,hr,I⟩:=Bu a.env b;exact⟨a.defers,v,hr,v,rfl,I,a.outer⟩
 |ret=>obtain⟨v,hr,I⟩:=Bu a.env b;exact⟨a.defers,v,hr,v,rfl,I,a.outer⟩
 |exit i=>exact b.elim
 |goto l=>exact b.elim
 |panic ch=>exact b.elim
 |outgrown=>exact b.elim
end
end
def nG(σ:Heap)(b:Nat)(o:Obj):Heap:=σ.setIfInBounds b o
def iY(l:Nat)(k:HP):HP:=λσ=>∃r,σ[l]?=some (.loop r)/\r.state= .ready/\k (nG σ l (.loop {r with state:= .busy}))
def fx(l:Nat)(j:Option Code)(k:HP):HP:=λσ=>∃r,σ[l]?=some (.loop r)/\k (nG σ l (.loop {r with state:=if j.isNone then .ready else .done,pending:=j}))
def wT(l:Nat)(a b:HP):HP:=λσ=>∃r,σ[l]?=some (.loop r)/\r.state≠ .busy/\
 ((r.pending=none/\a (nG σ l (.loop {r with state:= .exhausted})))\/(r.pending=some .ret/\b (nG σ l (.loop {r with state:= .exhausted}))))
def hU(b:Nat)(k:HP):HP:=λσ=>σ[b]?=some (.deferred (some []))/\k (nG σ b (.deferred none))
def marks:List Nat->HP->HP
 |[],p=>p
 |r::ms,p=>hU r (marks ms p)
def mB(P:Program)(ro:Loop)(R:Nat->aB->aK->HP):Prop:=
 ∀st a l vs K σ,σ[l]?=some (.loop {ro with state:=st,pending:=a})->R l vs K σ->gj P l #[] #[] vs K σ
def nV(P:Program)(R:Nat->aB->aK->HP)(rq:Value)(b c:Nat->HP):HP:=λσ=>
 ∃a first captured,rq= .func (.func a) first captured/\gb P a=true/\∀ro:Loop,mB P ro R->
  ab P a (first.toList++[Value.func (.yield (σ.size+1)) #[] #[]]++captured.toList).toArray (λ_=>wT (σ.size+1) (b σ.size) (c σ.size))
   ((σ.push (.deferred (some []))).push (.loop {ro with state:= .ready,pending:=none}))
def Kq(a:List TK)(vs:aB)(f:aB->HP):HP:=λσ=>km a λus=>vs=us/\f us σ
def xZ(l:Nat)(K:aK):Exit->Env->HP
 | .normal,_=>fx l none (K (.bool true))
 | .ret,_=>fx l (some .ret) (K (.bool false))
 |_,_=>F
def Gh(k:Env->HP):Exit->Env->HP
 | .normal,e=>k e
 |_,_=>F
def Iu(P:Program)(hs:Hints)(e:Env)(aX:List (Nat×TK))(a body:Code)(l:Nat)(vs:aB)(K:aK):HP:=
 Kq (aX.map (·.2)) vs λus=>x P hs a 0 (iE e aX us) (Gh λe=>iY l (x P hs body 0 e (xZ l K)))
def o0:Code->Bool
 | .rangeFunc .. =>false
 | .seq a b=>o0 a&&o0 b
 | .cond _ a b=>o0 a&&o0 b
 | .block _ c=>o0 c
 | .loop c=>o0 c
 | .scope _=>false
 |_=>true
def Hj(c:Code)(P:Program)(hs:Hints)(Q:Exit->Env->HP):Exit->Env->HP
 | .goto l,e=>match findLabel c l with
  |some rest=>x P hs rest 0 e λex e=>match ex with| .goto _=>F|ex=>Q ex e
  |none=>F
 |ex,e=>Q ex e
def YM(k:Env->List Nat->HP)(Q:Exit->Env->List Nat->HP):Exit->Env->List Nat->HP
 | .normal,e,ms=>k e ms
 |ex,e,ms=>Q ex e ms
def DT(id:Nat)(Q:Exit->Env->List Nat->HP):Exit->Env->List Nat->HP
 | .exit i,e,ms=>match Nat.beq i id with|true=>Q .normal e ms|false=>Q (.exit i) e ms
 |ex,e,ms=>Q ex e ms
def x1(P:Program)(hs:Hints):Code->Nat->Env->List Nat->(Exit->Env->List Nat->HP)->HP
 | .seq a b,_,e,ms,Q=>match xm hs a with
  |none=>x1 P hs a 0 e ms (YM (λe ms=>x1 P hs b 0 e ms Q) Q)
  |some aX=>match o0 a with
   |true=>bq (B8 (aX.map (·.2)) λvs=>x1 P hs b 0 (iE (forget e (wr a)) aX vs) ms Q) λd=>x P hs a 0 e (yi (λe=>nE e aX d) λex e=>Q ex e ms)
   |false=>F
 | .block id c,_,e,ms,Q=>x1 P hs c (id+1) e ms (DT id Q)
 | .scope c,_,e,ms,Q=>x P hs c 0 e (Hj c P hs λex e=>Q ex e ms)
 | .rangeFunc f _ g body,_,e,ms,Q=>match look hs.loops 900000 with
  |none=>F
  |some aX=>dy e f λrq=>nV P (λl vs K=>Iu P hs e aX g body l vs K) rq (λr=>Q .normal e (r::ms)) (λr=>Q .ret e (r::ms))
 |c,cur,e,ms,Q=>x P hs c cur e λex e=>Q ex e ms
def oP(hs:Hints)(n:Nat):Code->Bool
 | .seq a b=>oP hs n a&&oP hs n b&&(codeOk hs n a||!o0 a)
 | .block _ c=>oP hs n c
 | .scope c=>codeOk hs n c
 | .rangeFunc _ ps d body=>codeOk hs n d&&codeOk hs n body&&match look hs.loops 900000 with
  |some aX=>ps.toList==aX.map (·.1)&&aX.all (λs=>decide (s.1<n))&&decide ((aX.map (·.1)).Nodup)
  |none=>true
 |c=>codeOk hs n c
def xA(ms:List Nat):List Deferred:=ms.map λr=>{target:= .collected r,args:=#[]}
section
variable {P:Program}
def DK{n:Nat}{e:Env}:∀(aX:List (Nat×TK)) (us:aB) (ts:ax),us.length=aX.length->(∀s∈aX,s.1<n)->(aX.map (·.1)).Nodup->ts.size=n->(∀t v,e t=some v->ts.getD t undef=v.cd)->dM n (iE e aX us) {tmps:=((aX.map (·.1)).zip us).foldl (λts (x:Nat×Value)=>ts.setIfInBounds x.1 x.2) ts,defers:=[]}
 |[],us,ts,hl,_,_,hs,c=>⟨by simpa using hs,λt v h=>by simpa[iE]using c t v (by simpa[iE]using h)⟩
 |(s,tk)::r,[],ts,hl,_,_,hs,c=>by simp at hl
 |(s,tk)::r,u::us,ts,hl,f,hd,hs,c=>by
  simp only[c4,vX,vR];simp only[c4,fp]at hd;have i:s<n:=f (s,tk) (by simp)
  have j:∀(l:List Nat) (us:aB) (ts:ax),s∉l->((l.zip us).foldl (λts (x:Nat×Value)=>ts.setIfInBounds x.1 x.2) ts).getD s undef=ts.getD s undef:=by
   intro l
   induction l with
   |nil=>intro us ts _;rfl
   |cons k l b=>
    intro us ts g
    cases us with
    |nil=>rfl
    |cons u us=>simp only[vX,vR];rw[b us _ λh=>g (by simp[h])];have d:k≠s:=λe=>g (by simp[e]);simp[oa,vI d]
  have b:=DK (n:=n) (e:=λt=>match Nat.beq t s with|true=>none|false=>e t) r us (ts.setIfInBounds s u) (by simpa using hl) (λx m=>f x (by simp[m])) hd.2 (by simpa using hs)
   (λt v h=>by
    cases a:Nat.beq t s with
    |true=>rw[a]at h;cases h
    |false=>
     rw[a]at h;have d:s≠t:=λe=>by subst e;simp at a
     have:=c t v h;rw[<-this];simp[oa,vI d])
  refine⟨b.size,λt v h=>?_⟩;simp only[iE,bN]at h
  cases a:Nat.beq t s with
  |true=>rw[a]at h;simp only[iO]at h;subst h;obtain rfl:=lE a;show(_:ax).getD t undef=u;rw[j _ us _ hd.1];simp[oa,hs,i]
  |false=>
   rw[a]at h;apply b.val t v
   have:∀(r:List (Nat×TK)) (us:aB),iE e r us t=iE (λt=>match Nat.beq t s with|true=>none|false=>e t) r us t:=by
    intro r
    induction r with
    |nil=>intro us;simp[iE,a]
    |cons x r b=>
     intro us
     cases us with
     |nil=>simp[iE,a]
     |cons u us=>simp only[iE,bN];split<;>first|rfl|exact b us
   rw[<-this];exact h
def Uq(ps:List Nat)(us:aB)(ts:ax):((ps.toArray.zip us.toArray).foldl (λtmps (t,a)=>tmps.setIfInBounds t a) ts)=((ps.zip us).foldl (λts (x:Nat×Value)=>ts.setIfInBounds x.1 x.2) ts):=by simp
def T4{ts:List TK}{g:aB->Prop}(h:km ts g):∃vs,vs.length=ts.length/\g vs:=by
 induction ts generalizing g with
 |nil=>exact⟨[],rfl,h⟩
 |cons t ts a=>
  cases t<;>simp only[km]at h
  case slice=>obtain⟨p,l,c,h⟩:=h;obtain⟨vs,hl,h⟩:=a h;exact⟨_,by simp[hl],h⟩
  all_goals (obtain⟨x,h⟩:=h;obtain⟨vs,hl,h⟩:=a h;exact⟨_,by simp[hl],h⟩)
def Yj(k:j' P)(hm:P.follows .mixedOrders=true){hs:Hints}{n:Nat}{e:Env}{aX:List (Nat×TK)}{f body:Code}{ro:Loop}(U:codeOk hs n f=true)(u:codeOk hs n body=true)(y:∀s∈aX,s.1<n)(z:(aX.map (·.1)).Nodup)(m:ro.params=(aX.map (·.1)).toArray)(ha:ro.assign=f)(A:ro.body=body)(B:ro.tmps.size=n)(C:∀t v,e t=some v->ro.tmps.getD t undef=v.cd):mB P ro (λl vs K=>Iu P hs e aX f body l vs K):=by
 intro st O l vs K σ hl h;subst ha A;obtain⟨us,g,rfl,h⟩:=T4 h;simp only[fe]at g;intro w hw;subst hw;refine⟨.round l ro.fn ((ro.params.zip vs.toArray).foldl (λtmps (x:Nat×Value)=>tmps.setIfInBounds x.1 x.2) ro.tmps) ro.assign ro.body,w,?_,.refl w,.inr (.inr (.inr ⟨l,ro.fn,_,ro.assign,ro.body,rfl,?_⟩))⟩
 ·simp only[Deferred.ofValue,Sem.run_bind,Sem.run_pure,Result.andThen_ok,invoke]
  have:=run_yield (P:=P) (w:=w) (args:=vs.toArray) hl (by simp[m,g]);simpa using this
 intro w' D;have o:=DK (n:=n) (e:=e) aX vs ro.tmps g y z B C
 have E:(ro.params.zip vs.toArray).foldl (λtmps (x:Nat×Value)=>tmps.setIfInBounds x.1 x.2) ro.tmps=(((aX.map (·.1)).zip vs).foldl (λts (x:Nat×Value)=>ts.setIfInBounds x.1 x.2) ro.tmps):=by rw[m];exact Uq _ _ _
 rw[<-E]at o;rw[<-D]at h
 have key:=yF (P:=P) (ro:=some l) k hm (hs:=hs) (n:=n) ro.assign 0 (iE e aX vs) (Gh λe=>iY l (x P hs ro.body 0 e (xZ l K)))
  (Exit.then (λF G=>∃p,(Instr.beginRound l).run P G= .ok () p/\ro.body.wpIn (FW (some l)) 0 P (roundPost P l λe w2=>∃v,e= .returned v/\K v w2.heap/\ft w' w2) F p) λ_ _ _=>False)
  {tmps:=(ro.params.zip vs.toArray).foldl (λtmps (x:Nat×Value)=>tmps.setIfInBounds x.1 x.2) ro.tmps,defers:=[]} w' w' U o (.refl w') ?_ h
 ·exact roundIn_of_wpIn trivial key
 intro ex q H r d b
 cases ex with
 |normal=>
  obtain⟨I,J,L,b⟩:=(show iY l (x P hs ro.body 0 q (xZ l K)) r.heap from b);refine⟨r.putObj l (.loop {I with state:= .busy}),run_beginRound J L,?_⟩;refine yF (P:=P) (ro:=some l) k hm (hs:=hs) (n:=n) ro.body 0 q (xZ l K) _ H _ w' u d.env ⟨d.outer.1,d.outer.2.1,d.outer.2.2⟩ ?_ b;intro M Q a2 w2 c a
  cases M with
  |normal=>obtain⟨N,j,a⟩:=(show fx l none (K (.bool true)) w2.heap from a);exact⟨_,_,run_endRound none j,_,rfl,a,⟨c.outer.1,c.outer.2.1,c.outer.2.2⟩⟩
  |ret=>obtain⟨N,j,a⟩:=(show fx l (some .ret) (K (.bool false)) w2.heap from a);exact⟨_,_,run_endRound (some .ret) j,_,rfl,a,⟨c.outer.1,c.outer.2.1,c.outer.2.2⟩⟩
  |exit i=>exact a.elim
  |goto l=>exact a.elim
  |panic ch=>exact a.elim
  |outgrown=>exact a.elim
 |exit i=>exact b.elim
 |goto l=>exact b.elim
 |ret=>exact b.elim
 |panic ch=>exact b.elim
 |outgrown=>exact b.elim
def Yu(c:Code)(P:Program)(Q:Exit->Act->World->Prop):Exit->Act->World->Prop
 | .goto l,a,w=>∃rest,findLabel c l=some rest/\rest.wpIn (FW none) 0 P (λex a w=>match ex with| .goto _=>False|ex=>Q ex a w) a w
 |ex,a,w=>Q ex a w
def n7{b:Frame}{a:Act}{k:List Item}{cs:List Frame}{w:World}{c:Code}:step P (lone (b.atR a (.code (.scope c)::k)) cs w)= .next (lone (b.atR a (.code c:: .inScope c::k)) cs w):=step_lone_go (by simp[stepG,stepG.exec,Frame.atR])
def ZK{b:Frame}{a:Act}{k:List Item}{cs:List Frame}{w:World}{c:Code}:step P (lone (b.atR a (.inScope c::k)) cs w)= .next (lone (b.atR a k) cs w):=step_lone_go (by simp[stepG,stepG.exec,Frame.atR])
def aaU{c:Code}{Q:Exit->Act->World->Prop}{a:Act}{w:World}(h:c.wpIn (FW none) 0 P (Yu c P Q) a w):(Code.scope c).wpIn (FW none) 0 P Q a w:=by
 intro b k cs r q hr;have u:b.roundOf=none:=r;have h0:(lone (b.atR a (.code (.scope c)::k)) cs w).fenced P (FW none):=fenced_calm q hr rfl;obtain⟨e,f,g,i,d⟩:=h b (.inScope c::k) cs r q hr
 have pass:∀(m:Machine) (e:Exit) (f:Act) (g:World),(∀l,e≠ .goto l)->ArrivesIn (Machine.fenced P (FW none)) P m b (.inScope c::k) cs e f g->ArrivesIn (Machine.fenced P (FW none)) P m b k cs e f g:=by
  intro m e f g s d
  cases e with
  |normal=>exact StepsIn.trans d (.one (fenced_calm q hr rfl) ZK)
  |exit id=>exact⟨λk' I=>d.1 k' (by simp[exitTo,I]),λt I=>by rw[u]at t;cases t⟩
  |goto l=>exact absurd rfl (s l)
  |ret=>exact d
  |panic ch=>exact d
  |outgrown=>exact d
 cases e with
 |goto l=>
  obtain⟨rest,hf,v⟩:=i;have s:gotoIn l (.inScope c::k)=some (.code rest:: .inScope c::k):=by simp[gotoIn,hf]
  obtain⟨x,n,o,j,p⟩:=v b (.inScope c::k) cs r q hr;have s1:=d.1 _ s
  cases x with
  |goto y=>exact j.elim
  |normal=>exact⟨_,n,o,j,.of_steps (.head h0 n7 s1) (pass _ _ _ _ (by simp) p)⟩
  |exit id=>exact⟨_,n,o,j,.of_steps (.head h0 n7 s1) (pass _ _ _ _ (by simp) p)⟩
  |ret=>exact⟨_,n,o,j,.of_steps (.head h0 n7 s1) (pass _ _ _ _ (by simp) p)⟩
  |panic ch=>exact⟨_,n,o,j,.of_steps (.head h0 n7 s1) (pass _ _ _ _ (by simp) p)⟩
  |outgrown=>exact⟨_,n,o,j,.of_steps (.head h0 n7 s1) (pass _ _ _ _ (by simp) p)⟩
 |normal=>exact⟨_,f,g,i,.of_steps (.one h0 n7) (pass _ _ _ _ (by simp) d)⟩
 |exit id=>exact⟨_,f,g,i,.of_steps (.one h0 n7) (pass _ _ _ _ (by simp) d)⟩
 |ret=>exact⟨_,f,g,i,.of_steps (.one h0 n7) (pass _ _ _ _ (by simp) d)⟩
 |panic ch=>exact⟨_,f,g,i,.of_steps (.one h0 n7) (pass _ _ _ _ (by simp) d)⟩
 |outgrown=>exact⟨_,f,g,i,.of_steps (.one h0 n7) (pass _ _ _ _ (by simp) d)⟩
def Ud{hs:Hints}{n:Nat}:∀(c:Code) (l:Nat) (r:Code),codeOk hs n c=true->findLabel c l=some r->codeOk hs n r=true:=by
 intro c
 induction c with
 |seq a b e g=>
  intro l r aP hf;simp only[codeOk,b9]at aP;simp only[findLabel]at hf
  cases ha:findLabel a l with
  |some rest=>rw[ha]at hf;cases hf;simp only[codeOk,b9];exact⟨e l rest aP.1 ha,aP.2⟩
  |none=>rw[ha]at hf;exact g l r aP.2 hf
 |label k=>
  intro l r aP hf;simp only[findLabel]at hf;split at hf
  ·cases hf;rfl
  ·cases hf
 |skip=>intro l r _ hf;cases hf
 |region id ops d=>intro l r _ hf;cases hf
 |cond c a b _ _=>intro l r _ hf;cases hf
 |block id c _=>intro l r _ hf;cases hf
 |loop c _=>intro l r _ hf;cases hf
 |rangeFunc f ps a b _ _=>intro l r _ hf;cases hf
 |exit id=>intro l r _ hf;cases hf
 |scope c _=>intro l r _ hf;cases hf
 |goto k=>intro l r _ hf;cases hf
 |ret=>intro l r _ hf;cases hf
 |refuse y=>intro l r _ hf;cases hf
structure v'(n:Nat)(w0:World)(e:Env)(ms:List Nat)(a:Act)(w:World):Prop where
 env:dM n e a
 defers:a.defers=xA ms
 outer:ft w0 w
def aa1(A:j' P)(hm:P.follows .mixedOrders=true){hs:Hints}{n:Nat}:∀(c:Code) (cur:Nat) (e:Env) (ms:List Nat) (Q:Exit->Env->List Nat->HP) (m:Exit->Act->World->Prop) (a:Act) (w w0:World),oP hs n c=true->v' n w0 e ms a w->(∀ex o q a' w',v' n w0 o q a' w'->Q ex o q w'.heap->m ex a' w')->x1 P hs c cur e ms Q w.heap->c.wpIn (FW none) 0 P m a w:=by
 have plain:∀(c:Code) (cur:Nat) (e:Env) (ms:List Nat) (Q:Exit->Env->HP)
   (m:Exit->Act->World->Prop) (a:Act) (w w0:World),codeOk hs n c=true->v' n w0 e ms a w->
   (∀ex o a' w',v' n w0 o ms a' w'->hh (wr c) a a'->Q ex o w'.heap->m ex a' w')->x P hs c cur e Q w.heap->c.wpIn (FW none) 0 P m a w:=by
  intro c cur e ms Q m a w w0 aP k g h;exact yF A hm c cur e Q m a w w0 aP k.env k.outer (λex o a' w' j b=>g ex o a' w' ⟨j.env,j.defers.trans k.defers,j.outer⟩ j.same b) h
 intro c
 induction c with
 |seq c1 c2 E B=>
  intro cur e ms Q m a w w0 aP k g h;simp only[oP,b9]at aP;simp only[x1]at h;apply wpIn_seq
  cases F:xm hs c1 with
  |none=>
   rw[F]at h;refine E 0 e ms _ _ a w w0 aP.1.1 k (λex o q a' w' j b=>?_) h
   cases ex with
   |normal=>exact B 0 o q Q m a' w' w0 aP.1.2 j g b
   |exit i=>exact g _ _ _ _ _ j b
   |goto l=>exact g _ _ _ _ _ j b
   |ret=>exact g _ _ _ _ _ j b
   |panic ch=>exact g _ _ _ _ _ j b
   |outgrown=>exact g _ _ _ _ _ j b
  |some aX=>
   rw[F]at h
   cases C:o0 c1 with
   |false=>rw[C]at h;exact h.elim
   |true=>
    rw[C]at h;have R:codeOk hs n c1=true:=by have:=aP.2;rw[C]at this;simpa using this
    refine plain c1 0 e ms _ _ a w w0 R k (λex o a' w' j S b=>?_) h
    cases ex with
    |normal=>obtain⟨vs,T,eW,I⟩:=uD (show nE o aX _ w'.heap from b);have I:=T.use I;exact B 0 _ ms Q m a' w' w0 aP.1.2 ⟨eW n a' j.env _ (S.forget k.env),j.defers,j.outer⟩ g I
    |exit i=>exact g _ _ _ _ _ j b
    |goto l=>exact g _ _ _ _ _ j b
    |ret=>exact g _ _ _ _ _ j b
    |panic ch=>exact g _ _ _ _ _ j b
    |outgrown=>exact g _ _ _ _ _ j b
 |block id c G=>
  intro cur e ms Q m a w w0 aP k g h;simp only[x1]at h;refine wpIn_block (G (id+1) e ms _ _ a w w0 aP k (λex o q a' w' j b=>?_) h)
  cases ex with
  |exit i=>
   simp only[Exit.inBlock];simp only[DT]at b
   cases z:Nat.beq i id with
   |true=>rw[z]at b;rw[ah (lE z)];exact g _ _ _ _ _ j b
   |false=>
    rw[z]at b;have U:i≠id:=λe=>by subst e;simp at z
    rw[ak U];exact g _ _ _ _ _ j b
  |normal=>exact g _ _ _ _ _ j b
  |goto l=>exact g _ _ _ _ _ j b
  |ret=>exact g _ _ _ _ _ j b
  |panic ch=>exact g _ _ _ _ _ j b
  |outgrown=>exact g _ _ _ _ _ j b
 |scope c G=>
  intro cur e ms Q m a w w0 aP k g h;simp only[oP]at aP;simp only[x1]at h;refine aaU (plain c 0 e ms _ _ a w w0 aP k (λex o a' w' j _ b=>?_) h)
  cases ex with
  |goto l=>
   simp only[Hj]at b
   cases hf:findLabel c l with
   |none=>rw[hf]at b;exact b.elim
   |some rest=>
    rw[hf]at b;refine⟨rest,hf,plain rest 0 o ms _ _ a' w' w0 (Ud c l rest aP hf) j (λex ao a3 H s _ p=>?_) b⟩
    cases ex with
    |goto l=>exact p.elim
    |normal=>exact g _ _ _ _ _ s p
    |exit i=>exact g _ _ _ _ _ s p
    |ret=>exact g _ _ _ _ _ s p
    |panic ch=>exact g _ _ _ _ _ s p
    |outgrown=>exact g _ _ _ _ _ s p
  |normal=>exact g _ _ _ _ _ j b
  |exit i=>exact g _ _ _ _ _ j b
  |ret=>exact g _ _ _ _ _ j b
  |panic ch=>exact g _ _ _ _ _ j b
  |outgrown=>exact g _ _ _ _ _ j b
 |rangeFunc f ps t body E B=>
  intro cur e ms Q m a w w0 aP k g h;simp only[oP,b9]at aP;simp only[x1]at h
  cases hl:look hs.loops 900000 with
  |none=>rw[hl]at h;exact h.elim
  |some aX=>
   rw[hl]at h aP;obtain⟨⟨V,W⟩,J⟩:=aP;simp only[b9,gB,ig,bz]at J;obtain⟨⟨X,Y⟩,Z⟩:=J;have h:=dI (λx v aa=>k.env.ev x v aa) h;obtain⟨K,first,captured,hf,ab,h⟩:=h
   ·refine wpIn_rangeFunc λfn _=>?_
    have ac:=h {state:= .ready,pending:=none,fn:=fn,tmps:=a.tmps,params:=ps,assign:=t,body:=body,defers:=w.heap.size}
     (Yj A hm V W Y Z (by rw[<-X]) rfl rfl k.env.size k.env.val)
    refine⟨w.heap.size+1,[{target:= .collected w.heap.size,args:=#[]}],(w.alloc (.deferred (some []))).alloc (.loop {state:= .ready,pending:=none,fn:=fn,tmps:=a.tmps,params:=ps,assign:=t,body:=body,defers:=w.heap.size}),{target:=Target.fn (.func K) captured,args:=first++#[Value.func (.yield (w.heap.size+1)) #[] #[]]},(w.alloc (.deferred (some []))).alloc (.loop {state:= .ready,pending:=none,fn:=fn,tmps:=a.tmps,params:=ps,assign:=t,body:=body,defers:=w.heap.size}),K,(first.toList++[Value.func (.yield (w.heap.size+1)) #[] #[]]++captured.toList).toArray,(w.alloc (.deferred (some []))).alloc (.loop {state:= .ready,pending:=none,fn:=fn,tmps:=a.tmps,params:=ps,assign:=t,body:=body,defers:=w.heap.size}),
     run_enterLoop_outer fn a.tmps ps t body,?_,λad _=>wb none ad,?_,λh=>(by cases h),?_⟩
    ·have:(#[Operand.const (Value.func (.yield (w.heap.size+1)) #[] #[])]:Array Operand).map a.eval=#[Value.func (.yield (w.heap.size+1)) #[] #[]]:=by simp[Act.eval]
     simp only[resolve,rangeCall,hf,Deferred.ofValue,Sem.run_pure,this]
    ·have ae:(first.toList++[Value.func (.yield (w.heap.size+1)) #[] #[]]++captured.toList).toArray=first++#[Value.func (.yield (w.heap.size+1)) #[] #[]]++captured:=by apply g';simp
     rw[ae];simp only[invoke];exact zI A _ ab _
    ·refine C6 (Calls.mono (ac _ rfl) ?_)
     rintro en H ⟨v,rfl,⟨r,hr,af,b⟩,D⟩
     have L:({a with defers:=[{target:=Target.collected w.heap.size,args:=#[]}]++a.defers}:Act).defers=xA (w.heap.size::ms):=by simp[xA,k.defers]
     have M:dM n e {a with defers:=[{target:=Target.collected w.heap.size,args:=#[]}]++a.defers}:=⟨k.env.size,k.env.val⟩;obtain⟨ap,N,ag,ai,aj,al,am,an⟩:=r;have O:ft w0 (H.putObj (w.heap.size+1) (.loop {state:= .exhausted,pending:=N,fn:=ag,tmps:=ai,params:=aj,assign:=al,body:=am,defers:=an})):=⟨D.1.trans k.outer.1,D.2.1.trans k.outer.2.1,D.2.2.trans k.outer.2.2⟩;refine⟨N,_,run_endLoop hr af,?_⟩;rcases b with⟨u,b⟩|⟨u,b⟩
     ·simp only at u;subst u;exact g _ _ _ _ _ ⟨M,L,O⟩ b
     ·simp only at u;subst u;exact wpIn_ret (g _ _ _ _ _ ⟨M,L,O⟩ b)
 |skip=>exact λcur e ms Q m a w w0 aP k g h=>plain _ cur e ms _ m a w w0 aP k (λex o a' w' j _ b=>g _ _ _ _ _ j b) h
 |region id ops d=>exact λcur e ms Q m a w w0 aP k g h=>plain _ cur e ms _ m a w w0 aP k (λex o a' w' j _ b=>g _ _ _ _ _ j b) h
 |cond c c1 c2 _ _=>exact λcur e ms Q m a w w0 aP k g h=>plain _ cur e ms _ m a w w0 aP k (λex o a' w' j _ b=>g _ _ _ _ _ j b) h
 |loop c _=>exact λcur e ms Q m a w w0 aP k g h=>plain _ cur e ms _ m a w w0 aP k (λex o a' w' j _ b=>g _ _ _ _ _ j b) h
 |exit id=>exact λcur e ms Q m a w w0 aP k g h=>plain _ cur e ms _ m a w w0 aP k (λex o a' w' j _ b=>g _ _ _ _ _ j b) h
 |label l=>exact λcur e ms Q m a w w0 aP k g h=>plain _ cur e ms _ m a w w0 aP k (λex o a' w' j _ b=>g _ _ _ _ _ j b) h
 |goto l=>exact λcur e ms Q m a w w0 aP k g h=>plain _ cur e ms _ m a w w0 aP k (λex o a' w' j _ b=>g _ _ _ _ _ j b) h
 |ret=>exact λcur e ms Q m a w w0 aP k g h=>plain _ cur e ms _ m a w w0 aP k (λex o a' w' j _ b=>g _ _ _ _ _ j b) h
 |refuse y=>exact λcur e ms Q m a w w0 aP k g h=>plain _ cur e ms _ m a w w0 aP k (λex o a' w' j _ b=>g _ _ _ _ _ j b) h
def Bw(P:Program)(rs:List ResultVar)(K:aK):Exit->Env->List Nat->HP
 | .normal,e,ms=>marks ms (nc P e rs λvs=>K (rM vs))
 | .ret,e,ms=>marks ms (nc P e rs λvs=>K (rM vs))
 |_,_,_=>F
def AJ{n:Nat}{fn:Func}{e:Env}{K:aK}{w0:World}:∀(ms:List Nat) (a:Act) (w:World),dM n e a->ft w0 w->marks ms (nc P e fn.results.toList λvs=>K (rM vs)) w.heap->LeavesInM Fence.wide 0 P fn a.tmps (λe w'=>∃v,e= .returned v/\K v w'.heap/\ft w0 w') (xA ms) .returning w
 |[],a,w,c,b,h=>by obtain⟨v,hr,I⟩:=Bu c h;exact⟨v,hr,v,rfl,I,b⟩
 |r::ms,a,w,c,b,h=>by obtain⟨U,d⟩:=h;refine⟨by simp,.inl ⟨r,_,rfl,run_takeDeferred U,?_⟩⟩;exact AJ ms a _ c ⟨b.1,b.2.1,b.2.2⟩ d
def Li(j:j' P)(hm:P.follows .mixedOrders=true){hs:Hints}{f:FuncId}{fn:Func}{c:Code}{args:aB}{K:aK}{σ:Heap}(hf:P.funcs[f]?=some fn)(k:fn.body=some c)(aP:oP hs fn.ntmps c=true)(hlen:args.length<=fn.ntmps)(h:x1 P hs c 0 (mE args 0) [] (Bw P fn.results.toList K) σ):ab P f args.toArray K σ:=by
 intro w hw;subst hw;refine(callsIn_wide (n:=0)).1 (callsIn_of_wp_marks hf k trivial ?_)
 have m:dM fn.ntmps (mE args 0) {tmps:=args.toArray++Array.replicate (fn.ntmps-args.toArray.size) undef,defers:=[]}:=by refine⟨by simp;omega,λt v o=>?_⟩;obtain⟨u,rfl,_,d⟩:=zu args 0 t v o;simp only[iN]at d;have e:t<args.length:=(b0.1 d).1;simp[oa,Ix,e,SV.cd];rw[ba e]at d;exact qL d
 refine aa1 j hm c 0 (mE args 0) [] (Bw P fn.results.toList K) _ _ w w aP ⟨m,rfl,.refl w⟩ ?_ h;intro ex p g a' w' a b
 cases ex with
 |normal=>show LeavesInM _ _ _ _ _ _ a'.defers _ _;rw[a.defers];exact AJ g a' w' a.env a.outer b
 |ret=>show LeavesInM _ _ _ _ _ _ a'.defers _ _;rw[a.defers];exact AJ g a' w' a.env a.outer b
 |exit i=>exact b.elim
 |goto l=>exact b.elim
 |panic ch=>exact b.elim
 |outgrown=>exact b.elim
end
