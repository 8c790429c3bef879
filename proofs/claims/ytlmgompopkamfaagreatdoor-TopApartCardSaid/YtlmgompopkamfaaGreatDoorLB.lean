/- Lemmas that lead to TopApart (their names made short by a program); no condition. -/
import Derived.Test.YtlmgompopkamfaaGreatDoorLA
import Derived.Orders
import Derived.RangeFuncRecord
set_option linter.all false
namespace Go.XS
section
def ki(P:Program):Prop:=∀(f:Nat) (fn:Func),P.funcs[f]?=some fn->(fn.name== "runtime.NumGoroutine")=false
section
variable {P:Program}
def va{s:Sem Value}{t:TypeId}{K:SV->HP}{σ:Heap}(h:aH P s (λv=>fm P t v λv=>K (.val v)) σ):ey P (do let v<-s;pure (.value v)) (lift K) σ:=kD (gU (λv σ h=>gn (nL h)) h)
def xO{s:Sem Unit}{K:SV->HP}{σ:Heap}(h:aH P s (λ_=>K .un) σ):ey P (do s;pure .skip) (lift K) σ:=Wu (gU (λ_ σ h=>⟨.un,rfl,h⟩) h)
def YK{t:TypeId}{a:Addr}{v:Value}{k:HP}{σ:Heap}(b:jG P t=true)(hs:v.cells.size=P.cellsOf t)(h:hJ a 0 v.cells.toList k σ):aH P (storeVar t a v) (λ_=>k) σ:=by
 obtain⟨hi,hu⟩:=px b;unfold storeVar;refine aX (pf hi ?_);have c:(decide (v.cells.size≠P.cellsOf t))=false:=by simp[hs]
 rw[aj (by simpa using hs)];exact qC _ 0 h
def Wi{t elem:TypeId}{g kc:IntKind}{l c:Int}{f:Nat->HP}{σ:Heap}(hu:P.underlying t=some (.slice elem))(h:c5 P elem l c f σ):aH P (Instr.makeSlice t (.int g l) (.int kc c)) (λv eC=>∃b,v= .slice (some ⟨b,0,none⟩) l.toNat c.toNat/\f b eC) σ:=by
 obtain⟨h0,h1,o,j,d,a,U⟩:=h;obtain⟨i,hi⟩:=h9.1 d;have p:=a;unfold hO at a;rw[hi]at a;obtain⟨z,hz⟩:=h9.1 a;have k:zc P elem=z.cells:=by simp[zc,hi,hz]
 have m:P.bytesOf elem=i.bytes:=by simp[Program.bytesOf,hi]
 have n:P.cellsOf elem=i.size:=by simp[Program.cellsOf,hi]
 have hl:IntKind.i64.wrap l=l:=IntWalk.i64_in _ (by omega);have hc:IntKind.i64.wrap c=c:=IntWalk.i64_in _ (by omega);rw[m]at j
 have t1:(decide (c<0)||decide ((i.bytes:Int)*c>2^48))=false:=by simp only[tN,hg];omega
 intro w hw;refine⟨_,{w with heap:=w.heap.push (.cells (gr (zc P elem) (c.toNat*P.cellsOf elem)) elem)},?_,⟨rfl,rfl,rfl⟩,⟨σ.size,rfl,?_⟩⟩
 ·unfold Instr.makeSlice
  simp only[Sem.run_bind,h6 hu,Result.andThen_ok,asInt,asIntOf,Sem.run_pure,typeInfo,run_program,hi,hl,hc,t1,Bool.false_or]
  have t2:(decide (l<0)||decide (l>c))=false:=by simp only[tN,hg];omega
  rw[show((decide (l<0))||decide (l>c))=false from t2];simp only[gb,ep,Sem.run_bind,run_askRoom,Result.andThen_ok,n9 d,n];by_cases e:c.toNat*i.size=0
  ·simp only[e,eb,Sem.run_pure,Result.andThen_ok,newRow,Sem.run_bind,run_newObj]
   rw[show gr (zc P elem) 0=#[]from by simp[gr],hw];simp[Array.range]
  ·simp only[e,ep,Sem.run_bind,zeroValue,typeInfo,run_program,Result.andThen_ok,hi,hz,Sem.run_pure,newRow,run_newObj]
   rw[k,hw];rfl
 ·show f σ.size (w.heap.push _)
  rw[hw];exact U
def KM{elem:TypeId}{K:SV->HP}{σ:Heap}(hz:hO P elem=true)(h:al (zc P elem) elem (λb=>K (.val (.pointer (some ⟨b,0,none⟩)))) σ):aH P (Instr.alloc elem true (.tuple #[])) (lift K) σ:=by unfold Instr.alloc;refine aX (qD hz λz a=>?_);refine aX (HS ?_);rw[a];exact cv (gn h)
def Lb{f:FuncId}(h:fW P f=true):∃fn,P.funcs[f]?=some fn/\fn.body.isSome=true:=by
 unfold fW at h
 cases hf:P.funcs[f]? with
 |none=>rw[hf]at h;cases h
 |some fn=>rw[hf]at h;exact⟨fn,rfl,h⟩
def z6(a:ki P){f:FuncId}(args:aw)(h:fW P f=true)(w:World):(callFunc f args).run P w= .ok (.enter f args) w:=by
 obtain⟨fn,hf,b⟩:=Lb h;unfold callFunc;simp only[Sem.run_bind,run_program,Result.andThen_ok,hf,a f fn hf,gb,ep];have:fn.body.isNone=false:=by cases c:fn.body<;>simp_all
 simp[this]
def aa'(c:ki P){f:Value}{args:az}{t:TypeId}{K:SV->HP}{σ:Heap}(h:CE P f args t (λv=>K (.val v)) σ):ey P (do let d<-Deferred.ofValue f args.toArray;invoke d.target d.args) (lift K) σ:=by
 have gen:ey P (do let d<-Deferred.ofValue f args.toArray;invoke d.target d.args) (λv=>fm P t v λv=>K (.val v)) σ->
   ey P (do let d<-Deferred.ofValue f args.toArray;invoke d.target d.args) (lift K) σ:=
  GN λv σ h=>gn (nL h)
 cases f
 case func fn first captured=>
  cases fn
  case func b=>
   simp only[CE,lG]at h;have ha:(first.toList++args++captured.toList).toArray=first++args.toArray++captured:=by apply gE;simp
   rw[ha]at h;unfold kn at h
   cases a:fW P b with
   |true=>
    rw[a]at h;intro w hw;refine⟨.enter b (first++args.toArray++captured),w,?_,.refl w,.inr (.inr (.inl ⟨_,_,rfl,?_⟩))⟩
    ·simp only[Deferred.ofValue,Sem.run_bind,Sem.run_pure,Result.andThen_ok,invoke]
     exact z6 c _ a w
    ·rw[hw];exact Et (λv σ h=>gn (nL h)) h
   |false=>rw[a]at h;refine gen λw hw=>?_;obtain⟨r,w',h1,e⟩:=h w hw;refine⟨r,w',?_,e⟩;simpa[Deferred.ofValue,invoke]using h1
  all_goals exact gen h
 all_goals exact gen h
def aa9{b:Builtin}{f:Array TypeId}{t:TypeId}{consts:Array Bool}{args:az}{K:SV->HP}{σ:Heap}(h:IT P b f t args (λv=>K (.val v)) σ):ey P (builtin b f t consts args.toArray) (lift K) σ:=by
 have gen:∀{s:Sem Value},aH P s (λv=>fm P t v λv=>K (.val v)) σ->ey P (do let v<-s;pure (.value v)) (lift K) σ:=λh=>va h;cases b
 case len=>
  match args,h with
  |[.slice q n c],h=>obtain⟨e,h⟩:=eW h;obtain⟨t0,g,e⟩:=xg e;obtain⟨o,he⟩:=rW e;exact tA (λw=>by simp[builtin,Builtin.len_,g,h6 he,goInt]) (gn h)
  |[.string s],h=>obtain⟨e,h⟩:=eW h;obtain⟨t0,g,e⟩:=xg e;have he:=Ii e;exact tA (λw=>by simp[builtin,Builtin.len_,g,h6 he,goInt]) (gn h)
  |[],h=>exact gen h
  |[.bool _],h|[.int _ _],h|[.float _ _],h|[.complex _ _ _],h|[.pointer _],h|[.map _],h|[.chan _],h|[.func _ _ _],h
  |[.nilFunc],h|[.iface _ _],h|[.nilIface],h|[.agg _],h|[.tuple _],h=>exact gen h
  |_::_::_,h=>rename_i a b r;cases a<;>exact gen h
 case cap=>
  match args,h with
  |[.slice q n c],h=>exact gen h
  |[],h=>exact h.elim
  |[.bool _],h|[.int _ _],h|[.float _ _],h|[.complex _ _ _],h|[.pointer _],h|[.map _],h|[.chan _],h|[.func _ _ _],h
  |[.nilFunc],h|[.iface _ _],h|[.nilIface],h|[.agg _],h|[.tuple _],h|[.string _],h=>exact h.elim
  |_::_::_,h=>rename_i a b r;cases a<;>exact h.elim
 case max=>
  match args,h with
  |[],h=>exact gen h
  |[a],h=>cases a<;>exact gen h
  |[a,b],h=>
   cases a<;>cases b<;>first|exact gen h|skip
   rename_i k x k' y;exact tA (λw=>by simp[builtin,Gx]) (gn h)
  |a::b::c::r,h=>cases a<;>cases b<;>exact gen h
 case min=>
  match args,h with
  |[],h=>exact gen h
  |[a],h=>cases a<;>exact gen h
  |[a,b],h=>
   cases a<;>cases b<;>first|exact gen h|skip
   rename_i k x k' y;exact tA (λw=>by simp[builtin,GH]) (gn h)
  |a::b::c::r,h=>cases a<;>cases b<;>exact gen h
 case append=>
  match args,h with
  |[.slice p l c,.slice q m d],h=>refine kD (gU (λv σ h=>?_) (show aH P (Builtin.append_ f t #[.slice p l c,.slice q m d]) _ σ from h));obtain⟨i,j,c',rfl,h⟩:=h;exact gn h
  |[],h=>exact gen h
  |[a],h=>cases a<;>exact gen h
  |a::b::c::r,h=>cases a<;>cases b<;>exact gen h
  |[a,b],h=>
   cases a
   case slice=>
    cases b
    case slice=>refine kD (gU (λv σ h=>?_) (show aH P (Builtin.append_ f t #[_,_]) _ σ from h));obtain⟨i,j,c',rfl,h⟩:=h;exact gn h
    all_goals exact gen h
   all_goals exact gen h
 case copy=>exact gen h
 case clear=>exact gen h
 case delete=>exact gen h
 all_goals exact h.elim
def abd{e:Env}{ρ:Operand->Value}{o:Oper}{K:SV->HP}{σ:Heap}(a:∀x v,ev e x=some v->ρ x=v.cd)(h:vX P e o K σ):ey P (execOp ρ o) (lift K) σ:=by obtain⟨b,c,U⟩:=IV a h;exact tA c ⟨b,rfl,U⟩
def IU(C:ki P){e:Env}{ρ:Operand->Value}{o:Oper}{K:SV->HP}{σ:Heap}(g:∀x v,ev e x=some v->ρ x=v.cd)(h:og P e o K σ):ey P (execOp ρ o) (lift K) σ:=by
 obtain⟨dst,op,ty,pos,after,guard⟩:=o;cases op<;>simp only[og]at h<;>first|exact abd g h|skip
 case alloc elem=>obtain⟨hz,h⟩:=eW h;exact kD (KM hz h)
 case box elem x=>have h:=dC g h;apply kD;unfold Instr.box;refine aX (HS ?_);exact cv (gn h)
 case buildSlice t len parts=>
  cases q:partsOf e parts.toList with
  |none=>rw[q]at h;exact h.elim
  |some ps=>
   cases hu:P.underlying t with
   |none=>rw[q,hu]at h;exact h.elim
   |some d=>
    rw[q,hu]at h;cases d<;>(try simp only at h)<;>first|exact h.elim|skip
    obtain⟨aM,h⟩:=eW h;have D:=Bw g _ _ q
    have he:parts.map (λ(i,x)=>(i,ρ x))=ps.toArray:=by rw[<-D];apply gE;simp
    simp only[execOp];rw[he];refine kD (gU ?_ (Lq hu aM h));rintro v σ ⟨b,rfl,U⟩;exact gn U
 case load t x=>
  have h:=dC g h;cases j:ρ x<;>rw[j]at h<;>(try simp only at h)<;>first|exact h.elim|skip
  obtain⟨a,rfl,h⟩:=oO h;obtain⟨A,h⟩:=eW h;simp only[execOp];apply kD;unfold Instr.loadAt;refine aX (dD a (λw _=>by simp[Instr.sureAddr,j]) ?_);exact gU (λv σ h=>gn h) (YH A h)
 case store t x y=>
  have h:=dC g (dC g h);cases j:ρ x<;>rw[j]at h<;>(try simp only at h)<;>first|exact h.elim|skip
  obtain⟨a,rfl,h⟩:=oO h;obtain⟨A,h⟩:=eW h
  have z:(ρ y).cells.size=P.cellsOf t/\hJ a 0 (ρ y).cells.toList (K .un) σ:=by
   have E:∀u:Value,u.cells=#[u]->Cb a u (P.cellsOf t) (K .un) σ->u.cells.size=P.cellsOf t/\hJ a 0 u.cells.toList (K .un) σ:=by
    intro u hu h;unfold Cb at h
    cases B:Nat.beq (P.cellsOf t) 1 with
    |false=>rw[B]at h;exact h.elim
    |true=>rw[B]at h;rw[hu,lM B];exact⟨rfl,h⟩
   cases F:ρ y<;>rw[F]at h
   case agg cs=>exact⟨h.1,h.2⟩
   all_goals exact E _ rfl h
  simp only[execOp];apply xO;unfold Instr.storeAt;refine aX (dD a (λw _=>by simp[Instr.sureAddr,j]) ?_);exact YK A z.1 z.2
 case binOp op t x y G=>
  have h:=dC g (dC g h);simp only[execOp];apply kD
  have z:aH P (do eqGuard op t x y (ρ x) (ρ y);binOp op t (ρ x) (ρ y)) (λv=>fm P ty v λv=>K (.val v)) σ\/
    qJ P op t (ρ x) (ρ y) (λv=>K (.val v)) (aH P (do eqGuard op t x y (ρ x) (ρ y);binOp op t (ρ x) (ρ y)) λv=>fm P ty v λv=>K (.val v)) σ:=by
   revert h;cases TK.of P t<;>intro h<;>first|exact .inr h|exact .inl h
  rcases z with h|h
  ·exact gU (λv σ h=>gn (nL h)) h
  rcases aa8 h with h|h
  ·obtain⟨v,hr,U⟩:=IS h
   exact dD v (λw _=>hr w) (gn U)
  ·exact gU (λv σ h=>gn (nL h)) h
 case convert src dst x=>
  have h:=dC g h;simp only[execOp];have gen:aH P (convert src dst (ρ x)) (λv=>fm P dst v λv=>K (.val v)) σ->ey P (do let v<-convert src dst (ρ x);pure (.value v)) (lift K) σ:=λh=>va h
  cases hd:P.underlying dst with
  |none=>rw[hd]at h;exact gen h
  |some d=>
   rw[hd]at h;cases d
   case int k=>
    cases j:ρ x
    case int k' n=>rw[j]at h;obtain⟨hs,h⟩:=eW h;obtain⟨s,hs⟩:=h9.1 hs;refine tA (λw=>?_) (gn h);unfold convert;simp only[Sem.run_bind,h6 hs,h6 hd,Result.andThen_ok];rfl
    all_goals (rw[j]at h gen;exact gen h)
   all_goals exact gen h
 case makeMap t r=>
  cases r with
  |none=>simp only[execOp,zq,Instr.makeMap];intro w hw;refine⟨.value (.map (some w.heap.size)),{w with heap:=w.heap.push (.map #[] 0)},by simp,⟨rfl,rfl,rfl⟩,.inl ⟨_,rfl,?_⟩⟩;have h:K (.val (.map (some σ.size))) (σ.push (.map #[] 0)):=h;subst hw;exact gn h
  |some x=>have h:=dC g h;exact va h
 case makeSlice t l c=>
  have h:=dC g (dC g h)
  cases hu:P.underlying t with
  |none=>rw[hu]at h;exact h.elim
  |some d=>
   rw[hu]at h;cases d<;>(try simp only at h)<;>first|exact h.elim|skip
   cases hl:ρ l<;>rw[hl]at h<;>(try simp only at h)<;>first|exact h.elim|skip
   cases hc:ρ c<;>rw[hc]at h<;>(try simp only at h)<;>first|exact h.elim|skip
   simp only[execOp,hl,hc];refine kD (gU ?_ (Wi hu h));rintro v σ ⟨b,rfl,U⟩;exact gn U
 case lookup t x i ok=>have h:=dC g (dC g h);exact va h
 case mapUpdate t m k x=>have h:=dC g (dC g (dC g h));exact xO h
 case insert t m k x=>have h:=dC g (dC g (dC g h));exact xO h
 case mapEntry t m k=>have h:=dC g (dC g h);exact kD (gU (λv σ ⟨x,n,e,h⟩=>by subst e;exact gn h) h)
 case entryStore t m s x=>have h:=dC g (dC g (dC g h));exact xO h
 case range t x=>have h:=dC g h;exact kD (gU (λv σ ⟨p,e,h⟩=>by subst e;exact gn h) h)
 case next it s=>
  have h:=dC g h;refine kD (gU (λv σ h=>?_) h);rcases h with⟨rfl,h⟩|⟨k,x,rfl,h⟩
  ·exact gn h
  ·exact⟨.nx k x,rfl,h⟩
 case entry it=>have h:=dC g h;refine kD (gU (λv σ h=>?_) h);obtain⟨k,x,rfl,h⟩:=h;exact⟨.en k x,rfl,h⟩
 case makeInterface t x=>
  have h:=dC g h;obtain⟨hc,h⟩:=eW h;refine kD (dD (.iface t (ρ x)) (λw _=>?_) (gn h));unfold ES at hc
  cases hu:P.underlying t with
  |none=>rw[hu]at hc;cases hc
  |some d=>rw[hu]at hc;unfold Instr.makeInterface;simp only[Sem.run_bind,h6 hu,Result.andThen_ok];cases d<;>first|rfl|cases hc
 case typeAssert x t u ok=>have h:=dC g h;exact va h
 case call c=>
  have h:=yL g h;obtain⟨callee,args,argTypes⟩:=c;simp only at h;have key:args.map ρ=(args.toList.map ρ).toArray:=by apply gE;simp
  cases callee with
  |value f=>have h:=dC g h;have:=aa' C h;simp only[execOp,resolve];rw[key];exact this
  |builtin b=>simp only[execOp,resolve,pure_bind,invoke];rw[key];exact aa9 h
  |invoke r n=>have h:=dC g h;simp only[execOp,resolve,pure_bind];rw[key];exact GN (λv σ h=>gn (nL h)) h
end
end
section
section
variable {P:Program}{ops:Array Oper}{md:Region.Mode}
def FW:Option Nat->Fence
 |none=> .wide
 |some l=>Fence.wide.inRound l
def wA(ro:Option Nat)(f:FuncId):(FW ro).fn f:=by cases ro<;>trivial
def Dq(ro:Option Nat):(FW ro).depth=none:=by cases ro<;>rfl
def Jo(ro:Option Nat):(FW ro).round=ro:=by cases ro<;>rfl
def Dp{ro:Option Nat}{n:Nat}{f:FuncId}{args:aw}{w:World}{R:Ending->World->Prop}(h:Calls P f args w R):CallsIn (FW ro) n P f args w R:=by
 have h:=(callsIn_wide (n:=n)).2 h
 cases ro with
 |none=>exact h
 |some l=>exact h
def Jp{ro:Option Nat}{n:Nat}{l:Nat}{f:FuncId}{ts:aw}{a body:Code}{w:World}{R:Ending->World->Prop}(h:RoundIn Fence.wide 0 P l f ts a body w R):RoundIn (FW ro) n P l f ts a body w R:=by
 have h:RoundIn Fence.wide n P l f ts a body w R:=⟨trivial,λc cs _=>h.2 c cs (room_wide _)⟩
 cases ro with
 |none=>exact h
 |some k=>exact h
def vS(P:Program)(o:Oper)(a:Act)(next:Act->World->Prop):Result Next->Prop
 | .ok (.value v) w'=>next (a.put o.dst v) w'
 | .ok .skip w'=>next (a.put o.dst undef) w'
 | .ok (.enter f args) w'=>Calls P f args w' λe pA=>∃v,e= .returned v/\next (a.put o.dst v) pA
 | .ok (.round l f ts b body) w'=>RoundIn Fence.wide 0 P l f ts b body w' λe pA=>∃v,e= .returned v/\next (a.put o.dst v) pA
 |_=>False
def tK(P:Program)(o:Oper)(a:Act)(w:World)(next:Act->World->Prop):Prop:=(∀c,o.op≠ .defer c)/\vS P o a next ((execOp a.eval o).run P w)
def lF(P:Program)(ops:Array Oper)(i:Nat)(K:Act->World->Prop)(a:Act)(w:World):Prop:=
 match ops[i]? with
 |none=>K a w
 |some o=>if Region.wanted o (yielded ops a.tmps)then tK P o a w K else K (a.put o.dst undef) w
def IN{ro:Option Nat}{o:Oper}{a:Act}{w:World}{K b:Act->World->Prop}{Q:Exit->Act->World->Prop}(U:∀a w,K a w->b a w)(h:tK P o a w K):o.wpIn (FW ro) 0 P a w b Q:=by
 obtain⟨hd,h⟩:=h;refine⟨λf _=>wA ro f,?_⟩;rw[Jo,Oper.semAt_eq _ _ _ hd];generalize(execOp a.eval o).run P w=r at*
 cases r with
 |ok n w'=>
  cases n<;>simp only[vS]at h<;>first|exact h.elim|skip
  case value v=>exact U _ _ h
  case skip=>exact U _ _ h
  case enter f args=>rw[Oper.uponIn_enter];refine⟨λh=>(by rw[Dq]at h;cases h),CallsIn.mono (Dp h) ?_⟩;rintro e w2 ⟨v,rfl,h⟩;exact U _ _ h
  case round l f ts c body=>rw[Oper.uponIn_round];refine⟨λh=>(by rw[Dq]at h;cases h),RoundIn.mono (Jp h) ?_⟩;rintro e w2 ⟨v,rfl,h⟩;exact U _ _ h
 |halt x w'=>cases x<;>exact h.elim
def aa1{o:Oper}{a:Act}{w:World}{K c:Act->World->Prop}(U:∀a w,K a w->c a w)(h:tK P o a w K):tK P o a w c:=by
 obtain⟨hd,h⟩:=h;refine⟨hd,?_⟩;generalize(execOp a.eval o).run P w=r at*
 cases r with
 |ok n w'=>
  cases n<;>simp only[vS]at h⊢<;>first|exact h.elim|skip
  case value v=>exact U _ _ h
  case skip=>exact U _ _ h
  case enter f args=>exact Calls.mono h λe w2 ⟨v,b,h⟩=>⟨v,b,U _ _ h⟩
  case round l f ts d body=>exact RoundIn.mono h λe w2 ⟨v,b,h⟩=>⟨v,b,U _ _ h⟩
 |halt x w'=>cases x<;>exact h.elim
def IK{i:Nat}{a:Act}{w:World}{K b:Act->World->Prop}(U:∀a w,K a w->b a w)(h:lF P ops i K a w):lF P ops i b a w:=by
 unfold lF at*;split
 ·exact U _ _ (by simpa[*]using h)
 ·rename_i o c
  simp only[c]at h;split
  ·rename_i hw;simp only[hw,eb]at h;exact aa1 U h
  ·rename_i hw;simp only[hw]at h;exact U _ _ h
def aaZ{ro:Option Nat}{i:Nat}{a:Act}{w:World}{K b:Act->World->Prop}{Q:Exit->Act->World->Prop}(U:∀a w,K a w->b a w)(h:lF P ops i K a w):wpOpIn (FW ro) 0 P ops Q i b a w:=by
 unfold lF at h;unfold wpOpIn;split
 ·exact U _ _ (by simpa[*]using h)
 ·rename_i o c
  simp only[c]at h;split
  ·rename_i hw;simp only[hw,eb]at h;exact IN U h
  ·rename_i hw;simp only[hw]at h;exact⟨λf _=>wA ro f,U _ _ h⟩
abbrev pN:=List (Nat×(Heap->Prop))
def r2(P:Program)(md:Region.Mode)(ops:Array Oper)(N:Act->World->Prop)(dep:Nat->Nat->Bool)(H:pN):Nat->Array Bool->Act->World->Prop
 |0,listed,a,w=>Region.ready md ops listed=[]/\N a w
 |fuel+1,listed,a,w=>
  (Region.ready md ops listed=[]->N a w)/\
  ∀i∈Region.ready md ops listed,lF P ops i (λa' w'=>(∀p∈H,dep i p.1=false->p.2 w.heap->p.2 w'.heap)/\r2 P md ops N dep H fuel (listed.setIfInBounds i true) a' w') a w
def CC{N:Act->World->Prop}{dep:Nat->Nat->Bool}{H H':pN}(b:∀p∈H',p∈H):∀(fuel:Nat) (listed:Array Bool) (a:Act) (w:World),r2 P md ops N dep H fuel listed a w->r2 P md ops N dep H' fuel listed a w
 |0,_,_,_,h=>h
 |fuel+1,listed,a,w,h=>⟨h.1,λi hi=>IK (λa' w' c=>⟨λp d=>c.1 p (b p d),CC b fuel _ _ _ c.2⟩) (h.2 i hi)⟩
def IJ{ro:Option Nat}{N:Act->World->Prop}{Q:Exit->Act->World->Prop}(b:∀a w,N a w->Q .normal a w){dep:Nat->Nat->Bool}{H:pN}:∀(fuel:Nat) (listed:Array Bool) (a:Act) (w:World),r2 P md ops N dep H fuel listed a w->wpAnyIn (FW ro) 0 P md ops Q fuel listed a w
 |0,_,_,_,h=>⟨h.1,b _ _ h.2⟩
 |fuel+1,listed,a,w,h=>⟨λhr=>b _ _ (h.1 hr),λi hi=>aaZ (λa' w' c=>IJ b fuel _ _ _ c.2) (h.2 i hi)⟩
def mG(P:Program)(ops:Array Oper)(I:Heap->Prop)(o:Oper)(v:Value)(a:Act):Prop:=
 (Region.wanted o (yielded ops a.tmps)=true/\∀w:World,I w.heap->(execOp a.eval o).run P w= .ok (.value v) w)\/
 (Region.wanted o (yielded ops a.tmps)=false/\v=undef)
def mG.wpOp{i:Nat}{o:Oper}{v:Value}{a:Act}{I:Heap->Prop}(hi:ops[i]?=some o)(hd:∀c,o.op≠ .defer c)(b:mG P ops I o v a){K:Act->World->Prop}{w:World}(d:I w.heap)(h:K (a.put o.dst v) w):lF P ops i K a w:=by
 unfold lF;simp only[hi];rcases b with⟨hw,e⟩|⟨hw,rfl⟩
 ·simp only[hw,eb,tK,e w d,vS];exact⟨hd,h⟩
 ·simp only[hw,gb,ep];exact h
def mG.of_same{o:Oper}{v:Value}{a a':Act}{I:Heap->Prop}(b:mG P ops I o v a)(he:execOp a'.eval o=execOp a.eval o)(hw:Region.wanted o (yielded ops a'.tmps)=Region.wanted o (yielded ops a.tmps)):mG P ops I o v a':=by unfold mG at*;rw[he,hw];exact b
def aa0{j:Nat}{c d:Oper}{v:Value}{I:Heap->Prop}(o:ops[j]?=some d)(p:c.apart ops d=true)(q:∀cs b,c.op≠ .select cs b)(s:∀cs b,d.op≠ .select cs b){K:Act->World->Prop}{a:Act}{w:World}(g:mG P ops I c v a)(h:lF P ops j K (a.put c.dst v) w):lF P ops j (λa' w'=>mG P ops I c v a'/\K (a'.put c.dst v) w') a w:=by
 obtain⟨h1,i,m⟩:=Oper.apart_spec p
 have k:∀(a:Act),mG P ops I c v a->∀u,mG P ops I c v (a.put d.dst u):=λa g u=>g.of_same (execOp_put c q a d.dst u m) (wanted_put c a d.dst u m)
 unfold lF at*;simp only[o]at*;rw[wanted_put d a c.dst v h1]at h;split
 ·rename_i hw
  simp only[hw,eb]at h;obtain⟨hd,h⟩:=h;refine⟨hd,?_⟩;rw[execOp_put d s a c.dst v h1]at h;generalize(execOp a.eval d).run P w=r at*
  cases r with
  |ok n w'=>
   cases n<;>simp only[vS]at h⊢
   case value u=>exact⟨k a g u,by rw[<-Act.put_comm a v u i];exact h⟩
   case skip=>exact⟨k a g _,by rw[<-Act.put_comm a v undef i];exact h⟩
   case enter f args=>refine Calls.mono h λe pA he=>?_;obtain⟨u,rfl,he⟩:=he;exact⟨u,rfl,k a g u,by rw[<-Act.put_comm a v u i];exact he⟩
   case round l f ts t body=>refine RoundIn.mono h λe pA he=>?_;obtain⟨u,rfl,he⟩:=he;exact⟨u,rfl,k a g u,by rw[<-Act.put_comm a v u i];exact he⟩
  |halt x w'=>cases x<;>exact h.elim
 ·rename_i hw
  simp only[hw]at h;exact⟨k a g _,by rw[<-Act.put_comm a v undef i];exact h⟩
def ud(md:Region.Mode)(ops:Array Oper)(dep:Nat->Nat->Bool):Prop:=
 ∀j i o,ops[j]?=some o->dep j i=true->∃e∈o.after,Region.binds md e=true/\(e.on=i\/dep e.on i=true)
def sj(dep:Nat->Nat->Bool)(listed:Array Bool):Prop:=∀j,listed.getD j false=true->∀i,dep j i=true->listed.getD i false=true
def E0{dep:Nat->Nat->Bool}(hd:ud md ops dep){listed:Array Bool}(hc:sj dep listed){j i:Nat}(c:j∈Region.ready md ops listed)(h:dep j i=true):listed.getD i false=true:=by
 obtain⟨h0,o,d,a⟩:=mem_ready.1 c;obtain⟨e,he,b,h⟩:=hd j i o d h;rcases h with rfl|h
 ·exact a e he b
 ·exact hc _ (a e he b) i h
def sj.set{dep:Nat->Nat->Bool}(hd:ud md ops dep){listed:Array Bool}(hc:sj dep listed){j:Nat}(b:j∈Region.ready md ops listed):sj dep (listed.setIfInBounds j true):=by
 intro k U i hi;by_cases a:k=j
 ·subst a
  exact getD_set_true (E0 hd hc b hi)
 ·rw[getD_set_ne false (Ne.symm a)]at U
  exact getD_set_true (hc k U i hi)
def yQ{N:Act->World->Prop}{dep:Nat->Nat->Bool}{H:pN}{i:Nat}{g:Oper}{v:Value}{I:Heap->Prop}(hd:ud md ops dep)(hi:ops[i]?=some g)(y:∀(j:Nat) (o:Oper) cs b,ops[j]?=some o->o.op≠ .select cs b)(z:∀(j:Nat) (o:Oper) c,ops[j]?=some o->o.op≠ .defer c):∀(fuel:Nat) (listed:Array Bool) (a:Act) (w:World),sj dep listed->(∀j f,ops[j]?=some f->j≠i->listed.getD j true=false->(∀e∈f.after,Region.binds md e=true->e.on≠i)->g.apart ops f=true)->i∈Region.ready md ops listed->mG P ops I g v a->I w.heap->r2 P md ops N dep ((i,I)::H) fuel (listed.setIfInBounds i true) (a.put g.dst v) w->r2 P md ops N dep H (fuel+1) listed a w:=by
 intro fuel
 induction fuel with
 |zero=>
  intro listed a w hc _ hr r s n;refine⟨λh=>(by rw[h]at hr;cases hr),λj l=>?_⟩;by_cases d:j=i
  ·subst d;exact r.wpOp hi (λc=>z _ _ c hi) s ⟨λ_ _ _ h=>h,CC (λp q=>iw _ q) _ _ _ _ n⟩
  ·have:=ready_mono l d
   rw[n.1]at this;cases this
 |succ fuel D=>
  intro listed a w hc A hr r s n;refine⟨λh=>(by rw[h]at hr;cases hr),λj l=>?_⟩;by_cases d:j=i
  ·subst d;exact r.wpOp hi (λc=>z _ _ c hi) s ⟨λ_ _ _ h=>h,CC (λp q=>iw _ q) _ _ _ _ n⟩
  ·have h1:=n.2 j (ready_mono l d)
   obtain⟨B,f,u,E⟩:=mem_ready.1 l
   have m:listed.getD i false=false:=by
    have h0:=(mem_ready.1 hr).1;rcases wt i listed.size with x|x
    ·simp[x]at h0⊢;exact h0
    ·simp[y0 x]
   have hy:∀e∈f.after,Region.binds md e=true->e.on≠i:=λe he F heq=>by have h1:=E e he F;rw[heq,m]at h1;cases h1
   have G:dep j i=false:=by
    cases J:dep j i with
    |false=>rfl
    |true=>rw[E0 hd hc l J]at m;cases m
   have K:=aa0 u (A j f u d B hy) (λcs b=>y i g cs b hi) (λcs b=>y j f cs b u) r h1
   have L:∀k ok,ops[k]?=some ok->k≠i->(listed.setIfInBounds j true).getD k true=false->
     (∀e∈ok.after,Region.binds md e=true->e.on≠i)->g.apart ops ok=true:=λk ok U M m O=>by
    refine A k ok U M ?_ O;by_cases C:j=k
    ·subst C;exact B
    ·rw[getD_set_ne true C]at m;exact m
   refine IK (λa' w' t=>⟨λp q=>t.2.1 p (iw _ q),?_⟩) K;apply D (listed.setIfInBounds j true) a' w' (hc.set hd l) L (ready_mono hr (Ne.symm d)) t.1 (t.2.1 (i,I) (by simp) G s);rw[Array.setIfInBounds_comm _ _ d];exact t.2.2
inductive Md where
 |pure|load|ax (jS:List Nat)
inductive fy where
 |done
 |step (i:Nat) (m:Md) (r:fy)
 |fork (i:Nat) (ci:List Nat) (ri:fy) (j:Nat) (k3:List Nat) (rj:fy)
 |uN (i:Nat) (ci:List Nat) (ri:fy) (j:Nat) (k3:List Nat) (rj:fy) (k:Nat) (ck:List Nat) (rk:fy)
abbrev fy.s(i:Nat)(m:Md)(r:fy):fy:= .step i m r
abbrev fy.d:fy:= .done
abbrev Md.l:Md:= .load
abbrev fy.l(i:Nat)(r:fy):fy:= .step i .load r
def c7(I:Heap->Prop)(p:HP):HP:=λσ=>I σ/\p σ
def ju(jS:List Nat):pN->HP->HP
 |[],p=>p
 |(i,I)::H,p=>match jS.contains i with
  |true=>c7 I (ju jS H p)
  |false=>ju jS H p
def bM(e:Env)(d:Option Nat)(v:SV):Env:=match d with
 |none=>e
 |some d=>λt=>match Nat.beq t d with|true=>some v|false=>e t
def oe(ops:Array Oper)(e:Env)(o:Oper)(yes no:Env->HP):HP:=
 match o.guard with
 |none=>yes e
 |some (j,want)=>
  match(ops[j]?).bind (·.dst)with
  |none=>F
  |some d=>
   match e d with
   |some (.kb true)=>match want with|true=>yes e|false=>no e
   |some (.kb false)=>match want with|true=>no e|false=>yes e
   |some (.val (.bool t))=>
    match want with
    |true=>ae t (yes (bM e (some d) (.kb true))) (no (bM e (some d) (.kb false)))
    |false=>ae t (no (bM e (some d) (.kb true))) (yes (bM e (some d) (.kb false)))
   |some .un=>no e
   |_=>F
def TK.held:TK->Addr->Nat->Value->Heap->Prop
 | .agg,a,n,v,σ=>∃cs,v= .agg cs/\cs.size=n/\∀i,i<n->b0 σ (a.add i)=cs[i]?
 |_,a,_,v,σ=>b0 σ a=some v
def CF(P:Program)(e:Env)(o:Oper)(K:SV->(Heap->Prop)->HP):HP:=
 match o.op with
 | .load t x=>dv e x λv=>match v with
  | .pointer p=>ay p λa=>eI (jG P t) ((TK.of P t).ld a (P.cellsOf t) λv=>K (.val v) ((TK.of P t).held a (P.cellsOf t) v))
  |_=>F
 |_=>F
def hN(P:Program)(ops:Array Oper):fy->pN->Env->(Env->HP)->HP
 | .done,_,e,K=>K e
 | .step i m r,H,e,K=>
  match ops[i]? with
  |none=>F
  |some o=>oe ops e o
   (λe=>match m with
    | .pure=>vX P e o λv=>hN P ops r ((i,λ_=>True)::H) (bM e o.dst v) K
    | .load=>CF P e o λv I=>hN P ops r ((i,I)::H) (bM e o.dst v) K
    | .ax jS=>og P e o λv=>ju jS H (hN P ops r H (bM e o.dst v) K))
   (λe=>match m with
    | .ax jS=>ju jS H (hN P ops r H (bM e o.dst .un) K)
    |_=>hN P ops r ((i,λ_=>True)::H) (bM e o.dst .un) K)
 | .fork i ci ri j k3 rj,H,e,K=>λσ=>
  (match ops[i]? with
  |none=>F
  |some o=>oe ops e o
   (λe=>og P e o λv=>ju ci H (hN P ops ri H (bM e o.dst v) K))
   λe=>ju ci H (hN P ops ri H (bM e o.dst .un) K)) σ/\
  (match ops[j]? with
  |none=>F
  |some o=>oe ops e o
   (λe=>og P e o λv=>ju k3 H (hN P ops rj H (bM e o.dst v) K))
   λe=>ju k3 H (hN P ops rj H (bM e o.dst .un) K)) σ
 | .uN i ci ri j k3 rj k ck rk,H,e,K=>λσ=>
  (match ops[i]? with
  |none=>F
  |some o=>oe ops e o
   (λe=>og P e o λv=>ju ci H (hN P ops ri H (bM e o.dst v) K))
   λe=>ju ci H (hN P ops ri H (bM e o.dst .un) K)) σ/\
  (match ops[j]? with
  |none=>F
  |some o=>oe ops e o
   (λe=>og P e o λv=>ju k3 H (hN P ops rj H (bM e o.dst v) K))
   λe=>ju k3 H (hN P ops rj H (bM e o.dst .un) K)) σ/\
  (match ops[k]? with
  |none=>F
  |some o=>oe ops e o
   (λe=>og P e o λv=>ju ck H (hN P ops rk H (bM e o.dst v) K))
   λe=>ju ck H (hN P ops rk H (bM e o.dst .un) K)) σ
def mK(cW:List Nat)(j i:Nat):Bool:=(cW.getD j 0).testBit i
def Cf(ops:Array Oper)(cW:List Nat):Bool:=
 cW.length==ops.size&&(List.range ops.size).all λj=>match ops[j]? with
  |some o=>cW.getD j 0==o.after.toList.foldl (λs e=>if Region.binds .any e then s|||2^e.on|||cW.getD e.on 0 else s) 0
  |none=>true
def jE(ops:Array Oper)(cW:List Nat):fy->List Nat->Array Bool->Bool
 | .done,_,listed=>(Region.ready .any ops listed).isEmpty
 | .step i m r,ls,listed=>
  match m with
  | .ax jS=>Region.ready .any ops listed==[i]&&ls.all (λp=>mK cW i p||jS.contains p)&&jE ops cW r ls (listed.setIfInBounds i true)
  | .load=>(Region.ready .any ops listed).contains i&&Region.free .any ops listed i&&jE ops cW r (i::ls) (listed.setIfInBounds i true)
  | .pure=>(Region.ready .any ops listed).contains i&&Region.free .any ops listed i&&jE ops cW r ls (listed.setIfInBounds i true)
 | .fork i ci ri j k3 rj,ls,listed=>
  Region.ready .any ops listed==[i,j]&&ls.all (λp=>mK cW i p||ci.contains p)&&ls.all (λp=>mK cW j p||k3.contains p)&&
   jE ops cW ri ls (listed.setIfInBounds i true)&&jE ops cW rj ls (listed.setIfInBounds j true)
 | .uN i ci ri j k3 rj k ck rk,ls,listed=>
  Region.ready .any ops listed==[i,j,k]&&ls.all (λp=>mK cW i p||ci.contains p)&&ls.all (λp=>mK cW j p||k3.contains p)&&ls.all (λp=>mK cW k p||ck.contains p)&&
   jE ops cW ri ls (listed.setIfInBounds i true)&&jE ops cW rj ls (listed.setIfInBounds j true)&&jE ops cW rk ls (listed.setIfInBounds k true)
def fy.len:fy->Nat
 | .done=>0
 | .step _ _ r=>r.len+1
 | .fork _ _ ri _ _ rj=>max ri.len rj.len+1
 | .uN _ _ ri _ _ rj _ _ rk=>max ri.len (max rj.len rk.len)+1
def vd(ops:Array Oper):Bool:=ops.toList.all λo=>match o.op with| .defer _=>false|_=>true
def Ww(h:vd ops=true)(j:Nat)(o:Oper)(c:Call)(a:ops[j]?=some o):o.op≠ .defer c:=by
 intro e;simp only[vd,iq]at h;have hm:o∈ops.toList:=by simpa using oi a
 have:=h o hm;rw[e]at this;cases this
def BL(ops:Array Oper)(cW:List Nat)(s:fy):Bool:=
 Region.noSelect ops&&vd ops&&Cf ops cW&&decide (s.len<=ops.size)&&jE ops cW s [] (Array.replicate ops.size false)
def FE(f:Edge->Bool)(g:Edge->Nat)(i:Nat):∀(l:List Edge) (s:Nat),(l.foldl (λs e=>if f e then s|||2^e.on|||g e else s) s).testBit i=true->s.testBit i=true\/∃e∈l,f e=true/\(e.on=i\/(g e).testBit i=true)
 |[],s,h=> .inl h
 |e::l,s,h=>by
  rcases FE f g i l _ h with h|⟨a,b,h⟩
  ·simp only at h
   split at h
   ·rename_i hf
    simp only[Nat.testBit_or,tO,Dh,bJ]at h;rcases h with(h|h)|h
    ·exact .inl h
    ·exact .inr ⟨e,by simp,hf,.inl h⟩
    ·exact .inr ⟨e,by simp,hf,.inr h⟩
   ·exact .inl h
  ·exact .inr ⟨a,by simp[b],h⟩
def aaa{cW:List Nat}(h:Cf ops cW=true):ud .any ops (mK cW):=by
 intro j i o a hd;simp only[Cf,cg,iq,ou]at h;have b:=(gF.1 a).1;have h1:=h.2 j b;rw[a]at h1;simp only[hQ]at h1;unfold mK at hd;rw[h1]at hd;rcases FE _ _ i _ _ hd with h|⟨e,he,c,h⟩
 ·simp at h
 ·exact⟨e,by simpa using he,c,h⟩
structure dF(n:Nat)(e:Env)(a:Act):Prop where
 size:a.tmps.size=n
 val:∀t v,e t=some v->a.tmps.getD t undef=v.cd
def dF.ev{n:Nat}{e:Env}{a:Act}(h:dF n e a):∀x v,ev e x=some v->a.eval x=v.cd:=by
 intro x v b
 cases x with
 |tmp t=>exact h.val t v b
 |const c=>cases c<;>simp only[XS.ev,iR]at b<;>subst b<;>rfl
 |global g=>simp only[XS.ev,iR]at b;subst b;rfl
 |func f=>simp only[XS.ev,iR]at b;subst b;rfl
def dF.put{n:Nat}{e:Env}{a:Act}(h:dF n e a){d:Option Nat}(hd:∀t,d=some t->t<n)(v:SV):dF n (bM e d v) (a.put d v.cd):=by
 cases d with
 |none=>exact h
 |some d=>
  have c:=hd d rfl;refine⟨by simp[Act.put,h.size],λt u hu=>?_⟩;simp only[bM]at hu
  cases b:Nat.beq t d with
  |true=>rw[b]at hu;simp only[iR]at hu;subst hu;obtain rfl:=lM b;simp[Act.put,h.size,c]
  |false=>
   rw[b]at hu;have f:d≠t:=λhe=>by subst he;simp at b
   have:=h.val t u hu;simp only[Act.put,oh,vY f]at this⊢;exact this
def dF.oY{n:Nat}{e:Env}{a:Act}(h:dF n e a){d:Nat}{b:Bool}(f:a.tmps.getD d undef= .bool b):dF n (bM e (some d) (.kb b)) a:=by
 refine⟨h.size,λt u hu=>?_⟩;simp only[bM]at hu
 cases c:Nat.beq t d with
 |true=>rw[c]at hu;simp only[iR]at hu;subst hu;obtain rfl:=lM c;exact f
 |false=>rw[c]at hu;exact h.val t u hu
def IX{a:Act}{j d:Nat}{b:Bool}(f:(ops[j]?).bind (·.dst)=some d)(c:a.tmps.getD d undef= .bool b):yielded ops a.tmps j=some b:=by
 unfold yielded;rw[f];simp only[Di]
 cases e:a.tmps[d]? with
 |none=>simp[oh,e,undef]at c
 |some v=>simp[oh,e]at c;subst c;rfl
def abf{a:Act}{j d:Nat}(c:(ops[j]?).bind (·.dst)=some d)(b:a.tmps.getD d undef=undef):yielded ops a.tmps j=none:=by
 unfold yielded;rw[c];simp only[Di]
 cases e:a.tmps[d]? with
 |none=>rfl
 |some v=>simp[oh,e]at b;subst b;rfl
def yU{n:Nat}{e:Env}{a:Act}{o:Oper}{yes no:Env->HP}{σ:Heap}(c:dF n e a)(h:oe ops e o yes no σ):(∃g,dF n g a/\Region.wanted o (yielded ops a.tmps)=true/\yes g σ)\/(∃g,dF n g a/\Region.wanted o (yielded ops a.tmps)=false/\no g σ):=by
 unfold oe at h;unfold Region.wanted
 cases l:o.guard with
 |none=>rw[l]at h;exact .inl ⟨e,c,rfl,h⟩
 |some p=>
  obtain⟨j,want⟩:=p;rw[l]at h;simp only at h⊢
  cases i:(ops[j]?).bind (·.dst)with
  |none=>rw[i]at h;exact h.elim
  |some d=>
   rw[i]at h;simp only at h
   cases k:e d with
   |none=>rw[k]at h;exact h.elim
   |some m=>
    rw[k]at h;have f:=c.val d m k
    cases m with
    |un=>rw[abf i f];exact .inr ⟨e,c,rfl,h⟩
    |nx _ _=>exact h.elim
    |en _ _=>exact h.elim
    |kb b=>rw[IX i f];cases b<;>cases want<;>first|exact .inl ⟨e,c,rfl,h⟩|exact .inr ⟨e,c,rfl,h⟩
    |val v=>
     cases v<;>(try simp only at h)<;>first|exact h.elim|skip
     rename_i t;have f:a.tmps.getD d undef= .bool t:=f;rw[IX i f];cases want
     ·have:=yV h
      cases t
      ·exact .inl ⟨_,c.oY f,rfl,this⟩
      ·exact .inr ⟨_,c.oY f,rfl,this⟩
     ·have:=yV h
      cases t
      ·exact .inr ⟨_,c.oY f,rfl,this⟩
      ·exact .inl ⟨_,c.oY f,rfl,this⟩
def IP{o:Oper}{a:Act}{w:World}{K:SV->HP}{next:Act->World->Prop}(hd:∀c,o.op≠ .defer c)(h:ey P (execOp a.eval o) (lift K) w.heap)(U:∀(b:SV) (w':World),fj w w'->K b w'.heap->next (a.put o.dst b.cd) w'):tK P o a w next:=by
 obtain⟨r,d,hr,g,h⟩:=h w rfl;refine⟨hd,?_⟩;rw[hr];rcases h with⟨v,rfl,b,rfl,hK⟩|⟨rfl,b,j,hK⟩|⟨f,args,rfl,hc⟩|⟨l,f,ts,as,oP,rfl,hc⟩
 ·exact U b d g hK
 ·have:=U b d g hK
  rw[j]at this;exact this
 ·apply Calls.mono (hc d rfl)
  rintro e w2 ⟨v,rfl,⟨b,rfl,hK⟩,i⟩;exact⟨_,rfl,U b w2 (g.trans i) hK⟩
 ·apply RoundIn.mono (hc d rfl)
  rintro e w2 ⟨v,rfl,⟨b,rfl,hK⟩,i⟩;exact⟨_,rfl,U b w2 (g.trans i) hK⟩
end
end
section
section
variable {P:Program}{ops:Array Oper}
def p8{jS:List Nat}{p:HP}{σ:Heap}:∀{H:pN},ju jS H p σ->p σ/\∀x∈H,jS.contains x.1=true->x.2 σ
 |[],h=>⟨h,by simp⟩
 |(i,I)::H,h=>by
  simp only[ju]at h
  cases hc:jS.contains i with
  |true=>
   rw[hc]at h;obtain⟨d,h⟩:=h;obtain⟨h1,c⟩:=p8 h;refine⟨h1,λx a b=>?_⟩;rcases cL.1 a with rfl|a
   ·exact d
   ·exact c x a b
  |false=>
   rw[hc]at h;obtain⟨h1,c⟩:=p8 h;refine⟨h1,λx a b=>?_⟩;rcases cL.1 a with rfl|a
   ·rw[hc]at b;cases b
   ·exact c x a b
def UU{k:TK}(U:k.isAgg=false){a:Addr}{n:Nat}{v:Value}{σ:Heap}(h:k.held a n v σ):b0 σ a=some v:=by cases k<;>first|exact h|cases U
def FQ{k:TK}{a:Addr}{n:Nat}{f:aK}{σ:Heap}(h:k.ld a n f σ):∃v,k.held a n v σ/\f v σ:=by
 cases k<;>simp only[TK.ld]at h
 case agg=>obtain⟨cs,h1,d,e⟩:=h;exact⟨_,⟨cs,rfl,h1,d⟩,e⟩
 case slice=>obtain⟨p,l,c,h1,d⟩:=h;exact⟨_,h1,d⟩
 all_goals (obtain⟨b,h1,d⟩:=h;exact⟨_,h1,d⟩)
def FP{t:TypeId}{a:Addr}{v:Value}(e:jG P t=true)(w:World)(h:(TK.of P t).held a (P.cellsOf t) v w.heap):(loadVar t a).run P w= .ok v w:=by
 obtain⟨hi,hu⟩:=px e;obtain⟨d,hd⟩:=h9.1 hu;unfold loadVar;rw[Sem.run_bind,vF hd,TK.vh hd,Result.andThen_ok]
 cases U:(TK.of P t).isAgg with
 |true=>
  have he:TK.of P t= .agg:=by revert U;generalize TK.of P t=k;cases k<;>simp[TK.isAgg]
  rw[he]at h;obtain⟨cs,rfl,b,hc⟩:=h
  have:=run_loadCells_list (P:=P) w a cs.toList (λj v c=>by
   have f:j<P.cellsOf t:=by have:=bY.1 c;obtain⟨h1,_⟩:=this;simpa[b]using h1
   rw[k1,hc j f];simpa using c)
  simp only[eb,Sem.run_bind,n9 hi,Result.andThen_ok];have hl:cs.toList.length=P.cellsOf t:=by simpa using b
  rw[hl]at this;rw[this];simp
 |false=>simp only[gb,ep,run_load,k1,UU U h]
def abc{e:Env}{ρ:Operand->Value}{o:Oper}{K:SV->(Heap->Prop)->HP}{σ:Heap}(c:∀x v,ev e x=some v->ρ x=v.cd)(h:CF P e o K σ):∃(v:Value) (I:Heap->Prop),I σ/\(∀w:World,I w.heap->(execOp ρ o).run P w= .ok (.value v) w)/\K (.val v) I σ:=by
 obtain⟨dst,op,ty,pos,after,guard⟩:=o;cases op<;>simp only[CF]at h<;>first|exact h.elim|skip
 case load t x=>
 have h:=dC c h;cases b:ρ x<;>rw[b]at h<;>(try simp only at h)<;>first|exact h.elim|skip
 obtain⟨a,rfl,h⟩:=oO h;obtain⟨d,h⟩:=eW h;obtain⟨v,f,U⟩:=FQ h;refine⟨v,_,f,λw hw=>?_,U⟩;simp[execOp,Instr.loadAt,Instr.sureAddr,b,FP d w hw]
def w7(n:Nat)(ops:Array Oper):Prop:=∀(i:Nat) o d,ops[i]?=some o->o.dst=some d->d<n
def contains_of{l:List Nat}{i:Nat}(h:l.contains i=true):i∈l:=by simpa using h
def tM(g:ki P)(l:∀(j:Nat) (o:Oper) c,ops[j]?=some o->o.op≠ .defer c){n i:Nat}{e:Env}{a:Act}{w:World}{o:Oper}{k:SV->Env->HP}{next:Act->World->Prop}(hd:w7 n ops)(hi:ops[i]?=some o)(m:dF n e a)(h:oe ops e o (λe=>og P e o λv=>k v e) (λe=>k .un e) w.heap)(U:∀b (d:SV) (w':World),dF n b a->fj w w'->k d b w'.heap->next (a.put o.dst d.cd) w'):lF P ops i next a w:=by
 unfold lF;simp only[hi];rcases yU m h with⟨b,f,hw,h⟩|⟨b,f,hw,h⟩
 ·simp only[hw,eb]
  exact IP (λc=>l _ _ c hi) (IU g f.ev h) (λd w' p hK=>U b d w' f p hK)
 ·simp only[hw,gb,ep]
  exact U b .un w f (.refl w) h
def abe(Q:ki P)(J:∀(j:Nat) (o:Oper) c,ops[j]?=some o->o.op≠ .defer c){n:Nat}{cW:List Nat}{w0:World}{Fr:Act->Prop}{K:Env->HP}{N:Act->World->Prop}(V:∀(j:Nat) (o:Oper) cs b,ops[j]?=some o->o.op≠ .select cs b)(y:ud .any ops (mK cW))(hd:w7 n ops)(L:∀(i:Nat) o a v,ops[i]?=some o->Fr a->Fr (a.put o.dst v))(hK:∀e a w,dF n e a->Fr a->fj w0 w->K e w.heap->N a w):∀(s:fy) (ls:List Nat) (H:pN) (listed:Array Bool) (fuel:Nat) (e:Env) (a:Act) (w:World),jE ops cW s ls listed=true->s.len<=fuel->sj (mK cW) listed->(∀p∈H,p.1∈ls\/∀σ,p.2 σ)->dF n e a->Fr a->fj w0 w->hN P ops s H e K w.heap->r2 P .any ops N (mK cW) H fuel listed a w:=by
 intro s
 induction s with
 |done=>
  intro ls H listed fuel e a w hs hf hc u C z A h;have hr:Region.ready .any ops listed=[]:=by simpa[jE]using hs
  have af:=hK e a w C z A h
  cases fuel with
  |zero=>exact⟨hr,af⟩
  |succ fuel=>exact⟨λ_=>af,λi hi=>by rw[hr]at hi;cases hi⟩
 |step i m r R=>
  intro ls H listed fuel e a w hs hf hc u C z A h;simp only[fy.len]at hf;obtain⟨fuel,rfl⟩:∃f,fuel=f+1:=⟨fuel-1,by omega⟩;simp only[hN]at h
  cases hi:ops[i]? with
  |none=>rw[hi]at h;exact h.elim
  |some o=>
   rw[hi]at h;simp only at h;have x:∀t,o.dst=some t->t<n:=λt D=>hd i o t hi D
   cases m with
   |pure=>
    simp only[jE,cg]at hs;obtain⟨⟨hr,S⟩,hs⟩:=hs;have hr:=contains_of hr;rcases yU C h with⟨M,l,hw,h⟩|⟨M,l,hw,h⟩
    ·obtain⟨B,X,h⟩:=IV l.ev h
     refine yQ y hi V J fuel listed a w hc (Region.free_spec hi S) hr (.inl ⟨hw,λw' _=>X w'⟩) trivial (R ls ((i,λ_=>True)::H) _ fuel _ _ _ hs (by omega) (hc.set y hr) ?_ (l.put x B) (L _ _ _ _ hi z) A h);exact λp d=>(cL.1 d).elim (λe=> .inr (by subst e;exact λ_=>trivial)) (u p)
    ·refine yQ y hi V J fuel listed a w hc (Region.free_spec hi S) hr (.inr ⟨hw,rfl⟩) trivial (R ls ((i,λ_=>True)::H) _ fuel _ _ _ hs (by omega) (hc.set y hr) ?_ (l.put x .un) (L _ _ _ _ hi z) A h)
     exact λp d=>(cL.1 d).elim (λe=> .inr (by subst e;exact λ_=>trivial)) (u p)
   |load=>
    simp only[jE,cg]at hs;obtain⟨⟨hr,S⟩,hs⟩:=hs;have hr:=contains_of hr;rcases yU C h with⟨M,l,hw,h⟩|⟨M,l,hw,h⟩
    ·obtain⟨v,I,ah,X,h⟩:=abc l.ev h
     refine yQ y hi V J fuel listed a w hc (Region.free_spec hi S) hr (.inl ⟨hw,X⟩) ah (R (i::ls) ((i,I)::H) _ fuel _ _ _ hs (by omega) (hc.set y hr) ?_ (l.put x (.val v)) (L _ _ _ _ hi z) A h);exact λp d=>(cL.1 d).elim (λe=> .inl (by subst e;simp)) (λd=>(u p d).imp (λh=>by simp[h]) id)
    ·refine yQ y hi V J fuel listed a w hc (Region.free_spec hi S) hr (.inr ⟨hw,rfl⟩) trivial (R (i::ls) ((i,λ_=>True)::H) _ fuel _ _ _ hs (by omega) (hc.set y hr) ?_ (l.put x .un) (L _ _ _ _ hi z) A h)
     exact λp d=>(cL.1 d).elim (λe=> .inr (by subst e;exact λ_=>trivial)) (λd=>(u p d).imp (λh=>by simp[h]) id)
   |ax jS=>
    simp only[jE,cg,hQ,iq,tO]at hs;obtain⟨⟨hr,ai⟩,hs⟩:=hs;have T:i∈Region.ready .any ops listed:=by rw[hr];simp
    refine⟨λh0=>(by rw[hr]at h0;cases h0),λj ag=>?_⟩;rw[hr]at ag;obtain rfl:j=i:=by simpa using ag
    apply tM Q J hd hi C h;intro M B w' l E U;obtain⟨U,F⟩:=p8 U;refine⟨λp d G _=>?_,?_⟩
    ·rcases u p d with g|g
     ·rcases ai p.1 g with h1|h1
      ·rw[G]at h1;cases h1
      ·exact F p d h1
     ·exact g _
    ·exact R ls H _ fuel _ _ _ hs (by omega) (hc.set y T) u (l.put x B) (L _ _ _ _ hi z) (A.trans E) U
 |fork i ci ri j k3 rj Y Z=>
  intro ls H listed fuel e a w hs hf hc u C z A h;simp only[fy.len]at hf;obtain⟨fuel,rfl⟩:∃f,fuel=f+1:=⟨fuel-1,by omega⟩;simp only[hN]at h;obtain⟨hl,O⟩:=h;simp only[jE,cg,hQ,iq,tO]at hs;obtain⟨⟨⟨⟨hr,aa⟩,ab⟩,ac⟩,ad⟩:=hs;have T:i∈Region.ready .any ops listed:=by rw[hr];simp
  have ae:j∈Region.ready .any ops listed:=by rw[hr];simp
  refine⟨λh0=>(by rw[hr]at h0;cases h0),λk U=>?_⟩;rw[hr]at U;have U:k=i\/k=j:=by simpa using U
  rcases U with rfl|rfl
  ·cases hi:ops[k]? with
   |none=>rw[hi]at hl;exact hl.elim
   |some o=>
    rw[hi]at hl;have x:∀t,o.dst=some t->t<n:=λt D=>hd k o t hi D;apply tM Q J hd hi C hl;intro M B w' l E U;obtain⟨U,F⟩:=p8 U;refine⟨λp d G _=>?_,?_⟩
    ·rcases u p d with g|g
     ·rcases aa p.1 g with h1|h1
      ·rw[G]at h1;cases h1
      ·exact F p d h1
     ·exact g _
    ·exact Y ls H _ fuel _ _ _ ac (by omega) (hc.set y T) u (l.put x B) (L _ _ _ _ hi z) (A.trans E) U
  ·cases hi:ops[k]? with
   |none=>rw[hi]at O;exact O.elim
   |some o=>
    rw[hi]at O;have x:∀t,o.dst=some t->t<n:=λt D=>hd k o t hi D;apply tM Q J hd hi C O;intro M B w' l E U;obtain⟨U,F⟩:=p8 U;refine⟨λp d G _=>?_,?_⟩
    ·rcases u p d with g|g
     ·rcases ab p.1 g with h1|h1
      ·rw[G]at h1;cases h1
      ·exact F p d h1
     ·exact g _
    ·exact Z ls H _ fuel _ _ _ ad (by omega) (hc.set y ae) u (l.put x B) (L _ _ _ _ hi z) (A.trans E) U
 |uN i ci ri j k3 rj k ck rk Y Z aj=>
  intro ls H listed fuel e a w hs hf hc u C z A h;simp only[fy.len]at hf;obtain⟨fuel,rfl⟩:∃f,fuel=f+1:=⟨fuel-1,by omega⟩;simp only[hN]at h;obtain⟨hl,hm,O⟩:=h;simp only[jE,cg,hQ,iq,tO]at hs;obtain⟨⟨⟨⟨⟨⟨hr,aa⟩,ab⟩,ak⟩,ac⟩,ad⟩,al⟩:=hs;have T:i∈Region.ready .any ops listed:=by rw[hr];simp
  have ae:j∈Region.ready .any ops listed:=by rw[hr];simp
  have am:k∈Region.ready .any ops listed:=by rw[hr];simp
  refine⟨λh0=>(by rw[hr]at h0;cases h0),λq W=>?_⟩;rw[hr]at W;have W:q=i\/q=j\/q=k:=by simpa using W
  rcases W with rfl|rfl|rfl
  ·cases hi:ops[q]? with
   |none=>rw[hi]at hl;exact hl.elim
   |some o=>
    rw[hi]at hl;have x:∀t,o.dst=some t->t<n:=λt D=>hd q o t hi D;apply tM Q J hd hi C hl;intro M B w' l E U;obtain⟨U,F⟩:=p8 U;refine⟨λp d G _=>?_,?_⟩
    ·rcases u p d with g|g
     ·rcases aa p.1 g with h1|h1
      ·rw[G]at h1;cases h1
      ·exact F p d h1
     ·exact g _
    ·exact Y ls H _ fuel _ _ _ ac (by omega) (hc.set y T) u (l.put x B) (L _ _ _ _ hi z) (A.trans E) U
  ·cases hi:ops[q]? with
   |none=>rw[hi]at hm;exact hm.elim
   |some o=>
    rw[hi]at hm;have x:∀t,o.dst=some t->t<n:=λt D=>hd q o t hi D;apply tM Q J hd hi C hm;intro M B w' l E U;obtain⟨U,F⟩:=p8 U;refine⟨λp d G _=>?_,?_⟩
    ·rcases u p d with g|g
     ·rcases ab p.1 g with h1|h1
      ·rw[G]at h1;cases h1
      ·exact F p d h1
     ·exact g _
    ·exact Z ls H _ fuel _ _ _ ad (by omega) (hc.set y ae) u (l.put x B) (L _ _ _ _ hi z) (A.trans E) U
  ·cases hi:ops[q]? with
   |none=>rw[hi]at O;exact O.elim
   |some o=>
    rw[hi]at O;have x:∀t,o.dst=some t->t<n:=λt D=>hd q o t hi D;apply tM Q J hd hi C O;intro M B w' l E U;obtain⟨U,F⟩:=p8 U;refine⟨λp d G _=>?_,?_⟩
    ·rcases u p d with g|g
     ·rcases ak p.1 g with h1|h1
      ·rw[G]at h1;cases h1
      ·exact F p d h1
     ·exact g _
    ·exact aj ls H _ fuel _ _ _ al (by omega) (hc.set y am) u (l.put x B) (L _ _ _ _ hi z) (A.trans E) U
def aba(g:ki P)(hm:P.follows .mixedOrders=true){ro:Option Nat}{Fr:Act->Prop}{n id:Nat}{cW:List Nat}{s:fy}{w0:World}{K:Env->HP}{e:Env}{a:Act}{w:World}{Q:Exit->Act->World->Prop}(c:BL ops cW s=true)(hd:w7 n ops)(k:∀(i:Nat) o a v,ops[i]?=some o->Fr a->Fr (a.put o.dst v))(l:Fr a)(m:dF n e a)(b:fj w0 w)(hK:∀d a' w',dF n d a'->Fr a'->fj w0 w'->K d w'.heap->Q .normal a' w')(h:hN P ops s [] e K w.heap):(Code.region id ops true).wpIn (FW ro) 0 P Q a w:=by
 simp only[BL,cg,bJ]at c;obtain⟨⟨⟨⟨p,q⟩,r⟩,hlen⟩,t⟩:=c
 have key:=abe g (Ww q) (Region.noSelect_spec p) (aaa r) hd k
  (λe a w h1 u x y=>hK e a w h1 u x y) s [] [] (Array.replicate ops.size false) ops.size e a {w with drawn:=w.drawn+1} t hlen
  (λj f=>by
   exfalso
   have:(Array.replicate ops.size false).getD j false=false:=by by_cases z:j<ops.size<;>simp[oh,z]
   rw[this]at f;cases f) (by simp) m l ⟨b.1,b.2.1,b.2.2⟩ h
 exact wpIn_region_any hm (IJ (λ_ _ h=>h) _ _ _ _ key)
end
end
section
structure Hints where
 B0:List (Nat×(List Nat×fy))
 loops:List (Nat×List (Nat×TK))
 F7:List (Nat×List (Nat×TK))
 K9:List (Nat×List (Nat×TK))
def look{α:Type}:List (Nat×α)->Nat->Option α
 |[],_=>none
 |(k,v)::r,i=>match Nat.beq k i with|true=>some v|false=>look r i
def s':List Nat->Nat->Bool
 |[],_=>false
 |k::r,i=>match Nat.beq k i with|true=>true|false=>s' r i
def wr:Code->List Nat
 | .region _ ops _=>ops.toList.filterMap (·.dst)
 | .seq a b=>wr a++wr b
 | .cond _ a b=>wr a++wr b
 | .block _ c=>wr c
 | .loop c=>wr c
 |_=>[]
def forget(e:Env)(l:List Nat):Env:=λt=>match s' l t with|true=>none|false=>e t
def iK(e:Env):List (Nat×TK)->az->Env
 |(s,_)::r,v::vs=>bM (iK e r vs) (some s) (.val v)
 |_,_=>e
def yD:TK->Value->Bool
 | .bool,.bool _=>true
 | .int k,.int k' _=>k==k'
 | .str,.string _=>true
 | .ptr,.pointer _=>true
 | .slice,.slice .. =>true
 | .map,.map _=>true
 | .agg,.agg _=>true
 | .any,_=>true
 |_,_=>false
def nM(e:Env):List (Nat×TK)->(az->HP)->HP
 |[],k=>k []
 |(s,tk)::r,k=>match e s with
  |some a=>match yD tk a.cd with
   |true=>nM e r λvs=>k (a.cd::vs)
   |false=>F
  |none=>F
def vW(P:Program)(ops:Array Oper):List Oper->Env->(Env->HP)->HP
 |[],e,K=>K e
 |o::r,e,K=>oe ops e o (λe=>og P e o λv=>vW P ops r (bM e o.dst v) K) (λe=>vW P ops r (bM e o.dst .un) K)
def yv(k:Env->HP)(Q:Exit->Env->HP):Exit->Env->HP
 | .normal,e=>k e
 |ex,e=>Q ex e
def Ei(id:Nat)(Q:Exit->Env->HP):Exit->Env->HP
 | .exit i,e=>match Nat.beq i id with|true=>Q .normal e|false=>Q (.exit i) e
 |ex,e=>Q ex e
def xx(hs:Hints):Code->Option (List (Nat×TK))
 | .region id _ _=>look hs.F7 (100000+id)
 | .seq (.region id _ _) (.cond _ _ _)=>look hs.F7 id
 | .block id _=>look hs.K9 id
 |_=>none
def oY(e:Env)(c:Operand)(b:Bool):Env:=match c with
 | .tmp t=>bM e (some t) (.kb b)
 |_=>e
def x(P:Program)(hs:Hints):Code->Nat->Env->(Exit->Env->HP)->HP
 | .skip,_,e,Q=>Q .normal e
 | .region id ops d,_,e,Q=>match d with
  |false=>vW P ops ops.toList e λe=>Q .normal e
  |true=>match look hs.B0 id with
   |some (_,s)=>hN P ops s [] e λe=>Q .normal e
   |none=>F
 | .seq a b,_,e,Q=>match xx hs a with
  |none=>x P hs a 0 e (yv (λe=>x P hs b 0 e Q) Q)
  |some aU=>bu (Cr (aU.map (·.2)) λvs=>x P hs b 0 (iK (forget e (wr a)) aU vs) Q) λf=>x P hs a 0 e (yv (λe=>nM e aU f) Q)
 | .cond c a b,_,e,Q=>match ev e c with
  |some (.kb true)=>x P hs a 0 e Q
  |some (.kb false)=>x P hs b 0 e Q
  |some (.val (.bool t))=>ae t (x P hs a 0 (oY e c true) Q) (x P hs b 0 (oY e c false) Q)
  |_=>F
 | .block id c,_,e,Q=>x P hs c (id+1) e (Ei id Q)
 | .loop c,cur,e,Q=>match look hs.loops cur with
  |none=>F
  |some aU=>nM e aU λvs=>bz (λs R=>Cr (aU.map (·.2))
    (λvs=>x P hs c 0 (iK (forget e (wr c)) aU vs) (yv (λe=>nM e aU R) Q)) s) vs
 | .exit id,_,e,Q=>Q (.exit id) e
 | .ret,_,e,Q=>Q .ret e
 | .label _,_,e,Q=>Q .normal e
 | .goto l,_,e,Q=>Q (.goto l) e
 |_,_,_,_=>F
def xT(n:Nat)(ops:Array Oper):Bool:=ops.toList.all λo=>match o.dst with|some d=>decide (d<n)|none=>true
def codeOk(hs:Hints)(n:Nat):Code->Bool
 | .region id ops d=>xT n ops&&vd ops&&match d with
  |false=>true
  |true=>match look hs.B0 id with
   |some (cW,s)=>BL ops cW s
   |none=>true
 | .seq a b=>codeOk hs n a&&codeOk hs n b
 | .cond _ a b=>codeOk hs n a&&codeOk hs n b
 | .block _ c=>codeOk hs n c
 | .loop c=>codeOk hs n c
 |_=>true
section
variable {P:Program}
def W0{n:Nat}{ops:Array Oper}(h:xT n ops=true):w7 n ops:=by
 intro i o d hi hd;simp only[xT,iq]at h
 have hm:o∈ops.toList:=by have:=oi hi;simpa using this
 have h1:=h o hm;rw[hd]at h1;simpa using h1
def put_defers(a:Act)(d:Option Tmp)(v:Value):(a.put d v).defers=a.defers:=by cases d<;>rfl
def CG(k:ki P){ro:Option Nat}{n:Nat}{ops:Array Oper}{w0:World}{Fr:Act->Prop}{K:Env->HP}{Q:Exit->Act->World->Prop}(hK:∀e a w,dF n e a->Fr a->fj w0 w->K e w.heap->Q .normal a w):∀(l:List Oper) (e:Env) (a:Act) (w:World),(∀o∈l,∀d,o.dst=some d->d<n)->(∀o∈l,∀c,o.op≠ .defer c)->(∀(o:Oper) a v,o∈l->Fr a->Fr (a.put o.dst v))->dF n e a->Fr a->fj w0 w->vW P ops l e K w.heap->wpListIn (FW ro) 0 P ops Q l a w
 |[],e,a,w,_,_,_,m,g,b,h=>hK e a w m g b h
 |o::r,e,a,w,hd,p,i,m,g,b,h=>by
  simp only[vW]at h;have q:=hd o (by simp);unfold wpListIn;rcases yU m h with⟨s,j,hw,h⟩|⟨s,j,hw,h⟩
  ·simp only[hw,eb]
   refine IN (λ_ _ h=>h) (IP (p o (by simp)) (IU k j.ev h) ?_);exact λt w' u U=>CG k hK r _ _ _ (λo b=>hd o (by simp[b])) (λo b=>p o (by simp[b])) (λo a v b=>i o a v (by simp[b])) (j.put q t) (i o _ _ (by simp) g) (b.trans u) U
  ·simp only[hw,gb,ep]
   exact⟨λf _=>wA ro f,CG k hK r _ _ _ (λo b=>hd o (by simp[b])) (λo b=>p o (by simp[b])) (λo a v b=>i o a v (by simp[b])) (j.put q .un) (i o _ _ (by simp) g) b h⟩
def aai{tk:TK}{v:Value}{ts:List TK}{vs:az}(h:yD tk v=true)(b:Typed ts vs):Typed (tk::ts) (v::vs):=by
 intro a;apply b;cases tk<;>cases v<;>first|(cases h;done)|skip
 all_goals first
  |(simp only[iZ]at a;exact wQ _ _ _ (λr hr e=>hr (by rw[e])) (a _))
  |(simp only[iZ]at a;exact wQ _ _ _ (λr hr e=>hr (by rw[e])) (a _ _ _))
  |(simp only[yD,hQ]at h;subst h;simp only[iZ]at a;exact wQ _ _ _ (λr hr e=>hr (by rw[e])) (a _))
def aax:Typed [] []:=λh=>h rfl
def uO{e:Env}:∀{aU:List (Nat×TK)} {k:az->HP} {σ:Heap},nM e aU k σ->∃vs,Typed (aU.map (·.2)) vs/\(∀n a,dF n e a->∀b,dF n b a->dF n (iK b aU vs) a)/\k vs σ
 |[],k,σ,h=>⟨[],aax,λn a _ b h0=>h0,h⟩
 |(s,tk)::r,k,σ,h=>by
  simp only[nM]at h
  cases hs:e s with
  |none=>rw[hs]at h;exact h.elim
  |some c=>
   rw[hs]at h;simp only at h
   cases hf:yD tk c.cd with
   |false=>rw[hf]at h;exact h.elim
   |true=>
    rw[hf]at h;obtain⟨vs,g,eP,U⟩:=uO h;refine⟨c.cd::vs,aai hf g,λn a f b h0=>?_,U⟩;have h1:=eP n a f b h0;refine⟨h1.size,λt u hu=>?_⟩;simp only[iK,bM]at hu
    cases d:Nat.beq t s with
    |true=>rw[d]at hu;simp only[iR]at hu;subst hu;obtain rfl:=lM d;exact f.val t c hs
    |false=>rw[d]at hu;exact h1.val t u hu
def V8{l:List Nat}{t:Nat}:s' l t=false↔t∉l:=by
 induction l with
 |nil=>simp[s']
 |cons k r b=>
  simp only[s']
  cases a:Nat.beq k t with
  |true=>obtain rfl:=lM a;simp
  |false=>
   have c:¬t=k:=λe=>by subst e;simp at a
   simp[b,c]
def hh(l:List Nat)(a a':Act):Prop:=a'.tmps.size=a.tmps.size/\∀t,t∉l->a'.tmps.getD t undef=a.tmps.getD t undef
def hh.forget{n:Nat}{l:List Nat}{a a':Act}{e:Env}(h:hh l a a')(c:dF n e a):dF n (forget e l) a':=by
 refine⟨h.1.trans c.size,λt v b=>?_⟩;unfold XS.forget at b
 cases hm:s' l t with
 |true=>rw[hm]at b;cases b
 |false=>rw[hm]at b;rw[h.2 t (V8.1 hm)];exact c.val t v b
def hh.refl(l:List Nat)(a:Act):hh l a a:=⟨rfl,λ_ _=>rfl⟩
def hh.trans{l:List Nat}{a b c:Act}(h:hh l a b)(k:hh l b c):hh l a c:=⟨k.1.trans h.1,λt d=>(k.2 t d).trans (h.2 t d)⟩
def hh.mono{l c:List Nat}{a b:Act}(hs:∀t,t∈l->t∈c)(h:hh l a b):hh c a b:=⟨h.1,λt d=>h.2 t λhl=>d (hs t hl)⟩
def hh.put{l:List Nat}{a b:Act}(h:hh l a b){d:Option Nat}(hd:∀t,d=some t->t∈l)(v:Value):hh l a (b.put d v):=by
 cases d with
 |none=>exact h
 |some d=>refine⟨by simp[Act.put,h.1],λt c=>?_⟩;have f:d≠t:=λe=>c (e▸hd d rfl);rw[<-h.2 t c];simp[Act.put,vY f]
def E5{id:Nat}{ops:Array Oper}{d:Bool}{o:Oper}(a:o∈ops.toList):∀t,o.dst=some t->t∈wr (.region id ops d):=by intro t b;simp only[wr,List.mem_filterMap];exact⟨o,a,b⟩
def inLoop(ro:Option Nat)(P:Program)(c:Code)(Q:Exit->Act->World->Prop)(a:Act)(w:World):Prop:=
 ∀(b:Frame) (k:List Item) (cs:List Frame),b.roundOf=(FW ro).round->(FW ro).fn b.fn->(FW ro).room (cs.length+1+0)->
  ∃e a' w',Q e a' w'/\ArrivesIn (Machine.fenced P (FW ro)) P (lone (b.atR a (.code c:: .inLoop c::k)) cs w) b k cs e a' w'
def U0{ro:Option Nat}{c:Code}{Q:Exit->Act->World->Prop}{a:Act}{w:World}(h:c.wpIn (FW ro) 0 P (Exit.then (inLoop ro P c Q) Q) a w):inLoop ro P c Q a w:=by
 intro b k cs m j hr;obtain⟨e,g,i,d,f⟩:=h b (.inLoop c::k) cs m j hr
 cases e with
 |normal=>obtain⟨n,o,p,q,r⟩:=d b k cs m j hr;exact⟨n,o,p,q,.of_steps (StepsIn.trans f (.one (fenced_calm j hr rfl) stepR_inLoop)) r⟩
 |exit id=>exact⟨_,g,i,d,.pass rfl (λ_ _=> .inl (by simp)) f⟩
 |goto l=>exact⟨_,g,i,d,.pass rfl (λ_ _=> .inl (by simp)) f⟩
 |ret=>exact⟨_,g,i,d,.pass rfl (λ_ _=> .inl (by simp)) f⟩
 |panic ch=>exact⟨_,g,i,d,.pass rfl (λ_ _=> .inl (by simp)) f⟩
 |outgrown=>exact⟨_,g,i,d,.pass rfl (λ_ _=> .inl (by simp)) f⟩
def aa2{ro:Option Nat}{c:Code}{Q:Exit->Act->World->Prop}{a:Act}{w:World}(h:inLoop ro P c Q a w):(Code.loop c).wpIn (FW ro) 0 P Q a w:=by intro b k cs f d hr;obtain⟨e,a',w',g,i⟩:=h b k cs f d hr;exact⟨e,a',w',g,.of_steps (.one (fenced_calm d hr rfl) stepR_loop) i⟩
structure End(n:Nat)(l:List Nat)(w0:World)(a0:Act)(e:Env)(a:Act)(w:World):Prop where
 env:dF n e a
 defers:a.defers=a0.defers
 outer:fj w0 w
 same:hh l a0 a
def dF.F'{n:Nat}{e:Env}{a:Act}(h:dF n e a){c:Operand}{b:Bool}(d:a.eval c= .bool b):dF n (XS.oY e c b) a:=by
 cases c with
 |tmp t=>exact h.oY d
 |const v=>exact h
 |global g=>exact h
 |func f=>exact h
def yT(V:ki P)(hm:P.follows .mixedOrders=true){ro:Option Nat}{hs:Hints}{n:Nat}:∀(c:Code) (cur:Nat) (e:Env) (Q:Exit->Env->HP) (r:Exit->Act->World->Prop) (a:Act) (w w0:World),codeOk hs n c=true->dF n e a->fj w0 w->(∀ex p a' w',End n (wr c) w0 a p a' w'->Q ex p w'.heap->r ex a' w')->x P hs c cur e Q w.heap->c.wpIn (FW ro) 0 P r a w:=by
 intro c
 induction c with
 |skip=>exact λcur e Q r a w w0 _ m q k h=>wpIn_skip (k _ _ _ _ ⟨m,rfl,q,.refl _ _⟩ h)
 |region id ops d=>
  intro cur e Q r a w w0 aM m q k h;simp only[codeOk,cg]at aM;obtain⟨⟨J,W⟩,aM⟩:=aM;have hd:=W0 J
  have ae:∀o∈ops.toList,∀t,o.dst=some t->t<n:=by intro o K t u;simp only[xT,iq]at J;have h1:=J o K;rw[u]at h1;simpa using h1
  cases d with
  |false=>
   simp only[x]at h
   refine wpIn_region_list (CG V (Fr:=λa'=>a'.defers=a.defers/\hh (wr (.region id ops false)) a a') (λp a' w' h1 D L M=>k _ _ _ _ ⟨h1,D.1,L,D.2⟩ M)
    ops.toList e a w ae (λo q c e=>by simp only[vd,iq]at W;have:=W o q;rw[e]at this;cases this) (λo a' v K hf=>⟨(put_defers _ _ _).trans hf.1,hf.2.put (E5 K) v⟩) m ⟨rfl,.refl _ _⟩ q h)
  |true=>
   simp only[x]at h
   cases hl:look hs.B0 id with
   |none=>rw[hl]at h;exact h.elim
   |some ts=>
    obtain⟨cW,s⟩:=ts;rw[hl]at h aM
    refine aba V hm (Fr:=λa'=>a'.defers=a.defers/\hh (wr (.region id ops true)) a a') aM hd (λi o a' v hi hf=>?_) ⟨rfl,.refl _ _⟩ m q
     (λp a' w' h1 D L M=>k _ _ _ _ ⟨h1,D.1,L,D.2⟩ M) h
    have af:o∈ops.toList:=by simpa using oi hi
    exact⟨(put_defers _ _ _).trans hf.1,hf.2.put (E5 af) v⟩
 |seq c1 c2 F N=>
  intro cur e Q r a w w0 aM m q k h;simp only[codeOk,cg]at aM;simp only[x]at h;have left:∀t,t∈wr c1->t∈wr (.seq c1 c2):=λt u=>by simp[wr,u]
  have right:∀t,t∈wr c2->t∈wr (.seq c1 c2):=λt u=>by simp[wr,u]
  have z:∀ex p a' w',ex≠ .normal->End n (wr c1) w0 a p a' w'->Q ex p w'.heap->Exit.then (c2.wpIn (FW ro) 0 P r) r ex a' w':=by intro ex p a' w' O g j;have:=k ex p a' w' ⟨g.env,g.defers,g.outer,g.same.mono left⟩ j;cases ex<;>first|exact absurd rfl O|exact this
  have X:∀p G a' w',End n (wr c1) w0 a p a' w'->dF n G a'->x P hs c2 0 G Q w'.heap->c2.wpIn (FW ro) 0 P r a' w':=by intro p G a' w' g ah R;refine N 0 G Q r a' w' w0 aM.2 ah g.outer (λex Y a3 Z H j=>k _ _ _ _ ⟨H.env,H.defers.trans g.defers,H.outer,?_⟩ j) R;exact(g.same.mono left).trans (H.same.mono right)
  apply wpIn_seq
  cases aa:xx hs c1 with
  |none=>
   rw[aa]at h;refine F 0 e _ _ a w w0 aM.1 m q (λex p a' w' g j=>?_) h
   cases ex with
   |normal=>exact X p p a' w' g g.env j
   |exit i=>exact z _ _ _ _ (by simp) g j
   |goto l=>exact z _ _ _ _ (by simp) g j
   |ret=>exact z _ _ _ _ (by simp) g j
   |panic ch=>exact z _ _ _ _ (by simp) g j
   |outgrown=>exact z _ _ _ _ (by simp) g j
  |some aU=>
   rw[aa]at h;refine F 0 e _ _ a w w0 aM.1 m q (λex p a' w' g j=>?_) h
   cases ex with
   |normal=>obtain⟨vs,u,eP,U⟩:=uO (show nM p aU _ w'.heap from j);have U:=u.use U;exact X p _ a' w' g (eP n a' g.env _ (g.same.forget m)) U
   |exit i=>exact z _ _ _ _ (by simp) g j
   |goto l=>exact z _ _ _ _ (by simp) g j
   |ret=>exact z _ _ _ _ (by simp) g j
   |panic ch=>exact z _ _ _ _ (by simp) g j
   |outgrown=>exact z _ _ _ _ (by simp) g j
 |cond c c1 c2 F N=>
  intro cur e Q r a w w0 aM m q k h;simp only[codeOk,cg]at aM;simp only[x]at h;have left:∀t,t∈wr c1->t∈wr (.cond c c1 c2):=λt u=>by simp[wr,u]
  have right:∀t,t∈wr c2->t∈wr (.cond c c1 c2):=λt u=>by simp[wr,u]
  have ab:∀p,dF n p a->x P hs c1 0 p Q w.heap->c1.wpIn (FW ro) 0 P r a w:=λp E h=>F 0 p Q r a w w0 aM.1 E q (λex Y a3 Z g j=>k _ _ _ _ ⟨g.env,g.defers,g.outer,g.same.mono left⟩ j) h
  have go2:∀p,dF n p a->x P hs c2 0 p Q w.heap->c2.wpIn (FW ro) 0 P r a w:=λp E h=>N 0 p Q r a w w0 aM.2 E q (λex Y a3 Z g j=>k _ _ _ _ ⟨g.env,g.defers,g.outer,g.same.mono right⟩ j) h
  cases S:ev e c with
  |none=>rw[S]at h;exact h.elim
  |some ac=>
   rw[S]at h;have C:=m.ev c ac S
   cases ac with
   |un=>exact h.elim
   |nx _ _=>exact h.elim
   |en _ _=>exact h.elim
   |kb b=>
    cases b
    ·exact wpIn_cond_false C (go2 e m h)
    ·exact wpIn_cond_true C (ab e m h)
   |val v=>
    cases v<;>(try simp only at h)<;>first|exact h.elim|skip
    rename_i t;have:=yV h;cases t
    ·exact wpIn_cond_false C (go2 _ (m.F' C) this)
    ·exact wpIn_cond_true C (ab _ (m.F' C) this)
 |block id c T=>
  intro cur e Q r a w w0 aM m q k h;simp only[x]at h;refine wpIn_block (T (id+1) e _ _ a w w0 aM m q (λex p a' w' g j=>?_) h);have B:End n (wr (.block id c)) w0 a p a' w':=g
  cases ex with
  |exit i=>
   simp only[Exit.inBlock];simp only[Ei]at j
   cases I:Nat.beq i id with
   |true=>rw[I]at j;rw[ag (lM I)];exact k _ _ _ _ B j
   |false=>
    rw[I]at j;have O:i≠id:=λe=>by subst e;simp at I
    rw[aj O];exact k _ _ _ _ B j
  |normal=>exact k _ _ _ _ B j
  |goto l=>exact k _ _ _ _ B j
  |ret=>exact k _ _ _ _ B j
  |panic ch=>exact k _ _ _ _ B j
  |outgrown=>exact k _ _ _ _ B j
 |loop c T=>
  intro cur e Q r a w w0 aM m q k h;simp only[x]at h
  cases hl:look hs.loops cur with
  |none=>rw[hl]at h;exact h.elim
  |some aU=>
   rw[hl]at h;obtain⟨vs,u,eP,U⟩:=uO h;apply aa2
   have key:=U (λs σ=>Typed (aU.map (·.2)) s->∀(a':Act) (w':World),w'.heap=σ->dF n (iK (forget e (wr c)) aU s) a'->a'.defers=a.defers->
     fj w0 w'->hh (wr c) a a'->inLoop ro P c r a' w') ?_
   ·exact key u a w rfl (eP n a m _ (hh.forget (.refl _ _) m)) rfl q (.refl _ _)
   ·intro s σ ai ak a' w' al E am an ao
    subst al;have R:=ak.use ai;refine U0 (T 0 _ _ _ a' w' w0 aM E an (λex ad a2 w2 g j=>?_) R);have A:End n (wr (.loop c)) w0 a ad a2 w2:=⟨g.env,g.defers.trans am,g.outer,ao.trans g.same⟩
    cases ex with
    |normal=>obtain⟨us,ap,aq,ar⟩:=uO (show nM ad aU _ w2.heap from j);exact ar ap a2 w2 rfl (aq n a2 g.env _ (hh.forget A.same m)) A.defers g.outer A.same
    |exit i=>exact k _ _ _ _ A j
    |goto l=>exact k _ _ _ _ A j
    |ret=>exact k _ _ _ _ A j
    |panic ch=>exact k _ _ _ _ A j
    |outgrown=>exact k _ _ _ _ A j
 |rangeFunc f ps c1 c2=>exact λcur e Q r a w w0 _ m q k h=>h.elim
 |exit id=>exact λcur e Q r a w w0 _ m q k h=>wpIn_exit (k _ _ _ _ ⟨m,rfl,q,.refl _ _⟩ h)
 |scope c=>exact λcur e Q r a w w0 _ m q k h=>h.elim
 |label l=>exact λcur e Q r a w w0 _ m q k h=>wpIn_label (k _ _ _ _ ⟨m,rfl,q,.refl _ _⟩ h)
 |goto l=>exact λcur e Q r a w w0 _ m q k h=>wpIn_goto (k _ _ _ _ ⟨m,rfl,q,.refl _ _⟩ h)
 |ret=>exact λcur e Q r a w w0 _ m q k h=>wpIn_ret (k _ _ _ _ ⟨m,rfl,q,.refl _ _⟩ h)
 |refuse y=>exact λcur e Q r a w w0 _ m q k h=>h.elim
end
end
section
def mH:az->Nat->Env
 |[],_=>λ_=>none
 |v::r,i=>bM (mH r (i+1)) (some i) (.val v)
def nk(P:Program)(e:Env):List ResultVar->(az->HP)->HP
 |[],k=>k []
 | .tmp t::r,k=>match e t with
  |some v=>nk P e r λvs=>k (v.cd::vs)
  |none=>F
 | .cell t T::r,k=>match e t with
  |some (.val (.pointer p))=>ay p λa=>eI (jG P T) ((TK.of P T).ld a (P.cellsOf T) λv=>nk P e r λvs=>k (v::vs))
  |_=>F
def rS(vs:az):Value:=match vs with|[v]=>v|vs=> .tuple vs.toArray
def BP(P:Program)(rs:List ResultVar)(K:aK):Exit->Env->HP
 | .normal,e=>nk P e rs λvs=>K (rS vs)
 | .ret,e=>nk P e rs λvs=>K (rS vs)
 |_,_=>F
section
variable {P:Program}
def BM{n:Nat}{e:Env}{a:Act}(f:dF n e a)(w:World):∀{rs:List ResultVar} {k:az->HP},nk P e rs k w.heap->∃vs,((rs.mapM λ(r:ResultVar)=>(match r with
   | .tmp t=>pure (a.tmps.getD t undef)
   | .cell t T=>do loadVar T (<-asAddr (a.tmps.getD t undef)):Sem Value)):Sem az).run P w= .ok vs w/\k vs w.heap
 |[],k,h=>⟨[],rfl,h⟩
 | .tmp t::r,k,h=>by
  simp only[nk]at h
  cases c:e t with
  |none=>rw[c]at h;exact h.elim
  |some d=>rw[c]at h;obtain⟨vs,hr,U⟩:=BM f w h;refine⟨d.cd::vs,?_,U⟩;rw[C7];simp only[Sem.run_bind,Sem.run_pure,Result.andThen_ok,hr,f.val t d c]
 | .cell t T::r,k,h=>by
  simp only[nk]at h
  cases c:e t with
  |none=>rw[c]at h;exact h.elim
  |some d=>
   rw[c]at h;have g:=f.val t d c
   cases d with
   |un=>exact h.elim
   |nx _ _=>exact h.elim
   |en _ _=>exact h.elim
   |kb b=>exact h.elim
   |val v=>
    cases v<;>(try simp only at h)<;>first|exact h.elim|skip
    obtain⟨ai,rfl,h⟩:=oO h;obtain⟨i,h⟩:=eW h;obtain⟨v,j,h⟩:=FQ h;obtain⟨vs,hr,U⟩:=BM f w h;refine⟨v::vs,?_,U⟩;rw[C7];have g:a.tmps.getD t undef= .pointer (some ai):=g;have l:(asAddr (a.tmps.getD t undef)).run P w= .ok ai w:=by rw[g];rfl
    simp only[l,Sem.run_bind,Sem.run_pure,Result.andThen_ok,FP i w j,hr]
def BO{n:Nat}{e:Env}{a:Act}{fn:Func}(c:dF n e a){w:World}{K:aK}(h:nk P e fn.results.toList (λvs=>K (rS vs)) w.heap):∃v,(results fn a.tmps).run P w= .ok v w/\K v w.heap:=by
 obtain⟨vs,hr,U⟩:=BM c w h;refine⟨_,?_,U⟩;unfold results;rw[I0];simp only[Sem.run_bind,Sem.run_map];have:∀(s t:Sem az),s=t->s.run P w= .ok vs w->t.run P w= .ok vs w:=λs t e h=>e▸h;rw[this _ _ ?_ hr]
 ·simp only[Result.andThen_ok]
  match vs with
  |[]=>rfl
  |[v]=>rfl
  |a::b::r=>simp[rS]
 ·rfl
def zO:∀(l:az) (i t:Nat) (v:SV),mH l i t=some v->∃u,v= .val u/\i<=t/\l[t-i]?=some u
 |[],i,t,v,h=>by cases h
 |u::r,i,t,v,h=>by
  simp only[mH,bM]at h
  cases a:Nat.beq t i with
  |true=>rw[a]at h;obtain rfl:=lM a;cases h;exact⟨u,rfl,dQ _,by simp⟩
  |false=>rw[a]at h;obtain⟨w,rfl,h1,b⟩:=zO r (i+1) t v h;refine⟨w,rfl,by omega,?_⟩;rw[show t-i=(t-(i+1))+1 from by omega];simpa using b
def LN(g:ki P)(hm:P.follows .mixedOrders=true){hs:Hints}{f:FuncId}{fn:Func}{c:Code}{args:az}{K:aK}{σ:Heap}(hf:P.funcs[f]?=some fn)(j:fn.body=some c)(aM:codeOk hs fn.ntmps c=true)(hlen:args.length<=fn.ntmps)(h:x P hs c 0 (mH args 0) (BP P fn.results.toList K) σ):ad P f args.toArray K σ:=by
 intro w hw;subst hw;refine calls_of_wp hf j ((wpIn_wide (n:=0)).1 ?_)
 have k:dF fn.ntmps (mH args 0) {tmps:=args.toArray++Array.replicate (fn.ntmps-args.toArray.size) undef,defers:=[]}:=by refine⟨by simp;omega,λt v m=>?_⟩;obtain⟨u,rfl,_,d⟩:=zO args 0 t v m;simp only[iQ]at d;have e:t<args.length:=(bY.1 d).1;simp[oh,IZ,e,SV.cd];rw[bj e]at d;exact qQ d
 refine yT (ro:=none) g hm c 0 (mH args 0) (BP P fn.results.toList K) _ _ w w aM k (.refl w) ?_ h;intro ex o a' w' a b
 cases ex with
 |normal=>obtain⟨v,hr,U⟩:=BO a.env b;exact⟨a.defers,v,hr,v,rfl,U,a.outer⟩
 |ret=>obtain⟨v,hr,U⟩:=BO a.env b;exact⟨a.defers,v,hr,v,rfl,U,a.outer⟩
 |exit i=>exact b.elim
 |goto l=>exact b.elim
 |panic ch=>exact b.elim
 |outgrown=>exact b.elim
end
end
def nN(σ:Heap)(b:Nat)(o:Obj):Heap:=σ.setIfInBounds b o
def i7(l:Nat)(k:HP):HP:=λσ=>∃r,σ[l]?=some (.loop r)/\r.state= .ready/\k (nN σ l (.loop {r with state:= .busy}))
def fp(l:Nat)(j:Option Code)(k:HP):HP:=λσ=>∃r,σ[l]?=some (.loop r)/\k (nN σ l (.loop {r with state:=if j.isNone then .ready else .done,pending:=j}))
def w8(l:Nat)(a b:HP):HP:=λσ=>∃r,σ[l]?=some (.loop r)/\r.state≠ .busy/\
 ((r.pending=none/\a (nN σ l (.loop {r with state:= .exhausted})))\/(r.pending=some .ret/\b (nN σ l (.loop {r with state:= .exhausted}))))
def h5(b:Nat)(k:HP):HP:=λσ=>σ[b]?=some (.deferred (some []))/\k (nN σ b (.deferred none))
def marks:List Nat->HP->HP
 |[],p=>p
 |r::ms,p=>h5 r (marks ms p)
def mE(P:Program)(ro:Loop)(R:Nat->az->aK->HP):Prop:=
 ∀st a l vs K σ,σ[l]?=some (.loop {ro with state:=st,pending:=a})->R l vs K σ->ga P l #[] #[] vs K σ
def n5(P:Program)(R:Nat->az->aK->HP)(rA:Value)(b c:Nat->HP):HP:=λσ=>
 ∃a first captured,rA= .func (.func a) first captured/\fW P a=true/\∀ro:Loop,mE P ro R->
  ad P a (first.toList++[Value.func (.yield (σ.size+1)) #[] #[]]++captured.toList).toArray (λ_=>w8 (σ.size+1) (b σ.size) (c σ.size))
   ((σ.push (.deferred (some []))).push (.loop {ro with state:= .ready,pending:=none}))
def KR(a:List TK)(vs:az)(f:az->HP):HP:=λσ=>ku a λus=>vs=us/\f us σ
def yf(l:Nat)(K:aK):Exit->Env->HP
 | .normal,_=>fp l none (K (.bool true))
 | .ret,_=>fp l (some .ret) (K (.bool false))
 |_,_=>F
def GL(k:Env->HP):Exit->Env->HP
 | .normal,e=>k e
 |_,_=>F
def IW(P:Program)(hs:Hints)(e:Env)(aU:List (Nat×TK))(a body:Code)(l:Nat)(vs:az)(K:aK):HP:=
 KR (aU.map (·.2)) vs λus=>x P hs a 0 (iK e aU us) (GL λe=>i7 l (x P hs body 0 e (yf l K)))
def o5:Code->Bool
 | .rangeFunc .. =>false
 | .seq a b=>o5 a&&o5 b
 | .cond _ a b=>o5 a&&o5 b
 | .block _ c=>o5 c
 | .loop c=>o5 c
 | .scope _=>false
 |_=>true
def HJ(c:Code)(P:Program)(hs:Hints)(Q:Exit->Env->HP):Exit->Env->HP
 | .goto l,e=>match findLabel c l with
  |some rest=>x P hs rest 0 e λex e=>match ex with| .goto _=>F|ex=>Q ex e
  |none=>F
 |ex,e=>Q ex e
def YL(k:Env->List Nat->HP)(Q:Exit->Env->List Nat->HP):Exit->Env->List Nat->HP
 | .normal,e,ms=>k e ms
 |ex,e,ms=>Q ex e ms
def Ej(id:Nat)(Q:Exit->Env->List Nat->HP):Exit->Env->List Nat->HP
 | .exit i,e,ms=>match Nat.beq i id with|true=>Q .normal e ms|false=>Q (.exit i) e ms
 |ex,e,ms=>Q ex e ms
def x1(P:Program)(hs:Hints):Code->Nat->Env->List Nat->(Exit->Env->List Nat->HP)->HP
 | .seq a b,_,e,ms,Q=>match xx hs a with
  |none=>x1 P hs a 0 e ms (YL (λe ms=>x1 P hs b 0 e ms Q) Q)
  |some aU=>match o5 a with
   |true=>bu (Cr (aU.map (·.2)) λvs=>x1 P hs b 0 (iK (forget e (wr a)) aU vs) ms Q) λd=>x P hs a 0 e (yv (λe=>nM e aU d) λex e=>Q ex e ms)
   |false=>F
 | .block id c,_,e,ms,Q=>x1 P hs c (id+1) e ms (Ej id Q)
 | .scope c,_,e,ms,Q=>x P hs c 0 e (HJ c P hs λex e=>Q ex e ms)
 | .rangeFunc f _ g body,_,e,ms,Q=>match look hs.loops 900000 with
  |none=>F
  |some aU=>dv e f λrA=>n5 P (λl vs K=>IW P hs e aU g body l vs K) rA (λr=>Q .normal e (r::ms)) (λr=>Q .ret e (r::ms))
 |c,cur,e,ms,Q=>x P hs c cur e λex e=>Q ex e ms
def oS(hs:Hints)(n:Nat):Code->Bool
 | .seq a b=>oS hs n a&&oS hs n b&&(codeOk hs n a||!o5 a)
 | .block _ c=>oS hs n c
 | .scope c=>codeOk hs n c
 | .rangeFunc _ ps d body=>codeOk hs n d&&codeOk hs n body&&match look hs.loops 900000 with
  |some aU=>ps.toList==aU.map (·.1)&&aU.all (λs=>decide (s.1<n))&&decide ((aU.map (·.1)).Nodup)
  |none=>true
 |c=>codeOk hs n c
def xL(ms:List Nat):List Deferred:=ms.map λr=>{target:= .collected r,args:=#[]}
section
variable {P:Program}
def Ea{n:Nat}{e:Env}:∀(aU:List (Nat×TK)) (us:az) (ts:aw),us.length=aU.length->(∀s∈aU,s.1<n)->(aU.map (·.1)).Nodup->ts.size=n->(∀t v,e t=some v->ts.getD t undef=v.cd)->dF n (iK e aU us) {tmps:=((aU.map (·.1)).zip us).foldl (λts (x:Nat×Value)=>ts.setIfInBounds x.1 x.2) ts,defers:=[]}
 |[],us,ts,hl,_,_,hs,c=>⟨by simpa using hs,λt v h=>by simpa[iK]using c t v (by simpa[iK]using h)⟩
 |(s,tk)::r,[],ts,hl,_,_,hs,c=>by simp at hl
 |(s,tk)::r,u::us,ts,hl,f,hd,hs,c=>by
  simp only[cX,wo,wi];simp only[cX,fg]at hd;have i:s<n:=f (s,tk) (by simp)
  have j:∀(l:List Nat) (us:az) (ts:aw),s∉l->((l.zip us).foldl (λts (x:Nat×Value)=>ts.setIfInBounds x.1 x.2) ts).getD s undef=ts.getD s undef:=by
   intro l
   induction l with
   |nil=>intro us ts _;rfl
   |cons k l b=>
    intro us ts g
    cases us with
    |nil=>rfl
    |cons u us=>simp only[wo,wi];rw[b us _ λh=>g (by simp[h])];have d:k≠s:=λe=>g (by simp[e]);simp[oh,vY d]
  have b:=Ea (n:=n) (e:=λt=>match Nat.beq t s with|true=>none|false=>e t) r us (ts.setIfInBounds s u) (by simpa using hl) (λx m=>f x (by simp[m])) hd.2 (by simpa using hs)
   (λt v h=>by
    cases a:Nat.beq t s with
    |true=>rw[a]at h;cases h
    |false=>
     rw[a]at h;have d:s≠t:=λe=>by subst e;simp at a
     have:=c t v h;rw[<-this];simp[oh,vY d])
  refine⟨b.size,λt v h=>?_⟩;simp only[iK,bM]at h
  cases a:Nat.beq t s with
  |true=>rw[a]at h;simp only[iR]at h;subst h;obtain rfl:=lM a;show(_:aw).getD t undef=u;rw[j _ us _ hd.1];simp[oh,hs,i]
  |false=>
   rw[a]at h;apply b.val t v
   have:∀(r:List (Nat×TK)) (us:az),iK e r us t=iK (λt=>match Nat.beq t s with|true=>none|false=>e t) r us t:=by
    intro r
    induction r with
    |nil=>intro us;simp[iK,a]
    |cons x r b=>
     intro us
     cases us with
     |nil=>simp[iK,a]
     |cons u us=>simp only[iK,bM];split<;>first|rfl|exact b us
   rw[<-this];exact h
def Ux(ps:List Nat)(us:az)(ts:aw):((ps.toArray.zip us.toArray).foldl (λtmps (t,a)=>tmps.setIfInBounds t a) ts)=((ps.zip us).foldl (λts (x:Nat×Value)=>ts.setIfInBounds x.1 x.2) ts):=by simp
def Ub{ts:List TK}{g:az->Prop}(h:ku ts g):∃vs,vs.length=ts.length/\g vs:=by
 induction ts generalizing g with
 |nil=>exact⟨[],rfl,h⟩
 |cons t ts a=>
  cases t<;>simp only[ku]at h
  case slice=>obtain⟨p,l,c,h⟩:=h;obtain⟨vs,hl,h⟩:=a h;exact⟨_,by simp[hl],h⟩
  all_goals (obtain⟨x,h⟩:=h;obtain⟨vs,hl,h⟩:=a h;exact⟨_,by simp[hl],h⟩)
def Yi(k:ki P)(hm:P.follows .mixedOrders=true){hs:Hints}{n:Nat}{e:Env}{aU:List (Nat×TK)}{f body:Code}{ro:Loop}(h1:codeOk hs n f=true)(u:codeOk hs n body=true)(y:∀s∈aU,s.1<n)(z:(aU.map (·.1)).Nodup)(m:ro.params=(aU.map (·.1)).toArray)(ha:ro.assign=f)(A:ro.body=body)(B:ro.tmps.size=n)(C:∀t v,e t=some v->ro.tmps.getD t undef=v.cd):mE P ro (λl vs K=>IW P hs e aU f body l vs K):=by
 intro st O l vs K σ hl h;subst ha A;obtain⟨us,g,rfl,h⟩:=Ub h;simp only[eX]at g;intro w hw;subst hw;refine⟨.round l ro.fn ((ro.params.zip vs.toArray).foldl (λtmps (x:Nat×Value)=>tmps.setIfInBounds x.1 x.2) ro.tmps) ro.assign ro.body,w,?_,.refl w,.inr (.inr (.inr ⟨l,ro.fn,_,ro.assign,ro.body,rfl,?_⟩))⟩
 ·simp only[Deferred.ofValue,Sem.run_bind,Sem.run_pure,Result.andThen_ok,invoke]
  have:=run_yield (P:=P) (w:=w) (args:=vs.toArray) hl (by simp[m,g]);simpa using this
 intro w' D;have o:=Ea (n:=n) (e:=e) aU vs ro.tmps g y z B C
 have E:(ro.params.zip vs.toArray).foldl (λtmps (x:Nat×Value)=>tmps.setIfInBounds x.1 x.2) ro.tmps=(((aU.map (·.1)).zip vs).foldl (λts (x:Nat×Value)=>ts.setIfInBounds x.1 x.2) ro.tmps):=by rw[m];exact Ux _ _ _
 rw[<-E]at o;rw[<-D]at h
 have key:=yT (P:=P) (ro:=some l) k hm (hs:=hs) (n:=n) ro.assign 0 (iK e aU vs) (GL λe=>i7 l (x P hs ro.body 0 e (yf l K)))
  (Exit.then (λF G=>∃p,(Instr.beginRound l).run P G= .ok () p/\ro.body.wpIn (FW (some l)) 0 P (roundPost P l λe w2=>∃v,e= .returned v/\K v w2.heap/\fj w' w2) F p) λ_ _ _=>False)
  {tmps:=(ro.params.zip vs.toArray).foldl (λtmps (x:Nat×Value)=>tmps.setIfInBounds x.1 x.2) ro.tmps,defers:=[]} w' w' h1 o (.refl w') ?_ h
 ·exact roundIn_of_wpIn trivial key
 intro ex q H r d b
 cases ex with
 |normal=>
  obtain⟨I,J,L,b⟩:=(show i7 l (x P hs ro.body 0 q (yf l K)) r.heap from b);refine⟨r.putObj l (.loop {I with state:= .busy}),run_beginRound J L,?_⟩;refine yT (P:=P) (ro:=some l) k hm (hs:=hs) (n:=n) ro.body 0 q (yf l K) _ H _ w' u d.env ⟨d.outer.1,d.outer.2.1,d.outer.2.2⟩ ?_ b;intro M Q a2 w2 c a
  cases M with
  |normal=>obtain⟨N,j,a⟩:=(show fp l none (K (.bool true)) w2.heap from a);exact⟨_,_,run_endRound none j,_,rfl,a,⟨c.outer.1,c.outer.2.1,c.outer.2.2⟩⟩
  |ret=>obtain⟨N,j,a⟩:=(show fp l (some .ret) (K (.bool false)) w2.heap from a);exact⟨_,_,run_endRound (some .ret) j,_,rfl,a,⟨c.outer.1,c.outer.2.1,c.outer.2.2⟩⟩
  |exit i=>exact a.elim
  |goto l=>exact a.elim
  |panic ch=>exact a.elim
  |outgrown=>exact a.elim
 |exit i=>exact b.elim
 |goto l=>exact b.elim
 |ret=>exact b.elim
 |panic ch=>exact b.elim
 |outgrown=>exact b.elim
def Yt(c:Code)(P:Program)(Q:Exit->Act->World->Prop):Exit->Act->World->Prop
 | .goto l,a,w=>∃rest,findLabel c l=some rest/\rest.wpIn (FW none) 0 P (λex a w=>match ex with| .goto _=>False|ex=>Q ex a w) a w
 |ex,a,w=>Q ex a w
def oc{b:Frame}{a:Act}{k:List Item}{cs:List Frame}{w:World}{c:Code}:step P (lone (b.atR a (.code (.scope c)::k)) cs w)= .next (lone (b.atR a (.code c:: .inScope c::k)) cs w):=step_lone_go (by simp[stepG,stepG.exec,Frame.atR])
def ZJ{b:Frame}{a:Act}{k:List Item}{cs:List Frame}{w:World}{c:Code}:step P (lone (b.atR a (.inScope c::k)) cs w)= .next (lone (b.atR a k) cs w):=step_lone_go (by simp[stepG,stepG.exec,Frame.atR])
def aaY{c:Code}{Q:Exit->Act->World->Prop}{a:Act}{w:World}(h:c.wpIn (FW none) 0 P (Yt c P Q) a w):(Code.scope c).wpIn (FW none) 0 P Q a w:=by
 intro b k cs r q hr;have u:b.roundOf=none:=r;have h0:(lone (b.atR a (.code (.scope c)::k)) cs w).fenced P (FW none):=fenced_calm q hr rfl;obtain⟨e,f,g,i,d⟩:=h b (.inScope c::k) cs r q hr
 have pass:∀(m:Machine) (e:Exit) (f:Act) (g:World),(∀l,e≠ .goto l)->ArrivesIn (Machine.fenced P (FW none)) P m b (.inScope c::k) cs e f g->ArrivesIn (Machine.fenced P (FW none)) P m b k cs e f g:=by
  intro m e f g s d
  cases e with
  |normal=>exact StepsIn.trans d (.one (fenced_calm q hr rfl) ZJ)
  |exit id=>exact⟨λk' U=>d.1 k' (by simp[exitTo,U]),λt U=>by rw[u]at t;cases t⟩
  |goto l=>exact absurd rfl (s l)
  |ret=>exact d
  |panic ch=>exact d
  |outgrown=>exact d
 cases e with
 |goto l=>
  obtain⟨rest,hf,v⟩:=i;have s:gotoIn l (.inScope c::k)=some (.code rest:: .inScope c::k):=by simp[gotoIn,hf]
  obtain⟨x,n,o,j,p⟩:=v b (.inScope c::k) cs r q hr;have s1:=d.1 _ s
  cases x with
  |goto y=>exact j.elim
  |normal=>exact⟨_,n,o,j,.of_steps (.head h0 oc s1) (pass _ _ _ _ (by simp) p)⟩
  |exit id=>exact⟨_,n,o,j,.of_steps (.head h0 oc s1) (pass _ _ _ _ (by simp) p)⟩
  |ret=>exact⟨_,n,o,j,.of_steps (.head h0 oc s1) (pass _ _ _ _ (by simp) p)⟩
  |panic ch=>exact⟨_,n,o,j,.of_steps (.head h0 oc s1) (pass _ _ _ _ (by simp) p)⟩
  |outgrown=>exact⟨_,n,o,j,.of_steps (.head h0 oc s1) (pass _ _ _ _ (by simp) p)⟩
 |normal=>exact⟨_,f,g,i,.of_steps (.one h0 oc) (pass _ _ _ _ (by simp) d)⟩
 |exit id=>exact⟨_,f,g,i,.of_steps (.one h0 oc) (pass _ _ _ _ (by simp) d)⟩
 |ret=>exact⟨_,f,g,i,.of_steps (.one h0 oc) (pass _ _ _ _ (by simp) d)⟩
 |panic ch=>exact⟨_,f,g,i,.of_steps (.one h0 oc) (pass _ _ _ _ (by simp) d)⟩
 |outgrown=>exact⟨_,f,g,i,.of_steps (.one h0 oc) (pass _ _ _ _ (by simp) d)⟩
def Uk{hs:Hints}{n:Nat}:∀(c:Code) (l:Nat) (r:Code),codeOk hs n c=true->findLabel c l=some r->codeOk hs n r=true:=by
 intro c
 induction c with
 |seq a b e g=>
  intro l r aM hf;simp only[codeOk,cg]at aM;simp only[findLabel]at hf
  cases ha:findLabel a l with
  |some rest=>rw[ha]at hf;cases hf;simp only[codeOk,cg];exact⟨e l rest aM.1 ha,aM.2⟩
  |none=>rw[ha]at hf;exact g l r aM.2 hf
 |label k=>
  intro l r aM hf;simp only[findLabel]at hf;split at hf
  ·cases hf;rfl
  ·cases hf
 |skip=>intro l r _ hf;cases hf
 |region id ops d=>intro l r _ hf;cases hf
 |cond c a b _ _=>intro l r _ hf;cases hf
 |block id c _=>intro l r _ hf;cases hf
 |loop c _=>intro l r _ hf;cases hf
 |rangeFunc f ps a b _ _=>intro l r _ hf;cases hf
 |exit id=>intro l r _ hf;cases hf
 |scope c _=>intro l r _ hf;cases hf
 |goto k=>intro l r _ hf;cases hf
 |ret=>intro l r _ hf;cases hf
 |refuse y=>intro l r _ hf;cases hf
structure wy(n:Nat)(w0:World)(e:Env)(ms:List Nat)(a:Act)(w:World):Prop where
 env:dF n e a
 defers:a.defers=xL ms
 outer:fj w0 w
def aa7(A:ki P)(hm:P.follows .mixedOrders=true){hs:Hints}{n:Nat}:∀(c:Code) (cur:Nat) (e:Env) (ms:List Nat) (Q:Exit->Env->List Nat->HP) (m:Exit->Act->World->Prop) (a:Act) (w w0:World),oS hs n c=true->wy n w0 e ms a w->(∀ex o q a' w',wy n w0 o q a' w'->Q ex o q w'.heap->m ex a' w')->x1 P hs c cur e ms Q w.heap->c.wpIn (FW none) 0 P m a w:=by
 have plain:∀(c:Code) (cur:Nat) (e:Env) (ms:List Nat) (Q:Exit->Env->HP)
   (m:Exit->Act->World->Prop) (a:Act) (w w0:World),codeOk hs n c=true->wy n w0 e ms a w->
   (∀ex o a' w',wy n w0 o ms a' w'->hh (wr c) a a'->Q ex o w'.heap->m ex a' w')->x P hs c cur e Q w.heap->c.wpIn (FW none) 0 P m a w:=by
  intro c cur e ms Q m a w w0 aM k g h;exact yT A hm c cur e Q m a w w0 aM k.env k.outer (λex o a' w' j b=>g ex o a' w' ⟨j.env,j.defers.trans k.defers,j.outer⟩ j.same b) h
 intro c
 induction c with
 |seq c1 c2 E B=>
  intro cur e ms Q m a w w0 aM k g h;simp only[oS,cg]at aM;simp only[x1]at h;apply wpIn_seq
  cases F:xx hs c1 with
  |none=>
   rw[F]at h;refine E 0 e ms _ _ a w w0 aM.1.1 k (λex o q a' w' j b=>?_) h
   cases ex with
   |normal=>exact B 0 o q Q m a' w' w0 aM.1.2 j g b
   |exit i=>exact g _ _ _ _ _ j b
   |goto l=>exact g _ _ _ _ _ j b
   |ret=>exact g _ _ _ _ _ j b
   |panic ch=>exact g _ _ _ _ _ j b
   |outgrown=>exact g _ _ _ _ _ j b
  |some aU=>
   rw[F]at h
   cases C:o5 c1 with
   |false=>rw[C]at h;exact h.elim
   |true=>
    rw[C]at h;have O:codeOk hs n c1=true:=by have:=aM.2;rw[C]at this;simpa using this
    refine plain c1 0 e ms _ _ a w w0 O k (λex o a' w' j R b=>?_) h
    cases ex with
    |normal=>obtain⟨vs,S,eP,U⟩:=uO (show nM o aU _ w'.heap from b);have U:=S.use U;exact B 0 _ ms Q m a' w' w0 aM.1.2 ⟨eP n a' j.env _ (R.forget k.env),j.defers,j.outer⟩ g U
    |exit i=>exact g _ _ _ _ _ j b
    |goto l=>exact g _ _ _ _ _ j b
    |ret=>exact g _ _ _ _ _ j b
    |panic ch=>exact g _ _ _ _ _ j b
    |outgrown=>exact g _ _ _ _ _ j b
 |block id c G=>
  intro cur e ms Q m a w w0 aM k g h;simp only[x1]at h;refine wpIn_block (G (id+1) e ms _ _ a w w0 aM k (λex o q a' w' j b=>?_) h)
  cases ex with
  |exit i=>
   simp only[Exit.inBlock];simp only[Ej]at b
   cases z:Nat.beq i id with
   |true=>rw[z]at b;rw[ag (lM z)];exact g _ _ _ _ _ j b
   |false=>
    rw[z]at b;have T:i≠id:=λe=>by subst e;simp at z
    rw[aj T];exact g _ _ _ _ _ j b
  |normal=>exact g _ _ _ _ _ j b
  |goto l=>exact g _ _ _ _ _ j b
  |ret=>exact g _ _ _ _ _ j b
  |panic ch=>exact g _ _ _ _ _ j b
  |outgrown=>exact g _ _ _ _ _ j b
 |scope c G=>
  intro cur e ms Q m a w w0 aM k g h;simp only[oS]at aM;simp only[x1]at h;refine aaY (plain c 0 e ms _ _ a w w0 aM k (λex o a' w' j _ b=>?_) h)
  cases ex with
  |goto l=>
   simp only[HJ]at b
   cases hf:findLabel c l with
   |none=>rw[hf]at b;exact b.elim
   |some rest=>
    rw[hf]at b;refine⟨rest,hf,plain rest 0 o ms _ _ a' w' w0 (Uk c l rest aM hf) j (λex ao a3 H s _ p=>?_) b⟩
    cases ex with
    |goto l=>exact p.elim
    |normal=>exact g _ _ _ _ _ s p
    |exit i=>exact g _ _ _ _ _ s p
    |ret=>exact g _ _ _ _ _ s p
    |panic ch=>exact g _ _ _ _ _ s p
    |outgrown=>exact g _ _ _ _ _ s p
  |normal=>exact g _ _ _ _ _ j b
  |exit i=>exact g _ _ _ _ _ j b
  |ret=>exact g _ _ _ _ _ j b
  |panic ch=>exact g _ _ _ _ _ j b
  |outgrown=>exact g _ _ _ _ _ j b
 |rangeFunc f ps t body E B=>
  intro cur e ms Q m a w w0 aM k g h;simp only[oS,cg]at aM;simp only[x1]at h
  cases hl:look hs.loops 900000 with
  |none=>rw[hl]at h;exact h.elim
  |some aU=>
   rw[hl]at h aM;obtain⟨⟨V,W⟩,I⟩:=aM;simp only[cg,hQ,iq,bJ]at I;obtain⟨⟨X,Y⟩,Z⟩:=I;have h:=dC (λx v aa=>k.env.ev x v aa) h;obtain⟨J,first,captured,hf,ab,h⟩:=h
   ·refine wpIn_rangeFunc λfn _=>?_
    have ac:=h {state:= .ready,pending:=none,fn:=fn,tmps:=a.tmps,params:=ps,assign:=t,body:=body,defers:=w.heap.size}
     (Yi A hm V W Y Z (by rw[<-X]) rfl rfl k.env.size k.env.val)
    refine⟨w.heap.size+1,[{target:= .collected w.heap.size,args:=#[]}],(w.alloc (.deferred (some []))).alloc (.loop {state:= .ready,pending:=none,fn:=fn,tmps:=a.tmps,params:=ps,assign:=t,body:=body,defers:=w.heap.size}),{target:=Target.fn (.func J) captured,args:=first++#[Value.func (.yield (w.heap.size+1)) #[] #[]]},(w.alloc (.deferred (some []))).alloc (.loop {state:= .ready,pending:=none,fn:=fn,tmps:=a.tmps,params:=ps,assign:=t,body:=body,defers:=w.heap.size}),J,(first.toList++[Value.func (.yield (w.heap.size+1)) #[] #[]]++captured.toList).toArray,(w.alloc (.deferred (some []))).alloc (.loop {state:= .ready,pending:=none,fn:=fn,tmps:=a.tmps,params:=ps,assign:=t,body:=body,defers:=w.heap.size}),
     run_enterLoop_outer fn a.tmps ps t body,?_,λad _=>wA none ad,?_,λh=>(by cases h),?_⟩
    ·have:(#[Operand.const (Value.func (.yield (w.heap.size+1)) #[] #[])]:Array Operand).map a.eval=#[Value.func (.yield (w.heap.size+1)) #[] #[]]:=by simp[Act.eval]
     simp only[resolve,rangeCall,hf,Deferred.ofValue,Sem.run_pure,this]
    ·have ae:(first.toList++[Value.func (.yield (w.heap.size+1)) #[] #[]]++captured.toList).toArray=first++#[Value.func (.yield (w.heap.size+1)) #[] #[]]++captured:=by apply gE;simp
     rw[ae];simp only[invoke];exact z6 A _ ab _
    ·refine Dp (Calls.mono (ac _ rfl) ?_)
     rintro en H ⟨v,rfl,⟨r,hr,af,b⟩,D⟩
     have K:({a with defers:=[{target:=Target.collected w.heap.size,args:=#[]}]++a.defers}:Act).defers=xL (w.heap.size::ms):=by simp[xL,k.defers]
     have L:dF n e {a with defers:=[{target:=Target.collected w.heap.size,args:=#[]}]++a.defers}:=⟨k.env.size,k.env.val⟩;obtain⟨ap,M,ah,ai,ak,al,am,an⟩:=r;have N:fj w0 (H.putObj (w.heap.size+1) (.loop {state:= .exhausted,pending:=M,fn:=ah,tmps:=ai,params:=ak,assign:=al,body:=am,defers:=an})):=⟨D.1.trans k.outer.1,D.2.1.trans k.outer.2.1,D.2.2.trans k.outer.2.2⟩;refine⟨M,_,run_endLoop hr af,?_⟩;rcases b with⟨u,b⟩|⟨u,b⟩
     ·simp only at u;subst u;exact g _ _ _ _ _ ⟨L,K,N⟩ b
     ·simp only at u;subst u;exact wpIn_ret (g _ _ _ _ _ ⟨L,K,N⟩ b)
 |skip=>exact λcur e ms Q m a w w0 aM k g h=>plain _ cur e ms _ m a w w0 aM k (λex o a' w' j _ b=>g _ _ _ _ _ j b) h
 |region id ops d=>exact λcur e ms Q m a w w0 aM k g h=>plain _ cur e ms _ m a w w0 aM k (λex o a' w' j _ b=>g _ _ _ _ _ j b) h
 |cond c c1 c2 _ _=>exact λcur e ms Q m a w w0 aM k g h=>plain _ cur e ms _ m a w w0 aM k (λex o a' w' j _ b=>g _ _ _ _ _ j b) h
 |loop c _=>exact λcur e ms Q m a w w0 aM k g h=>plain _ cur e ms _ m a w w0 aM k (λex o a' w' j _ b=>g _ _ _ _ _ j b) h
 |exit id=>exact λcur e ms Q m a w w0 aM k g h=>plain _ cur e ms _ m a w w0 aM k (λex o a' w' j _ b=>g _ _ _ _ _ j b) h
 |label l=>exact λcur e ms Q m a w w0 aM k g h=>plain _ cur e ms _ m a w w0 aM k (λex o a' w' j _ b=>g _ _ _ _ _ j b) h
 |goto l=>exact λcur e ms Q m a w w0 aM k g h=>plain _ cur e ms _ m a w w0 aM k (λex o a' w' j _ b=>g _ _ _ _ _ j b) h
 |ret=>exact λcur e ms Q m a w w0 aM k g h=>plain _ cur e ms _ m a w w0 aM k (λex o a' w' j _ b=>g _ _ _ _ _ j b) h
 |refuse y=>exact λcur e ms Q m a w w0 aM k g h=>plain _ cur e ms _ m a w w0 aM k (λex o a' w' j _ b=>g _ _ _ _ _ j b) h
def BQ(P:Program)(rs:List ResultVar)(K:aK):Exit->Env->List Nat->HP
 | .normal,e,ms=>marks ms (nk P e rs λvs=>K (rS vs))
 | .ret,e,ms=>marks ms (nk P e rs λvs=>K (rS vs))
 |_,_,_=>F
def A6{n:Nat}{fn:Func}{e:Env}{K:aK}{w0:World}:∀(ms:List Nat) (a:Act) (w:World),dF n e a->fj w0 w->marks ms (nk P e fn.results.toList λvs=>K (rS vs)) w.heap->LeavesInM Fence.wide 0 P fn a.tmps (λe w'=>∃v,e= .returned v/\K v w'.heap/\fj w0 w') (xL ms) .returning w
 |[],a,w,c,b,h=>by obtain⟨v,hr,U⟩:=BO c h;exact⟨v,hr,v,rfl,U,b⟩
 |r::ms,a,w,c,b,h=>by obtain⟨h1,d⟩:=h;refine⟨by simp,.inl ⟨r,_,rfl,run_takeDeferred h1,?_⟩⟩;exact A6 ms a _ c ⟨b.1,b.2.1,b.2.2⟩ d
def LO(j:ki P)(hm:P.follows .mixedOrders=true){hs:Hints}{f:FuncId}{fn:Func}{c:Code}{args:az}{K:aK}{σ:Heap}(hf:P.funcs[f]?=some fn)(k:fn.body=some c)(aM:oS hs fn.ntmps c=true)(hlen:args.length<=fn.ntmps)(h:x1 P hs c 0 (mH args 0) [] (BQ P fn.results.toList K) σ):ad P f args.toArray K σ:=by
 intro w hw;subst hw;refine(callsIn_wide (n:=0)).1 (callsIn_of_wp_marks hf k trivial ?_)
 have m:dF fn.ntmps (mH args 0) {tmps:=args.toArray++Array.replicate (fn.ntmps-args.toArray.size) undef,defers:=[]}:=by refine⟨by simp;omega,λt v o=>?_⟩;obtain⟨u,rfl,_,d⟩:=zO args 0 t v o;simp only[iQ]at d;have e:t<args.length:=(bY.1 d).1;simp[oh,IZ,e,SV.cd];rw[bj e]at d;exact qQ d
 refine aa7 j hm c 0 (mH args 0) [] (BQ P fn.results.toList K) _ _ w w aM ⟨m,rfl,.refl w⟩ ?_ h;intro ex p g a' w' a b
 cases ex with
 |normal=>show LeavesInM _ _ _ _ _ _ a'.defers _ _;rw[a.defers];exact A6 g a' w' a.env a.outer b
 |ret=>show LeavesInM _ _ _ _ _ _ a'.defers _ _;rw[a.defers];exact A6 g a' w' a.env a.outer b
 |exit i=>exact b.elim
 |goto l=>exact b.elim
 |panic ch=>exact b.elim
 |outgrown=>exact b.elim
end
