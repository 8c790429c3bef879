/- Lemmas that lead to TopWhole (their names made short by a program); no condition. -/
import Derived.Test.YtlmgompopkamfaaGreatDoorLC
import Derived.Test.YtlmgompopkamfaaGreatDoorProg
set_option linter.all false
set_option maxRecDepth 100000
namespace Go.XS
section
abbrev D(n:Int):Value:= .int .i64 n
abbrev ag(b o:Nat):Addr:=⟨b,o,none⟩
abbrev pz(b:Nat):Value:= .pointer (some ⟨b,0,none⟩)
def ex(v:Value)(f:HP):HP:=λσ=>(v=Value.tuple #[])/\f σ
def EM(v:Value)(f:ax->ax->HP):HP:=λσ=>∃a b,(v=Value.tuple #[.agg a,.agg b])/\f a b σ
def uA(v:Value)(f:ax->Bool->HP):HP:=λσ=>∃a b,(v=Value.tuple #[.agg a,.bool b])/\f a b σ
def wV(v:Value)(f:ax->Int->HP):HP:=λσ=>∃a b,(v=Value.tuple #[.agg a,D b])/\f a b σ
def EN(v:Value)(f:ax->Int->Int->Int->HP):HP:=λσ=>∃a b c d,(v=Value.tuple #[.agg a,D b,D c,D d])/\f a b c d σ
def EO(v:Value)(f:ax->aK):HP:=λσ=>∃a b,(v=Value.tuple #[.agg a,b])/\f a b σ
def EP(v:Value)(f:Bool->Int->HP):HP:=λσ=>∃a b,(v=Value.tuple #[.bool a,D b])/\f a b σ
def sE(v:Value)(f:Int->Bool->HP):HP:=λσ=>∃a b,(v=Value.tuple #[D a,.bool b])/\f a b σ
def ER(v:Value)(f:Int->Int->HP):HP:=λσ=>∃a b,(v=Value.tuple #[D a,D b])/\f a b σ
def ES(v:Value)(f:Int->Int->Bool->HP):HP:=λσ=>∃a b c,(v=Value.tuple #[D a,D b,.bool c])/\f a b c σ
def ET(v:Value)(f:Int->Int->Int->HP):HP:=λσ=>∃a b c,(v=Value.tuple #[D a,D b,D c])/\f a b c σ
def EU(v:Value)(f:Int->Int->Int->Int->Bool->HP):HP:=λσ=>∃a b c d e,(v=Value.tuple #[D a,D b,D c,D d,.bool e])/\f a b c d e σ
def EV(v:Value)(f:aw->Bool->HP):HP:=λσ=>∃a b,(v=Value.tuple #[.pointer a,.bool b])/\f a b σ
def EW(v:Value)(f:aw->Int->HP):HP:=λσ=>∃a b,(v=Value.tuple #[.pointer a,D b])/\f a b σ
def EX(v:Value)(f:aw->Nat->Nat->Bool->HP):HP:=λσ=>∃a b c d,(v=Value.tuple #[.slice a b c,.bool d])/\f a b c d σ
def EY(v:Value)(f:aw->Nat->Nat->Int->HP):HP:=λσ=>∃a b c d,(v=Value.tuple #[.slice a b c,D d])/\f a b c d σ
def EZ(v:Value)(f:aw->Nat->Nat->Int->Int->HP):HP:=λσ=>∃a b c d e,(v=Value.tuple #[.slice a b c,D d,D e])/\f a b c d e σ
def wW(v:Value)(f:Value->Int->HP):HP:=λσ=>∃a b,(v=Value.tuple #[a,D b])/\f a b σ
def T3(v:Value)(f:ByteArray->Bool->HP):HP:=λσ=>∃a b,(v=Value.tuple #[.string a,.bool b])/\f a b σ
def E0(v:Value)(f:ByteArray->Int->HP):HP:=λσ=>∃a b,(v=Value.tuple #[.string a,D b])/\f a b σ
def E1(v:Value)(f:ByteArray->ByteArray->Bool->HP):HP:=λσ=>∃a b c,(v=Value.tuple #[.string a,.string b,.bool c])/\f a b c σ
def lp(f:(aB->HP)->HP):aB->(aB->HP)->HP:=λvs R σ=>(vs=[])->f R σ
def xv(f:Bool->Int->(aB->HP)->HP):aB->(aB->HP)->HP:=λvs R σ=>∀a b,(vs=[.bool a,D b])->f a b R σ
def FT(f:Bool->Int->aw->Nat->Nat->(aB->HP)->HP):aB->(aB->HP)->HP:=λvs R σ=>∀a b c d e,(vs=[.bool a,D b,.slice c d e])->f a b c d e R σ
def FU(f:Bool->aw->Nat->Nat->Int->(aB->HP)->HP):aB->(aB->HP)->HP:=λvs R σ=>∀a b c d e,(vs=[.bool a,.slice b c d,D e])->f a b c d e R σ
def cG(f:Int->(aB->HP)->HP):aB->(aB->HP)->HP:=λvs R σ=>∀a,(vs=[D a])->f a R σ
def kZ(f:Int->Int->(aB->HP)->HP):aB->(aB->HP)->HP:=λvs R σ=>∀a b,(vs=[D a,D b])->f a b R σ
def FV(f:Int->aw->Nat->Nat->Bool->Int->(aB->HP)->HP):aB->(aB->HP)->HP:=λvs R σ=>∀a b c d e g,(vs=[D a,.slice b c d,.bool e,D g])->f a b c d e g R σ
def j0(f:aw->Nat->Nat->Int->(aB->HP)->HP):aB->(aB->HP)->HP:=λvs R σ=>∀a b c d,(vs=[.slice a b c,D d])->f a b c d R σ
def AL(f:aw->Nat->Nat->Int->aw->Nat->Nat->Int->(aB->HP)->HP):aB->(aB->HP)->HP:=λvs R σ=>∀a b c d e g h i,(vs=[.slice a b c,D d,.slice e g h,D i])->f a b c d e g h i R σ
def FX(f:aw->Nat->Nat->aw->Nat->Nat->Int->(aB->HP)->HP):aB->(aB->HP)->HP:=λvs R σ=>∀a b c d e g h,(vs=[.slice a b c,.slice d e g,D h])->f a b c d e g h R σ
def jn(f:HP):aB->HP:=λvs σ=>(vs=[])->f σ
def hN(f:Bool->HP):aB->HP:=λvs σ=>∀a,(vs=[.bool a])->f a σ
def Fz(f:Int->HP):aB->HP:=λvs σ=>∀a,(vs=[D a])->f a σ
def FA(f:Int->Int->HP):aB->HP:=λvs σ=>∀a b,(vs=[D a,D b])->f a b σ
def FB(f:Int->Int->Int->HP):aB->HP:=λvs σ=>∀a b c,(vs=[D a,D b,D c])->f a b c σ
def nJ(f:aw->HP):aB->HP:=λvs σ=>∀a,(vs=[.pointer a])->f a σ
def FC(f:aw->Bool->HP):aB->HP:=λvs σ=>∀a b,(vs=[.pointer a,.bool b])->f a b σ
def AA(f:aw->Int->HP):aB->HP:=λvs σ=>∀a b,(vs=[.pointer a,D b])->f a b σ
def x6(f:Nat->ax->aK->HP):Nat->aB->aK->HP:=λl vs R σ=>∃a,(vs=[.agg a])/\f l a R σ
def GZ(f:Nat->Int->aK->HP):Nat->aB->aK->HP:=λl vs R σ=>∃a,(vs=[D a])/\f l a R σ
def Bo(f:Nat->Int->Bool->aK->HP):Nat->aB->aK->HP:=λl vs R σ=>∃a b,(vs=[D a,.bool b])/\f l a b R σ
def ta(f:Nat->Int->Int->aK->HP):Nat->aB->aK->HP:=λl vs R σ=>∃a b,(vs=[D a,D b])/\f l a b R σ
def Bp(f:Nat->Int->ByteArray->aK->HP):Nat->aB->aK->HP:=λl vs R σ=>∃a b,(vs=[D a,.string b])/\f l a b R σ
def cw(p:aw)(o:Nat)(f:Int->HP):HP:=aA p λa=>bs .i64 (a.add o) f
def eX(p:aw)(l:Nat)(i:Int)(f:Int->HP):HP:=aA p λa=>aR ((0:Int)<=i/\i<(l:Int)) (bs .i64 (a.add i.toNat) f)
def db(p:aw)(l:Nat)(i:Int)(s o:Nat)(f:Int->HP):HP:=aA p λa=>aR ((0:Int)<=i/\i<(l:Int)) (bs .i64 ((a.add (i.toNat*s)).add o) f)
def E4(p:aw)(o:Nat)(f:Bool->HP):HP:=aA p λa=>hA (a.add o) f
def Ay(p:aw)(l:Nat)(i:Int)(f:Bool->HP):HP:=aA p λa=>aR ((0:Int)<=i/\i<(l:Int)) (hA (a.add i.toNat) f)
def bc(p:aw)(o:Nat)(f:aw->HP):HP:=aA p λa=>bx (a.add o) f
def b5(p:aw)(o:Nat)(f:aw->Nat->Nat->HP):HP:=aA p λa=>aT (a.add o) f
def sN(p:aw)(l:Nat)(i:Int)(f:aw->Nat->Nat->HP):HP:=aA p λa=>aR ((0:Int)<=i/\i<(l:Int)) (aT (a.add i.toNat) f)
def sF(p:aw)(o:Nat)(f:ByteArray->HP):HP:=aA p λa=>iz (a.add o) f
def xl(p:aw)(l:Nat)(i:Int)(f:ByteArray->HP):HP:=aA p λa=>aR ((0:Int)<=i/\i<(l:Int)) (iz (a.add i.toNat) f)
def Fy(p:aw)(l:Nat)(i:Int)(s o:Nat)(f:ByteArray->HP):HP:=aA p λa=>aR ((0:Int)<=i/\i<(l:Int)) (iz ((a.add (i.toNat*s)).add o) f)
def cW(p:aw)(o:Nat)(f:Option Nat->HP):HP:=aA p λa=>gu (a.add o) f
def Aa(p:aw)(o:Nat)(f:aK):HP:=aA p λa=>gN (a.add o) f
def jX(p:aw)(o:Nat)(n:Nat)(f:ax->HP):HP:=aA p λa=>eY (a.add o) n f
def sM(p:aw)(l:Nat)(i:Int)(n:Nat)(f:ax->HP):HP:=aA p λa=>aR ((0:Int)<=i/\i<(l:Int)) (eY (a.add i.toNat) n f)
def rv(p:aw)(l:Nat)(i:Int)(s o n:Nat)(f:ax->HP):HP:=aA p λa=>aR ((0:Int)<=i/\i<(l:Int)) (eY ((a.add (i.toNat*s)).add o) n f)
def de(p:aw)(l:Nat)(i:Int)(s n:Nat)(f:ax->HP):HP:=aA p λa=>aR ((0:Int)<=i/\i<(l:Int)) (eY (a.add (i.toNat*s)) n f)
def cO(p:aw)(o:Nat)(v:Value)(k:HP):HP:=aA p λa=>st (a.add o) v k
def E5(p:aw)(o:Nat)(cs:ax)(n:Nat)(k:HP):HP:=aA p λa=>gW (a.add o) cs n k
def oS(p:aw)(l:Nat)(i:Int)(v:Value)(k:HP):HP:=aA p λa=>aR ((0:Int)<=i/\i<(l:Int)) (st (a.add i.toNat) v k)
def qa(p:aw)(l:Nat)(i:Int)(s o:Nat)(v:Value)(k:HP):HP:=aA p λa=>aR ((0:Int)<=i/\i<(l:Int)) (st ((a.add (i.toNat*s)).add o) v k)
def Az(p:aw)(l:Nat)(i:Int)(s o:Nat)(cs:ax)(n:Nat)(k:HP):HP:=aA p λa=>aR ((0:Int)<=i/\i<(l:Int)) (gW ((a.add (i.toNat*s)).add o) cs n k)
def jZ(p:aw)(l:Nat)(i:Int)(s:Nat)(cs:ax)(n:Nat)(k:HP):HP:=aA p λa=>aR ((0:Int)<=i/\i<(l:Int)) (gW (a.add (i.toNat*s)) cs n k)
class J (B:Heap) (H:au) (p:HP) (Q:outParam Prop):Prop where go:Q->T B H p
class S2 (B:Heap) (H:au) (p:HP) (c d:outParam Prop) (Q R:outParam Prop):Prop where go:(c->Q)->(d->R)->T B H p
class Sc (B:Heap) (H:au) (p:HP) (c Q:outParam Prop):Prop where go:c->Q->T B H p
class Sa {α:outParam Type} (B:Heap) (H:au) (p:HP) (Q:outParam (α->Prop)):Prop where go:(∀x,Q x)->T B H p
section
variable {B:Heap}{H:au}
instance {f:HP}:J B H (ex (.tuple #[]) f) (T B H f):=⟨λt=>dU rfl t⟩
instance {a:ax}{b:ax}{f:ax->ax->HP}:J B H (EM (.tuple #[.agg a,.agg b]) f) (T B H (f a b)):=⟨λt=>cp _ (cp _ (dU rfl t))⟩
instance {a:ax}{b:Bool}{f:ax->Bool->HP}:J B H (uA (.tuple #[.agg a,.bool b]) f) (T B H (f a b)):=⟨λt=>cp _ (cp _ (dU rfl t))⟩
instance {a:ax}{b:Int}{f:ax->Int->HP}:J B H (wV (.tuple #[.agg a,D b]) f) (T B H (f a b)):=⟨λt=>cp _ (cp _ (dU rfl t))⟩
instance {a:ax}{b:Int}{c:Int}{d:Int}{f:ax->Int->Int->Int->HP}:J B H (EN (.tuple #[.agg a,D b,D c,D d]) f) (T B H (f a b c d)):=⟨λt=>cp _ (cp _ (cp _ (cp _ (dU rfl t))))⟩
instance {a:Value}{b:Int}{f:Value->Int->HP}:J B H (wW (.tuple #[a,D b]) f) (T B H (f a b)):=⟨λt=>cp _ (cp _ (dU rfl t))⟩
instance {a:ax}{b:Value}{f:ax->aK}:J B H (EO (.tuple #[.agg a,b]) f) (T B H (f a b)):=⟨λt=>cp _ (cp _ (dU rfl t))⟩
instance {a:Bool}{b:Int}{f:Bool->Int->HP}:J B H (EP (.tuple #[.bool a,D b]) f) (T B H (f a b)):=⟨λt=>cp _ (cp _ (dU rfl t))⟩
instance {a:Int}{b:Bool}{f:Int->Bool->HP}:J B H (sE (.tuple #[D a,.bool b]) f) (T B H (f a b)):=⟨λt=>cp _ (cp _ (dU rfl t))⟩
instance {a:Int}{b:Int}{f:Int->Int->HP}:J B H (ER (.tuple #[D a,D b]) f) (T B H (f a b)):=⟨λt=>cp _ (cp _ (dU rfl t))⟩
instance {a:Int}{b:Int}{c:Bool}{f:Int->Int->Bool->HP}:J B H (ES (.tuple #[D a,D b,.bool c]) f) (T B H (f a b c)):=⟨λt=>cp _ (cp _ (cp _ (dU rfl t)))⟩
instance {a:Int}{b:Int}{c:Int}{f:Int->Int->Int->HP}:J B H (ET (.tuple #[D a,D b,D c]) f) (T B H (f a b c)):=⟨λt=>cp _ (cp _ (cp _ (dU rfl t)))⟩
instance {a:Int}{b:Int}{c:Int}{d:Int}{e:Bool}{f:Int->Int->Int->Int->Bool->HP}:J B H (EU (.tuple #[D a,D b,D c,D d,.bool e]) f) (T B H (f a b c d e)):=⟨λt=>cp _ (cp _ (cp _ (cp _ (cp _ (dU rfl t)))))⟩
instance {a:aw}{b:Bool}{f:aw->Bool->HP}:J B H (EV (.tuple #[.pointer a,.bool b]) f) (T B H (f a b)):=⟨λt=>cp _ (cp _ (dU rfl t))⟩
instance {a:aw}{b:Int}{f:aw->Int->HP}:J B H (EW (.tuple #[.pointer a,D b]) f) (T B H (f a b)):=⟨λt=>cp _ (cp _ (dU rfl t))⟩
instance {a:aw}{b:Nat}{c:Nat}{d:Bool}{f:aw->Nat->Nat->Bool->HP}:J B H (EX (.tuple #[.slice a b c,.bool d]) f) (T B H (f a b c d)):=⟨λt=>cp _ (cp _ (cp _ (cp _ (dU rfl t))))⟩
instance {a:aw}{b:Nat}{c:Nat}{d:Int}{f:aw->Nat->Nat->Int->HP}:J B H (EY (.tuple #[.slice a b c,D d]) f) (T B H (f a b c d)):=⟨λt=>cp _ (cp _ (cp _ (cp _ (dU rfl t))))⟩
instance {a:aw}{b:Nat}{c:Nat}{d:Int}{e:Int}{f:aw->Nat->Nat->Int->Int->HP}:J B H (EZ (.tuple #[.slice a b c,D d,D e]) f) (T B H (f a b c d e)):=⟨λt=>cp _ (cp _ (cp _ (cp _ (cp _ (dU rfl t)))))⟩
instance {a:ByteArray}{b:Int}{f:ByteArray->Int->HP}:J B H (E0 (.tuple #[.string a,D b]) f) (T B H (f a b)):=⟨λt=>cp _ (cp _ (dU rfl t))⟩
instance {a:ByteArray}{b:ByteArray}{c:Bool}{f:ByteArray->ByteArray->Bool->HP}:J B H (E1 (.tuple #[.string a,.string b,.bool c]) f) (T B H (f a b c)):=⟨λt=>cp _ (cp _ (cp _ (dU rfl t)))⟩
instance {f:HP}:J B H (jn f []) (T B H f):=⟨λt σ o e=>by cases e;exact t σ o⟩
instance {a:Bool}{f:Bool->HP}:J B H (hN f [.bool a]) (T B H (f a)):=⟨λt σ o _ e=>by cases e;exact t σ o⟩
instance {a:Int}{f:Int->HP}:J B H (Fz f [D a]) (T B H (f a)):=⟨λt σ o _ e=>by cases e;exact t σ o⟩
instance {a:Int}{b:Int}{f:Int->Int->HP}:J B H (FA f [D a,D b]) (T B H (f a b)):=⟨λt σ o _ _ e=>by cases e;exact t σ o⟩
instance {a:Int}{b:Int}{c:Int}{f:Int->Int->Int->HP}:J B H (FB f [D a,D b,D c]) (T B H (f a b c)):=⟨λt σ o _ _ _ e=>by cases e;exact t σ o⟩
instance {a:aw}{f:aw->HP}:J B H (nJ f [.pointer a]) (T B H (f a)):=⟨λt σ o _ e=>by cases e;exact t σ o⟩
instance {a:aw}{b:Bool}{f:aw->Bool->HP}:J B H (FC f [.pointer a,.bool b]) (T B H (f a b)):=⟨λt σ o _ _ e=>by cases e;exact t σ o⟩
instance {a:aw}{b:Int}{f:aw->Int->HP}:J B H (AA f [.pointer a,D b]) (T B H (f a b)):=⟨λt σ o _ _ e=>by cases e;exact t σ o⟩
instance {l:Nat}{a:ax}{K:aK}{f:Nat->ax->aK->HP}:J B H (x6 f l [.agg a] K) (T B H (f l a K)):=⟨λt=>cp _ (dU rfl t)⟩
instance {l:Nat}{a:Int}{K:aK}{f:Nat->Int->aK->HP}:J B H (GZ f l [D a] K) (T B H (f l a K)):=⟨λt=>cp _ (dU rfl t)⟩
instance {l:Nat}{a:Int}{b:Bool}{K:aK}{f:Nat->Int->Bool->aK->HP}:J B H (Bo f l [D a,.bool b] K) (T B H (f l a b K)):=⟨λt=>cp _ (cp _ (dU rfl t))⟩
instance {l:Nat}{a:Int}{b:Int}{K:aK}{f:Nat->Int->Int->aK->HP}:J B H (ta f l [D a,D b] K) (T B H (f l a b K)):=⟨λt=>cp _ (cp _ (dU rfl t))⟩
instance {l:Nat}{a:Int}{b:ByteArray}{K:aK}{f:Nat->Int->ByteArray->aK->HP}:J B H (Bp f l [D a,.string b] K) (T B H (f l a b K)):=⟨λt=>cp _ (cp _ (dU rfl t))⟩
def nu{body:aB->(aB->HP)->HP}{init:aB}(a:Nat->aB->au->Prop)(m:Nat)(h0:a m init H)(st:∀m s H R,a m s H->(∀b c H',b<m->a b c H'->T B H' (R c))->T B H (body s R)):T B H (bm body init):=by
 intro σ o R d
 have key:∀n m s H,m<n->a m s H->T B H (R s):=by
  intro n
  induction n with
  |zero=>intro m s H h;omega
  |succ n e=>intro m s H i f σ o;exact d s σ (st m s H R f (λb c H' j g=>e b c H' (by omega) g) σ o)
 exact key (m+1) m init H (by omega) h0 σ o
def uc{f:(aB->HP)->HP}(a:Nat->au->Prop)(m:Nat)(h0:a m H)(st:∀m H R,a m H->(∀b H',b<m->a b H'->T B H' (R []))->T B H (f R)):T B H (bm (lp f) []):=by refine nu (λm s H=>s=[]/\a m H) m ⟨rfl,h0⟩ ?_;rintro m _ H R ⟨rfl,c⟩ d σ o e;cases e;exact st m H R c (λb H' U g=>d b _ H' U ⟨rfl,g⟩) σ o
def JH{f:Bool->Int->(aB->HP)->HP}{a:Bool}{b:Int}(c:Nat->Bool->Int->au->Prop)(m:Nat)(h0:c m a b H)(st:∀m a b H R,c m a b H->(∀d g h H',d<m->c d g h H'->T B H' (R [.bool g,D h]))->T B H (f a b R)):T B H (bm (xv f) [.bool a,D b]):=by refine nu (λm s H=>∃a b,s=[.bool a,D b]/\c m a b H) m ⟨_,_,rfl,h0⟩ ?_;rintro m _ H R ⟨a,b,rfl,i⟩ j σ o _ _ e;cases e;exact st m a b H R i (λd g h H' U k=>j d _ H' U ⟨_,_,rfl,k⟩) σ o
def DA{f:Bool->Int->(aB->HP)->HP}{a:Bool}(N:Nat)(i:N<4611686018427387904)(b:Nat->Bool->au->Prop)(h0:b 0 a H)(st:∀(k:Nat) a H R,k<=N->b k a H->(k<N->∀c H',b (k+1) c H'->T B H' (R [.bool c,D (IntKind.wrap .i64 ((k:Int)+1))]))->T B H (f a (k:Int) R)):T B H (bm (xv f) [.bool a,D 0]):=by refine JH (λm a d H=>∃k:Nat,d=(k:Int)/\k+m=N/\b k a H) N ⟨0,rfl,by omega,h0⟩ ?_;rintro m a _ H R ⟨k,rfl,hm,e⟩ g;refine st k a H R (by omega) e λI c H' h=>?_;rw[bd (by omega)];exact g (m-1) c _ H' (by omega) ⟨k+1,by omega,by omega,h⟩
def JI{f:Bool->Int->aw->Nat->Nat->(aB->HP)->HP}{a:Bool}{b:Int}{c:aw}{d:Nat}{g:Nat}(h:Nat->Bool->Int->aw->Nat->Nat->au->Prop)(m:Nat)(h0:h m a b c d g H)(st:∀m a b c d g H R,h m a b c d g H->(∀i j k l n p H',i<m->h i j k l n p H'->T B H' (R [.bool j,D k,.slice l n p]))->T B H (f a b c d g R)):T B H (bm (FT f) [.bool a,D b,.slice c d g]):=by refine nu (λm s H=>∃a b c d g,s=[.bool a,D b,.slice c d g]/\h m a b c d g H) m ⟨_,_,_,_,_,rfl,h0⟩ ?_;rintro m _ H R ⟨a,b,c,d,g,rfl,q⟩ r σ o _ _ _ _ _ e;cases e;exact st m a b c d g H R q (λi j k l n p H' U t=>r i _ H' U ⟨_,_,_,_,_,rfl,t⟩) σ o
def JJ{f:Bool->aw->Nat->Nat->Int->(aB->HP)->HP}{a:Bool}{b:aw}{c:Nat}{d:Nat}{g:Int}(h:Nat->Bool->aw->Nat->Nat->Int->au->Prop)(m:Nat)(h0:h m a b c d g H)(st:∀m a b c d g H R,h m a b c d g H->(∀i j k l n p H',i<m->h i j k l n p H'->T B H' (R [.bool j,.slice k l n,D p]))->T B H (f a b c d g R)):T B H (bm (FU f) [.bool a,.slice b c d,D g]):=by refine nu (λm s H=>∃a b c d g,s=[.bool a,.slice b c d,D g]/\h m a b c d g H) m ⟨_,_,_,_,_,rfl,h0⟩ ?_;rintro m _ H R ⟨a,b,c,d,g,rfl,q⟩ r σ o _ _ _ _ _ e;cases e;exact st m a b c d g H R q (λi j k l n p H' U t=>r i _ H' U ⟨_,_,_,_,_,rfl,t⟩) σ o
def wu{f:Int->(aB->HP)->HP}{a:Int}(b:Nat->Int->au->Prop)(m:Nat)(h0:b m a H)(st:∀m a H R,b m a H->(∀c d H',c<m->b c d H'->T B H' (R [D d]))->T B H (f a R)):T B H (bm (cG f) [D a]):=by refine nu (λm s H=>∃a,s=[D a]/\b m a H) m ⟨_,rfl,h0⟩ ?_;rintro m _ H R ⟨a,rfl,g⟩ h σ o _ e;cases e;exact st m a H R g (λc d H' U i=>h c _ H' U ⟨_,rfl,i⟩) σ o
def cF{f:Int->(aB->HP)->HP}(N:Nat)(g:N<4611686018427387904)(a:Nat->au->Prop)(h0:a 0 H)(st:∀(k:Nat) H R,k<=N->a k H->(k<N->∀H',a (k+1) H'->T B H' (R [D (IntKind.wrap .i64 ((k:Int)+1))]))->T B H (f (k:Int) R)):T B H (bm (cG f) [D 0]):=by refine wu (λm b H=>∃k:Nat,b=(k:Int)/\k+m=N/\a k H) N ⟨0,rfl,by omega,h0⟩ ?_;rintro m _ H R ⟨k,rfl,hm,c⟩ d;refine st k H R (by omega) c λI H' e=>?_;rw[bd (by omega)];exact d (m-1) _ H' (by omega) ⟨k+1,by omega,by omega,e⟩
def mC{f:Int->Int->(aB->HP)->HP}{a:Int}{b:Int}(c:Nat->Int->Int->au->Prop)(m:Nat)(h0:c m a b H)(st:∀m a b H R,c m a b H->(∀d g h H',d<m->c d g h H'->T B H' (R [D g,D h]))->T B H (f a b R)):T B H (bm (kZ f) [D a,D b]):=by refine nu (λm s H=>∃a b,s=[D a,D b]/\c m a b H) m ⟨_,_,rfl,h0⟩ ?_;rintro m _ H R ⟨a,b,rfl,i⟩ j σ o _ _ e;cases e;exact st m a b H R i (λd g h H' U k=>j d _ H' U ⟨_,_,rfl,k⟩) σ o
def J2{f:Int->Int->(aB->HP)->HP}{a:Int}(N:Nat)(i:N<4611686018427387904)(b:Nat->Int->au->Prop)(h0:b 0 a H)(st:∀(k:Nat) a H R,k<=N->b k a H->(k<N->∀c H',b (k+1) c H'->T B H' (R [D c,D (IntKind.wrap .i64 ((k:Int)+1))]))->T B H (f a (k:Int) R)):T B H (bm (kZ f) [D a,D 0]):=by refine mC (λm a d H=>∃k:Nat,d=(k:Int)/\k+m=N/\b k a H) N ⟨0,rfl,by omega,h0⟩ ?_;rintro m a _ H R ⟨k,rfl,hm,e⟩ g;refine st k a H R (by omega) e λI c H' h=>?_;rw[bd (by omega)];exact g (m-1) c _ H' (by omega) ⟨k+1,by omega,by omega,h⟩
def JK{f:Int->aw->Nat->Nat->Bool->Int->(aB->HP)->HP}{a:Int}{b:aw}{c:Nat}{d:Nat}{g:Bool}{h:Int}(i:Nat->Int->aw->Nat->Nat->Bool->Int->au->Prop)(m:Nat)(h0:i m a b c d g h H)(st:∀m a b c d g h H R,i m a b c d g h H->(∀j k l n p q r H',j<m->i j k l n p q r H'->T B H' (R [D k,.slice l n p,.bool q,D r]))->T B H (f a b c d g h R)):T B H (bm (FV f) [D a,.slice b c d,.bool g,D h]):=by refine nu (λm s H=>∃a b c d g h,s=[D a,.slice b c d,.bool g,D h]/\i m a b c d g h H) m ⟨_,_,_,_,_,_,rfl,h0⟩ ?_;rintro m _ H R ⟨a,b,c,d,g,h,rfl,t⟩ u σ o _ _ _ _ _ _ e;cases e;exact st m a b c d g h H R t (λj k l n p q r H' U v=>u j _ H' U ⟨_,_,_,_,_,_,rfl,v⟩) σ o
def ud{f:aw->Nat->Nat->Int->(aB->HP)->HP}{a:aw}{b:Nat}{c:Nat}{d:Int}(g:Nat->aw->Nat->Nat->Int->au->Prop)(m:Nat)(h0:g m a b c d H)(st:∀m a b c d H R,g m a b c d H->(∀h i j k l H',h<m->g h i j k l H'->T B H' (R [.slice i j k,D l]))->T B H (f a b c d R)):T B H (bm (j0 f) [.slice a b c,D d]):=by refine nu (λm s H=>∃a b c d,s=[.slice a b c,D d]/\g m a b c d H) m ⟨_,_,_,_,rfl,h0⟩ ?_;rintro m _ H R ⟨a,b,c,d,rfl,n⟩ p σ o _ _ _ _ e;cases e;exact st m a b c d H R n (λh i j k l H' U q=>p h _ H' U ⟨_,_,_,_,rfl,q⟩) σ o
def oH{f:aw->Nat->Nat->Int->(aB->HP)->HP}{a:aw}{b:Nat}{c:Nat}(N:Nat)(o:N<4611686018427387904)(d:Nat->aw->Nat->Nat->au->Prop)(h0:d 0 a b c H)(st:∀(k:Nat) a b c H R,k<=N->d k a b c H->(k<N->∀e g h H',d (k+1) e g h H'->T B H' (R [.slice e g h,D (IntKind.wrap .i64 ((k:Int)+1))]))->T B H (f a b c (k:Int) R)):T B H (bm (j0 f) [.slice a b c,D 0]):=by refine ud (λm a b c i H=>∃k:Nat,i=(k:Int)/\k+m=N/\d k a b c H) N ⟨0,rfl,by omega,h0⟩ ?_;rintro m a b c _ H R ⟨k,rfl,hm,j⟩ l;refine st k a b c H R (by omega) j λI e g h H' n=>?_;rw[bd (by omega)];exact l (m-1) e g h _ H' (by omega) ⟨k+1,by omega,by omega,n⟩
def JL{f:aw->Nat->Nat->Int->aw->Nat->Nat->Int->(aB->HP)->HP}{a:aw}{b:Nat}{c:Nat}{d:Int}{g:aw}{h:Nat}{i:Nat}{j:Int}(k:Nat->aw->Nat->Nat->Int->aw->Nat->Nat->Int->au->Prop)(m:Nat)(h0:k m a b c d g h i j H)(st:∀m a b c d g h i j H R,k m a b c d g h i j H->(∀l n p q r t u v w H',l<m->k l n p q r t u v w H'->T B H' (R [.slice n p q,D r,.slice t u v,D w]))->T B H (f a b c d g h i j R)):T B H (bm (AL f) [.slice a b c,D d,.slice g h i,D j]):=by refine nu (λm s H=>∃a b c d g h i j,s=[.slice a b c,D d,.slice g h i,D j]/\k m a b c d g h i j H) m ⟨_,_,_,_,_,_,_,_,rfl,h0⟩ ?_;rintro m _ H R ⟨a,b,c,d,g,h,i,j,rfl,x⟩ y σ o _ _ _ _ _ _ _ _ e;cases e;exact st m a b c d g h i j H R x (λl n p q r t u v w H' U z=>y l _ H' U ⟨_,_,_,_,_,_,_,_,rfl,z⟩) σ o
def J3{f:aw->Nat->Nat->Int->aw->Nat->Nat->Int->(aB->HP)->HP}{a:aw}{b:Nat}{c:Nat}{d:Int}{e:aw}{g:Nat}{h:Nat}(N:Nat)(w:N<4611686018427387904)(i:Nat->aw->Nat->Nat->Int->aw->Nat->Nat->au->Prop)(h0:i 0 a b c d e g h H)(st:∀(k:Nat) a b c d e g h H R,k<=N->i k a b c d e g h H->(k<N->∀j l n o p q r H',i (k+1) j l n o p q r H'->T B H' (R [.slice j l n,D o,.slice p q r,D (IntKind.wrap .i64 ((k:Int)+1))]))->T B H (f a b c d e g h (k:Int) R)):T B H (bm (AL f) [.slice a b c,D d,.slice e g h,D 0]):=by refine JL (λm a b c d e g h s H=>∃k:Nat,s=(k:Int)/\k+m=N/\i k a b c d e g h H) N ⟨0,rfl,by omega,h0⟩ ?_;rintro m a b c d e g h _ H R ⟨k,rfl,hm,t⟩ u;refine st k a b c d e g h H R (by omega) t λI j l n o p q r H' v=>?_;rw[bd (by omega)];exact u (m-1) j l n o p q r _ H' (by omega) ⟨k+1,by omega,by omega,v⟩
def JM{f:aw->Nat->Nat->aw->Nat->Nat->Int->(aB->HP)->HP}{a:aw}{b:Nat}{c:Nat}{d:aw}{g:Nat}{h:Nat}{i:Int}(j:Nat->aw->Nat->Nat->aw->Nat->Nat->Int->au->Prop)(m:Nat)(h0:j m a b c d g h i H)(st:∀m a b c d g h i H R,j m a b c d g h i H->(∀k l n p q r t u H',k<m->j k l n p q r t u H'->T B H' (R [.slice l n p,.slice q r t,D u]))->T B H (f a b c d g h i R)):T B H (bm (FX f) [.slice a b c,.slice d g h,D i]):=by refine nu (λm s H=>∃a b c d g h i,s=[.slice a b c,.slice d g h,D i]/\j m a b c d g h i H) m ⟨_,_,_,_,_,_,_,rfl,h0⟩ ?_;rintro m _ H R ⟨a,b,c,d,g,h,i,rfl,v⟩ w σ o _ _ _ _ _ _ _ e;cases e;exact st m a b c d g h i H R v (λk l n p q r t u H' U x=>w k _ H' U ⟨_,_,_,_,_,_,_,rfl,x⟩) σ o
def J4{f:aw->Nat->Nat->aw->Nat->Nat->Int->(aB->HP)->HP}{a:aw}{b:Nat}{c:Nat}{d:aw}{e:Nat}{g:Nat}(N:Nat)(u:N<4611686018427387904)(h:Nat->aw->Nat->Nat->aw->Nat->Nat->au->Prop)(h0:h 0 a b c d e g H)(st:∀(k:Nat) a b c d e g H R,k<=N->h k a b c d e g H->(k<N->∀i j l n o p H',h (k+1) i j l n o p H'->T B H' (R [.slice i j l,.slice n o p,D (IntKind.wrap .i64 ((k:Int)+1))]))->T B H (f a b c d e g (k:Int) R)):T B H (bm (FX f) [.slice a b c,.slice d e g,D 0]):=by refine JM (λm a b c d e g q H=>∃k:Nat,q=(k:Int)/\k+m=N/\h k a b c d e g H) N ⟨0,rfl,by omega,h0⟩ ?_;rintro m a b c d e g _ H R ⟨k,rfl,hm,r⟩ s;refine st k a b c d e g H R (by omega) r λI i j l n o p H' t=>?_;rw[bd (by omega)];exact s (m-1) i j l n o p _ H' (by omega) ⟨k+1,by omega,by omega,t⟩
end
class At (cs:ax) (i:Nat) (v:outParam Value):Prop where at':cs[i]?=some v
class wq (cs:ax) (i:Nat) (v:Value) (ds:outParam ax):Prop where
 lt:i<cs.size
 eq:cs.setIfInBounds i v=ds
instance {v:Value}{l:aB}:At (v::l).toArray 0 v:=⟨by simp⟩
instance {u v:Value}{l:aB}{n:Nat}[h:At l.toArray n v]:At (u::l).toArray (n+1) v:=⟨by have:=h.at';simpa using this⟩
instance {u v:Value}{l:aB}:wq (u::l).toArray 0 v (v::l).toArray:=⟨by simp,by simp⟩
instance {u v:Value}{l m:aB}{n:Nat}[h:wq l.toArray n v m.toArray]:wq (u::l).toArray (n+1) v (u::m).toArray:=⟨by have:=h.lt;simpa using this,by have:=h.eq;simpa using this⟩
class ka (cs:ax):Prop where one:∀v∈cs.toList,v.oneCell'=true
instance :ka #[]:=⟨by simp⟩
class kL (v:Value):Prop where one:v.oneCell'=true
instance {k:IntKind}{n:Int}:kL (.int k n):=⟨rfl⟩
instance {b:Bool}:kL (.bool b):=⟨rfl⟩
instance {p:aw}:kL (.pointer p):=⟨rfl⟩
instance {p:aw}{l c:Nat}:kL (.slice p l c):=⟨rfl⟩
instance {s:ByteArray}:kL (.string s):=⟨rfl⟩
instance {m:Option Nat}:kL (.map m):=⟨rfl⟩
instance {f:Fn}{a b:ax}:kL (.func f a b):=⟨rfl⟩
instance :kL .nilFunc:=⟨rfl⟩
instance :kL .nilIface:=⟨rfl⟩
instance {v:Value}{l:aB}[U:kL v][a:ka l.toArray]:ka (v::l).toArray:=⟨by
 intro u hu;rcases cR.1 hu with rfl|hu
 ·exact U.one
 ·exact a.one u hu⟩
class Sx {α:outParam Type} (B:Heap) (H:au) (p:HP) (c:outParam Prop) (Q:outParam (α->Prop)):Prop where go:c->(∀x,Q x)->T B H p
class sa (c:Bool):Prop where eq:c=true
class r9 (c:Bool):Prop where eq:c=false
instance :sa true:=⟨rfl⟩
instance :r9 false:=⟨rfl⟩
instance {α:Type}{a:α}:r9 (Option.isNone (some a)):=⟨rfl⟩
instance {α:Type}:sa (Option.isNone (none:Option α)):=⟨rfl⟩
instance {c:Bool}[h:r9 c]:sa (!c):=⟨by rw[h.eq];rfl⟩
instance {c:Bool}[h:sa c]:r9 (!c):=⟨by rw[h.eq];rfl⟩
instance :sa ((0:Int)==0):=⟨rfl⟩
instance :r9 ((0:Int)!=0):=⟨rfl⟩
def eb{B:Heap}{H:au}{K:aK}{u v:Value}(t:T B H (K u))(h:u=v):T B H (K v):=h▸t
section
variable {B:Heap}{H:au}{b i:Nat}{cs:ax}
instance {k:IntKind}{n:Int}{f:Int->HP}[h:bY B H b cs][a:At cs i (.int k n)]:J B H (bs k ⟨b,i,none⟩ f) (T B H (f n)):=⟨a1 a.at'⟩
instance {n:Bool}{f:Bool->HP}[h:bY B H b cs][a:At cs i (.bool n)]:J B H (hA ⟨b,i,none⟩ f) (T B H (f n)):=⟨iT a.at'⟩
instance {n:aw}{f:aw->HP}[h:bY B H b cs][a:At cs i (.pointer n)]:J B H (bx ⟨b,i,none⟩ f) (T B H (f n)):=⟨ke a.at'⟩
instance {p:aw}{l c:Nat}{f:aw->Nat->Nat->HP}[h:bY B H b cs][a:At cs i (.slice p l c)]:J B H (aT ⟨b,i,none⟩ f) (T B H (f p l c)):=⟨bW a.at'⟩
instance {n:ByteArray}{f:ByteArray->HP}[h:bY B H b cs][a:At cs i (.string n)]:J B H (iz ⟨b,i,none⟩ f) (T B H (f n)):=⟨iU a.at'⟩
instance {n:Option Nat}{f:Option Nat->HP}[h:bY B H b cs][a:At cs i (.map n)]:J B H (gu ⟨b,i,none⟩ f) (T B H (f n)):=⟨pJ a.at'⟩
instance {v:Value}{f:aK}[h:bY B H b cs][a:At cs i v]:J B H (gN ⟨b,i,none⟩ f) (T B H (f v)):=⟨hM a.at'⟩
instance {n:Nat}{f:ax->HP}[h:bY B H b cs]:Sc B H (eY ⟨b,0,none⟩ n f) (cs.size=n) (T B H (f cs)):=⟨λh t=>bI h t⟩
instance {v:Value}{k:HP}{H':ax->au}{ds:ax}[h:fZ H b cs H'][o:kL v][s:wq cs i v ds]:J B H (st ⟨b,i,none⟩ v k) (T B (H' ds) k):=⟨λt=>eB s.lt o.one (by rw[s.eq];exact t)⟩
instance {vs:ax}{n:Nat}{k:HP}{H':ax->au}[h:fZ H b cs H'][o:ka vs]:Sc B H (gW ⟨b,0,none⟩ vs n k) (vs.size=n/\cs.size=n) (T B (H' vs) k):=⟨λh t=>hj h.1 h.2 o.one t⟩
instance {v:Value}{p:HP}[h:bY B H b cs][a:At cs i v]:J B H (dA (λσ=>cA σ ⟨b,i,none⟩=some v) p) (T B H p):=⟨nr a.at'⟩
instance {p:HP}:J B H (dA (λ_=>True) p) (T B H p):=⟨Jf⟩
instance {n:Nat}{k:IntKind}{f:Int->HP}{Q:Prop}[h:J B H (bs k ⟨b,n,none⟩ f) Q]:J B H (bs k (Addr.add ⟨b,0,none⟩ n) f) Q:=⟨by rw[aQ,bJ];exact h.go⟩
instance {n:Nat}{f:aw->HP}{Q:Prop}[h:J B H (bx ⟨b,n,none⟩ f) Q]:J B H (bx (Addr.add ⟨b,0,none⟩ n) f) Q:=⟨by rw[aQ,bJ];exact h.go⟩
instance {n:Nat}{f:aw->Nat->Nat->HP}{Q:Prop}[h:J B H (aT ⟨b,n,none⟩ f) Q]:J B H (aT (Addr.add ⟨b,0,none⟩ n) f) Q:=⟨by rw[aQ,bJ];exact h.go⟩
instance {n:Nat}{f:Option Nat->HP}{Q:Prop}[h:J B H (gu ⟨b,n,none⟩ f) Q]:J B H (gu (Addr.add ⟨b,0,none⟩ n) f) Q:=⟨by rw[aQ,bJ];exact h.go⟩
instance {n:Nat}{v:Value}{k:HP}{Q:Prop}[h:J B H (st ⟨b,n,none⟩ v k) Q]:J B H (st (Addr.add ⟨b,0,none⟩ n) v k) Q:=⟨by rw[aQ,bJ];exact h.go⟩
instance {n:Nat}{v:Value}{p:HP}{Q:Prop}[h:J B H (dA (λσ=>cA σ ⟨b,n,none⟩=some v) p) Q]:J B H (dA (λσ=>cA σ (Addr.add ⟨b,0,none⟩ n)=some v) p) Q:=⟨by rw[aQ,bJ];exact h.go⟩
instance {o:Nat}{f:Int->HP}{Q:Prop}[h:J B H (bs .i64 ⟨b,o,none⟩ f) Q]:J B H (cw (some ⟨b,0,none⟩) o f) Q:=⟨by unfold cw;rw[cT,aQ,bJ];exact h.go⟩
instance {o:Nat}{f:aw->HP}{Q:Prop}[h:J B H (bx ⟨b,o,none⟩ f) Q]:J B H (bc (some ⟨b,0,none⟩) o f) Q:=⟨by unfold bc;rw[cT,aQ,bJ];exact h.go⟩
instance {o:Nat}{f:aw->Nat->Nat->HP}{Q:Prop}[h:J B H (aT ⟨b,o,none⟩ f) Q]:J B H (b5 (some ⟨b,0,none⟩) o f) Q:=⟨by unfold b5;rw[cT,aQ,bJ];exact h.go⟩
instance {o:Nat}{f:Option Nat->HP}{Q:Prop}[h:J B H (gu ⟨b,o,none⟩ f) Q]:J B H (cW (some ⟨b,0,none⟩) o f) Q:=⟨by unfold cW;rw[cT,aQ,bJ];exact h.go⟩
instance {o:Nat}{f:aK}{Q:Prop}[h:J B H (gN ⟨b,o,none⟩ f) Q]:J B H (Aa (some ⟨b,0,none⟩) o f) Q:=⟨by unfold Aa;rw[cT,aQ,bJ];exact h.go⟩
instance {o:Nat}{v:Value}{k:HP}{Q:Prop}[h:J B H (st ⟨b,o,none⟩ v k) Q]:J B H (cO (some ⟨b,0,none⟩) o v k) Q:=⟨by unfold cO;rw[cT,aQ,bJ];exact h.go⟩
instance {a:Addr}{f:Addr->HP}:J B H (aA (some a) f) (T B H (f a)):=⟨λt=>t⟩
instance {k:IntKind}{n:Int}{f:Int->HP}:J B H (di k (.int k n) f) (T B H (f n)):=⟨Ji⟩
instance {n:Bool}{f:Bool->HP}:J B H (dv (.bool n) f) (T B H (f n)):=⟨Jh⟩
instance {n:aw}{f:aw->HP}:J B H (im (.pointer n) f) (T B H (f n)):=⟨Jk⟩
instance {p:aw}{l c:Nat}{f:aw->Nat->Nat->HP}:J B H (iX (.slice p l c) f) (T B H (f p l c)):=⟨Jl⟩
instance {n:ByteArray}{f:ByteArray->HP}:J B H (nC (.string n) f) (T B H (f n)):=⟨Jm⟩
instance {n:Option Nat}{f:Option Nat->HP}:J B H (uh (.map n) f) (T B H (f n)):=⟨Jj⟩
instance {n:ax}{f:ax->HP}:J B H (hk (.agg n) f) (T B H (f n)):=⟨Jg⟩
instance {n:Int}{k:IntKind}{f:Int->HP}[a:At cs i (.int k n)]:J B H (lZ k cs i f) (T B H (f n)):=⟨zn a.at'⟩
instance {a:aB->HP}{body:(aB->HP)->HP}:J B H (bq a body) (T B H (body a)):=⟨λt=>t⟩
instance {c:Prop}{p:HP}:Sc B H (aR c p) c (T B H p):=⟨bj⟩
instance {ds:ax}{t:TypeId}{f:Nat->HP}:Sa B H (al ds t f) (λb=>T B (cl b ds::H) (f b)):=⟨el⟩
instance {f:Nat->HP}:Sa B H (hD f) (λr=>T B (IM r (λ_=>none)::H) (f r)):=⟨zm⟩
instance {c:Bool}{p q:HP}[h:sa c]:J B H (ae c p q) (T B H p):=⟨bk h.eq⟩
instance {c:Bool}{p q:HP}[h:r9 c]:J B H (ae c p q) (T B H q):=⟨aD h.eq⟩
instance {c:Bool}{p q:HP}:S2 B H (ae (!c) p q) (c=false) (c=true) (T B H p) (T B H q):=⟨λU a=>cH (λh=>U (by simpa using h)) λh=>a (by simpa using h)⟩
instance {c:Prop}[Decidable c]{p q:HP}:S2 B H (ae (!decide c) p q) (¬c) c (T B H p) (T B H q):=⟨λU a=>cH (λh=>U (by simpa using h)) λh=>a (by simpa using h)⟩
instance {c:Prop}[Decidable c]{p q:HP}:S2 B H (ae (decide c) p q) c (¬c) (T B H p) (T B H q):=⟨λU a=>cH (λh=>U (r8 h)) λh=>a (of_decide_eq_false h)⟩
instance {x y:Int}{p q:HP}:S2 B H (ae (x==y) p q) (x=y) (¬x=y) (T B H p) (T B H q):=⟨λU a=>cH (λh=>U (by simpa using h)) λh=>a (by simpa using h)⟩
instance {x y:Int}{p q:HP}:S2 B H (ae (x !=y) p q) (¬x=y) (x=y) (T B H p) (T B H q):=⟨λU a=>cH (λh=>U (by simpa using h)) λh=>a (by simpa using h)⟩
instance (priority:=low){c:Bool}{p q:HP}:S2 B H (ae c p q) (c=true) (c=false) (T B H p) (T B H q):=⟨cH⟩
end
class Pl (H:au) (q:bg) (H':outParam au):Prop where pl:lH q H H'
instance (priority:=2000){q:bg}{H:au}:Pl (q::H) q H:=⟨.head⟩
instance (priority:=1000){q r:bg}{H H':au}[h:Pl H q H']:Pl (r::H) q (r::H'):=⟨.tail h.pl⟩
class Ow {α:Type} (H:au) (F:α->bg) (a:outParam α) (H':outParam au):Prop where pl:lH (F a) H H'
instance (priority:=2000){α:Type}{F:α->bg}{a:α}{H:au}:Ow (F a::H) F a H:=⟨.head⟩
instance (priority:=1000){α:Type}{F:α->bg}{a:α}{r:bg}{H H':au}[h:Ow H F a H']:Ow (r::H) F a (r::H'):=⟨.tail h.pl⟩
def aN{α:Type}{a:α}{B:Heap}{H H':au}{p:HP}(F:α->bg)[h:Ow H F a H'](t:T B (F a::H') p):T B H p:=bh h.pl t
def bL{B:Heap}{H H':au}{q:bg}{p:HP}[h:Pl H q H'](t:T B (q::H') p):T B H p:=bh h.pl t
def aaZ{n:Int}(U:-18446744073709551616<=n)(a:n<=18446744073709551614):IntKind.wrap .i64 n=if n>9223372036854775807 then n-18446744073709551616 else if n< -9223372036854775808 then n+18446744073709551616 else n:=by
 show(if(true&&decide (n%18446744073709551616>=9223372036854775808))=true then n%18446744073709551616-18446744073709551616 else n%18446744073709551616)=_;rw[e5];by_cases h:n%18446744073709551616>=9223372036854775808
 ·rw[ah (cB h)]
  split<;>(try split)<;>omega
 ·rw[ak (by simpa using h)]
  split<;>(try split)<;>omega
end
section
open Go.bn
open Go.MapKept
def Ht{P:Program}{t:TypeId}{z:Value}{K:aK}{σ:Heap}(h:((P.info? t).bind (·.zero))=some z)(k:K z σ):aI P (zeroValue t) K σ:=by
 cases hi:P.info? t with
 |none=>rw[hi]at h;cases h
 |some i=>rw[hi]at h;have hz:i.zero=some z:=h;exact dK z (λw _=>by simp[zeroValue,typeInfo,hi,hz]) k
class h2 (P:Program) (mt:TypeId) (α:outParam Type) (enc:outParam (α->Value)) (z:outParam α):Prop where
 ty:∃et,P.underlying mt=some (.map 3 et)/\P.underlying 3=some (.int .i64)/\((P.info? et).bind (·.zero))=some (enc z)
def MP{α:Type}(enc:α->Value)(r:Nat)(m:ML α):bg:=fk (bS m) (IM r λk=>(aS m k).map enc)
section
variable {P:Program}{B:Heap}{H:au}{α:Type}{enc:α->Value}{r:Nat}{m:ML α}{k:Int}{mt:TypeId}{z:α}{K:aK}{p:HP}
def ov(t:bS m->T B (IM r (λk=>(aS m k).map enc)::H) p):T B (MP enc r m::H) p:=gD t
def qN(h:bS m)(t:T B (MP enc r m::H) p):T B (IM r (λk=>(aS m k).map enc)::H) p:=h4 h t
def wj{g:Int->Option Value}(h:bS m)(e:∀k,g k=(aS m k).map enc)(t:T B (MP enc r m::H) p):T B (IM r g::H) p:=by rw[show g=λk=>(aS m k).map enc from funext e];exact qN h t
def iQ(enc:α->Value)(t:T B (MP enc r []::H) p):T B (IM r (λ_=>none)::H) p:=wj (by simp[bS,bb,eu]) (λk=>by simp[aS]) t
def FR{g:Int->Option Value}{a:Value}(h:∃et,P.underlying mt=some (.map 3 et)/\P.underlying 3=some (.int .i64)/\((P.info? et).bind (·.zero))=some a){b:Bool}{K:aK}(t:T B (IM r g::H) (K (if b then .tuple #[(g k).getD a,.bool (g k).isSome]else(g k).getD a))):T B (IM r g::H) (aI P (Instr.lookup mt (.map (some r)) (.int .i64 k) b) K):=by
 obtain⟨et,hm,I,hz⟩:=h;refine qM λes clock hr=>?_;intro σ o;unfold Instr.lookup;refine aY (gV hm ?_);refine aY (k9 o.gL (aY (cu ?_)));refine aY (dK () (λw _=>run_checkKey I (by rfl) _ _) ?_);rcases hr.find k with⟨d,c,f⟩|⟨j,e,c,f,l,i⟩
 ·refine aY (dK none (λw _=>run_findKey I c) ?_)
  refine aY (Ht hz (aY (cu (cu ?_))));rw[d]at t;cases b
  ·exact j9 hr t σ o
  ·exact j9 hr t σ o
 ·refine aY (dK (some (j,e.val)) (λw _=>run_findKey I c) ?_)
  refine aY (cu (cu ?_));rw[i]at t;cases b
  ·exact j9 hr t σ o
  ·exact j9 hr t σ o
instance ab8[c:h2 P mt α enc z]{H0:au}{m:ML α}[h:Ow H (MP enc r) m H0]:J B H (aI P (Instr.lookup mt (.map (some r)) (.int .i64 k) false) K) (T B (MP enc r m::H0) (K (enc ((aS m k).getD z)))):=⟨by intro t;refine bh h.pl (ov λhs=>?_);refine FR c.ty (qN hs ?_);cases a:aS m k<;>(rw[a]at t;exact t)⟩
instance ab9[c:h2 P mt α enc z]{H0:au}{m:ML α}[h:Ow H (MP enc r) m H0]:J B H (aI P (Instr.lookup mt (.map (some r)) (.int .i64 k) true) K) (T B (MP enc r m::H0) (K (.tuple #[enc ((aS m k).getD z),.bool (aS m k).isSome]))):=⟨by intro t;refine bh h.pl (ov λhs=>?_);refine FR c.ty (qN hs ?_);cases a:aS m k<;>(rw[a]at t;exact t)⟩
def AV[c:h2 P mt α enc z]{H0:au}[h:Ow H (MP enc r) m H0]{a:α}{v:Value}{K:Unit->HP}(b:v=enc a)(t:T B (MP enc r (bE k a m)::H0) (K ())):T B H (aI P (Instr.mapUpdate mt (.map (some r)) (.int .i64 k) v) K):=by subst b;obtain⟨et,hm,I,hz⟩:=c.ty;refine bh h.pl (ov λhs=>?_);refine Ds hm I (wj (fA hs) (λj=>?_) t);rw[gR hs];split<;>rfl
class nm {α:Type} (enc:α->Value) (v:Value) (a:outParam α):Prop where eq:v=enc a
instance [c:h2 P mt α enc z]{H0:au}[h:Ow H (MP enc r) m H0]{a:α}{v:Value}{K:Unit->HP}[e:nm enc v a]:J B H (aI P (Instr.mapUpdate mt (.map (some r)) (.int .i64 k) v) K) (T B (MP enc r (bE k a m)::H0) (K ())):=⟨AV e.eq⟩
instance {rt:TypeId}[c:h2 P mt α enc z]{H0:au}{m:ML α}[h:Ow H (MP enc r) m H0]:J B H (aI P (Builtin.delete_ #[mt,3] rt #[.map (some r),.int .i64 k]) K) (T B (MP enc r (bO k m)::H0) (K (.tuple #[]))):=⟨by intro t;obtain⟨et,hm,I,hz⟩:=c.ty;refine bh h.pl (ov λhs=>?_);refine Dm hm I (wj (ma hs) (λj=>?_) t);rw[mR];split<;>rfl⟩
def ek.len{es:Array MapEntry}{clock:Nat}(h:ek es clock λk=>(aS m k).map enc)(hs:bS m):es.size=m.length:=by
 have f:(es.toList.map (·.key)).Perm ((bb m).map key):=by
  refine(y5 h.st.2.2 ?_).2 λv=>?_
  ·have U:=l7 hs
   refine tF _ (λa b g=>?_) U;intro e;cases e;exact g rfl
  ·constructor
   ·intro c
    obtain⟨e,he,rfl⟩:=bQ.1 c;obtain⟨k,I⟩:=(XS.IsKey.int (h.keys e he));refine bQ.2 ⟨k,?_,I.symm⟩;have d:=(h.rep k e.val).2 ⟨e,he,I,rfl⟩;refine rW.1 λhc=>?_;rw[kr.2 hc]at d;cases d
   ·intro c
    obtain⟨k,I,rfl⟩:=bQ.1 c;have:aS m k≠none:=λhc=>kr.1 hc I;obtain⟨a,ha⟩:=IX.1 this;obtain⟨e,he,i,_⟩:=(h.rep k (enc a)).1 (by rw[ha];rfl);exact bQ.2 ⟨e,he,i⟩
 have:=f.length_eq;simpa using this
def Vp{rt:TypeId}[c:h2 P mt α enc z](t:T B (MP enc r m::H) (K (.int .i64 (m.length:Int)))):T B (MP enc r m::H) (aI P (Builtin.len_ #[mt] rt #[.map (some r)]) K):=by obtain⟨et,hm,I,hz⟩:=c.ty;refine ov λhs=>qM λes clock hr=>?_;intro σ o;unfold Builtin.len_;simp only[dY,jF,mu];refine aY (gV hm ?_);refine aY (k9 o.gL (cu ?_));rw[hr.len hs];exact j9 hr (qN hs t) σ o
instance {rt:TypeId}[c:h2 P mt α enc z]{H0:au}{m:ML α}[h:Ow H (MP enc r) m H0]:J B H (aI P (Builtin.len_ #[mt] rt #[.map (some r)]) K) (T B (MP enc r m::H0) (K (.int .i64 (m.length:Int)))):=⟨λt=>bh h.pl (Vp t)⟩
end
end
end Go.XS
namespace Go.XS
open Go.bn (N3)
class Sb (H H':au):Prop where sub:Sub H H'
instance (priority:=3000){H:au}:Sb H H:=⟨.refl⟩
instance (priority:=2000){H H0 H':au}{q:bg}[h:Pl H q H0][s:Sb H0 H']:Sb H (q::H'):=⟨.cons h.pl s.sub⟩
instance (priority:=1000){H H':au}{q:bg}[s:Sb H H']:Sb (q::H) H':=⟨.drop s.sub⟩
def af{B:Heap}{H H':au}{p:HP}[s:Sb H H'](t:T B H' p):T B H p:=pN s.sub t
def BX{X:Type}(ok:Prop)(L:X->au->au):bg:=fk ok (eK λx=>eG (L x []))
section
variable {B:Heap}{H:au}{p:HP}{X:Type}{ok:Prop}{L:X->au->au}
def pG(hL:∀x H,L x H=L x []++H)(t:∀x,ok->T B (L x H) p):T B (BX ok L::H) p:=gD λh=>gn λx=>lJ (by rw[<-hL];exact t x h)
def pF(x:X)(h:ok)(hL:∀x H,L x H=L x []++H)(t:T B (BX ok L::H) p):T B (L x H) p:=by rw[hL];exact jQ (gI x (h4 h t))
end
def BD{X:Type}(ok:X->Prop)(L:X->au->au):bg:=eK λx=>fk (ok x) (eG (L x []))
section
variable {B:Heap}{H:au}{p:HP}{X:Type}{ok:X->Prop}{L:X->au->au}
def mz(hL:∀x H,L x H=L x []++H)(t:∀x,ok x->T B (L x H) p):T B (BD ok L::H) p:=gn λx=>gD λh=>lJ (by rw[<-hL];exact t x h)
def my(x:X)(h:ok x)(hL:∀x H,L x H=L x []++H)(t:T B (BD ok L::H) p):T B (L x H) p:=by rw[hL];exact jQ (h4 h (gI x t))
end
def dw(n:Nat)(f:Nat->N3):aB:=(List.range n).flatMap λi=>[D (f i).1,D (f i).2.1,D (f i).2.2]
def pj(j:Nat)(x:N3):Int:=if j=0 then x.1 else if j=1 then x.2.1 else x.2.2
def o2(j:Nat)(v:Int)(x:N3):N3:=if j=0 then(v,x.2.1,x.2.2)else if j=1 then(x.1,v,x.2.2)else(x.1,x.2.1,v)
def Bg(x:N3):pj 2 x=x.2.2:=rfl
def xT(v:Int)(x:N3):o2 0 v x=(v,x.2.1,x.2.2):=rfl
def xU(v:Int)(x:N3):o2 1 v x=(x.1,v,x.2.2):=rfl
def Bh(v:Int)(x:N3):o2 2 v x=(x.1,x.2.1,v):=rfl
def qs(n:Nat)(f:Nat->N3):(dw n f).length=n*3:=by unfold dw;rw[dr (s:=3) (by simp)];simp
def tf{n:Nat}{f:Nat->N3}{i j:Nat}(hi:i<n)(a:j<3):(dw n f)[i*3+j]?=some (D (pj j (f i))):=by
 unfold dw;rw[dW (by simp) _ i i (by simp[hi]) j a];obtain rfl|rfl|rfl:j=0\/j=1\/j=2:=by omega
 all_goals rfl
def yb{n:Nat}{f:Nat->N3}{l:aB}(hl:l.length=n*3)(h:∀i j,i<n->j<3->l[i*3+j]?=some (D (pj j (f i)))):l=dw n f:=by
 apply jf;intro k;by_cases I:k<n*3
 ·have e:k=k/3*3+k%3:=by omega
  rw[e,tf (by omega) (by omega)];exact h _ _ (by omega) (by omega)
 ·rw[jg (by omega),jg (by rw[qs];omega)]
def tg{n:Nat}{f:Nat->N3}{i j:Nat}{v:Int}(hi:i<n)(d:j<3):(dw n f).set (i*3+j) (D v)=dw n (Go.bn.up f i (o2 j v (f i))):=by
 refine yb (by simp[qs]) λa c ha hc=>?_;rw[kE];by_cases h:i*3+j=a*3+c
 ·have:i=a:=by omega
  have:j=c:=by omega
  subst i;subst j;rw[ah rfl,ah (by rw[qs];omega)];simp only[Go.bn.up,dT];obtain rfl|rfl|rfl:c=0\/c=1\/c=2:=by omega
  all_goals rfl
 ·rw[ak h,tf ha hc]
  by_cases b:a=i
  ·subst b
   simp only[Go.bn.up,dT];obtain rfl|rfl|rfl:c=0\/c=1\/c=2:=by omega
   all_goals (obtain rfl|rfl|rfl:j=0\/j=1\/j=2:=by omega)
   all_goals first|rfl|(exfalso;omega)
  ·simp only[Go.bn.up,ak b]
section
variable {B:Heap}{H:au}{b n i j l:Nat}{f:Nat->N3}
def qS[h:bY B H b (dw n f).toArray]{g:Int->HP}(hi:i<n)(a:j<3)(t:T B H (g (pj j (f i)))):T B H (bs .i64 ⟨b,i*3+j,none⟩ g):=a1 (by rw[dY];exact tf hi a) t
def oF{H':ax->au}[h:fZ H b (dw n f).toArray H']{v:Int}{k:HP}(hi:i<n)(a:j<3)(t:T B (H' (dw n (Go.bn.up f i (o2 j v (f i)))).toArray) k):T B H (st ⟨b,i*3+j,none⟩ (D v) k):=by apply eB (by rw[iL,qs];omega) rfl;rw[jI,tg hi a];exact t
def ub[h:bY B H b (dw n f).toArray]{g:Int->HP}{m:Int}(i:Nat)(hm:m=(i:Int))(hl:i<l)(hi:i<n)(a:j<3)(t:T B H (g (pj j (f i)))):T B H (db (some ⟨b,0,none⟩) l m 3 j g):=by subst hm;unfold db;rw[cT];refine bj ⟨by omega,by omega⟩ ?_;rw[a7,aQ,aQ,bJ];exact qS hi a t
def zl{H':ax->au}[h:fZ H b (dw n f).toArray H']{v:Int}{k:HP}{m:Int}(i:Nat)(hm:m=(i:Int))(hl:i<l)(hi:i<n)(a:j<3)(t:T B (H' (dw n (Go.bn.up f i (o2 j v (f i)))).toArray) k):T B H (qa (some ⟨b,0,none⟩) l m 3 j (D v) k):=by subst hm;unfold qa;rw[cT];refine bj ⟨by omega,by omega⟩ ?_;rw[a7,aQ,aQ,bJ];exact oF hi a t
def zi{H':ax->au}[h:fZ H b (dw n f).toArray H']{x y z:Int}{k:HP}{m:Int}(i:Nat)(hm:m=(i:Int))(hl:i<l)(hi:i<n)(t:T B (H' (dw n (Go.bn.up f i (x,y,z))).toArray) k):T B H (jZ (some ⟨b,0,none⟩) l m 3 #[D x,D y,D z] 3 k):=by
 subst hm;unfold jZ;rw[cT];refine bj ⟨by omega,by omega⟩ ?_;rw[a7,aQ,bJ];refine ny rfl (by rw[iL,qs];omega) (by simp[Value.oneCell']) ?_
 have e:eH (dw n f).toArray (i*3) #[D x,D y,D z].toList=(dw n (Go.bn.up f i (x,y,z))).toArray:=by simp only[eH,jI];show((((dw n f).set (i*3+0) (D x)).set (i*3+1) (D y)).set (i*3+2) (D z)).toArray=_;rw[tg hi (by omega),tg hi (by omega),tg hi (by omega)];congr 2;funext a;simp only[Go.bn.up,o2];split<;>simp
 rw[e];exact t
def JA[h:bY B H b (dw n f).toArray]{g:ax->HP}{m:Int}(i:Nat)(hm:m=(i:Int))(hl:i<l)(hi:i<n)(t:T B H (g #[D (f i).1,D (f i).2.1,D (f i).2.2])):T B H (de (some ⟨b,0,none⟩) l m 3 3 g):=by
 subst hm;unfold de;rw[cT];refine bj ⟨by omega,by omega⟩ ?_;rw[a7,aQ,bJ];refine iS #[D (f i).1,D (f i).2.1,D (f i).2.2] rfl (λj a=>?_) t;rw[dY,tf hi a];obtain rfl|rfl|rfl:j=0\/j=1\/j=2:=by omega
 all_goals rfl
end
class Rd (B:Heap) (H:au) (p:aw) (ys:outParam aB):Prop where rd:bF B H p ys
instance {B:Heap}{H:au}{b:Nat}{cs:ax}[h:bY B H b cs]:Rd B H (some ⟨b,0,none⟩) cs.toList:=⟨bF.nP λi hi=>by simp⟩
instance (priority:=2000){B:Heap}{H:au}{s l c:Nat}{p:aw}{ys:aB}:Rd B (ai s p l c ys::H) p ys:=⟨bF.iB⟩
def rN(s:Nat)(p:aw)(l:Nat)(xs:aB):bg:=eK λc=>ai s p l c xs
def Yq{B:Heap}{H:au}{s l c:Nat}{p:aw}{xs:aB}{q:HP}(t:T B (rN s p l xs::H) q):T B (ai s p l c xs::H) q:=gI (q:=λc=>ai s p l c xs) c t
instance (priority:=2000){B:Heap}{H:au}{s l:Nat}{p:aw}{ys:aB}:Rd B (rN s p l ys::H) p ys:=⟨by intro σ o;obtain⟨ch,⟨l1,l2,a,⟨c,U⟩,b⟩,d⟩:=o.own;exact bF.iB σ ⟨o.base,o.size,ch,⟨l1,l2,a,U,b⟩,d⟩⟩
instance (priority:=500){B:Heap}{H:au}{q:bg}{p:aw}{ys:aB}[h:Rd B H p ys]:Rd B (q::H) p ys:=⟨h.rd.tail⟩
instance {B:Heap}{H:au}:Rd B H none []:=⟨bF.nil⟩
section
variable {B:Heap}{H:au}{p:aw}{ys:aB}{l i s j:Nat}{n:Int}
def e1{zs:aO}[h:Rd B H p (iv .i64 zs)]{x:Int}{f:Int->HP}(i:Nat)(a:n=(i:Int))(hl:i<l)(hc:zs[i]?=some x)(t:T B H (f x)):T B H (eX p l n f):=Dz h.rd a hl (lT hc) t
def eA[h:Rd B H p ys]{x:Int}{f:Int->HP}(i:Nat)(a:n=(i:Int))(hl:i<l)(hc:ys[i*s+j]?=some (.int .i64 x))(t:T B H (f x)):T B H (db p l n s j f):=JX h.rd a hl hc t
def Dq[h:Rd B H p ys]{ds:ax}{k:ax->HP}(i:Nat)(a:n=(i:Int))(hl:i<l)(hs:0<s)(hd:ds.size=s)(b:i*s+s<=ys.length)(hc:∀j,j<s->ys[i*s+j]?=ds[j]?)(t:T B H (k ds)):T B H (de p l n s s k):=by subst a;refine nw h.rd (by omega) λx c=>bj ⟨by omega,by omega⟩ ?_;subst c;rw[a7];exact Dx h.rd ds hd b hc t
def dO{α:Type}{f:α->aB}{rs:List α}[h:Rd B H p (rs.flatMap f)](hf:∀a,(f a).length=s)(hs:0<s){k:ax->HP}(i:Nat)(b:n=(i:Int))(hl:i<l){a:α}(ha:rs[i]?=some a)(t:T B H (k (f a).toArray)):T B H (de p l n s s k):=by
 have hi:i<rs.length:=(b0.1 ha).1;have hm:i*s+s<=rs.length*s:=by rw[<-pE];exact jM s hi
 refine Dq i b hl hs (by simp[hf]) (by rw[dr hf];exact hm) (λj c=>?_) t;rw[dW hf rs i a ha j c];simp
def zj{b o:Nat}{cs:ax}{H':ax->au}[h:fZ H b cs H']{v:Value}[a:kL v]{k:HP}(i:Nat)(c:n=(i:Int))(hl:i<l)(d:o+i<cs.size)(t:T B (H' (cs.setIfInBounds (o+i) v)) k):T B H (oS (some ⟨b,o,none⟩) l n v k):=oD c hl d a.one t
def zk{b:Nat}{zs:aO}{H':ax->au}[h:fZ H b (iv .i64 zs).toArray H']{x:Int}{k:HP}(i:Nat)(a:n=(i:Int))(hl:i<l)(c:i<zs.length)(t:T B (H' (iv .i64 (zs.set i x)).toArray) k):T B H (oS (some ⟨b,0,none⟩) l n (D x) k):=by
 apply zj i a hl (by simpa using c);have e:(iv .i64 zs).toArray.setIfInBounds (0+i) (D x)=(iv .i64 (zs.set i x)).toArray:=by simp[iv,jh]
 rw[e];exact t
def jP{b:Nat}{cs ds:ax}{P:HP}(e:cs=ds)(t:T B (cl b ds::H) P):T B (cl b cs::H) P:=e▸t
def xJ{q:aw}{c:Nat}{xs:aB}{P:HP}(t:xs.length=l*s->l<=c->T B (ai s q l c xs::H) P):T B (ai s q l c xs::H) P:=by
 intro σ o
 have a:xs.length=l*s/\l<=c:=by obtain⟨ch,⟨l1,l2,d,⟨a,b,h⟩,e⟩,f,hc⟩:=o.own;exact⟨a,b⟩
 exact t a.1 a.2 σ o
def rB{q:aw}{c m:Nat}{xs:aB}{P:HP}(hm:m<=l)(t:T B (ai s q m c (xs.take (m*s))::H) P):T B (ai s q l c xs::H) P:=by
 refine zh (λch h=>?_) t;obtain⟨a,d,h⟩:=h;have U:m*s<=l*s:=jM s hm;refine⟨by rw[ff,a];omega,by omega,?_⟩;rcases h with⟨rfl,rfl,rfl⟩|⟨b,rest,rfl,hl,hc⟩
 ·exact .inl ⟨rfl,rfl,rfl⟩
 ·refine .inr ⟨b,xs.drop (m*s)++rest,rfl,?_,?_⟩
  ·rw[<-er,j6];exact hl
  ·rw[<-er,j6];exact hc
end
def BB{α:Type}{f:α->aB}{s:Nat}(hf:∀a,(f a).length=s):∀{l:List α} {i j:Nat} {a a':α} {v:Value},l[i]?=some a->j<s->(f a).set j v=f a'->(l.flatMap f).set (i*s+j) v=(l.set i a').flatMap f
 |[],i,j,a,a',v,h,_,_=>by simp at h
 |x::l,0,j,a,a',v,h,b,e=>by simp at h;subst h;simp only[gz,jJ,tR,bJ];rw[pC _ _ (by rw[hf];exact b),e]
 |x::l,i+1,j,a,a',v,h,b,e=>by simp only[gz,iK];have c:=hf x;rw[pD _ _ (by rw[c,gk];omega),c,show(i+1)*s+j-s=i*s+j by rw[gk];omega,BB hf (by simpa using h) b e]
section
variable {B:Heap}{H:au}{α:Type}{g:α->aB}{rs:List α}{a a':α}{b i j s l:Nat}{n:Int}
def vn(hf:∀a,(g a).length=s)(ha:rs[i]?=some a)(b:j<s){v:Value}(c:(g a)[j]?=some v):(rs.flatMap g).toArray[i*s+j]?=some v:=by rw[dY,dW hf rs i a ha j b];exact c
def JZ{H':ax->au}[h:fZ H b (rs.flatMap g).toArray H']{v:Value}{k:HP}(hf:∀a,(g a).length=s)(ha:rs[i]?=some a)(c:j<s)(d:v.oneCell'=true)(e:(g a).set j v=g a')(t:T B (H' ((rs.set i a').flatMap g).toArray) k):T B H (st ⟨b,i*s+j,none⟩ v k):=by
 have hi:i<rs.length:=(b0.1 ha).1;have hm:i*s+s<=rs.length*s:=by rw[<-pE];exact jM s hi
 apply eB (by rw[iL,dr hf];omega) d;rw[jI,BB hf ha c e];exact t
def oB[h:bY B H b (rs.flatMap g).toArray]{x:Int}{f:Int->HP}(hf:∀a,(g a).length=s)(ha:rs[i]?=some a)(c:j<s)(d:(g a)[j]?=some (D x))(t:T B H (f x)):T B H (cw (some ⟨b,i*s,none⟩) j f):=by unfold cw;rw[cT,aQ];exact a1 (vn hf ha c d) t
def qR[h:bY B H b (rs.flatMap g).toArray]{x:Int}{f:Int->HP}(hf:∀a,(g a).length=s)(ha:rs[i]?=some a)(c:j<s)(d:(g a)[j]?=some (D x))(t:T B H (f x)):T B H (bs .i64 (Addr.add ⟨b,i*s,none⟩ j) f):=by rw[aQ];exact a1 (vn hf ha c d) t
def wt[h:bY B H b (rs.flatMap g).toArray]{x:aw}{f:aw->HP}(hf:∀a,(g a).length=s)(ha:rs[i]?=some a)(c:j<s)(d:(g a)[j]?=some (.pointer x))(t:T B H (f x)):T B H (bc (some ⟨b,i*s,none⟩) j f):=by unfold bc;rw[cT,aQ];exact ke (vn hf ha c d) t
def nt{H':ax->au}[h:fZ H b (rs.flatMap g).toArray H']{v:Value}{k:HP}(hf:∀a,(g a).length=s)(ha:rs[i]?=some a)(c:j<s)(d:v.oneCell'=true)(e:(g a).set j v=g a')(t:T B (H' ((rs.set i a').flatMap g).toArray) k):T B H (cO (some ⟨b,i*s,none⟩) j v k):=by unfold cO;rw[cT,aQ];exact JZ hf ha c d e t
def Dr[h:bY B H b (rs.flatMap g).toArray]{x:Int}{f:Int->HP}(hf:∀a,(g a).length=s)(i:Nat)(c:n=(i:Int))(hl:i<l)(ha:rs[i]?=some a)(d:j<s)(e:(g a)[j]?=some (D x))(t:T B H (f x)):T B H (db (some ⟨b,0,none⟩) l n s j f):=by subst c;unfold db;rw[cT];refine bj ⟨by omega,by omega⟩ ?_;rw[a7,aQ,aQ,bJ];exact a1 (vn hf ha d e) t
end
class gl (P:Program) (t:TypeId) (s:outParam Nat):Prop where
 ty:∃e,P.underlying t=some (.slice e)/\(P.info? e).isSome=true/\hI P e=true/\P.cellsOf e=s/\P.bytesOf e<=4096/\1<=P.bytesOf e/\(zc P e).size=s
theorem gl.of{P:Program}{t e s:Nat}(h:(match P.underlying t with|some (.slice e)=>(P.info? e).isSome&&hI P e&&Nat.beq (P.cellsOf e) s&&Nat.ble (P.bytesOf e) 4096&&Nat.ble 1 (P.bytesOf e)&&Nat.beq (zc P e).size s|_=>false)=true):gl P t s:=by
 split at h
 ·rename_i e hu
  simp only[b9,Nat.ble_eq]at h;exact⟨e,hu,h.1.1.1.1.1,h.1.1.1.1.2,lE h.1.1.1.2,h.1.1.2,h.1.2,lE h.2⟩
 ·cases h
section
variable {P:Program}{B:Heap}{H H0:au}{t s l c m d:Nat}{p q:aw}{xs ys:aB}{f:aw->Nat->Nat->HP}
def oy[hs:gl P t s][h:Ow H (ai s p l c) xs H0][hr:Rd B H q ys][b:ka ys.toArray](hl:l+m<1000000000)(hm:ys.length=m*s)(k:∀a c',T B (ai s a (l+m) c' (xs++ys)::H0) (f a (l+m) c')):T B H (cI P #[t,t] p l c q m d f):=by
 obtain⟨e,U,g,i,j,n,o,r⟩:=hs.ty;have u:=hr.rd.perm h.pl.perm.symm;refine bh h.pl (Ko rfl rfl U ?_ g i j ?_ o r u hm b.one k)
 ·show nf P t=true
  unfold nf;rw[U]
 ·exact jL (Nat.mul_le_mul_left _ n) (by omega)
def e0[hs:gl P t s][h:Ow H (ai s p l c) xs H0]{b:Nat}{cs:ax}[g:bY B H b cs][e:ka cs](hm:cs.size=s)(hl:l<999999999)(k:∀a c',T B (ai s a (l+1) c' (xs++cs.toList)::H0) (f a (l+1) c')):T B H (cI P #[t,t] p l c (some ⟨b,0,none⟩) 1 d f):=@oy P B H H0 t s l c 1 d p _ xs cs.toList f hs h _ (by simpa using e) (by omega) (by simpa using hm) k
end
end Go.XS
namespace Go.XS
def J5{P:Program}{B:Heap}{H:au}{a:FuncId}{first captured:ax}{args:aB}{K:aK}(b:gb P a=true)(t:T B H (ab P a (first.toList++args++captured.toList).toArray K)):T B H (lx P (.func (.func a) first captured) args K):=by simp only[lx];exact lI b t
def nz{P:Program}{B:Heap}{H:au}{a:FuncId}{args:aB}{K:aK}(b:gb P a=true)(t:T B H (ab P a args.toArray K)):T B H (lx P (.func (.func a) #[] #[]) args K):=J5 b (by simpa using t)
end Go.XS
namespace Go.Proofs.YtlmgompopkamfaaGreatDoor
section
open Go.XS
noncomputable abbrev P:Program:=Tryz.prog
def pQ(fn:Func):Code:=fn.body.getD .skip
def countB:(Tryz.funcs.all λfn=>!(fn.name== "runtime.NumGoroutine"))=true:=by kernel_rfl
def uX:j' P:=by intro f fn h;have U:=Array.all_eq_true_iff_forall_mem.1 countB fn (oc h);simpa using U
def Gy(hs:Hints)(fn:Func)(k:Nat):Bool:=fn.body.isSome&&codeOk hs fn.ntmps (pQ fn)&&Nat.ble k fn.ntmps
def Gz(hs:Hints)(fn:Func)(k:Nat):Bool:=fn.body.isSome&&oP hs fn.ntmps (pQ fn)&&Nat.ble k fn.ntmps
def Ih:P.follows .mixedOrders=true:=by kernel_rfl
def ao(hs:Hints){f:FuncId}{fn:Func}{args:aB}{K:aK}{σ:Heap}{G:HP}(hf:P.funcs[f]?=some fn)(h:G σ)(aP:Gy hs fn args.length=true:=by kernel_rfl)(he:G=x P hs (pQ fn) 0 (mE args 0) (Bv P fn.results.toList K):=by kernel_rfl):ab P f args.toArray K σ:=by
 simp only[Gy,b9]at aP;obtain⟨c,hc⟩:=hY.1 aP.1.1;have a:pQ fn=c:=by simp[pQ,hc]
 rw[a]at aP he;exact Lh uX Ih hf hc aP.1.2 (vY aP.2) (he▸h)
def mT(hs:Hints){f:FuncId}{fn:Func}{args:aB}{K:aK}{σ:Heap}{G:HP}(hf:P.funcs[f]?=some fn)(h:G σ)(aP:Gz hs fn args.length=true:=by kernel_rfl)(he:G=x1 P hs (pQ fn) 0 (mE args 0) [] (Bw P fn.results.toList K):=by kernel_rfl):ab P f args.toArray K σ:=by
 simp only[Gz,b9]at aP;obtain⟨c,hc⟩:=hY.1 aP.1.1;have a:pQ fn=c:=by simp[pQ,hc]
 rw[a]at aP he;exact Li uX Ih hf hc aP.1.2 (vY aP.2) (he▸h)
abbrev cV(n:Int)(k:Nat)(q:HP):HP:=aR (0<=n/\n<(k:Int)) q
abbrev az(b n:Nat)(f:ax->HP):HP:=eY (ag b 0) n f
abbrev aC(b:Nat)(cs:ax)(n:Nat)(q:HP):HP:=gW (ag b 0) cs n q
abbrev ar(b i:Nat)(f:Int->HP):HP:=bs .i64 (ag b i) f
abbrev ad(a:aw):Value:= .pointer a
abbrev aG:Value:= .slice none 0 0
abbrev b3:Value:= .string ⟨#[]⟩
abbrev aq(a:ax):Value:= .tuple a
abbrev bf(a:Addr)(v:Value)(q:HP):HP:=dA (λσ=>cA σ a=some v) q
def h0:Hints:=⟨[],[],[],[]⟩
def sp(l:List Nat)(k:fD):fD:=l.foldr (λi k=> .step i .pure k) k
abbrev bH(g:Nat)(a:ax)(f:ax->HP):HP:=ab P g a λv=>hk v f
abbrev aJ(g:Nat)(a:ax)(f:Bool->HP):HP:=ab P g a λv=>dv v f
abbrev aU(g:Nat)(a:ax)(f:Int->HP):HP:=ab P g a λv=>di .i64 v f
abbrev sw(g:Nat)(a:ax)(f:Option Nat->HP):HP:=ab P g a λv=>uh v f
abbrev dq(g:Nat)(a:ax)(f:aw->HP):HP:=ab P g a λv=>im v f
abbrev bX(g:Nat)(a:ax)(f:aw->Nat->Nat->HP):HP:=ab P g a λv=>iX v f
abbrev ir(g:Nat)(a:ax)(f:ByteArray->HP):HP:=ab P g a λv=>nC v f
abbrev ce(g:Nat)(a:ax)(f:HP):HP:=ab P g a λv=>ex v f
abbrev Ec(g:Nat)(a:ax)(f:ax->ax->HP):HP:=ab P g a λv=>EM v f
abbrev mF(g:Nat)(a:ax)(f:ax->Bool->HP):HP:=ab P g a λv=>uA v f
abbrev fH(g:Nat)(a:ax)(f:ax->Int->HP):HP:=ab P g a λv=>wV v f
abbrev Ed(g:Nat)(a:ax)(f:ax->Int->Int->Int->HP):HP:=ab P g a λv=>EN v f
abbrev Ee(g:Nat)(a:ax)(f:ax->aK):HP:=ab P g a λv=>EO v f
abbrev Ef(g:Nat)(a:ax)(f:Bool->Int->HP):HP:=ab P g a λv=>EP v f
abbrev fR(g:Nat)(a:ax)(f:Int->Bool->HP):HP:=ab P g a λv=>sE v f
abbrev c5(g:Nat)(a:ax)(f:Int->Int->HP):HP:=ab P g a λv=>ER v f
abbrev kP(g:Nat)(a:ax)(f:Int->Int->Bool->HP):HP:=ab P g a λv=>ES v f
abbrev pT(g:Nat)(a:ax)(f:Int->Int->Int->HP):HP:=ab P g a λv=>ET v f
abbrev zL(g:Nat)(a:ax)(f:Int->Int->Int->Int->Bool->HP):HP:=ab P g a λv=>EU v f
abbrev Eg(g:Nat)(a:ax)(f:aw->Bool->HP):HP:=ab P g a λv=>EV v f
abbrev iZ(g:Nat)(a:ax)(f:aw->Int->HP):HP:=ab P g a λv=>EW v f
abbrev pU(g:Nat)(a:ax)(f:aw->Nat->Nat->Bool->HP):HP:=ab P g a λv=>EX v f
abbrev uu(g:Nat)(a:ax)(f:aw->Nat->Nat->Int->HP):HP:=ab P g a λv=>EY v f
abbrev Eh(g:Nat)(a:ax)(f:aw->Nat->Nat->Int->Int->HP):HP:=ab P g a λv=>EZ v f
abbrev S5(g:Nat)(a:ax)(f:ByteArray->Bool->HP):HP:=ab P g a λv=>T3 v f
abbrev wO(g:Nat)(a:ax)(f:ByteArray->Int->HP):HP:=ab P g a λv=>E0 v f
abbrev Ei(g:Nat)(a:ax)(f:ByteArray->ByteArray->Bool->HP):HP:=ab P g a λv=>E1 v f
end
open Go.XS
open IntKind (wrap)
open Tryz
variable {K:aK}{σ:Heap}
variable (p0:aw)(l0:Nat)(c0:Nat)(n0:Int)(aZ:ax)(s0:ByteArray)(g0:Nat)(uq:ax)(m0:Option Nat)(p1:aw)(l1:Nat)(c1:Nat)(cg:ax)(n2:Int)
def SE(h:(al aZ 23 λa=>az a 4 λb=>aJ 5 #[.agg b,.slice p1 l1 c1,D 60] λb=>ae (!b) (aJ 6 #[] λa=>K (.bool a)) (az a 4 λb=>Eg 7 #[.agg b,aG] λb c=>bm (cG λd e=>bq (jn (bc b 0 λc=>bH 8 #[ad c] λc=>al #[D 0,aG,aG,aG,aG,aG] 36 λf=>aC f c 6 (de p1 l1 d 6 6 λc=>bH 9 #[ad b,.agg c] λ_=>bc b 0 λb=>bH 8 #[ad b] λb=>al #[D 0,aG,aG,aG,aG,aG] 36 λc=>aC c b 6 (aT (ag c 1) λb g h=>bH 10 #[.slice b g h] λb=>al #[D 0,D 0,D 0,D 0] 50 λg=>aC g b 4 (bq (jn (bm (cG λa b=>aT (ag c 3) λ_ f _=>ae (decide (a<f)) (aT (ag c 3) λd e _=>db d e a 4 2 λd=>aT (ag c 3) λe f _=>db e f a 4 3 λe=>aT (ag c 3) λf g _=>db f g a 4 1 λf=>ae (decide (wrap .i64 (d+e)>f)) (K (.bool false)) (aT (ag c 3) λc d _=>rv c d a 4 1 3 λc=>aJ 13 #[.agg c] λc=>ae (!c) (K (.bool false)) (b [D (wrap .i64 (a+1))]))) (e [D (wrap .i64 (d+1))])) [D 0])) λb=>az a 4 λd=>az c 6 λe=>aU 11 #[.agg d,.agg e] λd=>ae (d !=0) (K (.bool false)) (az f 6 λd=>az c 6 λc=>aJ 12 #[.agg d,.agg c] λc=>ae (!c) (K (.bool false)) (aR ((0<=(0:Int))/\((0:Int)<(4:Nat))) (ar g 0 λc=>aR ((0<=(1:Int))/\((1:Int)<(4:Nat))) (ar g 1 λd=>aR ((0<=(2:Int))/\((2:Int)<(4:Nat))) (ar g 2 λe=>ar a 0 λa=>ae (wrap .i64 (wrap .i64 (c+d)+e)!=a) (K (.bool false)) (b []))))))))))) λa=>ae c (ae (decide (d<l1)) (a []) (aJ 6 #[] λa=>K (.bool a))) (aJ 6 #[] λa=>K (.bool a))) [D 0])) σ):ab P 3 #[.agg aZ,.slice p1 l1 c1] K σ:=ao ⟨[(16,[0,1,0,7,15,31,63,0,128,0,896,1920,3968,8064,16383,0,32768,0,229376,491520,1015808,2064384,4194303,8388607,16777215,33554431,16777215,134217727,268435455,536870911,1073741823,2147483647,4294967295],(sp [0,2,7,9,15,17] (.l 1 (sp [3,4,5] (.l 6 (.l 8 (sp [10,11,12] (.l 13 (sp [14] (.l 16 (sp [18,19,20] (.l 21 (sp [22,23,24,26] (.l 25 (sp [27,28] (.l 29 (.s 30 (.ay []) (sp [31,32] (.d)))))))))))))))))))],[(1,[(7,.int .i64)]),(3,[(11,.int .i64)])],[(5,[]),(11,[])],[]⟩ func3 h
def SG(h:(al aZ 23 λa=>bq (jn (bm (cG λa b=>ae (decide (a<l1)) (Fy p1 l1 a 6 4 λc=>ae (decide ((↑(ByteArray.size c):Int)>9000)) (K (.bool false)) (b [D (wrap .i64 (a+1))])) (K (.bool true))) [D 0])) λb=>ae (decide ((↑l1:Int)>n2)) (K (.bool false)) (az a 4 λa=>aU 16 #[.agg a] λa=>ae (a==0) (K (.bool false)) (b []))) σ):ab P 5 #[.agg aZ,.slice p1 l1 c1,D n2] K σ:=ao ⟨[],[(1,[(7,.int .i64)])],[(1,[])],[]⟩ func5 h
def SH(h:(Ec 17 #[.string (ByteArray.mk (List.toArray (List.append [109,97,110,111,114,32,51,32,54,52,32,49,32,48,10,114,101,103,105,115,116,101,114,32,50,10,114,101,103,105,115,116,101,114,32,51,10,97,115,107,32,35,49,32,50,10,97,115,107,32,35,50,32,51,10,116,105,99,107,10] [114,111,111,116,32,35,49,10,108,97,121,32,35,54,32,54,52,32,49,10,102,114,101,101,32,35,54,10,103,105,118,101,32,35,49,32,49,10,116,105,99,107,10,116,105,99,107,10,115,116,97,116,101,32,35,50,32,35,52,10])))] λa b=>al #[b3,D 0,D 0,D 0,D 0,.bool false,.bool false,D 0] 67 λc=>al #[D 0,D 0] 69 λd=>aC c a 8 (aC d b 2 (ar d 0 λa=>ae (a==0) (ar c 2 λa=>ae (a==2) (ar c 3 λa=>ae (a==0) (ar c 4 λa=>ae (a==0) (hA (ag c 5) λa=>ae a (hA (ag c 6) λa=>ae a (ar c 7 λa=>K (.bool (a==0))) (K (.bool false))) (K (.bool false))) (K (.bool false))) (K (.bool false))) (K (.bool false))) (K (.bool false))))) σ):ab P 6 #[] K σ:=ao h0 func6 h
def SF(h:(al aZ 23 λa=>az a 4 λa=>iZ 18 #[.agg a] λa b=>bq (jn (al #[ad a,aG,aG,aG] 40 λa=>bm (cG λb c=>ae (decide (b<l1)) (de p1 l1 b 6 6 λd=>bH 9 #[ad (some (ag a 0)),.agg d] λ_=>c [D (wrap .i64 (b+1))]) (K (aq #[ad (some (ag a 0)),.bool true]))) [D 0])) λc=>ae (b !=0) (al #[ad none,aG,aG,aG] 40 λa=>K (aq #[ad (some (ag a 0)),.bool false])) (ae (Option.isNone a) (al #[ad none,aG,aG,aG] 40 λa=>K (aq #[ad (some (ag a 0)),.bool false])) (c []))) σ):ab P 7 #[.agg aZ,.slice p1 l1 c1] K σ:=ao ⟨[],[(1,[(9,.int .i64)])],[(2,[])],[]⟩ func7 h
def NP(h:(al #[D 0,aG,aG,aG,aG,aG] 36 λa=>ae (Option.isNone p0) (aC a #[D 0,aG,aG,aG,aG,aG] 6 (az a 6 λa=>K (.agg a))) (bc p0 4 λb=>bH 19 #[ad b] λb=>al #[D 0,aG,aG,aG,aG,aG] 36 λc=>aC c b 6 (bc p0 6 λb=>bX 20 #[ad b] λb d e=>st (ag c 5) (.slice b d e) (az c 6 λb=>aC a b 6 (az a 6 λa=>K (.agg a)))))) σ):ab P 8 #[ad p0] K σ:=ao h0 func8 h
def SD(h:(al cg 49 λa=>al #[D 0,D 0,aG,b3] 44 λb=>bq (nJ λa=>bq (nJ λc=>bq (jn (bq (jn (bq (hN λd=>ae d (aA p0 λd=>aA a λa=>aA c λe=>aT (d.add 3) λf g h=>bs .i64 (a.add 1) λa=>bs .i64 (e.add 1) λe=>aR (Array.size (List.toArray (cX [D a,D 0] (1*1) [D e]))=2) (al #[D a,D e] 81 λa=>bf (d.add 3) (.slice f g h) (cI P #[38,38] f g h (some (ag a 0)) 1 1 λa d e=>cO p0 3 (.slice a d e) (jX c 0 4 λa=>aC b a 4 (az b 4 λa=>K (.agg a)))))) (jX c 0 4 λa=>aC b a 4 (az b 4 λa=>K (.agg a)))) λb=>cw c 0 λc=>ae (c==0) (cw a 0 λa=>b [.bool (a==5)]) (b [.bool false]))) λb=>bq (hN λa=>ae a (aA p0 λa=>aA c λc=>aT (a.add 2) λd e f=>bs .i64 (c.add 1) λc=>al #[D c] 3 λc=>bf (a.add 2) (.slice d e f) (cI P #[31,31] d e f (some (ag c 0)) 1 1 λa c d=>cO p0 2 (.slice a c d) (b []))) (b [])) λb=>cw c 0 λc=>ae (c==0) (cw a 0 λa=>b [.bool (a==1)]) (b [.bool false]))) λb=>bq (hN λa=>ae a (aA p0 λa=>aA c λc=>aT (a.add 1) λd e f=>bs .i64 (c.add 1) λc=>al #[D c] 3 λc=>bf (a.add 1) (.slice d e f) (cI P #[31,31] d e f (some (ag c 0)) 1 1 λa c d=>cO p0 1 (.slice a c d) (b []))) (b [])) λb=>cw c 1 λc=>ae (decide (c>0)) (cw a 0 λa=>b [.bool (a !=12)]) (b [.bool false])) λb=>aA p0 λc=>bx (c.add 0) λd=>aA a λa=>eY a 5 λe f=>((bH 14 #[ad d,.agg e] λf=>al #[D 0,D 0,aG,b3] 44 λg=>dA (λb=>∃c,(Value.agg e=Value.agg c)/\((Array.size c=5)/\(∀d,(d<(5:Nat))->(cA b (Addr.add a d)=c[d]?)))) (bf (c.add 0) (ad d) (aC g f 4 (b [ad (some (ag g 0))])))) f)/\((al #[D 0,D 0,aG,b3] 44 λf=>dA (λb=>∃c,(Value.agg e=Value.agg c)/\((Array.size c=5)/\(∀d,(d<(5:Nat))->(cA b (Addr.add a d)=c[d]?)))) (bf (c.add 0) (ad d) (bH 14 #[ad d,.agg e] λa=>aC f a 4 (b [ad (some (ag f 0))])))) f)) λb=>aA p0 λc=>az a 6 λd=>aT (c.add 1) λe f g h=>((bH 21 #[.agg d,.slice e f g] λh=>al #[D 0,D 0,D 0,D 0,b3] 47 λi=>bf (c.add 1) (.slice e f g) (dA (λb=>∃c,(Value.agg d=Value.agg c)/\((Array.size c=6)/\(∀d,(d<(6:Nat))->(cA b (Addr.add (ag a 0) d)=c[d]?)))) (aC i h 5 (b [ad (some (ag i 0))])))) h)/\((al #[D 0,D 0,D 0,D 0,b3] 47 λh=>bf (c.add 1) (.slice e f g) (dA (λb=>∃c,(Value.agg d=Value.agg c)/\((Array.size c=6)/\(∀d,(d<(6:Nat))->(cA b (Addr.add (ag a 0) d)=c[d]?)))) (bH 21 #[.agg d,.slice e f g] λa=>aC h a 5 (b [ad (some (ag h 0))])))) h)) σ):ab P 9 #[ad p0,.agg cg] K σ:=ao ⟨[(1,[0,0,2,6,14,31,0,127],(sp [1,2,3] (.l 0 (.l 4 (.fork 5 [] (.s 6 (.ay [4,0]) (.s 7 (.ay []) .d)) 6 [4,0] (.s 5 (.ay []) (.s 7 (.ay []) .d))))))),(2,[0,1,3,7,0,31,0,127],(sp [0,1,2] (.l 3 (.l 4 (.fork 5 [] (.s 6 (.ay [4,3]) (.s 7 (.ay []) .d)) 6 [4,3] (.s 5 (.ay []) (.s 7 (.ay []) .d))))))),(4,[0,0,2,6,14,0,32,96,254,511,1023,2047],(sp [0,1,2,3,5] (.l 4 (.l 6 (.s 7 (.ay [4]) (.s 8 (.ay []) (sp [9,10] (.s 11 (.ay []) .d)))))))),(6,[0,0,2,6,14,0,32,96,254,511,1023,2047],(sp [0,1,2,3,5] (.l 4 (.l 6 (.s 7 (.ay [4]) (.s 8 (.ay []) (sp [9,10] (.s 11 (.ay []) .d)))))))),(8,[0,0,2,6,14,0,32,0,128,480,992,2046,4095,8191,16383],(sp [0,1,2,3,5,7] (.l 4 (.l 6 (.l 8 (sp [9] (.s 10 (.ay [4]) (.s 11 (.ay []) (sp [12,13] (.s 14 (.ay []) .d))))))))))],[],[(100001,[(5,.ptr)]),(100002,[(6,.ptr)]),(3,[]),(100003,[(26,.bool)]),(5,[]),(100005,[(45,.bool)]),(100007,[(64,.bool)])],[]⟩ func9 h
def PJ(h:(al #[D 0,D 0,D 0,D 0] 50 λa=>al #[D 0,D 0,D 0,D 0] 50 λb=>bm (cG λc d=>ae (decide (c<4)) (bm (cG λa e=>ae (decide (a<l0)) (db p0 l0 a 3 0 λd=>ae (d==c) (cV c 4 (bs .i64 (Addr.add (ag b 0) c.toNat) λd=>cV c 4 (st (Addr.add (ag b 0) c.toNat) (D (wrap .i64 (d+1))) (e [D (wrap .i64 (a+1))])))) (e [D (wrap .i64 (a+1))])) (d [D (wrap .i64 (c+1))])) [D 0]) (az b 4 λb=>aC a b 4 (az a 4 λa=>K (.agg a)))) [D 0]) σ):ab P 10 #[.slice p0 l0 c0] K σ:=ao ⟨[],[(1,[(4,.int .i64)]),(3,[(5,.int .i64)])],[],[]⟩ func10 h
def P0(h:(al aZ 23 λa=>al cg 36 λb=>bq (jn (az b 6 λc=>aJ 23 #[.agg c] λc=>ae c (K (D 2)) (az b 6 λc=>aJ 24 #[.agg c] λc=>ae c (K (D 3)) (aT (ag b 1) λc d e=>bH 10 #[.slice c d e] λc=>al #[D 0,D 0,D 0,D 0] 50 λd=>aC d c 4 (aR ((0<=(0:Int))/\((0:Int)<(4:Nat))) (ar d 0 λc=>aR ((0<=(2:Int))/\((2:Int)<(4:Nat))) (ar d 2 λe=>aR ((0<=(3:Int))/\((3:Int)<(4:Nat))) (ar d 3 λd=>aT (ag b 3) λf g h=>pU 25 #[D (wrap .i64 (wrap .i64 (c+e)+d)),.slice f g h] λ_ _ _ c=>ae (!c) (K (D 4)) (az a 4 λa=>az b 6 λb=>aJ 26 #[.agg a,.agg b] λa=>ae a (K (D 5)) (K (D 0))))))))))) λc=>aT (ag b 1) λ_ d _=>ar a 0 λa=>ae ((↑d:Int)!=a) (K (D 1)) (aT (ag b 1) λa d e=>aT (ag b 2) λb f g=>aJ 22 #[.slice a d e,.slice b f g] λa=>ae (!a) (K (D 1)) (c []))) σ):ab P 11 #[.agg aZ,.agg cg] K σ:=ao ⟨[],[],[(1,[])],[]⟩ func11 h
def PZ(h:(al aZ 36 λa=>al cg 36 λb=>bq (jn (bm (cG λc d=>aT (ag a 1) λ_ e _=>ae (decide (c<e)) (aT (ag a 1) λa e _=>de a e c 3 3 λa=>aT (ag b 1) λb e _=>de b e c 3 3 λb=>aJ 27 #[.agg a,.agg b] λa=>ae (!a) (K (.bool false)) (d [D (wrap .i64 (c+1))])) (K (.bool true))) [D 0])) λc=>ar b 0 λd=>ar a 0 λe=>ae (decide (d<e)) (K (.bool false)) (aT (ag a 1) λ_ a _=>aT (ag b 1) λ_ b _=>ae ((↑a:Int)!=(↑b:Int)) (K (.bool false)) (c []))) σ):ab P 12 #[.agg aZ,.agg cg] K σ:=ao ⟨[(6,[0,1,0,7,15,0,32,0,224,480,1023,2047],(sp [0,2,5,7] (.l 1 (sp [3] (.l 4 (.l 6 (sp [8] (.l 9 (.s 10 (.ay []) (sp [11] .d))))))))))],[(1,[(5,.int .i64)])],[(1,[])],[]⟩ func12 h
def PR(h:(al aZ 55 λa=>ar a 0 λb=>ae (decide (b>=1)) (ar a 0 λb=>ae (decide (b<=1048576)) (ar a 1 λb=>ae (decide (b>=0)) (ar a 2 λb=>ae (decide (b>=0)) (ar a 1 λb=>ar a 0 λc=>ae (decide (b<=c)) (ar a 2 λb=>ar a 0 λc=>ar a 1 λa=>K (.bool (decide (b<=wrap .i64 (c-a))))) (K (.bool false))) (K (.bool false))) (K (.bool false))) (K (.bool false))) (K (.bool false))) σ):ab P 13 #[.agg aZ] K σ:=ao h0 func13 h
def NN(h:(al cg 47 λa=>al #[D 0,D 0,aG,b3] 44 λb=>bq (jn (bq (FC λc d=>ae (!d) (bH 28 #[D 1] λa=>aC b a 4 (az b 4 λa=>K (.agg a))) (Aa c 0 λc=>az a 5 λa=>lx P c [ad p0,.agg a] λa=>hk a λa=>aC b a 4 (az b 4 λa=>K (.agg a)))) λb=>ar a 0 λc d=>((sw 29 #[] λd=>bf (ag a 0) (D c) λe=>((aI P (Instr.lookup 95 (.map d) (D c) true) λd=>uA d λd e=>al #[.nilFunc] 93 λf=>bf (ag a 0) (D c) (aC f d 1 (b [ad (some (ag f 0)),.bool e]))) e)/\((al #[.nilFunc] 93 λe=>bf (ag a 0) (D c) (aI P (Instr.lookup 95 (.map d) (D c) true) λa=>uA a λa c=>aC e a 1 (b [ad (some (ag e 0)),.bool c]))) e)) d)/\((al #[.nilFunc] 93 λd=>bf (ag a 0) (D c) (sw 29 #[] λe=>bf (ag a 0) (D c) (aI P (Instr.lookup 95 (.map e) (D c) true) λa=>uA a λa c=>aC d a 1 (b [ad (some (ag d 0)),.bool c])))) d))) λa=>ae (Option.isNone p0) (bH 28 #[D 16] λa=>aC b a 4 (az b 4 λa=>K (.agg a))) (bc p0 4 λc=>ae (Option.isNone c) (bH 28 #[D 16] λa=>aC b a 4 (az b 4 λa=>K (.agg a))) (a []))) σ):ab P 14 #[ad p0,.agg cg] K σ:=ao ⟨[(3,[0,0,2,7,15,31,31,0,191,511],(sp [1] (.l 2 (.fork 0 [2] (.fork 3 [] (sp [4,5,6] (.s 7 (.ay [2]) (.s 8 (.ay []) (sp [9] .d)))) 7 [2] (.s 3 (.ay []) (sp [4,5,6] (.s 8 (.ay []) (sp [9] .d))))) 7 [2] (.s 0 (.ay [2]) (.s 3 (.ay []) (sp [4,5,6] (.s 8 (.ay []) (sp [9] .d)))))))))],[],[(1,[]),(100003,[(5,.ptr),(6,.bool)])],[]⟩ func14 h
def Nl(h:(al aZ 23 λa=>ar a 0 λb=>ae (decide (b>12)) (ar a 0 λb=>ae (decide (b<=1048576)) (K (D 0)) (ar a 1 λb=>ae (decide (b>256)) (ar a 1 λa=>ae (decide (a<=1048576)) (K (D 0)) (K (D 1))) (K (D 1)))) (ar a 1 λb=>ae (decide (b>256)) (ar a 1 λa=>ae (decide (a<=1048576)) (K (D 0)) (K (D 1))) (K (D 1)))) σ):ab P 16 #[.agg aZ] K σ:=ao h0 func16 h
def O5(h:(al (#[b3,D 0,D 0,D 0,D 0,.bool false,.bool false,D 0]) 67 λa=>al (#[D 0,D 0]) 69 λb=>ab P 30 #[.string s0] λc d=>∃e f,(c=Value.tuple #[.agg e,.agg f])/\((al (#[D 0,D 0,D 0,D 0,aG]) 100 λc=>al (#[D 0,D 0]) 69 λd=>aC c e 5 (aC d f 2 (az d 2 λe=>aI P (do eqGuard .neq 69 (Operand.tmp 27) (Operand.tmp 28) (.agg e) (.agg (zc P 69));binOp .neq 69 (.agg e) (.agg (zc P 69))) λe=>dv e λe=>ae e (az d 2 λc=>aC a (#[b3,D 0,D 0,D 0,D 0,.bool false,.bool false,D 0]) 8 (dA (λa=>∃b,(Value.agg c=Value.agg b)/\((Array.size b=2)/\(∀c,(c<(2:Nat))->(cA a (Addr.add (ag d 0) c)=b[c]?)))) (aC b c 2 (az a 8 λa=>az b 2 λb=>K (aq #[.agg a,.agg b]))))) (eY (Addr.add (ag c 0) 0) 4 λd=>ab P 18 #[.agg d] λd e=>∃f g,(d=Value.tuple #[ad f,D g])/\((ae (g !=0) (aC a (#[b3,D 0,D 0,D 0,D 0,.bool false,.bool false,D 0]) 8 (aC b (#[D g,D 0]) 2 (az a 8 λa=>az b 2 λb=>K (aq #[.agg a,.agg b])))) (al (#[b3,D 0,D 0,D 0,D 0,.bool false,.bool false,D 0]) 105 λd=>al (#[D 0]) 108 λe=>al (#[aG,D 0,D 0,aG,aG,aG,.bool false]) 114 λg=>al (#[.iface 103 (ad (some (ag d 0))),.iface 106 (ad (some (ag e 0))),.iface 109 (ad (some (ag g 0)))]) 117 λd=>bm (λe g h=>∀i,(e=[D i])->((ae (decide (i<3)) (cV i 3 (gN (Addr.add (ag d 0) i.toNat) λa=>eF P (invoke (Target.fn (Fn.method "copyhold/play.ahead") #[]) #[a,ad f]) λa b=>(a=Value.tuple #[])/\((g [D (wrap .i64 (i+1))]) b))) (aT (Addr.add (ag c 0) 4) λc e _=>bm (λg h i=>∀j k l m n o p,(g=[.slice j k l,.slice m n o,D p])->((ae (decide (p<e)) (aA c λa=>cV p e (eY (Addr.add a (Int.toNat p*8)) 8 λa=>al (#[D 0,D 0,D 0,D 0,b3,D 0,D 0,D 0]) 122 λb=>aC b a 8 (az b 8 λa=>bH 31 #[.agg a,.slice m n o] (λa=>al (#[D 0,D 0,D 0,D 0,b3]) 47 λb=>aC b a 5 (az b 5 λa=>bH 14 #[ad f,.agg a] (λa=>al (#[D 0,D 0,aG,b3]) 44 λc=>aC c a 4 (bq (λa e=>∀g i j k l m,(a=[.slice g i j,.slice k l m])->((bm (λa e n=>∀o,(a=[D o])->((ae (decide (o<3)) (cV o 3 (gN (Addr.add (ag d 0) o.toNat) λa=>az b 5 λb=>az c 4 λc=>eF P (invoke (Target.fn (Fn.method "copyhold/play.behind") #[]) #[a,ad f,.agg b,.agg c]) λa b=>(a=Value.tuple #[])/\((e [D (wrap .i64 (o+1))]) b))) (h [.slice g i j,.slice k l m,D (wrap .i64 (p+1))])) n)) [D 0]) e)) λa=>az c 4 λb=>bs .i64 (Addr.add (ag c 0) 1) λd e=>((aR (Array.size b=4) (al (Array.mk (cX (na (Array.toList (zc P 44)) 1) (0*4) (Array.toList b))) 44 λe=>bf (Addr.add (ag c 0) 1) (D d) λf=>((cI P (#[119,119]) j k l (some (ag e 0)) 1 1 λe f g=>bf (Addr.add (ag c 0) 1) (D d) (al (#[D d]) 3 λd=>dA (λa=>∃d,(Value.agg b=Value.agg d)/\((Array.size d=4)/\(∀b,(b<(4:Nat))->(cA a (Addr.add (ag c 0) b)=d[b]?)))) (cI P (#[31,31]) m n o (some (ag d 0)) 1 1 λb c d=>a [.slice e f g,.slice b c d]))) f)/\((al (#[D d]) 3 λf=>dA (λa=>∃d,(Value.agg b=Value.agg d)/\((Array.size d=4)/\(∀b,(b<(4:Nat))->(cA a (Addr.add (ag c 0) b)=d[b]?)))) (cI P (#[119,119]) j k l (some (ag e 0)) 1 1 λb e g=>bf (Addr.add (ag c 0) 1) (D d) (cI P (#[31,31]) m n o (some (ag f 0)) 1 1 λc d f=>a [.slice b e g,.slice c d f]))) f))) e)/\((al (#[D d]) 3 λe=>dA (λa=>∃d,(Value.agg b=Value.agg d)/\((Array.size d=4)/\(∀b,(b<(4:Nat))->(cA a (Addr.add (ag c 0) b)=d[b]?)))) (aR (Array.size b=4) (al (Array.mk (cX (na (Array.toList (zc P 44)) 1) (0*4) (Array.toList b))) 44 λb=>bf (Addr.add (ag c 0) 1) (D d) (cI P (#[119,119]) j k l (some (ag b 0)) 1 1 λb f g=>bf (Addr.add (ag c 0) 1) (D d) (cI P (#[31,31]) m n o (some (ag e 0)) 1 1 λc d e=>a [.slice b f g,.slice c d e]))))) e)))))))) (ir 32 #[.slice j k l] (λc=>al (#[b3,D 0,D 0,D 0,D 0,.bool false,.bool false,D 0]) 67 λe=>aC e (#[.string c,D 0,D 0,D 0,D 0,.bool false,.bool false,D 0]) 8 (bm (λc g h=>∀i,(c=[D i])->((ae (decide (i<3)) (cV i 3 (gN (Addr.add (ag d 0) i.toNat) λa=>eF P (invoke (Target.fn (Fn.method "copyhold/play.end") #[]) #[a,ad f,ad (some (ag e 0))]) λa b=>(a=Value.tuple #[])/\((g [D (wrap .i64 (i+1))]) b))) (az e 8 λc=>aC a c 8 (aC b (#[D 0,D 0]) 2 (az a 8 λa=>az b 2 λb=>K (aq #[.agg a,.agg b]))))) h)) [D 0])))) i)) [aG,aG,D 0])) h)) [D 0])) e))))) d)) σ):ab P 17 #[.string s0] K σ:=ao ⟨[(3,[0,0,1,7],(sp [0] (.l 1 (.s 2 (.ay [1]) (.s 3 (.ay []) .d))))),(20,[0,0,2,7,0,0,32,96,255,511,1023],(sp [0,4,5] (.l 1 (.l 6 (.fork 2 [6] (.fork 3 [6] (.s 7 (.ay [1]) (.s 8 (.ay []) (sp [9,10] (.d)))) 7 [1] (.s 3 (.ay [6]) (.s 8 (.ay []) (sp [9,10] (.d))))) 7 [1] (.s 2 (.ay [6]) (.s 3 (.ay [6]) (.s 8 (.ay []) (sp [9,10] (.d))))))))))],[(1,[(55,.int .i64)]),(3,[(11,.slice),(12,.slice),(66,.int .i64)]),(5,[(87,.int .i64)]),(7,[(103,.int .i64)])],[(100020,[(11,.slice),(12,.slice)])],[]⟩ func17 h
def N7(h:(al aZ 23 λa=>az a 4 λb=>iZ 33 #[.agg b] λb c=>ae (c !=0) (K (aq #[ad none,D c])) (az a 4 λc=>dq 34 #[] λd=>dA (λb=>∃d,(Value.agg c=Value.agg d)/\((Array.size d=4)/\(∀c,(c<(4:Nat))->(cA b (Addr.add (ag a 0) c)=d[c]?)))) (dq 35 #[] λe=>dA (λb=>∃d,(Value.agg c=Value.agg d)/\((Array.size d=4)/\(∀c,(c<(4:Nat))->(cA b (Addr.add (ag a 0) c)=d[c]?)))) (aR (Array.size c=4) (al (Array.mk (cX (cX (cX (cX [D 0,D 0,D 0,D 0,ad none,ad none,ad none] 0 (Array.toList c)) 4 [ad b]) 5 [ad d]) 6 [ad e])) 78 λa=>K (aq #[ad (some (ag a 0)),D 0])))))) σ):ab P 18 #[.agg aZ] K σ:=ao ⟨[(4,[0,0,0,4,15,31,63,127],(sp [1] (.l 0 (.s 2 (.ay [0]) (.s 3 (.ay [0]) (sp [4] (.s 5 (.ay []) (sp [6,7] (.d)))))))))],[],[],[]⟩ func18 h
def L7(h:(al #[D 0,aG,aG,aG,aG,aG] 36 λa=>aJ 36 #[ad p0] λb=>ae (!b) (aC a #[D 0,aG,aG,aG,aG,aG] 6 (az a 6 λa=>K (.agg a))) (aA p0 λb=>aA p0 λc=>aA p0 λd=>aA p0 λe=>aA p0 λf=>bx (b.add 2) λb=>bx (c.add 1) λg=>bx (d.add 2) λh=>bx (e.add 0) λi=>bx (f.add 3) λj=>aU 37 #[ad b] λb=>bf (f.add 3) (ad j) (bf (e.add 0) (ad i) (bf (d.add 2) (ad h) (bf (c.add 1) (ad g) (bX 38 #[ad g] λc g k=>bf (f.add 3) (ad j) (bf (e.add 0) (ad i) (bf (d.add 2) (ad h) (bX 39 #[ad h] λd h l=>bf (f.add 3) (ad j) (bf (e.add 0) (ad i) (bX 40 #[ad i] λe i m=>bf (f.add 3) (ad j) (bX 41 #[ad j] λf j n=>aC a #[D b,.slice c g k,.slice d h l,.slice e i m,.slice f j n,aG] 6 (az a 6 λa=>K (.agg a)))))))))))))) σ):ab P 19 #[ad p0] K σ:=ao ⟨[(3,[0,1,3,7,15,0,32,96,224,511,0,1024,3072,7168,16383,0,32768,98304,229376,524287,0,1048576,3145728,7340032,16777215,33554431,67108863],(sp [0,1,2,5,6,7,10,11,12,15,16,17,20,21,22] (.l 3 (.l 8 (.l 13 (.l 18 (.l 23 (.s 4 (.ay [23,18,13,8]) (.s 9 (.ay [23,18,13]) (.s 14 (.ay [23,18]) (.s 19 (.ay [23]) (.s 24 (.ay []) (sp [25] (.s 26 (.ay []) .d))))))))))))))],[],[],[]⟩ func19 h
def NF(h:(aJ 42 #[ad p0] λa=>ae (!a) (K aG) (cW p0 0 λa=>ab P 44 #[.map a] λa=>bX 43 #[a] λa b _=>bm (j0 λc d e f g=>ae (decide (f<b)) (eX a b f λa=>bX 45 #[ad p0,D a] λa b h=>cI P #[34,34] c d e a b h λa b c=>g [.slice a b c,D (wrap .i64 (f+1))]) (K (.slice c d e))) [aG,D 0])) σ):ab P 20 #[ad p0] K σ:=ao ⟨[],[(1,[(3,.slice),(16,.int .i64)])],[],[]⟩ func20 h
def Nk(h:(al aZ 49 λa=>al #[D 0,D 0,D 0,D 0,b3] 47 λb=>az a 5 λc=>al #[D 0,D 0,D 0,D 0,b3] 47 λd=>aC d c 5 (bq (hN λc=>ae c (ar a 5 λa=>eX p1 l1 (wrap .i64 (a-(1:Int))) λa=>st (ag d 1) (D a) (az d 5 λa=>aC b a 5 (az b 5 λa=>K (.agg a)))) (az d 5 λa=>aC b a 5 (az b 5 λa=>K (.agg a)))) λb=>ar a 5 λc=>ae (decide (c>0)) (ar a 5 λa=>b [.bool (decide (a<=l1))]) (b [.bool false]))) σ):ab P 21 #[.agg aZ,.slice p1 l1 c1] K σ:=ao ⟨[],[],[(100002,[(17,.bool)])],[]⟩ func21 h
def PM(h:(bm (cG λa b=>ae (decide (a<l0)) (aU 46 #[.slice p1 l1 c1,D a] λc=>de p0 l0 a 3 3 λd=>aJ 47 #[.agg d] λd=>ae (!d) (K (.bool false)) (db p0 l0 a 3 0 λd=>ae (d==2) (ae (c !=1) (K (.bool false)) (db p0 l0 a 3 0 λd=>ae (d !=2) (ae (c !=0) (K (.bool false)) (b [D (wrap .i64 (a+1))])) (b [D (wrap .i64 (a+1))]))) (db p0 l0 a 3 0 λd=>ae (d !=2) (ae (c !=0) (K (.bool false)) (b [D (wrap .i64 (a+1))])) (b [D (wrap .i64 (a+1))])))) (bm (cG λa b=>ae (decide (a<l1)) (eX p1 l1 a λc=>ae (decide (c<0)) (K (.bool false)) (eX p1 l1 a λc=>ae (decide (c>=l0)) (K (.bool false)) (b [D (wrap .i64 (a+1))]))) (K (.bool true))) [D 0])) [D 0]) σ):ab P 22 #[.slice p0 l0 c0,.slice p1 l1 c1] K σ:=ao ⟨[],[(1,[(5,.int .i64)]),(3,[(7,.int .i64)])],[],[]⟩ func22 h
def P1(h:(al aZ 36 λa=>bm (cG λb c=>aT (ag a 3) λ_ d _=>ae (decide (b<d)) (aT (ag a 3) λd e _=>de d e b 4 4 λd=>al #[D 0,D 0,D 0,D 0] 57 λe=>aC e d 4 (ar e 0 λd=>ae (decide (d<0)) (dA (λ_=>True) (K (.bool true))) (ar e 0 λd=>ae (decide (d>63)) (dA (λ_=>True) (K (.bool true))) (ae (decide (b>0)) (ar e 0 λd=>aT (ag a 3) λf g _=>db f g (wrap .i64 (b-(1:Int))) 4 0 λf=>ae (decide (d<=f)) (dA (λ_=>True) (K (.bool true))) (eY (ag e 1) 3 λd=>aJ 13 #[.agg d] λd=>ae (!d) (dA (λ_=>True) (K (.bool true))) (aT (ag a 1) λa d f=>ar e 0 λg=>ar e 2 λh=>aU 48 #[.slice a d f,D (wrap .i64 (g+1))] λa=>bf (ag e 2) (D h) (ae (a !=h) (K (.bool true)) (c [D (wrap .i64 (b+1))]))))) (eY (ag e 1) 3 λd=>aJ 13 #[.agg d] λd=>ae (!d) (dA (λ_=>True) (K (.bool true))) (aT (ag a 1) λa d f=>ar e 0 λg=>ar e 2 λh=>aU 48 #[.slice a d f,D (wrap .i64 (g+1))] λa=>bf (ag e 2) (D h) (ae (a !=h) (K (.bool true)) (c [D (wrap .i64 (b+1))])))))))) (aT (ag a 1) λb c d=>bX 49 #[.slice b c d] λb c _=>bm (cG λd e=>ae (decide (d<c)) (aA b λb=>cV d c (aT (ag a 3) λa c f=>bs .i64 (Addr.add b d.toNat) λb=>aU 50 #[.slice a c f,D (wrap .i64 (b-1))] λa=>ae (decide (a<0)) (K (.bool true)) (e [D (wrap .i64 (d+1))]))) (K (.bool false))) [D 0])) [D 0]) σ):ab P 23 #[.agg aZ] K σ:=ao ⟨[(5,[0,1,3,7,15,31,63,127,255,511,1023,2047,4095,8191,4095,20479,4095,69631,249855,511999,1036287,2097151,4194303,8388607,16777215,33554431,67108863,134217727,268435455,536870911,1073741823,2147483647,4294967295,2147483647,10737418239,27917287423,68719476735,2147483647,139586437119,414464344063,1099511627775,2199023255551],(sp [0] (.l 1 (sp [2,3,4] (.l 5 (sp [6,7,8,9,10,11,12,14,16,17] (.l 13 (.l 15 (sp [18,19] (.l 20 (sp [21,22,23,24,25] (.l 26 (.s 27 (.ay []) (sp [28,29,30,31,33,37,38] (.l 32 (.l 34 (sp [35] (.l 39 (.s 36 (.ay [39]) (sp [40,41] (.d))))))))))))))))))))),(11,[0,1,0,0,12,28,60,127,255],(sp [0,2,3,4] (.l 1 (.l 5 (sp [6] (.s 7 (.ay []) (sp [8] .d)))))))],[(1,[(3,.int .i64)]),(3,[(6,.int .i64)])],[],[]⟩ func23 h
def P2(h:(al aZ 36 λa=>bm (cG λb c=>aT (ag a 4) λ_ d _=>ae (decide (b<d)) (aT (ag a 4) λd e _=>de d e b 5 5 λd=>al #[D 0,D 0,D 0,D 0,D 0] 160 λe=>aC e d 5 (az e 5 λd=>aJ 51 #[.agg d] λd=>ae (!d) (K (.bool true)) (ar e 3 λd=>ae (d !=1) (K (.bool true)) (ae (decide (b>0)) (ar e 0 λd=>aT (ag a 4) λf g _=>db f g (wrap .i64 (b-(1:Int))) 5 0 λf=>ae (decide (d<=f)) (K (.bool true)) (aT (ag a 3) λa d f=>ar e 1 λe=>aU 50 #[.slice a d f,D e] λa=>ae (decide (a<0)) (K (.bool true)) (c [D (wrap .i64 (b+1))]))) (aT (ag a 3) λa d f=>ar e 1 λe=>aU 50 #[.slice a d f,D e] λa=>ae (decide (a<0)) (K (.bool true)) (c [D (wrap .i64 (b+1))])))))) (bm (cG λb c=>aT (ag a 3) λ_ d _=>ae (decide (b<d)) (bm (kZ λd e f=>aT (ag a 4) λ_ g _=>ae (decide (e<g)) (aT (ag a 4) λc g _=>db c g e 5 1 λc=>aT (ag a 3) λg h _=>db g h b 4 0 λb=>ae (c==b) (aT (ag a 4) λa b _=>db a b e 5 2 λa=>f [D (wrap .i64 (d+a)),D (wrap .i64 (e+1))]) (f [D d,D (wrap .i64 (e+1))])) (aT (ag a 3) λa e _=>db a e b 4 3 λa=>ae (d !=a) (K (.bool true)) (c [D (wrap .i64 (b+1))]))) [D 0,D 0]) (K (.bool false))) [D 0])) [D 0]) σ):ab P 24 #[.agg aZ] K σ:=ao ⟨[(5,[0,1,3,7,15,31,63,127,255,511,1023,2047,4095,8191,4095,20479,4095,69631,249855,511999,1036287,2097151,4194303,8388607,16777215,33554431,67108863,33554431,167772159,536870911,1073741823,2147483647],(.l 0 (.s 1 (.ay []) (sp [2,3,4] (.l 5 (sp [6,7,8,9,10,11,12,14,16,17] (.l 13 (.l 15 (sp [18,19] (.l 20 (sp [21,22,23,24,25,27] (.l 26 (.l 28 (.s 29 (.ay []) (sp [30,31] (.d)))))))))))))))),(14,[0,1,0,7,15,31,0,64,0,448,960,1984,4095],(sp [0,2,6,8] (.l 1 (sp [3,4] (.l 5 (.l 7 (sp [9,10] (.l 11 (sp [12] .d)))))))))],[(1,[(3,.int .i64)]),(3,[(5,.int .i64)]),(5,[(6,.int .i64),(7,.int .i64)])],[],[]⟩ func24 h
def PU(h:(aJ 52 #[D n0,.slice p1 l1 c1] λa=>ae (!a) (K (aq #[aG,.bool false])) (bX 53 #[D n0,.slice p1 l1 c1] λa b c=>ae (decide ((↑b:Int)<(↑l1:Int))) (K (aq #[aG,.bool false])) (K (aq #[.slice a b c,.bool true])))) σ):ab P 25 #[D n0,.slice p1 l1 c1] K σ:=ao h0 func25 h
def P4(h:(al aZ 23 λa=>al cg 36 λb=>bm (cG λc d=>aT (ag b 5) λ_ e _=>ae (decide (c<e)) (aT (ag b 5) λe f _=>de e f c 5 5 λe=>al #[D 0,D 0,D 0,D 0,D 0] 62 λf=>aC f e 5 (az a 4 λa=>az b 6 λe=>az f 5 λg=>aJ 54 #[.agg a,.agg e,.agg g] λa=>ae a (K (.bool true)) (bm (cG λa e=>ae (decide (a<c)) (aT (ag b 5) λc d _=>de c d a 5 5 λc=>al #[D 0,D 0,D 0,D 0,D 0] 62 λd=>aC d c 5 (ar d 0 λc=>ar f 0 λg=>ae (c==g) (ar d 3 λc=>ar d 4 λg=>ar f 3 λh=>ar f 4 λi=>aJ 55 #[.agg #[D c,D g],.agg #[D h,D i]] λc=>ae c (K (.bool true)) (ar d 2 λc=>ar f 2 λg=>ae (c==g) (aT (ag b 1) λc g _=>ar d 0 λd=>db c g d 3 1 λc=>aT (ag b 1) λb d _=>ar f 0 λf=>db b d f 3 1 λb=>ae (c !=b) (K (.bool true)) (e [D (wrap .i64 (a+1))])) (e [D (wrap .i64 (a+1))]))) (ar d 2 λc=>ar f 2 λg=>ae (c==g) (aT (ag b 1) λc g _=>ar d 0 λd=>db c g d 3 1 λc=>aT (ag b 1) λb d _=>ar f 0 λf=>db b d f 3 1 λb=>ae (c !=b) (K (.bool true)) (e [D (wrap .i64 (a+1))])) (e [D (wrap .i64 (a+1))])))) (d [D (wrap .i64 (c+1))])) [D 0]))) (K (.bool false))) [D 0]) σ):ab P 26 #[.agg aZ,.agg cg] K σ:=ao ⟨[(11,[0,1,0,4,15,31,63,127,63,319,1023,63,2111,63,8255,30783,65535,131071,262143,524287,1048575,524287,2621439,8388607,16777215,33554431,67108863,33554431,167772159,536870911,1073741823,2147483647,33554431,4328521727,33554431,17213423615,64458063871,133177540607,270616494079,549755813887,1099511627775,2199023255551],(sp [0,2] (.l 1 (.l 3 (sp [4,5,6,8,11,13] (.l 7 (.l 9 (sp [10] (.l 12 (.l 14 (sp [15] (.s 16 (.ay []) (sp [17,18,19,21] (.l 20 (.l 22 (sp [23,24,25,27,32,34] (.l 26 (.l 28 (sp [29,30] (.l 31 (.l 33 (.l 35 (sp [36,37] (.l 38 (sp [39,40,41] (.d))))))))))))))))))))))))))],[(1,[(5,.int .i64)]),(3,[(7,.int .i64)])],[],[]⟩ func26 h
def PG(h:(al aZ 83 λa=>al cg 83 λb=>bq (jn (bq (jn (ar b 2 λc=>ar a 2 λd=>ae (decide (c>d)) (K (.bool true)) (ar a 0 λc=>ae (c !=1) (K (.bool true)) (ar b 0 λc=>ae (c !=1) (K (.bool true)) (ar a 1 λa=>ar b 1 λb=>K (.bool (a==b))))))) λc=>ar b 2 λd=>ar a 2 λe=>ae (d==e) (ar b 0 λb=>ar a 0 λa=>ae (decide (b<a)) (K (.bool false)) (c [])) (c []))) λc=>ar a 0 λd=>ae (decide (d<0)) (K (.bool false)) (ar a 0 λd=>ae (decide (d>3)) (K (.bool false)) (ar b 0 λd=>ae (decide (d<0)) (K (.bool false)) (ar b 0 λd=>ae (decide (d>3)) (K (.bool false)) (ar a 2 λd=>ae (decide (d<0)) (K (.bool false)) (ar b 2 λb=>ar a 2 λa=>ae (decide (b<a)) (K (.bool false)) (c []))))))) σ):ab P 27 #[.agg aZ,.agg cg] K σ:=ao ⟨[],[],[(1,[]),(3,[])],[]⟩ func27 h
def N8(h:(al #[D 0,D 0,aG,b3] 44 λa=>aC a #[D n0,D 0,aG,b3] 4 (az a 4 λa=>K (.agg a))) σ):ab P 28 #[D n0] K σ:=ao h0 func28 h
def N'(h:(hD λa=>aI P (Instr.mapUpdate 95 (.map (some a)) (D 1) (.agg #[.func (Fn.func 56) #[] #[]])) λ_=>aI P (Instr.mapUpdate 95 (.map (some a)) (D 2) (.agg #[.func (Fn.func 57) #[] #[]])) λ_=>aI P (Instr.mapUpdate 95 (.map (some a)) (D 3) (.agg #[.func (Fn.func 58) #[] #[]])) λ_=>aI P (Instr.mapUpdate 95 (.map (some a)) (D 4) (.agg #[.func (Fn.func 59) #[] #[]])) λ_=>aI P (Instr.mapUpdate 95 (.map (some a)) (D 5) (.agg #[.func (Fn.func 60) #[] #[]])) λ_=>aI P (Instr.mapUpdate 95 (.map (some a)) (D 6) (.agg #[.func (Fn.func 61) #[] #[]])) λ_=>aI P (Instr.mapUpdate 95 (.map (some a)) (D 7) (.agg #[.func (Fn.func 62) #[] #[]])) λ_=>aI P (Instr.mapUpdate 95 (.map (some a)) (D 8) (.agg #[.func (Fn.func 63) #[] #[]])) λ_=>aI P (Instr.mapUpdate 95 (.map (some a)) (D 9) (.agg #[.func (Fn.func 64) #[] #[]])) λ_=>aI P (Instr.mapUpdate 95 (.map (some a)) (D 10) (.agg #[.func (Fn.func 65) #[] #[]])) λ_=>aI P (Instr.mapUpdate 95 (.map (some a)) (D 11) (.agg #[.func (Fn.func 66) #[] #[]])) λ_=>aI P (Instr.mapUpdate 95 (.map (some a)) (D 12) (.agg #[.func (Fn.func 67) #[] #[]])) λ_=>aI P (Instr.mapUpdate 95 (.map (some a)) (D 13) (.agg #[.func (Fn.func 68) #[] #[]])) λ_=>aI P (Instr.mapUpdate 95 (.map (some a)) (D 14) (.agg #[.func (Fn.func 69) #[] #[]])) λ_=>K (.map (some a))) σ):ab P 29 #[] K σ:=ao h0 func29 h
def Qw(h:(al #[D 0,D 0,D 0,D 0,aG] 100 λa=>al #[D 0,D 0] 69 λb=>Ee 70 #[.string s0] λc d=>al #[D 0,D 0,D 0,D 0,aG] 100 λe=>aC e c 5 (al #[ad none] 172 λc=>aJ 71 #[d,.iface 174 (ad (some (ag c 0)))] λd=>ae d (bx (ag c 0) λd=>aA d λe=>eY e 2 λf=>aC a #[D 0,D 0,D 0,D 0,aG] 5 (dA (λa=>∃b,(Value.agg f=Value.agg b)/\((Array.size b=2)/\(∀c,(c<(2:Nat))->(cA a (Addr.add e c)=b[c]?)))) (bf (ag c 0) (ad d) (aC b f 2 (az a 5 λa=>az b 2 λb=>K (aq #[.agg a,.agg b])))))) (az e 5 λc=>aC a c 5 (aC b #[D 0,D 0] 2 (az a 5 λa=>az b 2 λb=>K (aq #[.agg a,.agg b])))))) σ):ab P 30 #[.string s0] K σ:=ao ⟨[(4,[0,0,2,6,1,31],(sp [0] (.l 1 (sp [2] (.l 3 (.s 4 (.ay [3,1]) (.s 5 (.ay []) .d)))))))],[],[],[]⟩ func30 h
def Qy(h:(al aZ 122 λa=>al #[D 0,D 0,D 0,D 0,b3] 47 λb=>az a 5 λc=>al #[D 0,D 0,D 0,D 0,b3] 47 λd=>aC d c 5 (bm (cG λc e=>ae (decide (c<3)) (cV c 3 (Bk #[ad (some (ag d 1)),ad (some (ag d 2)),ad (some (ag d 3))] c.toNat λb=>cV c 3 (bs .i64 (Addr.add (ag a 5) c.toNat) λa=>bq (hN λd=>ae d (eX p1 l1 (wrap .i64 (a-(1:Int))) λa=>cO b 0 (D a) (e [D (wrap .i64 (c+1))])) (ae (a !=0) (cO b 0 (D 0) (e [D (wrap .i64 (c+1))])) (e [D (wrap .i64 (c+1))]))) λb=>ae (decide (a>=1)) (b [.bool (decide (a<=l1))]) (b [.bool false])))) (az d 5 λa=>aC b a 5 (az b 5 λa=>K (.agg a)))) [D 0])) σ):ab P 31 #[.agg aZ,.slice p1 l1 c1] K σ:=ao ⟨[],[(1,[(15,.int .i64)])],[(100006,[(23,.bool)])],[]⟩ func31 h
def Qx(h:(al (#[ad none,aG]) 180 λa=>bm (λb c d=>∀e,(b=[D e])->((ae (decide (e<l0)) (aA p0 λb=>cV e l0 (eY (Addr.add b (Int.toNat e*4)) 4 λb=>al (#[D 0,D 0,aG,b3]) 44 λd=>aC d b 4 (az d 4 λb=>ab P 72 #[.agg b] λb d=>∃f g,(b=Value.tuple #[.string f,.bool g])/\((aI P (do eqGuard .add 9 (Operand.tmp 19) (Operand.const (.string ⟨#[10]⟩)) (.string f) (.string ⟨#[10]⟩);binOp .add 9 (.string f) (.string ⟨#[10]⟩)) λb=>nC b λb=>ab P 73 #[ad (some (ag a 0)),.string b] λa b=>∃d f,(a=Value.tuple #[D d,f])/\((c [D (wrap .i64 (e+1))]) b)) d)))) (ir 74 #[ad (some (ag a 0))] (λa=>K (.string a)))) d)) [D 0]) σ):ab P 32 #[.slice p0 l0 c0] K σ:=ao ⟨[],[(1,[(10,.int .i64)])],[],[]⟩ func32 h
def Ml(h:(al aZ 23 λa=>ar a 0 λb=>ar a 1 λc=>iZ 75 #[D b,D c] λb c=>ae (c !=0) (K (aq #[ad none,D c])) (ar a 2 λc=>ar a 3 λd=>iZ 76 #[ad b,D c,D d] λc d=>ae (d !=0) (K (aq #[ad none,D d])) (ar a 0 λa=>dq 77 #[D a] λa=>dq 78 #[] λd=>dq 79 #[] λe=>hD λf=>al #[ad a,ad b,ad c,ad d,ad e,.map (some f)] 139 λa=>K (aq #[ad (some (ag a 0)),D 0])))) σ):ab P 33 #[.agg aZ] K σ:=ao h0 func33 h
def P5(h:(dq 80 #[D 4096] λa=>hD λb=>al #[ad a,.map (some b)] 197 λa=>K (ad (some (ag a 0)))) σ):ab P 34 #[] K σ:=ao h0 func34 h
def NC(h:(hD λa=>al #[.map (some a)] 152 λa=>K (ad (some (ag a 0)))) σ):ab P 35 #[] K σ:=ao h0 func35 h
def Mi(h:(ae (!Option.isNone p0) (bc p0 0 λa=>K (.bool !Option.isNone a)) (K (.bool false))) σ):ab P 36 #[ad p0] K σ:=ao h0 func36 h
def Pt(h:(aJ 81 #[ad p0] λa=>ae (!a) (K (D 0)) (bc p0 4 λa=>aU 82 #[ad a,D 0] λa=>K (D a))) σ):ab P 37 #[ad p0] K σ:=ao h0 func37 h
def RP(h:(aJ 83 #[ad p0] λa=>ae (!a) (K aG) (b5 p0 2 λ_ a _=>c7 P 83 (↑a:Int) (↑a:Int) λb=>bm (cG λc d=>ae (decide (c<(↑(Int.toNat (↑a:Int)):Int))) (mF 84 #[ad p0,D c] λe _=>aR ((0<=c)/\(c<(↑(Int.toNat (↑a:Int)):Int))) (gW (Addr.add (ag b 0) (Int.toNat c*3)) e 3 (d [D (wrap .i64 (c+1))]))) (K (.slice (some (ag b 0)) (Int.toNat (↑a:Int)) (Int.toNat (↑a:Int))))) [D 0])) σ):ab P 38 #[ad p0] K σ:=ao ⟨[],[(1,[(16,.int .i64)])],[],[]⟩ func38 h
def Pu(h:(aJ 81 #[ad p0] λa=>ae (!a) (K aG) (bc p0 2 λa=>bX 85 #[ad a] λa b c=>K (.slice a b c))) σ):ab P 39 #[ad p0] K σ:=ao h0 func39 h
def Nt(h:(aJ 86 #[ad p0] λa=>ae (!a) (K aG) (bc p0 1 λa=>bX 87 #[ad a] λa b c=>K (.slice a b c))) σ):ab P 40 #[ad p0] K σ:=ao h0 func40 h
def Sz(h:(aJ 88 #[ad p0] λa=>ae (!a) (K aG) (cW p0 1 λa=>aI P (Builtin.len_ #[215] 3 #[.map a]) λa=>di .i64 a λa=>c7 P 160 0 a λb=>cW p0 1 λc=>ab P 89 #[.map c] λc=>bX 43 #[c] λc d _=>bm (j0 λa b e f g=>ae (decide (f<d)) (eX c d f λc=>b5 p0 0 λd h _=>de d h (wrap .i64 (c-(1:Int))) 5 5 λc=>aR (Array.size c=5) (al (Array.mk (cX [D 0,D 0,D 0,D 0,D 0] (0*5) (Array.toList c))) 160 λc=>cI P #[33,33] a b e (some (ag c 0)) 1 1 λa b c=>g [.slice a b c,D (wrap .i64 (f+1))])) (K (.slice a b e))) [.slice (some (ag b 0)) 0 a.toNat,D 0])) σ):ab P 41 #[ad p0] K σ:=ao ⟨[],[(1,[(3,.slice),(22,.int .i64)])],[],[]⟩ func41 h
def NK(h:(ae (!Option.isNone p0) (cW p0 0 λa=>K (.bool !Option.isNone a)) (K (.bool false))) σ):ab P 42 #[ad p0] K σ:=ao h0 func42 h
def Rf(h:(bX 90 #[.func (Fn.func g0) #[] uq] λa b c=>ce 91 #[.slice a b c] (K (.slice a b c))) σ):ab P 43 #[.func (.func g0) #[] uq] K σ:=ao h0 func43 h
def Oe(h:(al #[.map m0] 149 λa=>K (.func (Fn.func 92) #[] #[ad (some (ag a 0))])) σ):ab P 44 #[.map m0] K σ:=ao h0 func44 h
