/- Lemmas that lead to TopApart (their names made short by a program); no condition. -/
import Derived.Test.YtlmgompopkamfaaGreatDoorLC
import Derived.Test.YtlmgompopkamfaaGreatDoorProg
set_option linter.all false
set_option maxRecDepth 100000
namespace Go.XS
section
abbrev J(n:Int):Value:= .int .i64 n
abbrev ai(b o:Nat):Addr:=⟨b,o,none⟩
abbrev pz(b:Nat):Value:= .pointer (some ⟨b,0,none⟩)
def ex(v:Value)(f:HP):HP:=λσ=>(v=Value.tuple #[])/\f σ
def Fb(v:Value)(f:aw->aw->HP):HP:=λσ=>∃a b,(v=Value.tuple #[.agg a,.agg b])/\f a b σ
def uL(v:Value)(f:aw->Bool->HP):HP:=λσ=>∃a b,(v=Value.tuple #[.agg a,.bool b])/\f a b σ
def xa(v:Value)(f:aw->Int->HP):HP:=λσ=>∃a b,(v=Value.tuple #[.agg a,J b])/\f a b σ
def Fc(v:Value)(f:aw->Int->Int->Int->HP):HP:=λσ=>∃a b c d,(v=Value.tuple #[.agg a,J b,J c,J d])/\f a b c d σ
def Fe(v:Value)(f:aw->aK):HP:=λσ=>∃a b,(v=Value.tuple #[.agg a,b])/\f a b σ
def Ff(v:Value)(f:Bool->Int->HP):HP:=λσ=>∃a b,(v=Value.tuple #[.bool a,J b])/\f a b σ
def sN(v:Value)(f:Int->Bool->HP):HP:=λσ=>∃a b,(v=Value.tuple #[J a,.bool b])/\f a b σ
def Fg(v:Value)(f:Int->Int->HP):HP:=λσ=>∃a b,(v=Value.tuple #[J a,J b])/\f a b σ
def Fh(v:Value)(f:Int->Int->Bool->HP):HP:=λσ=>∃a b c,(v=Value.tuple #[J a,J b,.bool c])/\f a b c σ
def Fi(v:Value)(f:Int->Int->Int->HP):HP:=λσ=>∃a b c,(v=Value.tuple #[J a,J b,J c])/\f a b c σ
def Fj(v:Value)(f:Int->Int->Int->Int->Bool->HP):HP:=λσ=>∃a b c d e,(v=Value.tuple #[J a,J b,J c,J d,.bool e])/\f a b c d e σ
def Fk(v:Value)(f:av->Int->HP):HP:=λσ=>∃a b,(v=Value.tuple #[.pointer a,J b])/\f a b σ
def Fl(v:Value)(f:av->Nat->Nat->Bool->HP):HP:=λσ=>∃a b c d,(v=Value.tuple #[.slice a b c,.bool d])/\f a b c d σ
def Fm(v:Value)(f:av->Nat->Nat->Int->HP):HP:=λσ=>∃a b c d,(v=Value.tuple #[.slice a b c,J d])/\f a b c d σ
def Fp(v:Value)(f:av->Nat->Nat->Int->Int->HP):HP:=λσ=>∃a b c d e,(v=Value.tuple #[.slice a b c,J d,J e])/\f a b c d e σ
def xb(v:Value)(f:Value->Int->HP):HP:=λσ=>∃a b,(v=Value.tuple #[a,J b])/\f a b σ
def Ua(v:Value)(f:ByteArray->Bool->HP):HP:=λσ=>∃a b,(v=Value.tuple #[.string a,.bool b])/\f a b σ
def Fq(v:Value)(f:ByteArray->Int->HP):HP:=λσ=>∃a b,(v=Value.tuple #[.string a,J b])/\f a b σ
def Fs(v:Value)(f:ByteArray->ByteArray->Bool->HP):HP:=λσ=>∃a b c,(v=Value.tuple #[.string a,.string b,.bool c])/\f a b c σ
def lp(f:(az->HP)->HP):az->(az->HP)->HP:=λvs R σ=>(vs=[])->f R σ
def xF(f:Bool->Int->(az->HP)->HP):az->(az->HP)->HP:=λvs R σ=>∀a b,(vs=[.bool a,J b])->f a b R σ
def dr(f:Int->(az->HP)->HP):az->(az->HP)->HP:=λvs R σ=>∀a,(vs=[J a])->f a R σ
def o0(f:Int->Int->(az->HP)->HP):az->(az->HP)->HP:=λvs R σ=>∀a b,(vs=[J a,J b])->f a b R σ
def jZ(f:av->Nat->Nat->Int->(az->HP)->HP):az->(az->HP)->HP:=λvs R σ=>∀a b c d,(vs=[.slice a b c,J d])->f a b c d R σ
def A7(f:av->Nat->Nat->Int->av->Nat->Nat->Int->(az->HP)->HP):az->(az->HP)->HP:=λvs R σ=>∀a b c d e g h i,(vs=[.slice a b c,J d,.slice e g h,J i])->f a b c d e g h i R σ
def Gp(f:av->Nat->Nat->av->Nat->Nat->Int->(az->HP)->HP):az->(az->HP)->HP:=λvs R σ=>∀a b c d e g h,(vs=[.slice a b c,.slice d e g,J h])->f a b c d e g h R σ
def Gq(f:ByteArray->Int->(az->HP)->HP):az->(az->HP)->HP:=λvs R σ=>∀a b,(vs=[.string a,J b])->f a b R σ
def jn(f:HP):az->HP:=λvs σ=>(vs=[])->f σ
def iH(f:Bool->HP):az->HP:=λvs σ=>∀a,(vs=[.bool a])->f a σ
def F3(f:Int->HP):az->HP:=λvs σ=>∀a,(vs=[J a])->f a σ
def F4(f:Int->Int->HP):az->HP:=λvs σ=>∀a b,(vs=[J a,J b])->f a b σ
def F5(f:Int->Int->Int->HP):az->HP:=λvs σ=>∀a b c,(vs=[J a,J b,J c])->f a b c σ
def nP(f:av->HP):az->HP:=λvs σ=>∀a,(vs=[.pointer a])->f a σ
def F6(f:av->Bool->HP):az->HP:=λvs σ=>∀a b,(vs=[.pointer a,.bool b])->f a b σ
def AY(f:av->Int->HP):az->HP:=λvs σ=>∀a b,(vs=[.pointer a,J b])->f a b σ
def yh(f:Nat->aw->aK->HP):Nat->az->aK->HP:=λl vs R σ=>∃a,(vs=[.agg a])/\f l a R σ
def Ht(f:Nat->Int->aK->HP):Nat->az->aK->HP:=λl vs R σ=>∃a,(vs=[J a])/\f l a R σ
def BI(f:Nat->Int->Bool->aK->HP):Nat->az->aK->HP:=λl vs R σ=>∃a b,(vs=[J a,.bool b])/\f l a b R σ
def tq(f:Nat->Int->Int->aK->HP):Nat->az->aK->HP:=λl vs R σ=>∃a b,(vs=[J a,J b])/\f l a b R σ
def BJ(f:Nat->Int->ByteArray->aK->HP):Nat->az->aK->HP:=λl vs R σ=>∃a b,(vs=[J a,.string b])/\f l a b R σ
def cx(p:av)(o:Nat)(f:Int->HP):HP:=ay p λa=>bA .i64 (a.add o) f
def fs(p:av)(l:Nat)(i:Int)(f:Int->HP):HP:=ay p λa=>aP ((0:Int)<=i/\i<(l:Int)) (bA .i64 (a.add i.toNat) f)
def gA(p:av)(l:Nat)(i:Int)(s o:Nat)(f:Int->HP):HP:=ay p λa=>aP ((0:Int)<=i/\i<(l:Int)) (bA .i64 ((a.add (i.toNat*s)).add o) f)
def Fv(p:av)(o:Nat)(f:Bool->HP):HP:=ay p λa=>gB (a.add o) f
def AW(p:av)(l:Nat)(i:Int)(f:Bool->HP):HP:=ay p λa=>aP ((0:Int)<=i/\i<(l:Int)) (gB (a.add i.toNat) f)
def bb(p:av)(o:Nat)(f:av->HP):HP:=ay p λa=>bq (a.add o) f
def b6(p:av)(o:Nat)(f:av->Nat->Nat->HP):HP:=ay p λa=>a8 (a.add o) f
def sX(p:av)(l:Nat)(i:Int)(f:av->Nat->Nat->HP):HP:=ay p λa=>aP ((0:Int)<=i/\i<(l:Int)) (a8 (a.add i.toNat) f)
def sO(p:av)(o:Nat)(f:ByteArray->HP):HP:=ay p λa=>hB (a.add o) f
def xv(p:av)(l:Nat)(i:Int)(f:ByteArray->HP):HP:=ay p λa=>aP ((0:Int)<=i/\i<(l:Int)) (hB (a.add i.toNat) f)
def F2(p:av)(l:Nat)(i:Int)(s o:Nat)(f:ByteArray->HP):HP:=ay p λa=>aP ((0:Int)<=i/\i<(l:Int)) (hB ((a.add (i.toNat*s)).add o) f)
def cU(p:av)(o:Nat)(f:Option Nat->HP):HP:=ay p λa=>gm (a.add o) f
def Aw(p:av)(o:Nat)(f:aK):HP:=ay p λa=>gN (a.add o) f
def jW(p:av)(o:Nat)(n:Nat)(f:aw->HP):HP:=ay p λa=>eQ (a.add o) n f
def sW(p:av)(l:Nat)(i:Int)(n:Nat)(f:aw->HP):HP:=ay p λa=>aP ((0:Int)<=i/\i<(l:Int)) (eQ (a.add i.toNat) n f)
def xw(p:av)(l:Nat)(i:Int)(s o n:Nat)(f:aw->HP):HP:=ay p λa=>aP ((0:Int)<=i/\i<(l:Int)) (eQ ((a.add (i.toNat*s)).add o) n f)
def dI(p:av)(l:Nat)(i:Int)(s n:Nat)(f:aw->HP):HP:=ay p λa=>aP ((0:Int)<=i/\i<(l:Int)) (eQ (a.add (i.toNat*s)) n f)
def cJ(p:av)(o:Nat)(v:Value)(k:HP):HP:=ay p λa=>st (a.add o) v k
def Fw(p:av)(o:Nat)(cs:aw)(n:Nat)(k:HP):HP:=ay p λa=>gW (a.add o) cs n k
def oW(p:av)(l:Nat)(i:Int)(v:Value)(k:HP):HP:=ay p λa=>aP ((0:Int)<=i/\i<(l:Int)) (st (a.add i.toNat) v k)
def qi(p:av)(l:Nat)(i:Int)(s o:Nat)(v:Value)(k:HP):HP:=ay p λa=>aP ((0:Int)<=i/\i<(l:Int)) (st ((a.add (i.toNat*s)).add o) v k)
def AX(p:av)(l:Nat)(i:Int)(s o:Nat)(cs:aw)(n:Nat)(k:HP):HP:=ay p λa=>aP ((0:Int)<=i/\i<(l:Int)) (gW ((a.add (i.toNat*s)).add o) cs n k)
def jY(p:av)(l:Nat)(i:Int)(s:Nat)(cs:aw)(n:Nat)(k:HP):HP:=ay p λa=>aP ((0:Int)<=i/\i<(l:Int)) (gW (a.add (i.toNat*s)) cs n k)
class St (B:Heap) (H:au) (p:HP) (Q:outParam Prop):Prop where go:Q->T B H p
class S2 (B:Heap) (H:au) (p:HP) (c d:outParam Prop) (Q R:outParam Prop):Prop where go:(c->Q)->(d->R)->T B H p
class Sc (B:Heap) (H:au) (p:HP) (c Q:outParam Prop):Prop where go:c->Q->T B H p
class Sa {α:outParam Type} (B:Heap) (H:au) (p:HP) (Q:outParam (α->Prop)):Prop where go:(∀x,Q x)->T B H p
section
variable {B:Heap}{H:au}
instance {f:HP}:St B H (ex (.tuple #[]) f) (T B H f):=⟨λt=>dS rfl t⟩
instance {a:aw}{b:aw}{f:aw->aw->HP}:St B H (Fb (.tuple #[.agg a,.agg b]) f) (T B H (f a b)):=⟨λt=>ct _ (ct _ (dS rfl t))⟩
instance {a:aw}{b:Bool}{f:aw->Bool->HP}:St B H (uL (.tuple #[.agg a,.bool b]) f) (T B H (f a b)):=⟨λt=>ct _ (ct _ (dS rfl t))⟩
instance {a:aw}{b:Int}{f:aw->Int->HP}:St B H (xa (.tuple #[.agg a,J b]) f) (T B H (f a b)):=⟨λt=>ct _ (ct _ (dS rfl t))⟩
instance {a:aw}{b:Int}{c:Int}{d:Int}{f:aw->Int->Int->Int->HP}:St B H (Fc (.tuple #[.agg a,J b,J c,J d]) f) (T B H (f a b c d)):=⟨λt=>ct _ (ct _ (ct _ (ct _ (dS rfl t))))⟩
instance {a:Value}{b:Int}{f:Value->Int->HP}:St B H (xb (.tuple #[a,J b]) f) (T B H (f a b)):=⟨λt=>ct _ (ct _ (dS rfl t))⟩
instance {a:aw}{b:Value}{f:aw->aK}:St B H (Fe (.tuple #[.agg a,b]) f) (T B H (f a b)):=⟨λt=>ct _ (ct _ (dS rfl t))⟩
instance {a:Bool}{b:Int}{f:Bool->Int->HP}:St B H (Ff (.tuple #[.bool a,J b]) f) (T B H (f a b)):=⟨λt=>ct _ (ct _ (dS rfl t))⟩
instance {a:Int}{b:Bool}{f:Int->Bool->HP}:St B H (sN (.tuple #[J a,.bool b]) f) (T B H (f a b)):=⟨λt=>ct _ (ct _ (dS rfl t))⟩
instance {a:Int}{b:Int}{f:Int->Int->HP}:St B H (Fg (.tuple #[J a,J b]) f) (T B H (f a b)):=⟨λt=>ct _ (ct _ (dS rfl t))⟩
instance {a:Int}{b:Int}{c:Bool}{f:Int->Int->Bool->HP}:St B H (Fh (.tuple #[J a,J b,.bool c]) f) (T B H (f a b c)):=⟨λt=>ct _ (ct _ (ct _ (dS rfl t)))⟩
instance {a:Int}{b:Int}{c:Int}{f:Int->Int->Int->HP}:St B H (Fi (.tuple #[J a,J b,J c]) f) (T B H (f a b c)):=⟨λt=>ct _ (ct _ (ct _ (dS rfl t)))⟩
instance {a:Int}{b:Int}{c:Int}{d:Int}{e:Bool}{f:Int->Int->Int->Int->Bool->HP}:St B H (Fj (.tuple #[J a,J b,J c,J d,.bool e]) f) (T B H (f a b c d e)):=⟨λt=>ct _ (ct _ (ct _ (ct _ (ct _ (dS rfl t)))))⟩
instance {a:av}{b:Int}{f:av->Int->HP}:St B H (Fk (.tuple #[.pointer a,J b]) f) (T B H (f a b)):=⟨λt=>ct _ (ct _ (dS rfl t))⟩
instance {a:av}{b:Nat}{c:Nat}{d:Bool}{f:av->Nat->Nat->Bool->HP}:St B H (Fl (.tuple #[.slice a b c,.bool d]) f) (T B H (f a b c d)):=⟨λt=>ct _ (ct _ (ct _ (ct _ (dS rfl t))))⟩
instance {a:av}{b:Nat}{c:Nat}{d:Int}{f:av->Nat->Nat->Int->HP}:St B H (Fm (.tuple #[.slice a b c,J d]) f) (T B H (f a b c d)):=⟨λt=>ct _ (ct _ (ct _ (ct _ (dS rfl t))))⟩
instance {a:av}{b:Nat}{c:Nat}{d:Int}{e:Int}{f:av->Nat->Nat->Int->Int->HP}:St B H (Fp (.tuple #[.slice a b c,J d,J e]) f) (T B H (f a b c d e)):=⟨λt=>ct _ (ct _ (ct _ (ct _ (ct _ (dS rfl t)))))⟩
instance {a:ByteArray}{b:Int}{f:ByteArray->Int->HP}:St B H (Fq (.tuple #[.string a,J b]) f) (T B H (f a b)):=⟨λt=>ct _ (ct _ (dS rfl t))⟩
instance {a:ByteArray}{b:ByteArray}{c:Bool}{f:ByteArray->ByteArray->Bool->HP}:St B H (Fs (.tuple #[.string a,.string b,.bool c]) f) (T B H (f a b c)):=⟨λt=>ct _ (ct _ (ct _ (dS rfl t)))⟩
instance {f:HP}:St B H (jn f []) (T B H f):=⟨λt σ o e=>by cases e;exact t σ o⟩
instance {a:Bool}{f:Bool->HP}:St B H (iH f [.bool a]) (T B H (f a)):=⟨λt σ o _ e=>by cases e;exact t σ o⟩
instance {a:Int}{f:Int->HP}:St B H (F3 f [J a]) (T B H (f a)):=⟨λt σ o _ e=>by cases e;exact t σ o⟩
instance {a:Int}{b:Int}{f:Int->Int->HP}:St B H (F4 f [J a,J b]) (T B H (f a b)):=⟨λt σ o _ _ e=>by cases e;exact t σ o⟩
instance {a:Int}{b:Int}{c:Int}{f:Int->Int->Int->HP}:St B H (F5 f [J a,J b,J c]) (T B H (f a b c)):=⟨λt σ o _ _ _ e=>by cases e;exact t σ o⟩
instance {a:av}{f:av->HP}:St B H (nP f [.pointer a]) (T B H (f a)):=⟨λt σ o _ e=>by cases e;exact t σ o⟩
instance {a:av}{b:Bool}{f:av->Bool->HP}:St B H (F6 f [.pointer a,.bool b]) (T B H (f a b)):=⟨λt σ o _ _ e=>by cases e;exact t σ o⟩
instance {a:av}{b:Int}{f:av->Int->HP}:St B H (AY f [.pointer a,J b]) (T B H (f a b)):=⟨λt σ o _ _ e=>by cases e;exact t σ o⟩
instance {l:Nat}{a:aw}{K:aK}{f:Nat->aw->aK->HP}:St B H (yh f l [.agg a] K) (T B H (f l a K)):=⟨λt=>ct _ (dS rfl t)⟩
instance {l:Nat}{a:Int}{K:aK}{f:Nat->Int->aK->HP}:St B H (Ht f l [J a] K) (T B H (f l a K)):=⟨λt=>ct _ (dS rfl t)⟩
instance {l:Nat}{a:Int}{b:Bool}{K:aK}{f:Nat->Int->Bool->aK->HP}:St B H (BI f l [J a,.bool b] K) (T B H (f l a b K)):=⟨λt=>ct _ (ct _ (dS rfl t))⟩
instance {l:Nat}{a:Int}{b:Int}{K:aK}{f:Nat->Int->Int->aK->HP}:St B H (tq f l [J a,J b] K) (T B H (f l a b K)):=⟨λt=>ct _ (ct _ (dS rfl t))⟩
instance {l:Nat}{a:Int}{b:ByteArray}{K:aK}{f:Nat->Int->ByteArray->aK->HP}:St B H (BJ f l [J a,.string b] K) (T B H (f l a b K)):=⟨λt=>ct _ (ct _ (dS rfl t))⟩
def pQ{body:az->(az->HP)->HP}{init:az}(a:Nat->az->au->Prop)(m:Nat)(h0:a m init H)(st:∀m s H R,a m s H->(∀b c H',b<m->a b c H'->T B H' (R c))->T B H (body s R)):T B H (bz body init):=by
 intro σ o R d
 have key:∀n m s H,m<n->a m s H->T B H (R s):=by
  intro n
  induction n with
  |zero=>intro m s H h;omega
  |succ n e=>intro m s H i f σ o;exact d s σ (st m s H R f (λb c H' j g=>e b c H' (by omega) g) σ o)
 exact key (m+1) m init H (by omega) h0 σ o
def uq{f:(az->HP)->HP}(a:Nat->au->Prop)(m:Nat)(h0:a m H)(st:∀m H R,a m H->(∀b H',b<m->a b H'->T B H' (R []))->T B H (f R)):T B H (bz (lp f) []):=by refine pQ (λm s H=>s=[]/\a m H) m ⟨rfl,h0⟩ ?_;rintro m _ H R ⟨rfl,c⟩ d σ o e;cases e;exact st m H R c (λb H' h1 g=>d b _ H' h1 ⟨rfl,g⟩) σ o
def J6{f:Bool->Int->(az->HP)->HP}{a:Bool}{b:Int}(c:Nat->Bool->Int->au->Prop)(m:Nat)(h0:c m a b H)(st:∀m a b H R,c m a b H->(∀d g h H',d<m->c d g h H'->T B H' (R [.bool g,J h]))->T B H (f a b R)):T B H (bz (xF f) [.bool a,J b]):=by refine pQ (λm s H=>∃a b,s=[.bool a,J b]/\c m a b H) m ⟨_,_,rfl,h0⟩ ?_;rintro m _ H R ⟨a,b,rfl,i⟩ j σ o _ _ e;cases e;exact st m a b H R i (λd g h H' h1 k=>j d _ H' h1 ⟨_,_,rfl,k⟩) σ o
def D0{f:Bool->Int->(az->HP)->HP}{a:Bool}(N:Nat)(i:N<4611686018427387904)(b:Nat->Bool->au->Prop)(h0:b 0 a H)(st:∀(k:Nat) a H R,k<=N->b k a H->(k<N->∀c H',b (k+1) c H'->T B H' (R [.bool c,J (IntKind.wrap .i64 ((k:Int)+1))]))->T B H (f a (k:Int) R)):T B H (bz (xF f) [.bool a,J 0]):=by refine J6 (λm a d H=>∃k:Nat,d=(k:Int)/\k+m=N/\b k a H) N ⟨0,rfl,by omega,h0⟩ ?_;rintro m a _ H R ⟨k,rfl,hm,e⟩ g;refine st k a H R (by omega) e λU c H' h=>?_;rw[br (by omega)];exact g (m-1) c _ H' (by omega) ⟨k+1,by omega,by omega,h⟩
def wK{f:Int->(az->HP)->HP}{a:Int}(b:Nat->Int->au->Prop)(m:Nat)(h0:b m a H)(st:∀m a H R,b m a H->(∀c d H',c<m->b c d H'->T B H' (R [J d]))->T B H (f a R)):T B H (bz (dr f) [J a]):=by refine pQ (λm s H=>∃a,s=[J a]/\b m a H) m ⟨_,rfl,h0⟩ ?_;rintro m _ H R ⟨a,rfl,g⟩ h σ o _ e;cases e;exact st m a H R g (λc d H' h1 i=>h c _ H' h1 ⟨_,rfl,i⟩) σ o
def dh{f:Int->(az->HP)->HP}(N:Nat)(g:N<4611686018427387904)(a:Nat->au->Prop)(h0:a 0 H)(st:∀(k:Nat) H R,k<=N->a k H->(k<N->∀H',a (k+1) H'->T B H' (R [J (IntKind.wrap .i64 ((k:Int)+1))]))->T B H (f (k:Int) R)):T B H (bz (dr f) [J 0]):=by refine wK (λm b H=>∃k:Nat,b=(k:Int)/\k+m=N/\a k H) N ⟨0,rfl,by omega,h0⟩ ?_;rintro m _ H R ⟨k,rfl,hm,c⟩ d;refine st k H R (by omega) c λU H' e=>?_;rw[br (by omega)];exact d (m-1) _ H' (by omega) ⟨k+1,by omega,by omega,e⟩
def qX{f:Int->Int->(az->HP)->HP}{a:Int}{b:Int}(c:Nat->Int->Int->au->Prop)(m:Nat)(h0:c m a b H)(st:∀m a b H R,c m a b H->(∀d g h H',d<m->c d g h H'->T B H' (R [J g,J h]))->T B H (f a b R)):T B H (bz (o0 f) [J a,J b]):=by refine pQ (λm s H=>∃a b,s=[J a,J b]/\c m a b H) m ⟨_,_,rfl,h0⟩ ?_;rintro m _ H R ⟨a,b,rfl,i⟩ j σ o _ _ e;cases e;exact st m a b H R i (λd g h H' h1 k=>j d _ H' h1 ⟨_,_,rfl,k⟩) σ o
def Kq{f:Int->Int->(az->HP)->HP}{a:Int}(N:Nat)(i:N<4611686018427387904)(b:Nat->Int->au->Prop)(h0:b 0 a H)(st:∀(k:Nat) a H R,k<=N->b k a H->(k<N->∀c H',b (k+1) c H'->T B H' (R [J c,J (IntKind.wrap .i64 ((k:Int)+1))]))->T B H (f a (k:Int) R)):T B H (bz (o0 f) [J a,J 0]):=by refine qX (λm a d H=>∃k:Nat,d=(k:Int)/\k+m=N/\b k a H) N ⟨0,rfl,by omega,h0⟩ ?_;rintro m a _ H R ⟨k,rfl,hm,e⟩ g;refine st k a H R (by omega) e λU c H' h=>?_;rw[br (by omega)];exact g (m-1) c _ H' (by omega) ⟨k+1,by omega,by omega,h⟩
def ur{f:av->Nat->Nat->Int->(az->HP)->HP}{a:av}{b:Nat}{c:Nat}{d:Int}(g:Nat->av->Nat->Nat->Int->au->Prop)(m:Nat)(h0:g m a b c d H)(st:∀m a b c d H R,g m a b c d H->(∀h i j k l H',h<m->g h i j k l H'->T B H' (R [.slice i j k,J l]))->T B H (f a b c d R)):T B H (bz (jZ f) [.slice a b c,J d]):=by refine pQ (λm s H=>∃a b c d,s=[.slice a b c,J d]/\g m a b c d H) m ⟨_,_,_,_,rfl,h0⟩ ?_;rintro m _ H R ⟨a,b,c,d,rfl,n⟩ p σ o _ _ _ _ e;cases e;exact st m a b c d H R n (λh i j k l H' h1 q=>p h _ H' h1 ⟨_,_,_,_,rfl,q⟩) σ o
def nI{f:av->Nat->Nat->Int->(az->HP)->HP}{a:av}{b:Nat}{c:Nat}(N:Nat)(o:N<4611686018427387904)(d:Nat->av->Nat->Nat->au->Prop)(h0:d 0 a b c H)(st:∀(k:Nat) a b c H R,k<=N->d k a b c H->(k<N->∀e g h H',d (k+1) e g h H'->T B H' (R [.slice e g h,J (IntKind.wrap .i64 ((k:Int)+1))]))->T B H (f a b c (k:Int) R)):T B H (bz (jZ f) [.slice a b c,J 0]):=by refine ur (λm a b c i H=>∃k:Nat,i=(k:Int)/\k+m=N/\d k a b c H) N ⟨0,rfl,by omega,h0⟩ ?_;rintro m a b c _ H R ⟨k,rfl,hm,j⟩ l;refine st k a b c H R (by omega) j λU e g h H' n=>?_;rw[br (by omega)];exact l (m-1) e g h _ H' (by omega) ⟨k+1,by omega,by omega,n⟩
def J7{f:av->Nat->Nat->Int->av->Nat->Nat->Int->(az->HP)->HP}{a:av}{b:Nat}{c:Nat}{d:Int}{g:av}{h:Nat}{i:Nat}{j:Int}(k:Nat->av->Nat->Nat->Int->av->Nat->Nat->Int->au->Prop)(m:Nat)(h0:k m a b c d g h i j H)(st:∀m a b c d g h i j H R,k m a b c d g h i j H->(∀l n p q r t u v w H',l<m->k l n p q r t u v w H'->T B H' (R [.slice n p q,J r,.slice t u v,J w]))->T B H (f a b c d g h i j R)):T B H (bz (A7 f) [.slice a b c,J d,.slice g h i,J j]):=by refine pQ (λm s H=>∃a b c d g h i j,s=[.slice a b c,J d,.slice g h i,J j]/\k m a b c d g h i j H) m ⟨_,_,_,_,_,_,_,_,rfl,h0⟩ ?_;rintro m _ H R ⟨a,b,c,d,g,h,i,j,rfl,x⟩ y σ o _ _ _ _ _ _ _ _ e;cases e;exact st m a b c d g h i j H R x (λl n p q r t u v w H' h1 z=>y l _ H' h1 ⟨_,_,_,_,_,_,_,_,rfl,z⟩) σ o
def Kr{f:av->Nat->Nat->Int->av->Nat->Nat->Int->(az->HP)->HP}{a:av}{b:Nat}{c:Nat}{d:Int}{e:av}{g:Nat}{h:Nat}(N:Nat)(w:N<4611686018427387904)(i:Nat->av->Nat->Nat->Int->av->Nat->Nat->au->Prop)(h0:i 0 a b c d e g h H)(st:∀(k:Nat) a b c d e g h H R,k<=N->i k a b c d e g h H->(k<N->∀j l n o p q r H',i (k+1) j l n o p q r H'->T B H' (R [.slice j l n,J o,.slice p q r,J (IntKind.wrap .i64 ((k:Int)+1))]))->T B H (f a b c d e g h (k:Int) R)):T B H (bz (A7 f) [.slice a b c,J d,.slice e g h,J 0]):=by refine J7 (λm a b c d e g h s H=>∃k:Nat,s=(k:Int)/\k+m=N/\i k a b c d e g h H) N ⟨0,rfl,by omega,h0⟩ ?_;rintro m a b c d e g h _ H R ⟨k,rfl,hm,t⟩ u;refine st k a b c d e g h H R (by omega) t λU j l n o p q r H' v=>?_;rw[br (by omega)];exact u (m-1) j l n o p q r _ H' (by omega) ⟨k+1,by omega,by omega,v⟩
def J8{f:av->Nat->Nat->av->Nat->Nat->Int->(az->HP)->HP}{a:av}{b:Nat}{c:Nat}{d:av}{g:Nat}{h:Nat}{i:Int}(j:Nat->av->Nat->Nat->av->Nat->Nat->Int->au->Prop)(m:Nat)(h0:j m a b c d g h i H)(st:∀m a b c d g h i H R,j m a b c d g h i H->(∀k l n p q r t u H',k<m->j k l n p q r t u H'->T B H' (R [.slice l n p,.slice q r t,J u]))->T B H (f a b c d g h i R)):T B H (bz (Gp f) [.slice a b c,.slice d g h,J i]):=by refine pQ (λm s H=>∃a b c d g h i,s=[.slice a b c,.slice d g h,J i]/\j m a b c d g h i H) m ⟨_,_,_,_,_,_,_,rfl,h0⟩ ?_;rintro m _ H R ⟨a,b,c,d,g,h,i,rfl,v⟩ w σ o _ _ _ _ _ _ _ e;cases e;exact st m a b c d g h i H R v (λk l n p q r t u H' h1 x=>w k _ H' h1 ⟨_,_,_,_,_,_,_,rfl,x⟩) σ o
def Ks{f:av->Nat->Nat->av->Nat->Nat->Int->(az->HP)->HP}{a:av}{b:Nat}{c:Nat}{d:av}{e:Nat}{g:Nat}(N:Nat)(u:N<4611686018427387904)(h:Nat->av->Nat->Nat->av->Nat->Nat->au->Prop)(h0:h 0 a b c d e g H)(st:∀(k:Nat) a b c d e g H R,k<=N->h k a b c d e g H->(k<N->∀i j l n o p H',h (k+1) i j l n o p H'->T B H' (R [.slice i j l,.slice n o p,J (IntKind.wrap .i64 ((k:Int)+1))]))->T B H (f a b c d e g (k:Int) R)):T B H (bz (Gp f) [.slice a b c,.slice d e g,J 0]):=by refine J8 (λm a b c d e g q H=>∃k:Nat,q=(k:Int)/\k+m=N/\h k a b c d e g H) N ⟨0,rfl,by omega,h0⟩ ?_;rintro m a b c d e g _ H R ⟨k,rfl,hm,r⟩ s;refine st k a b c d e g H R (by omega) r λU i j l n o p H' t=>?_;rw[br (by omega)];exact s (m-1) i j l n o p _ H' (by omega) ⟨k+1,by omega,by omega,t⟩
def J9{f:ByteArray->Int->(az->HP)->HP}{a:ByteArray}{b:Int}(c:Nat->ByteArray->Int->au->Prop)(m:Nat)(h0:c m a b H)(st:∀m a b H R,c m a b H->(∀d g h H',d<m->c d g h H'->T B H' (R [.string g,J h]))->T B H (f a b R)):T B H (bz (Gq f) [.string a,J b]):=by refine pQ (λm s H=>∃a b,s=[.string a,J b]/\c m a b H) m ⟨_,_,rfl,h0⟩ ?_;rintro m _ H R ⟨a,b,rfl,i⟩ j σ o _ _ e;cases e;exact st m a b H R i (λd g h H' h1 k=>j d _ H' h1 ⟨_,_,rfl,k⟩) σ o
def Kt{f:ByteArray->Int->(az->HP)->HP}{a:ByteArray}(N:Nat)(i:N<4611686018427387904)(b:Nat->ByteArray->au->Prop)(h0:b 0 a H)(st:∀(k:Nat) a H R,k<=N->b k a H->(k<N->∀c H',b (k+1) c H'->T B H' (R [.string c,J (IntKind.wrap .i64 ((k:Int)+1))]))->T B H (f a (k:Int) R)):T B H (bz (Gq f) [.string a,J 0]):=by refine J9 (λm a d H=>∃k:Nat,d=(k:Int)/\k+m=N/\b k a H) N ⟨0,rfl,by omega,h0⟩ ?_;rintro m a _ H R ⟨k,rfl,hm,e⟩ g;refine st k a H R (by omega) e λU c H' h=>?_;rw[br (by omega)];exact g (m-1) c _ H' (by omega) ⟨k+1,by omega,by omega,h⟩
end
class At (cs:aw) (i:Nat) (v:outParam Value):Prop where at':cs[i]?=some v
class wH (cs:aw) (i:Nat) (v:Value) (ds:outParam aw):Prop where
 lt:i<cs.size
 eq:cs.setIfInBounds i v=ds
instance {v:Value}{l:az}:At (v::l).toArray 0 v:=⟨by simp⟩
instance {u v:Value}{l:az}{n:Nat}[h:At l.toArray n v]:At (u::l).toArray (n+1) v:=⟨by have:=h.at';simpa using this⟩
instance {u v:Value}{l:az}:wH (u::l).toArray 0 v (v::l).toArray:=⟨by simp,by simp⟩
instance {u v:Value}{l m:az}{n:Nat}[h:wH l.toArray n v m.toArray]:wH (u::l).toArray (n+1) v (u::m).toArray:=⟨by have:=h.lt;simpa using this,by have:=h.eq;simpa using this⟩
class kj (cs:aw):Prop where one:∀v∈cs.toList,v.oneCell'=true
instance :kj #[]:=⟨by simp⟩
class kU (v:Value):Prop where one:v.oneCell'=true
instance {k:IntKind}{n:Int}:kU (.int k n):=⟨rfl⟩
instance {b:Bool}:kU (.bool b):=⟨rfl⟩
instance {p:av}:kU (.pointer p):=⟨rfl⟩
instance {p:av}{l c:Nat}:kU (.slice p l c):=⟨rfl⟩
instance {s:ByteArray}:kU (.string s):=⟨rfl⟩
instance {m:Option Nat}:kU (.map m):=⟨rfl⟩
instance {f:Fn}{a b:aw}:kU (.func f a b):=⟨rfl⟩
instance :kU .nilFunc:=⟨rfl⟩
instance :kU .nilIface:=⟨rfl⟩
instance {v:Value}{l:az}[h1:kU v][a:kj l.toArray]:kj (v::l).toArray:=⟨by
 intro u hu;rcases cL.1 hu with rfl|hu
 ·exact h1.one
 ·exact a.one u hu⟩
class Sx {α:outParam Type} (B:Heap) (H:au) (p:HP) (c:outParam Prop) (Q:outParam (α->Prop)):Prop where go:c->(∀x,Q x)->T B H p
class si (c:Bool):Prop where eq:c=true
class sh (c:Bool):Prop where eq:c=false
instance :si true:=⟨rfl⟩
instance :sh false:=⟨rfl⟩
instance {α:Type}{a:α}:sh (Option.isNone (some a)):=⟨rfl⟩
instance {α:Type}:si (Option.isNone (none:Option α)):=⟨rfl⟩
instance {c:Bool}[h:sh c]:si (!c):=⟨by rw[h.eq];rfl⟩
instance {c:Bool}[h:si c]:sh (!c):=⟨by rw[h.eq];rfl⟩
instance :si ((0:Int)==0):=⟨rfl⟩
instance :sh ((0:Int)!=0):=⟨rfl⟩
def dT{B:Heap}{H:au}{K:aK}{u v:Value}(t:T B H (K u))(h:u=v):T B H (K v):=h▸t
section
variable {B:Heap}{H:au}{b i:Nat}{cs:aw}
instance {k:IntKind}{n:Int}{f:Int->HP}[h:bZ B H b cs][a:At cs i (.int k n)]:St B H (bA k ⟨b,i,none⟩ f) (T B H (f n)):=⟨bg a.at'⟩
instance {n:Bool}{f:Bool->HP}[h:bZ B H b cs][a:At cs i (.bool n)]:St B H (gB ⟨b,i,none⟩ f) (T B H (f n)):=⟨iW a.at'⟩
instance {n:av}{f:av->HP}[h:bZ B H b cs][a:At cs i (.pointer n)]:St B H (bq ⟨b,i,none⟩ f) (T B H (f n)):=⟨iX a.at'⟩
instance {p:av}{l c:Nat}{f:av->Nat->Nat->HP}[h:bZ B H b cs][a:At cs i (.slice p l c)]:St B H (a8 ⟨b,i,none⟩ f) (T B H (f p l c)):=⟨bU a.at'⟩
instance {n:ByteArray}{f:ByteArray->HP}[h:bZ B H b cs][a:At cs i (.string n)]:St B H (hB ⟨b,i,none⟩ f) (T B H (f n)):=⟨hS a.at'⟩
instance {n:Option Nat}{f:Option Nat->HP}[h:bZ B H b cs][a:At cs i (.map n)]:St B H (gm ⟨b,i,none⟩ f) (T B H (f n)):=⟨pP a.at'⟩
instance {v:Value}{f:aK}[h:bZ B H b cs][a:At cs i v]:St B H (gN ⟨b,i,none⟩ f) (T B H (f v)):=⟨hT a.at'⟩
instance {n:Nat}{f:aw->HP}[h:bZ B H b cs]:Sc B H (eQ ⟨b,0,none⟩ n f) (cs.size=n) (T B H (f cs)):=⟨λh t=>bV h t⟩
instance {v:Value}{k:HP}{H':aw->au}{ds:aw}[h:fT H b cs H'][o:kU v][s:wH cs i v ds]:St B H (st ⟨b,i,none⟩ v k) (T B (H' ds) k):=⟨λt=>eE s.lt o.one (by rw[s.eq];exact t)⟩
instance {vs:aw}{n:Nat}{k:HP}{H':aw->au}[h:fT H b cs H'][o:kj vs]:Sc B H (gW ⟨b,0,none⟩ vs n k) (vs.size=n/\cs.size=n) (T B (H' vs) k):=⟨λh t=>hj h.1 h.2 o.one t⟩
instance {v:Value}{p:HP}[h:bZ B H b cs][a:At cs i v]:St B H (c7 (λσ=>b0 σ ⟨b,i,none⟩=some v) p) (T B H p):=⟨eT a.at'⟩
instance {p:HP}:St B H (c7 (λ_=>True) p) (T B H p):=⟨JD⟩
instance {n:Nat}{k:IntKind}{f:Int->HP}{Q:Prop}[h:St B H (bA k ⟨b,n,none⟩ f) Q]:St B H (bA k (Addr.add ⟨b,0,none⟩ n) f) Q:=⟨by rw[aR,bI];exact h.go⟩
instance {n:Nat}{f:av->HP}{Q:Prop}[h:St B H (bq ⟨b,n,none⟩ f) Q]:St B H (bq (Addr.add ⟨b,0,none⟩ n) f) Q:=⟨by rw[aR,bI];exact h.go⟩
instance {n:Nat}{f:av->Nat->Nat->HP}{Q:Prop}[h:St B H (a8 ⟨b,n,none⟩ f) Q]:St B H (a8 (Addr.add ⟨b,0,none⟩ n) f) Q:=⟨by rw[aR,bI];exact h.go⟩
instance {n:Nat}{f:Option Nat->HP}{Q:Prop}[h:St B H (gm ⟨b,n,none⟩ f) Q]:St B H (gm (Addr.add ⟨b,0,none⟩ n) f) Q:=⟨by rw[aR,bI];exact h.go⟩
instance {n:Nat}{v:Value}{k:HP}{Q:Prop}[h:St B H (st ⟨b,n,none⟩ v k) Q]:St B H (st (Addr.add ⟨b,0,none⟩ n) v k) Q:=⟨by rw[aR,bI];exact h.go⟩
instance {n:Nat}{v:Value}{p:HP}{Q:Prop}[h:St B H (c7 (λσ=>b0 σ ⟨b,n,none⟩=some v) p) Q]:St B H (c7 (λσ=>b0 σ (Addr.add ⟨b,0,none⟩ n)=some v) p) Q:=⟨by rw[aR,bI];exact h.go⟩
instance {o:Nat}{f:Int->HP}{Q:Prop}[h:St B H (bA .i64 ⟨b,o,none⟩ f) Q]:St B H (cx (some ⟨b,0,none⟩) o f) Q:=⟨by unfold cx;rw[cR,aR,bI];exact h.go⟩
instance {o:Nat}{f:av->HP}{Q:Prop}[h:St B H (bq ⟨b,o,none⟩ f) Q]:St B H (bb (some ⟨b,0,none⟩) o f) Q:=⟨by unfold bb;rw[cR,aR,bI];exact h.go⟩
instance {o:Nat}{f:av->Nat->Nat->HP}{Q:Prop}[h:St B H (a8 ⟨b,o,none⟩ f) Q]:St B H (b6 (some ⟨b,0,none⟩) o f) Q:=⟨by unfold b6;rw[cR,aR,bI];exact h.go⟩
instance {o:Nat}{f:Option Nat->HP}{Q:Prop}[h:St B H (gm ⟨b,o,none⟩ f) Q]:St B H (cU (some ⟨b,0,none⟩) o f) Q:=⟨by unfold cU;rw[cR,aR,bI];exact h.go⟩
instance {o:Nat}{f:aK}{Q:Prop}[h:St B H (gN ⟨b,o,none⟩ f) Q]:St B H (Aw (some ⟨b,0,none⟩) o f) Q:=⟨by unfold Aw;rw[cR,aR,bI];exact h.go⟩
instance {o:Nat}{v:Value}{k:HP}{Q:Prop}[h:St B H (st ⟨b,o,none⟩ v k) Q]:St B H (cJ (some ⟨b,0,none⟩) o v k) Q:=⟨by unfold cJ;rw[cR,aR,bI];exact h.go⟩
instance {a:Addr}{f:Addr->HP}:St B H (ay (some a) f) (T B H (f a)):=⟨λt=>t⟩
instance {k:IntKind}{n:Int}{f:Int->HP}:St B H (db k (.int k n) f) (T B H (f n)):=⟨JG⟩
instance {n:Bool}{f:Bool->HP}:St B H (dq (.bool n) f) (T B H (f n)):=⟨JF⟩
instance {n:av}{f:av->HP}:St B H (iA (.pointer n) f) (T B H (f n)):=⟨JI⟩
instance {p:av}{l c:Nat}{f:av->Nat->Nat->HP}:St B H (i1 (.slice p l c) f) (T B H (f p l c)):=⟨JJ⟩
instance {n:ByteArray}{f:ByteArray->HP}:St B H (mI (.string n) f) (T B H (f n)):=⟨JK⟩
instance {n:Option Nat}{f:Option Nat->HP}:St B H (uz (.map n) f) (T B H (f n)):=⟨JH⟩
instance {n:aw}{f:aw->HP}:St B H (gi (.agg n) f) (T B H (f n)):=⟨JE⟩
instance {n:Int}{k:IntKind}{f:Int->HP}[a:At cs i (.int k n)]:St B H (mc k cs i f) (T B H (f n)):=⟨zI a.at'⟩
instance {a:az->HP}{body:(az->HP)->HP}:St B H (bu a body) (T B H (body a)):=⟨λt=>t⟩
instance {c:Prop}{p:HP}:Sc B H (aP c p) c (T B H p):=⟨ba⟩
instance {ds:aw}{t:TypeId}{f:Nat->HP}:Sa B H (al ds t f) (λb=>T B (cl b ds::H) (f b)):=⟨eg⟩
instance {f:Nat->HP}:Sa B H (hE f) (λr=>T B (IM r (λ_=>none)::H) (f r)):=⟨zH⟩
instance {c:Bool}{p q:HP}[h:si c]:St B H (ae c p q) (T B H p):=⟨bo h.eq⟩
instance {c:Bool}{p q:HP}[h:sh c]:St B H (ae c p q) (T B H q):=⟨aI h.eq⟩
instance {c:Bool}{p q:HP}:S2 B H (ae (!c) p q) (c=false) (c=true) (T B H p) (T B H q):=⟨λh1 a=>cZ (λh=>h1 (by simpa using h)) λh=>a (by simpa using h)⟩
instance {c:Prop}[Decidable c]{p q:HP}:S2 B H (ae (!decide c) p q) (¬c) c (T B H p) (T B H q):=⟨λh1 a=>cZ (λh=>h1 (by simpa using h)) λh=>a (by simpa using h)⟩
instance {c:Prop}[Decidable c]{p q:HP}:S2 B H (ae (decide c) p q) c (¬c) (T B H p) (T B H q):=⟨λh1 a=>cZ (λh=>h1 (sg h)) λh=>a (of_decide_eq_false h)⟩
instance {x y:Int}{p q:HP}:S2 B H (ae (x==y) p q) (x=y) (¬x=y) (T B H p) (T B H q):=⟨λh1 a=>cZ (λh=>h1 (by simpa using h)) λh=>a (by simpa using h)⟩
instance {x y:Int}{p q:HP}:S2 B H (ae (x !=y) p q) (¬x=y) (x=y) (T B H p) (T B H q):=⟨λh1 a=>cZ (λh=>h1 (by simpa using h)) λh=>a (by simpa using h)⟩
instance (priority:=low){c:Bool}{p q:HP}:S2 B H (ae c p q) (c=true) (c=false) (T B H p) (T B H q):=⟨cZ⟩
end
class Pl (H:au) (q:bc) (H':outParam au):Prop where pl:lP q H H'
instance (priority:=2000){q:bc}{H:au}:Pl (q::H) q H:=⟨.head⟩
instance (priority:=1000){q r:bc}{H H':au}[h:Pl H q H']:Pl (r::H) q (r::H'):=⟨.tail h.pl⟩
class Ow {α:Type} (H:au) (F:α->bc) (a:outParam α) (H':outParam au):Prop where pl:lP (F a) H H'
instance (priority:=2000){α:Type}{F:α->bc}{a:α}{H:au}:Ow (F a::H) F a H:=⟨.head⟩
instance (priority:=1000){α:Type}{F:α->bc}{a:α}{r:bc}{H H':au}[h:Ow H F a H']:Ow (r::H) F a (r::H'):=⟨.tail h.pl⟩
def aL{α:Type}{a:α}{B:Heap}{H H':au}{p:HP}(F:α->bc)[h:Ow H F a H'](t:T B (F a::H') p):T B H p:=bf h.pl t
def bL{B:Heap}{H H':au}{q:bc}{p:HP}[h:Pl H q H'](t:T B (q::H') p):T B H p:=bf h.pl t
def aa5{n:Int}(h1:-18446744073709551616<=n)(a:n<=18446744073709551614):IntKind.wrap .i64 n=if n>9223372036854775807 then n-18446744073709551616 else if n< -9223372036854775808 then n+18446744073709551616 else n:=by
 show(if(true&&decide (n%18446744073709551616>=9223372036854775808))=true then n%18446744073709551616-18446744073709551616 else n%18446744073709551616)=_;rw[ff];by_cases h:n%18446744073709551616>=9223372036854775808
 ·rw[ag (cM h)]
  split<;>(try split)<;>omega
 ·rw[aj (by simpa using h)]
  split<;>(try split)<;>omega
end
section
open Go.bm
open Go.MapKept
def HT{P:Program}{t:TypeId}{z:Value}{K:aK}{σ:Heap}(h:((P.info? t).bind (·.zero))=some z)(k:K z σ):aH P (zeroValue t) K σ:=by
 cases hi:P.info? t with
 |none=>rw[hi]at h;cases h
 |some i=>rw[hi]at h;have hz:i.zero=some z:=h;exact dD z (λw _=>by simp[zeroValue,typeInfo,hi,hz]) k
class ia (P:Program) (mt:TypeId) (α:outParam Type) (enc:outParam (α->Value)) (z:outParam α):Prop where
 ty:∃et,P.underlying mt=some (.map 3 et)/\P.underlying 3=some (.int .i64)/\((P.info? et).bind (·.zero))=some (enc z)
def MP{α:Type}(enc:α->Value)(r:Nat)(m:ML α):bc:=fa (bQ m) (IM r λk=>(aQ m k).map enc)
section
variable {P:Program}{B:Heap}{H:au}{α:Type}{enc:α->Value}{r:Nat}{m:ML α}{k:Int}{mt:TypeId}{z:α}{K:aK}{p:HP}
def oz(t:bQ m->T B (IM r (λk=>(aQ m k).map enc)::H) p):T B (MP enc r m::H) p:=gz t
def qS(h:bQ m)(t:T B (MP enc r m::H) p):T B (IM r (λk=>(aQ m k).map enc)::H) p:=ic h t
def wE{g:Int->Option Value}(h:bQ m)(e:∀k,g k=(aQ m k).map enc)(t:T B (MP enc r m::H) p):T B (IM r g::H) p:=by rw[show g=λk=>(aQ m k).map enc from funext e];exact qS h t
def iT(enc:α->Value)(t:T B (MP enc r []::H) p):T B (IM r (λ_=>none)::H) p:=wE (by simp[bQ,a7,ed]) (λk=>by simp[aQ]) t
def Gn{g:Int->Option Value}{a:Value}(h:∃et,P.underlying mt=some (.map 3 et)/\P.underlying 3=some (.int .i64)/\((P.info? et).bind (·.zero))=some a){b:Bool}{K:aK}(t:T B (IM r g::H) (K (if b then .tuple #[(g k).getD a,.bool (g k).isSome]else(g k).getD a))):T B (IM r g::H) (aH P (Instr.lookup mt (.map (some r)) (.int .i64 k) b) K):=by
 obtain⟨et,hm,U,hz⟩:=h;refine qR λes clock hr=>?_;intro σ o;unfold Instr.lookup;refine aX (gV hm ?_);refine aX (lu o.gL (aX (cv ?_)));refine aX (dD () (λw _=>run_checkKey U (by rfl) _ _) ?_);rcases hr.find k with⟨d,c,f⟩|⟨j,e,c,f,l,i⟩
 ·refine aX (dD none (λw _=>run_findKey U c) ?_)
  refine aX (HT hz (aX (cv (cv ?_))));rw[d]at t;cases b
  ·exact kg hr t σ o
  ·exact kg hr t σ o
 ·refine aX (dD (some (j,e.val)) (λw _=>run_findKey U c) ?_)
  refine aX (cv (cv ?_));rw[i]at t;cases b
  ·exact kg hr t σ o
  ·exact kg hr t σ o
instance ace[c:ia P mt α enc z]{H0:au}{m:ML α}[h:Ow H (MP enc r) m H0]:St B H (aH P (Instr.lookup mt (.map (some r)) (.int .i64 k) false) K) (T B (MP enc r m::H0) (K (enc ((aQ m k).getD z)))):=⟨by intro t;refine bf h.pl (oz λhs=>?_);refine Gn c.ty (qS hs ?_);cases a:aQ m k<;>(rw[a]at t;exact t)⟩
instance acf[c:ia P mt α enc z]{H0:au}{m:ML α}[h:Ow H (MP enc r) m H0]:St B H (aH P (Instr.lookup mt (.map (some r)) (.int .i64 k) true) K) (T B (MP enc r m::H0) (K (.tuple #[enc ((aQ m k).getD z),.bool (aQ m k).isSome]))):=⟨by intro t;refine bf h.pl (oz λhs=>?_);refine Gn c.ty (qS hs ?_);cases a:aQ m k<;>(rw[a]at t;exact t)⟩
def Be[c:ia P mt α enc z]{H0:au}[h:Ow H (MP enc r) m H0]{a:α}{v:Value}{K:Unit->HP}(b:v=enc a)(t:T B (MP enc r (bC k a m)::H0) (K ())):T B H (aH P (Instr.mapUpdate mt (.map (some r)) (.int .i64 k) v) K):=by subst b;obtain⟨et,hm,U,hz⟩:=c.ty;refine bf h.pl (oz λhs=>?_);refine DR hm U (wE (fu hs) (λj=>?_) t);rw[gR hs];split<;>rfl
class nC {α:Type} (enc:α->Value) (v:Value) (a:outParam α):Prop where eq:v=enc a
instance [c:ia P mt α enc z]{H0:au}[h:Ow H (MP enc r) m H0]{a:α}{v:Value}{K:Unit->HP}[e:nC enc v a]:St B H (aH P (Instr.mapUpdate mt (.map (some r)) (.int .i64 k) v) K) (T B (MP enc r (bC k a m)::H0) (K ())):=⟨Be e.eq⟩
instance {rt:TypeId}[c:ia P mt α enc z]{H0:au}{m:ML α}[h:Ow H (MP enc r) m H0]:St B H (aH P (Builtin.delete_ #[mt,3] rt #[.map (some r),.int .i64 k]) K) (T B (MP enc r (bN k m)::H0) (K (.tuple #[]))):=⟨by intro t;obtain⟨et,hm,U,hz⟩:=c.ty;refine bf h.pl (oz λhs=>?_);refine DI hm U (wE (ml hs) (λj=>?_) t);rw[mV];split<;>rfl⟩
def ec.len{es:Array MapEntry}{clock:Nat}(h:ec es clock λk=>(aQ m k).map enc)(hs:bQ m):es.size=m.length:=by
 have f:(es.toList.map (·.key)).Perm ((a7 m).map key):=by
  refine(zl h.st.2.2 ?_).2 λv=>?_
  ·have h1:=mg hs
   refine tQ _ (λa b g=>?_) h1;intro e;cases e;exact g rfl
  ·constructor
   ·intro c
    obtain⟨e,he,rfl⟩:=bP.1 c;obtain⟨k,U⟩:=(XS.IsKey.int (h.keys e he));refine bP.2 ⟨k,?_,U.symm⟩;have d:=(h.rep k e.val).2 ⟨e,he,U,rfl⟩;refine r4.1 λhc=>?_;rw[kC.2 hc]at d;cases d
   ·intro c
    obtain⟨k,U,rfl⟩:=bP.1 c;have:aQ m k≠none:=λhc=>kC.1 hc U;obtain⟨a,ha⟩:=Jl.1 this;obtain⟨e,he,i,_⟩:=(h.rep k (enc a)).1 (by rw[ha];rfl);exact bP.2 ⟨e,he,i⟩
 have:=f.length_eq;simpa using this
def Vw{rt:TypeId}[c:ia P mt α enc z](t:T B (MP enc r m::H) (K (.int .i64 (m.length:Int)))):T B (MP enc r m::H) (aH P (Builtin.len_ #[mt] rt #[.map (some r)]) K):=by obtain⟨et,hm,U,hz⟩:=c.ty;refine oz λhs=>qR λes clock hr=>?_;intro σ o;unfold Builtin.len_;simp only[dE,jI,mw];refine aX (gV hm ?_);refine aX (lu o.gL (cv ?_));rw[hr.len hs];exact kg hr (qS hs t) σ o
instance {rt:TypeId}[c:ia P mt α enc z]{H0:au}{m:ML α}[h:Ow H (MP enc r) m H0]:St B H (aH P (Builtin.len_ #[mt] rt #[.map (some r)]) K) (T B (MP enc r m::H0) (K (.int .i64 (m.length:Int)))):=⟨λt=>bf h.pl (Vw t)⟩
end
end
end Go.XS
namespace Go.XS
open Go.bm (N3)
class Sb (H H':au):Prop where sub:Sub H H'
instance (priority:=3000){H:au}:Sb H H:=⟨.refl⟩
instance (priority:=2000){H H0 H':au}{q:bc}[h:Pl H q H0][s:Sb H0 H']:Sb H (q::H'):=⟨.cons h.pl s.sub⟩
instance (priority:=1000){H H':au}{q:bc}[s:Sb H H']:Sb (q::H) H':=⟨.drop s.sub⟩
def af{B:Heap}{H H':au}{p:HP}[s:Sb H H'](t:T B H' p):T B H p:=q0 s.sub t
def BX{X:Type}(ok:Prop)(L:X->au->au):bc:=fa ok (eF λx=>eA (L x []))
section
variable {B:Heap}{H:au}{p:HP}{X:Type}{ok:Prop}{L:X->au->au}
def pM(hL:∀x H,L x H=L x []++H)(t:∀x,ok->T B (L x H) p):T B (BX ok L::H) p:=gz λh=>gg λx=>lS (by rw[<-hL];exact t x h)
def pL(x:X)(h:ok)(hL:∀x H,L x H=L x []++H)(t:T B (BX ok L::H) p):T B (L x H) p:=by rw[hL];exact jQ (gI x (ic h t))
end
def BD{X:Type}(ok:X->Prop)(L:X->au->au):bc:=eF λx=>fa (ok x) (eA (L x []))
section
variable {B:Heap}{H:au}{p:HP}{X:Type}{ok:X->Prop}{L:X->au->au}
def mC(hL:∀x H,L x H=L x []++H)(t:∀x,ok x->T B (L x H) p):T B (BD ok L::H) p:=gg λx=>gz λh=>lS (by rw[<-hL];exact t x h)
def mB(x:X)(h:ok x)(hL:∀x H,L x H=L x []++H)(t:T B (BD ok L::H) p):T B (L x H) p:=by rw[hL];exact jQ (ic h (gI x t))
end
def dt(n:Nat)(f:Nat->N3):az:=(List.range n).flatMap λi=>[J (f i).1,J (f i).2.1,J (f i).2.2]
def pj(j:Nat)(x:N3):Int:=if j=0 then x.1 else if j=1 then x.2.1 else x.2.2
def o8(j:Nat)(v:Int)(x:N3):N3:=if j=0 then(v,x.2.1,x.2.2)else if j=1 then(x.1,v,x.2.2)else(x.1,x.2.1,v)
def By(x:N3):pj 2 x=x.2.2:=rfl
def x'(v:Int)(x:N3):o8 0 v x=(v,x.2.1,x.2.2):=rfl
def ya(v:Int)(x:N3):o8 1 v x=(x.1,v,x.2.2):=rfl
def Bz(v:Int)(x:N3):o8 2 v x=(x.1,x.2.1,v):=rfl
def qA(n:Nat)(f:Nat->N3):(dt n f).length=n*3:=by unfold dt;rw[dj (s:=3) (by simp)];simp
def tw{n:Nat}{f:Nat->N3}{i j:Nat}(hi:i<n)(a:j<3):(dt n f)[i*3+j]?=some (J (pj j (f i))):=by
 unfold dt;rw[ht (by simp) _ i i (by simp[hi]) j a];obtain rfl|rfl|rfl:j=0\/j=1\/j=2:=by omega
 all_goals rfl
def ym{n:Nat}{f:Nat->N3}{l:az}(hl:l.length=n*3)(h:∀i j,i<n->j<3->l[i*3+j]?=some (J (pj j (f i)))):l=dt n f:=by
 apply ji;intro k;by_cases U:k<n*3
 ·have e:k=k/3*3+k%3:=by omega
  rw[e,tw (by omega) (by omega)];exact h _ _ (by omega) (by omega)
 ·rw[iN (by omega),iN (by rw[qA];omega)]
def tx{n:Nat}{f:Nat->N3}{i j:Nat}{v:Int}(hi:i<n)(d:j<3):(dt n f).set (i*3+j) (J v)=dt n (Go.bm.up f i (o8 j v (f i))):=by
 refine ym (by simp[qA]) λa c ha hc=>?_;rw[lK];by_cases h:i*3+j=a*3+c
 ·have:i=a:=by omega
  have:j=c:=by omega
  subst i;subst j;rw[ag rfl,ag (by rw[qA];omega)];simp only[Go.bm.up,eb];obtain rfl|rfl|rfl:c=0\/c=1\/c=2:=by omega
  all_goals rfl
 ·rw[aj h,tw ha hc]
  by_cases b:a=i
  ·subst b
   simp only[Go.bm.up,eb];obtain rfl|rfl|rfl:c=0\/c=1\/c=2:=by omega
   all_goals (obtain rfl|rfl|rfl:j=0\/j=1\/j=2:=by omega)
   all_goals first|rfl|(exfalso;omega)
  ·simp only[Go.bm.up,aj b]
section
variable {B:Heap}{H:au}{b n i j l:Nat}{f:Nat->N3}
def qW[h:bZ B H b (dt n f).toArray]{g:Int->HP}(hi:i<n)(a:j<3)(t:T B H (g (pj j (f i)))):T B H (bA .i64 ⟨b,i*3+j,none⟩ g):=bg (by rw[dE];exact tw hi a) t
def oJ{H':aw->au}[h:fT H b (dt n f).toArray H']{v:Int}{k:HP}(hi:i<n)(a:j<3)(t:T B (H' (dt n (Go.bm.up f i (o8 j v (f i)))).toArray) k):T B H (st ⟨b,i*3+j,none⟩ (J v) k):=by apply eE (by rw[hP,qA];omega) rfl;rw[jK,tx hi a];exact t
def uo[h:bZ B H b (dt n f).toArray]{g:Int->HP}{m:Int}(i:Nat)(hm:m=(i:Int))(hl:i<l)(hi:i<n)(a:j<3)(t:T B H (g (pj j (f i)))):T B H (gA (some ⟨b,0,none⟩) l m 3 j g):=by subst hm;unfold gA;rw[cR];refine ba ⟨by omega,by omega⟩ ?_;rw[aZ,aR,aR,bI];exact qW hi a t
def zE{H':aw->au}[h:fT H b (dt n f).toArray H']{v:Int}{k:HP}{m:Int}(i:Nat)(hm:m=(i:Int))(hl:i<l)(hi:i<n)(a:j<3)(t:T B (H' (dt n (Go.bm.up f i (o8 j v (f i)))).toArray) k):T B H (qi (some ⟨b,0,none⟩) l m 3 j (J v) k):=by subst hm;unfold qi;rw[cR];refine ba ⟨by omega,by omega⟩ ?_;rw[aZ,aR,aR,bI];exact oJ hi a t
def zB{H':aw->au}[h:fT H b (dt n f).toArray H']{x y z:Int}{k:HP}{m:Int}(i:Nat)(hm:m=(i:Int))(hl:i<l)(hi:i<n)(t:T B (H' (dt n (Go.bm.up f i (x,y,z))).toArray) k):T B H (jY (some ⟨b,0,none⟩) l m 3 #[J x,J y,J z] 3 k):=by
 subst hm;unfold jY;rw[cR];refine ba ⟨by omega,by omega⟩ ?_;rw[aZ,aR,bI];refine nH rfl (by rw[hP,qA];omega) (by simp[Value.oneCell']) ?_
 have e:eB (dt n f).toArray (i*3) #[J x,J y,J z].toList=(dt n (Go.bm.up f i (x,y,z))).toArray:=by simp only[eB,jK];show((((dt n f).set (i*3+0) (J x)).set (i*3+1) (J y)).set (i*3+2) (J z)).toArray=_;rw[tx hi (by omega),tx hi (by omega),tx hi (by omega)];congr 2;funext a;simp only[Go.bm.up,o8];split<;>simp
 rw[e];exact t
def JY[h:bZ B H b (dt n f).toArray]{g:aw->HP}{m:Int}(i:Nat)(hm:m=(i:Int))(hl:i<l)(hi:i<n)(t:T B H (g #[J (f i).1,J (f i).2.1,J (f i).2.2])):T B H (dI (some ⟨b,0,none⟩) l m 3 3 g):=by
 subst hm;unfold dI;rw[cR];refine ba ⟨by omega,by omega⟩ ?_;rw[aZ,aR,bI];refine iV #[J (f i).1,J (f i).2.1,J (f i).2.2] rfl (λj a=>?_) t;rw[dE,tw hi a];obtain rfl|rfl|rfl:j=0\/j=1\/j=2:=by omega
 all_goals rfl
end
class Rd (B:Heap) (H:au) (p:av) (ys:outParam az):Prop where rd:bF B H p ys
instance {B:Heap}{H:au}{b:Nat}{cs:aw}[h:bZ B H b cs]:Rd B H (some ⟨b,0,none⟩) cs.toList:=⟨bF.nU λi hi=>by simp⟩
instance (priority:=2000){B:Heap}{H:au}{s l c:Nat}{p:av}{ys:az}:Rd B (ah s p l c ys::H) p ys:=⟨bF.j2⟩
def rT(s:Nat)(p:av)(l:Nat)(xs:az):bc:=eF λc=>ah s p l c xs
def Yp{B:Heap}{H:au}{s l c:Nat}{p:av}{xs:az}{q:HP}(t:T B (rT s p l xs::H) q):T B (ah s p l c xs::H) q:=gI (q:=λc=>ah s p l c xs) c t
instance (priority:=2000){B:Heap}{H:au}{s l:Nat}{p:av}{ys:az}:Rd B (rT s p l ys::H) p ys:=⟨by intro σ o;obtain⟨ch,⟨l1,l2,a,⟨c,h1⟩,b⟩,d⟩:=o.own;exact bF.j2 σ ⟨o.base,o.size,ch,⟨l1,l2,a,h1,b⟩,d⟩⟩
instance (priority:=500){B:Heap}{H:au}{q:bc}{p:av}{ys:az}[h:Rd B H p ys]:Rd B (q::H) p ys:=⟨h.rd.tail⟩
section
variable {B:Heap}{H:au}{p:av}{ys:az}{l i s j:Nat}{n:Int}
def fA{zs:aN}[h:Rd B H p (iv .i64 zs)]{x:Int}{f:Int->HP}(i:Nat)(a:n=(i:Int))(hl:i<l)(hc:zs[i]?=some x)(t:T B H (f x)):T B H (fs p l n f):=DY h.rd a hl (mP hc) t
def mF[h:Rd B H p ys]{x:Int}{f:Int->HP}(i:Nat)(a:n=(i:Int))(hl:i<l)(hc:ys[i*s+j]?=some (.int .i64 x))(t:T B H (f x)):T B H (gA p l n s j f):=Kk h.rd a hl hc t
def DL[h:Rd B H p ys]{ds:aw}{k:aw->HP}(i:Nat)(a:n=(i:Int))(hl:i<l)(hs:0<s)(hd:ds.size=s)(b:i*s+s<=ys.length)(hc:∀j,j<s->ys[i*s+j]?=ds[j]?)(t:T B H (k ds)):T B H (dI p l n s s k):=by subst a;refine oI h.rd (by omega) λx c=>ba ⟨by omega,by omega⟩ ?_;subst c;rw[aZ];exact DW h.rd ds hd b hc t
def eD{α:Type}{f:α->az}{rs:List α}[h:Rd B H p (rs.flatMap f)](hf:∀a,(f a).length=s)(hs:0<s){k:aw->HP}(i:Nat)(b:n=(i:Int))(hl:i<l){a:α}(ha:rs[i]?=some a)(t:T B H (k (f a).toArray)):T B H (dI p l n s s k):=by
 have hi:i<rs.length:=(bY.1 ha).1;have hm:i*s+s<=rs.length*s:=by rw[<-pK];exact jk s hi
 refine DL i b hl hs (by simp[hf]) (by rw[dj hf];exact hm) (λj c=>?_) t;rw[ht hf rs i a ha j c];simp
def zC{b o:Nat}{cs:aw}{H':aw->au}[h:fT H b cs H']{v:Value}[a:kU v]{k:HP}(i:Nat)(c:n=(i:Int))(hl:i<l)(d:o+i<cs.size)(t:T B (H' (cs.setIfInBounds (o+i) v)) k):T B H (oW (some ⟨b,o,none⟩) l n v k):=oG c hl d a.one t
def zD{b:Nat}{zs:aN}{H':aw->au}[h:fT H b (iv .i64 zs).toArray H']{x:Int}{k:HP}(i:Nat)(a:n=(i:Int))(hl:i<l)(c:i<zs.length)(t:T B (H' (iv .i64 (zs.set i x)).toArray) k):T B H (oW (some ⟨b,0,none⟩) l n (J x) k):=by
 apply zC i a hl (by simpa using c);have e:(iv .i64 zs).toArray.setIfInBounds (0+i) (J x)=(iv .i64 (zs.set i x)).toArray:=by simp[iv,jj]
 rw[e];exact t
def jP{b:Nat}{cs ds:aw}{P:HP}(e:cs=ds)(t:T B (cl b ds::H) P):T B (cl b cs::H) P:=e▸t
def xU{q:av}{c:Nat}{xs:az}{P:HP}(t:xs.length=l*s->l<=c->T B (ah s q l c xs::H) P):T B (ah s q l c xs::H) P:=by
 intro σ o
 have a:xs.length=l*s/\l<=c:=by obtain⟨ch,⟨l1,l2,d,⟨a,b,h⟩,e⟩,f,hc⟩:=o.own;exact⟨a,b⟩
 exact t a.1 a.2 σ o
def rG{q:av}{c m:Nat}{xs:az}{P:HP}(hm:m<=l)(t:T B (ah s q m c (xs.take (m*s))::H) P):T B (ah s q l c xs::H) P:=by
 refine zA (λch h=>?_) t;obtain⟨a,d,h⟩:=h;have h1:m*s<=l*s:=jk s hm;refine⟨by rw[fv,a];omega,by omega,?_⟩;rcases h with⟨rfl,rfl,rfl⟩|⟨b,rest,rfl,hl,hc⟩
 ·exact .inl ⟨rfl,rfl,rfl⟩
 ·refine .inr ⟨b,xs.drop (m*s)++rest,rfl,?_,?_⟩
  ·rw[<-el,kd];exact hl
  ·rw[<-el,kd];exact hc
end
def BU{α:Type}{f:α->az}{s:Nat}(hf:∀a,(f a).length=s):∀{l:List α} {i j:Nat} {a a':α} {v:Value},l[i]?=some a->j<s->(f a).set j v=f a'->(l.flatMap f).set (i*s+j) v=(l.set i a').flatMap f
 |[],i,j,a,a',v,h,_,_=>by simp at h
 |x::l,0,j,a,a',v,h,b,e=>by simp at h;subst h;simp only[gw,jL,ua,bI];rw[pH _ _ (by rw[hf];exact b),e]
 |x::l,i+1,j,a,a',v,h,b,e=>by simp only[gw,iO];have c:=hf x;rw[pI _ _ (by rw[c,gd];omega),c,show(i+1)*s+j-s=i*s+j by rw[gd];omega,BU hf (by simpa using h) b e]
section
variable {B:Heap}{H:au}{α:Type}{g:α->az}{rs:List α}{a a':α}{b i j s l:Nat}{n:Int}
def vD(hf:∀a,(g a).length=s)(ha:rs[i]?=some a)(b:j<s){v:Value}(c:(g a)[j]?=some v):(rs.flatMap g).toArray[i*s+j]?=some v:=by rw[dE,ht hf rs i a ha j b];exact c
def Km{H':aw->au}[h:fT H b (rs.flatMap g).toArray H']{v:Value}{k:HP}(hf:∀a,(g a).length=s)(ha:rs[i]?=some a)(c:j<s)(d:v.oneCell'=true)(e:(g a).set j v=g a')(t:T B (H' ((rs.set i a').flatMap g).toArray) k):T B H (st ⟨b,i*s+j,none⟩ v k):=by
 have hi:i<rs.length:=(bY.1 ha).1;have hm:i*s+s<=rs.length*s:=by rw[<-pK];exact jk s hi
 apply eE (by rw[hP,dj hf];omega) d;rw[jK,BU hf ha c e];exact t
def oE[h:bZ B H b (rs.flatMap g).toArray]{x:Int}{f:Int->HP}(hf:∀a,(g a).length=s)(ha:rs[i]?=some a)(c:j<s)(d:(g a)[j]?=some (J x))(t:T B H (f x)):T B H (cx (some ⟨b,i*s,none⟩) j f):=by unfold cx;rw[cR,aR];exact bg (vD hf ha c d) t
def qV[h:bZ B H b (rs.flatMap g).toArray]{x:Int}{f:Int->HP}(hf:∀a,(g a).length=s)(ha:rs[i]?=some a)(c:j<s)(d:(g a)[j]?=some (J x))(t:T B H (f x)):T B H (bA .i64 (Addr.add ⟨b,i*s,none⟩ j) f):=by rw[aR];exact bg (vD hf ha c d) t
def wJ[h:bZ B H b (rs.flatMap g).toArray]{x:av}{f:av->HP}(hf:∀a,(g a).length=s)(ha:rs[i]?=some a)(c:j<s)(d:(g a)[j]?=some (.pointer x))(t:T B H (f x)):T B H (bb (some ⟨b,i*s,none⟩) j f):=by unfold bb;rw[cR,aR];exact iX (vD hf ha c d) t
def nG{H':aw->au}[h:fT H b (rs.flatMap g).toArray H']{v:Value}{k:HP}(hf:∀a,(g a).length=s)(ha:rs[i]?=some a)(c:j<s)(d:v.oneCell'=true)(e:(g a).set j v=g a')(t:T B (H' ((rs.set i a').flatMap g).toArray) k):T B H (cJ (some ⟨b,i*s,none⟩) j v k):=by unfold cJ;rw[cR,aR];exact Km hf ha c d e t
def DN[h:bZ B H b (rs.flatMap g).toArray]{x:Int}{f:Int->HP}(hf:∀a,(g a).length=s)(i:Nat)(c:n=(i:Int))(hl:i<l)(ha:rs[i]?=some a)(d:j<s)(e:(g a)[j]?=some (J x))(t:T B H (f x)):T B H (gA (some ⟨b,0,none⟩) l n s j f):=by subst c;unfold gA;rw[cR];refine ba ⟨by omega,by omega⟩ ?_;rw[aZ,aR,aR,bI];exact bg (vD hf ha d e) t
end
class fG (P:Program) (t:TypeId) (s:outParam Nat):Prop where
 ty:∃e,P.underlying t=some (.slice e)/\(P.info? e).isSome=true/\hO P e=true/\P.cellsOf e=s/\P.bytesOf e<=4096/\1<=P.bytesOf e/\(zc P e).size=s
theorem fG.of{P:Program}{t e s:Nat}(h:(match P.underlying t with|some (.slice e)=>(P.info? e).isSome&&hO P e&&Nat.beq (P.cellsOf e) s&&Nat.ble (P.bytesOf e) 4096&&Nat.ble 1 (P.bytesOf e)&&Nat.beq (zc P e).size s|_=>false)=true):fG P t s:=by
 split at h
 ·rename_i e hu
  simp only[cg,Nat.ble_eq]at h;exact⟨e,hu,h.1.1.1.1.1,h.1.1.1.1.2,lM h.1.1.1.2,h.1.1.2,h.1.2,lM h.2⟩
 ·cases h
section
variable {P:Program}{B:Heap}{H H0:au}{t s l c m d:Nat}{p q:av}{xs ys:az}{f:av->Nat->Nat->HP}
def oB[hs:fG P t s][h:Ow H (ah s p l c) xs H0][hr:Rd B H q ys][b:kj ys.toArray](hl:l+m<1000000000)(hm:ys.length=m*s)(k:∀a c',T B (ah s a (l+m) c' (xs++ys)::H0) (f a (l+m) c')):T B H (cC P #[t,t] p l c q m d f):=by
 obtain⟨e,h1,g,i,j,n,o,r⟩:=hs.ty;have u:=hr.rd.perm h.pl.perm.symm;refine bf h.pl (KQ rfl rfl h1 ?_ g i j ?_ o r u hm b.one k)
 ·show nm P t=true
  unfold nm;rw[h1]
 ·exact lN (Nat.mul_le_mul_left _ n) (by omega)
def eZ[hs:fG P t s][h:Ow H (ah s p l c) xs H0]{b:Nat}{cs:aw}[g:bZ B H b cs][e:kj cs](hm:cs.size=s)(hl:l<999999999)(k:∀a c',T B (ah s a (l+1) c' (xs++cs.toList)::H0) (f a (l+1) c')):T B H (cC P #[t,t] p l c (some ⟨b,0,none⟩) 1 d f):=@oB P B H H0 t s l c 1 d p _ xs cs.toList f hs h _ (by simpa using e) (by omega) (by simpa using hm) k
end
end Go.XS
namespace Go.XS
def Ku{P:Program}{B:Heap}{H:au}{a:FuncId}{first captured:aw}{args:az}{K:aK}(b:fW P a=true)(t:T B H (ad P a (first.toList++args++captured.toList).toArray K)):T B H (lG P (.func (.func a) first captured) args K):=by simp only[lG];exact lR b t
def nJ{P:Program}{B:Heap}{H:au}{a:FuncId}{args:az}{K:aK}(b:fW P a=true)(t:T B H (ad P a args.toArray K)):T B H (lG P (.func (.func a) #[] #[]) args K):=Ku b (by simpa using t)
end Go.XS
namespace Go.Proofs.YtlmgompopkamfaaGreatDoor
section
open Go.XS
noncomputable abbrev P:Program:=Tryz.prog
def pX(fn:Func):Code:=fn.body.getD .skip
def countB:(Tryz.funcs.all λfn=>!(fn.name== "runtime.NumGoroutine"))=true:=by kernel_rfl
def vb:ki P:=by intro f fn h;have h1:=Array.all_eq_true_iff_forall_mem.1 countB fn (oi h);simpa using h1
def G2(hs:Hints)(fn:Func)(k:Nat):Bool:=fn.body.isSome&&codeOk hs fn.ntmps (pX fn)&&Nat.ble k fn.ntmps
def G3(hs:Hints)(fn:Func)(k:Nat):Bool:=fn.body.isSome&&oS hs fn.ntmps (pX fn)&&Nat.ble k fn.ntmps
def IG:P.follows .mixedOrders=true:=by kernel_rfl
def ao(hs:Hints){f:FuncId}{fn:Func}{args:az}{K:aK}{σ:Heap}{G:HP}(hf:P.funcs[f]?=some fn)(h:G σ)(aM:G2 hs fn args.length=true:=by kernel_rfl)(he:G=x P hs (pX fn) 0 (mH args 0) (BP P fn.results.toList K):=by kernel_rfl):ad P f args.toArray K σ:=by
 simp only[G2,cg]at aM;obtain⟨c,hc⟩:=h9.1 aM.1.1;have a:pX fn=c:=by simp[pX,hc]
 rw[a]at aM he;exact LN vb IG hf hc aM.1.2 (wq aM.2) (he▸h)
def mX(hs:Hints){f:FuncId}{fn:Func}{args:az}{K:aK}{σ:Heap}{G:HP}(hf:P.funcs[f]?=some fn)(h:G σ)(aM:G3 hs fn args.length=true:=by kernel_rfl)(he:G=x1 P hs (pX fn) 0 (mH args 0) [] (BQ P fn.results.toList K):=by kernel_rfl):ad P f args.toArray K σ:=by
 simp only[G3,cg]at aM;obtain⟨c,hc⟩:=h9.1 aM.1.1;have a:pX fn=c:=by simp[pX,hc]
 rw[a]at aM he;exact LO vb IG hf hc aM.1.2 (wq aM.2) (he▸h)
abbrev cK(n:Int)(k:Nat)(q:HP):HP:=aP (0<=n/\n<(k:Int)) q
abbrev aB(b n:Nat)(f:aw->HP):HP:=eQ (ai b 0) n f
abbrev aA(b:Nat)(cs:aw)(n:Nat)(q:HP):HP:=gW (ai b 0) cs n q
abbrev aC(b i:Nat)(f:Int->HP):HP:=bA .i64 (ai b i) f
abbrev ab(a:av):Value:= .pointer a
abbrev aG:Value:= .slice none 0 0
abbrev bT:Value:= .string ⟨#[]⟩
abbrev aq(a:aw):Value:= .tuple a
abbrev aY(a:Addr)(v:Value)(q:HP):HP:=c7 (λσ=>b0 σ a=some v) q
def h0:Hints:=⟨[],[],[],[]⟩
def sp(l:List Nat)(k:fy):fy:=l.foldr (λi k=> .step i .pure k) k
abbrev bH(g:Nat)(a:aw)(f:aw->HP):HP:=ad P g a λv=>gi v f
abbrev aS(g:Nat)(a:aw)(f:Bool->HP):HP:=ad P g a λv=>dq v f
abbrev aV(g:Nat)(a:aw)(f:Int->HP):HP:=ad P g a λv=>db .i64 v f
abbrev sF(g:Nat)(a:aw)(f:Option Nat->HP):HP:=ad P g a λv=>uz v f
abbrev di(g:Nat)(a:aw)(f:av->HP):HP:=ad P g a λv=>iA v f
abbrev b2(g:Nat)(a:aw)(f:av->Nat->Nat->HP):HP:=ad P g a λv=>i1 v f
abbrev iD(g:Nat)(a:aw)(f:ByteArray->HP):HP:=ad P g a λv=>mI v f
abbrev ce(g:Nat)(a:aw)(f:HP):HP:=ad P g a λv=>ex v f
abbrev EE(g:Nat)(a:aw)(f:aw->aw->HP):HP:=ad P g a λv=>Fb v f
abbrev mJ(g:Nat)(a:aw)(f:aw->Bool->HP):HP:=ad P g a λv=>uL v f
abbrev fC(g:Nat)(a:aw)(f:aw->Int->HP):HP:=ad P g a λv=>xa v f
abbrev EF(g:Nat)(a:aw)(f:aw->Int->Int->Int->HP):HP:=ad P g a λv=>Fc v f
abbrev EG(g:Nat)(a:aw)(f:aw->aK):HP:=ad P g a λv=>Fe v f
abbrev EH(g:Nat)(a:aw)(f:Bool->Int->HP):HP:=ad P g a λv=>Ff v f
abbrev gk(g:Nat)(a:aw)(f:Int->Bool->HP):HP:=ad P g a λv=>sN v f
abbrev c4(g:Nat)(a:aw)(f:Int->Int->HP):HP:=ad P g a λv=>Fg v f
abbrev k0(g:Nat)(a:aw)(f:Int->Int->Bool->HP):HP:=ad P g a λv=>Fh v f
abbrev pZ(g:Nat)(a:aw)(f:Int->Int->Int->HP):HP:=ad P g a λv=>Fi v f
abbrev z'(g:Nat)(a:aw)(f:Int->Int->Int->Int->Bool->HP):HP:=ad P g a λv=>Fj v f
abbrev i'(g:Nat)(a:aw)(f:av->Int->HP):HP:=ad P g a λv=>Fk v f
abbrev sD(g:Nat)(a:aw)(f:av->Nat->Nat->Bool->HP):HP:=ad P g a λv=>Fl v f
abbrev uH(g:Nat)(a:aw)(f:av->Nat->Nat->Int->HP):HP:=ad P g a λv=>Fm v f
abbrev EI(g:Nat)(a:aw)(f:av->Nat->Nat->Int->Int->HP):HP:=ad P g a λv=>Fp v f
abbrev Tc(g:Nat)(a:aw)(f:ByteArray->Bool->HP):HP:=ad P g a λv=>Ua v f
abbrev w4(g:Nat)(a:aw)(f:ByteArray->Int->HP):HP:=ad P g a λv=>Fq v f
abbrev EJ(g:Nat)(a:aw)(f:ByteArray->ByteArray->Bool->HP):HP:=ad P g a λv=>Fs v f
end
open Go.XS
open IntKind (wrap)
open Tryz
variable {K:aK}{σ:Heap}
variable (p0:av)(l0:Nat)(c0:Nat)(n0:Int)(bd:aw)(s0:ByteArray)(g0:Nat)(uF:aw)(m0:Option Nat)(p1:av)(l1:Nat)(c1:Nat)(cE:aw)(n2:Int)
def SK(h:(al bd 23 λa=>aB a 4 λb=>aS 5 #[.agg b,.slice p1 l1 c1,J 60] (λb=>ae (!b) (aS 6 #[] (λa=>K (.bool a))) (aB a 4 λa=>ad P 7 #[.agg a,.slice p1 l1 c1] λa b=>∃c d,(a=Value.tuple #[ab c,.bool d])/\((ae (!d) (aS 6 #[] (λa=>K (.bool a))) (ay c λa=>bq (a.add 0) λa=>bH 8 #[ab a] (λa=>al (#[J 0,aG,aG,aG,aG,aG]) 36 λb=>aA b a 6 (bz (λa d e=>∀f g h i,(a=[.slice f g h,J i])->((a8 (Addr.add (ai b 0) 5) λ_ a _=>ae (decide (i<a)) (bz (λa e j=>∀k l,(a=[.string k,J l])->((a8 (Addr.add (ai b 0) 5) λa j _=>ay a λa=>cK i j (bA .i64 (Addr.add (Addr.add a (Int.toNat i*5)) 4) λa=>ae (decide (l<a)) (aP ((8:Int)≠(0:Int)) (aP ((8:Int)≠(0:Int)) (aP ((0<=wrap .i64 (Int.tmod i (8:Int)+(1:Int)))/\(wrap .i64 (Int.tmod i (8:Int)+(1:Int))<=(↑(ByteArray.size ⟨#[(97:UInt8),(98:UInt8),(99:UInt8),(100:UInt8),(101:UInt8),(102:UInt8),(103:UInt8),(104:UInt8)]⟩):Int))) (aP ((0<=Int.tmod i (8:Int))/\(Int.tmod i (8:Int)<=(↑(Int.toNat (wrap .i64 (Int.tmod i (8:Int)+(1:Int)))):Int))) (aH P (do eqGuard .add 9 (Operand.tmp 52) (Operand.tmp 58) (.string k) (.string (ByteArray.extract ⟨#[97,98,99,100,101,102,103,104]⟩ (Int.toNat (Int.tmod i 8)) (Int.toNat (wrap .i64 (Int.tmod i 8+1)))));binOp .add 9 (.string k) (.string (ByteArray.extract ⟨#[97,98,99,100,101,102,103,104]⟩ (Int.toNat (Int.tmod i 8)) (Int.toNat (wrap .i64 (Int.tmod i 8+1)))))) λa=>mI a λa=>e [.string a,J (wrap .i64 (l+1))]))))) (bu (λa b=>∀c,(a=[ab c])->((ay c λa=>bA .i64 (a.add 0) λa=>ae (a !=0) (ay c λa=>bA .i64 (a.add 0) λa=>ae (a !=8) (K (.bool false)) (ay c λa=>bA .i64 (a.add 0) λa=>al (#[.bool (a==0)]) 4 λa=>cC P (#[60,60]) f g h (some (ai a 0)) 1 1 λa b c=>d [.slice a b c,J (wrap .i64 (i+1))])) (ay c λa=>bA .i64 (a.add 0) λa=>al (#[.bool (a==0)]) 4 λa=>cC P (#[60,60]) f g h (some (ai a 0)) 1 1 λa b c=>d [.slice a b c,J (wrap .i64 (i+1))])) b)) λa=>ay c λc=>bq (c.add 0) λd=>a8 (Addr.add (ai b 0) 5) λe f g=>ay e λh=>cK i f (eQ (Addr.add h (Int.toNat i*5)) 5 λj l=>((aV 15 #[.agg j] (λl=>aY (c.add 0) (ab d) λm=>((bH 14 #[ab d,.agg #[J 10,J l,J 0,J 0,.string k]] (λk=>al (#[J 0,J 0,aG,bT]) 44 λl=>c7 (λa=>∃b,(Value.agg j=Value.agg b)/\((Array.size b=5)/\(∀c,(c<(5:Nat))->(b0 a (Addr.add (Addr.add h (Int.toNat i*5)) c)=b[c]?)))) (aY (Addr.add (ai b 0) 5) (.slice e f g) (aY (c.add 0) (ab d) (aA l k 4 (a [ab (some (ai l 0))])))))) m)/\((al (#[J 0,J 0,aG,bT]) 44 λm=>c7 (λa=>∃b,(Value.agg j=Value.agg b)/\((Array.size b=5)/\(∀c,(c<(5:Nat))->(b0 a (Addr.add (Addr.add h (Int.toNat i*5)) c)=b[c]?)))) (aY (Addr.add (ai b 0) 5) (.slice e f g) (aY (c.add 0) (ab d) (bH 14 #[ab d,.agg #[J 10,J l,J 0,J 0,.string k]] (λb=>aA m b 4 (a [ab (some (ai m 0))])))))) m))) l)/\((al (#[J 0,J 0,aG,bT]) 44 λl=>c7 (λa=>∃b,(Value.agg j=Value.agg b)/\((Array.size b=5)/\(∀c,(c<(5:Nat))->(b0 a (Addr.add (Addr.add h (Int.toNat i*5)) c)=b[c]?)))) (aY (Addr.add (ai b 0) 5) (.slice e f g) (aY (c.add 0) (ab d) (aV 15 #[.agg j] (λb=>aY (c.add 0) (ab d) (bH 14 #[ab d,.agg #[J 10,J b,J 0,J 0,.string k]] (λb=>aA l b 4 (a [ab (some (ai l 0))])))))))) l))))) j)) [bT,J 0]) (bz (λa d e=>∀h,(a=[J h])->((a8 (Addr.add (ai b 0) 5) λ_ a _=>ae (decide (h<a)) (bu (λa c=>∀e,(a=[ab e])->((bu (λa b=>(a=[])->((bz (λa b c=>∀i,(a=[J i])->((bu (λa c=>(a=[])->((ay e λa=>aP ((8:Int)≠(0:Int)) (aP ((0<=Int.tmod h (8:Int))/\(Int.tmod h (8:Int)<(↑(ByteArray.size ⟨#[(97:UInt8),(98:UInt8),(99:UInt8),(100:UInt8),(101:UInt8),(102:UInt8),(103:UInt8),(104:UInt8)]⟩):Int))) (hB (a.add 3) λa=>aP ((0<=i)/\(i<(↑(ByteArray.size a):Int))) (ae (gv a i !=gv ⟨#[97,98,99,100,101,102,103,104]⟩ (Int.tmod h 8)) (K (.bool false)) (b [J (wrap .i64 (i+1))]))))) c)) λa=>ay f λb=>cK h g (gB (Addr.add b h.toNat) λb=>ae b (ay e λb=>hB (b.add 3) λb=>ae (decide (i<(↑(ByteArray.size b):Int))) (a []) (d [J (wrap .i64 (h+1))])) (d [J (wrap .i64 (h+1))]))) c)) [J 0]) b)) λa=>ay e λc=>bA .i64 (c.add 0) λc=>ae (c !=0) (K (.bool false)) (ay e λc=>hB (c.add 3) λc=>a8 (Addr.add (ai b 0) 5) λb d _=>ay b λb=>cK h d (bA .i64 (Addr.add (Addr.add b (Int.toNat h*5)) 4) λb=>ae ((↑(ByteArray.size c):Int)!=b) (K (.bool false)) (a [])))) c)) λa=>ay c λc=>bq (c.add 0) λd=>a8 (Addr.add (ai b 0) 5) λe f g=>ay e λi=>cK h f (eQ (Addr.add i (Int.toNat h*5)) 5 λj=>a8 (Addr.add (ai b 0) 5) λk l m=>ay k λn=>cK h l (bA .i64 (Addr.add (Addr.add n (Int.toNat h*5)) 4) λo p=>((aV 15 #[.agg j] (λp=>c7 (λa=>b0 a (Addr.add (Addr.add n (Int.toNat h*5)) 4)=some (J o)) (aY (Addr.add (ai b 0) 5) (.slice k l m) (aY (c.add 0) (ab d) λq=>((ad P 14 (#[ab d,.agg #[J 11,J p,J 0,J o,bT]]) λp=>gi p λp=>al (#[J 0,J 0,aG,bT]) 44 λq=>c7 (λa=>b0 a (Addr.add (Addr.add n (Int.toNat h*5)) 4)=some (J o)) (aY (Addr.add (ai b 0) 5) (.slice k l m) (c7 (λa=>∃b,(Value.agg j=Value.agg b)/\((Array.size b=5)/\(∀c,(c<(5:Nat))->(b0 a (Addr.add (Addr.add i (Int.toNat h*5)) c)=b[c]?)))) (aY (Addr.add (ai b 0) 5) (.slice e f g) (aY (c.add 0) (ab d) (aA q p 4 (a [ab (some (ai q 0))]))))))) q)/\((al (#[J 0,J 0,aG,bT]) 44 λq=>c7 (λa=>b0 a (Addr.add (Addr.add n (Int.toNat h*5)) 4)=some (J o)) (aY (Addr.add (ai b 0) 5) (.slice k l m) (c7 (λa=>∃b,(Value.agg j=Value.agg b)/\((Array.size b=5)/\(∀c,(c<(5:Nat))->(b0 a (Addr.add (Addr.add i (Int.toNat h*5)) c)=b[c]?)))) (aY (Addr.add (ai b 0) 5) (.slice e f g) (aY (c.add 0) (ab d) (ad P 14 (#[ab d,.agg #[J 11,J p,J 0,J o,bT]]) λb=>gi b λb=>aA q b 4 (a [ab (some (ai q 0))]))))))) q))))) p)/\((al (#[J 0,J 0,aG,bT]) 44 λp=>c7 (λa=>b0 a (Addr.add (Addr.add n (Int.toNat h*5)) 4)=some (J o)) (aY (Addr.add (ai b 0) 5) (.slice k l m) (c7 (λa=>∃b,(Value.agg j=Value.agg b)/\((Array.size b=5)/\(∀c,(c<(5:Nat))->(b0 a (Addr.add (Addr.add i (Int.toNat h*5)) c)=b[c]?)))) (aY (Addr.add (ai b 0) 5) (.slice e f g) (aY (c.add 0) (ab d) (aV 15 #[.agg j] (λe=>c7 (λa=>b0 a (Addr.add (Addr.add n (Int.toNat h*5)) 4)=some (J o)) (aY (Addr.add (ai b 0) 5) (.slice k l m) (aY (c.add 0) (ab d) (ad P 14 (#[ab d,.agg #[J 11,J e,J 0,J o,bT]]) λb=>gi b λb=>aA p b 4 (a [ab (some (ai p 0))]))))))))))) p)))) (aS 6 #[] (λa=>K (.bool a)))) e)) [J 0])) e)) [aG,J 0])))) b)))) σ):ad P 4 #[.agg bd,.slice p1 l1 c1] K σ:=ao ⟨[(16,[0,1,3,7,0,16,0,112,240,496,0,2032,4095,0,16383],(sp [0,1,2,4,6,10] (.l 3 (.l 5 (sp [7] (.l 8 (.fork 9 [3] (sp [11] (.fork 12 [] (.s 13 (.ax [8,5,3]) (.s 14 (.ax []) .d)) 13 [8,5,3] (.s 12 (.ax []) (.s 14 (.ax []) .d)))) 13 [8,5,3] (.s 9 (.ax [3]) (sp [11] (.s 12 (.ax []) (.s 14 (.ax []) .d))))))))))),(23,[0,1,3,7,0,16,0,112,240,496,0,1024,0,7168,15360,31744,65520,131071,0,524287],(sp [0,1,2,4,6,10,12] (.l 3 (.l 5 (sp [7] (.l 8 (.l 11 (sp [13,14] (.l 15 (.fork 9 [15,11,3] (sp [16] (.fork 17 [] (.s 18 (.ax [15,11,8,5,3]) (.s 19 (.ax []) .d)) 18 [15,11,8,5,3] (.s 17 (.ax []) (.s 19 (.ax []) .d)))) 18 [15,11,8,5,3] (.s 9 (.ax [15,11,3]) (sp [16] (.s 17 (.ax []) (.s 19 (.ax []) .d)))))))))))))),(24,[0,1,3,7,15,31,63,15,143,15,911,1935,3983,8191,16383],(sp [0] (.l 1 (sp [2,3,4,7,9] (.l 5 (sp [6] (.l 8 (sp [10,11] (.l 12 (sp [13,14] (.d))))))))))),(29,[0,1,0,7,0,16,48,127],(sp [0,2,4,5,6] (.l 1 (sp [3,7] (.d)))))],[(1,[(8,.slice),(9,.int .i64)]),(3,[(10,.str),(11,.int .i64)]),(5,[(13,.int .i64)]),(7,[(15,.int .i64)])],[(100016,[(12,.ptr)]),(100023,[(14,.ptr)]),(24,[]),(27,[])],[]⟩ func4 h
def SN(h:(al bd 23 λa=>bu (jn (bz (dr λa b=>ae (decide (a<l1)) (F2 p1 l1 a 6 4 λc=>ae (decide ((↑(ByteArray.size c):Int)>9000)) (K (.bool false)) (b [J (wrap .i64 (a+1))])) (K (.bool true))) [J 0])) λb=>ae (decide ((↑l1:Int)>n2)) (K (.bool false)) (aB a 4 λa=>aV 16 #[.agg a] λa=>ae (a==0) (K (.bool false)) (b []))) σ):ad P 5 #[.agg bd,.slice p1 l1 c1,J n2] K σ:=ao ⟨[],[(1,[(7,.int .i64)])],[(1,[])],[]⟩ func5 h
def SO(h:(EE 17 #[.string (ByteArray.mk (List.toArray (List.append [109,97,110,111,114,32,51,32,54,52,32,49,32,48,10,114,101,103,105,115,116,101,114,32,50,10,114,101,103,105,115,116,101,114,32,51,10,97,115,107,32,35,49,32,50,10,97,115,107,32,35,50,32,51,10,116,105,99,107,10] [114,111,111,116,32,35,49,10,108,97,121,32,35,54,32,54,52,32,49,10,102,114,101,101,32,35,54,10,103,105,118,101,32,35,49,32,49,10,116,105,99,107,10,116,105,99,107,10,115,116,97,116,101,32,35,50,32,35,52,10])))] λa b=>al #[bT,J 0,J 0,J 0,J 0,.bool false,.bool false,J 0] 67 λc=>al #[J 0,J 0] 69 λd=>aA c a 8 (aA d b 2 (aC d 0 λa=>ae (a==0) (aC c 2 λa=>ae (a==2) (aC c 3 λa=>ae (a==0) (aC c 4 λa=>ae (a==0) (gB (ai c 5) λa=>ae a (gB (ai c 6) λa=>ae a (aC c 7 λa=>K (.bool (a==0))) (K (.bool false))) (K (.bool false))) (K (.bool false))) (K (.bool false))) (K (.bool false))) (K (.bool false))))) σ):ad P 6 #[] K σ:=ao h0 func6 h
def SL(h:(al bd 23 λa=>aB a 4 λa=>i' 18 #[.agg a] λa b=>bu (jn (al #[ab a,aG,aG,aG] 40 λa=>bz (dr λb c=>ae (decide (b<l1)) (dI p1 l1 b 6 6 λd=>bH 9 #[ab (some (ai a 0)),.agg d] λ_=>c [J (wrap .i64 (b+1))]) (K (aq #[ab (some (ai a 0)),.bool true]))) [J 0])) λc=>ae (b !=0) (al #[ab none,aG,aG,aG] 40 λa=>K (aq #[ab (some (ai a 0)),.bool false])) (ae (Option.isNone a) (al #[ab none,aG,aG,aG] 40 λa=>K (aq #[ab (some (ai a 0)),.bool false])) (c []))) σ):ad P 7 #[.agg bd,.slice p1 l1 c1] K σ:=ao ⟨[],[(1,[(9,.int .i64)])],[(2,[])],[]⟩ func7 h
def Oh(h:(al #[J 0,aG,aG,aG,aG,aG] 36 λa=>ae (Option.isNone p0) (aA a #[J 0,aG,aG,aG,aG,aG] 6 (aB a 6 λa=>K (.agg a))) (bb p0 4 λb=>bH 19 #[ab b] λb=>al #[J 0,aG,aG,aG,aG,aG] 36 λc=>aA c b 6 (bb p0 6 λb=>b2 20 #[ab b] λb d e=>st (ai c 5) (.slice b d e) (aB c 6 λb=>aA a b 6 (aB a 6 λa=>K (.agg a)))))) σ):ad P 8 #[ab p0] K σ:=ao h0 func8 h
def SJ(h:(al cE 49 λa=>al #[J 0,J 0,aG,bT] 44 λb=>bu (nP λa=>bu (nP λc=>bu (jn (bu (jn (bu (iH λd=>ae d (ay p0 λd=>ay a λa=>ay c λe=>a8 (d.add 3) λf g h=>bA .i64 (a.add 1) λa=>bA .i64 (e.add 1) λe=>aP (Array.size (List.toArray (cV [J a,J 0] (1*1) [J e]))=2) (al #[J a,J e] 81 λa=>aY (d.add 3) (.slice f g h) (cC P #[38,38] f g h (some (ai a 0)) 1 1 λa d e=>cJ p0 3 (.slice a d e) (jW c 0 4 λa=>aA b a 4 (aB b 4 λa=>K (.agg a)))))) (jW c 0 4 λa=>aA b a 4 (aB b 4 λa=>K (.agg a)))) λb=>cx c 0 λc=>ae (c==0) (cx a 0 λa=>b [.bool (a==5)]) (b [.bool false]))) λb=>bu (iH λa=>ae a (ay p0 λa=>ay c λc=>a8 (a.add 2) λd e f=>bA .i64 (c.add 1) λc=>al #[J c] 3 λc=>aY (a.add 2) (.slice d e f) (cC P #[31,31] d e f (some (ai c 0)) 1 1 λa c d=>cJ p0 2 (.slice a c d) (b []))) (b [])) λb=>cx c 0 λc=>ae (c==0) (cx a 0 λa=>b [.bool (a==1)]) (b [.bool false]))) λb=>bu (iH λa=>ae a (ay p0 λa=>ay c λc=>a8 (a.add 1) λd e f=>bA .i64 (c.add 1) λc=>al #[J c] 3 λc=>aY (a.add 1) (.slice d e f) (cC P #[31,31] d e f (some (ai c 0)) 1 1 λa c d=>cJ p0 1 (.slice a c d) (b []))) (b [])) λb=>cx c 1 λc=>ae (decide (c>0)) (cx a 0 λa=>b [.bool (a !=12)]) (b [.bool false])) λb=>ay p0 λc=>bq (c.add 0) λd=>ay a λa=>eQ a 5 λe f=>((bH 14 #[ab d,.agg e] λf=>al #[J 0,J 0,aG,bT] 44 λg=>c7 (λb=>∃c,(Value.agg e=Value.agg c)/\((Array.size c=5)/\(∀d,(d<(5:Nat))->(b0 b (Addr.add a d)=c[d]?)))) (aY (c.add 0) (ab d) (aA g f 4 (b [ab (some (ai g 0))])))) f)/\((al #[J 0,J 0,aG,bT] 44 λf=>c7 (λb=>∃c,(Value.agg e=Value.agg c)/\((Array.size c=5)/\(∀d,(d<(5:Nat))->(b0 b (Addr.add a d)=c[d]?)))) (aY (c.add 0) (ab d) (bH 14 #[ab d,.agg e] λa=>aA f a 4 (b [ab (some (ai f 0))])))) f)) λb=>ay p0 λc=>aB a 6 λd=>a8 (c.add 1) λe f g h=>((bH 21 #[.agg d,.slice e f g] λh=>al #[J 0,J 0,J 0,J 0,bT] 47 λi=>aY (c.add 1) (.slice e f g) (c7 (λb=>∃c,(Value.agg d=Value.agg c)/\((Array.size c=6)/\(∀d,(d<(6:Nat))->(b0 b (Addr.add (ai a 0) d)=c[d]?)))) (aA i h 5 (b [ab (some (ai i 0))])))) h)/\((al #[J 0,J 0,J 0,J 0,bT] 47 λh=>aY (c.add 1) (.slice e f g) (c7 (λb=>∃c,(Value.agg d=Value.agg c)/\((Array.size c=6)/\(∀d,(d<(6:Nat))->(b0 b (Addr.add (ai a 0) d)=c[d]?)))) (bH 21 #[.agg d,.slice e f g] λa=>aA h a 5 (b [ab (some (ai h 0))])))) h)) σ):ad P 9 #[ab p0,.agg cE] K σ:=ao ⟨[(1,[0,0,2,6,14,31,0,127],(sp [1,2,3] (.l 0 (.l 4 (.fork 5 [] (.s 6 (.ax [4,0]) (.s 7 (.ax []) .d)) 6 [4,0] (.s 5 (.ax []) (.s 7 (.ax []) .d))))))),(2,[0,1,3,7,0,31,0,127],(sp [0,1,2] (.l 3 (.l 4 (.fork 5 [] (.s 6 (.ax [4,3]) (.s 7 (.ax []) .d)) 6 [4,3] (.s 5 (.ax []) (.s 7 (.ax []) .d))))))),(4,[0,0,2,6,14,0,32,96,254,511,1023,2047],(sp [0,1,2,3,5] (.l 4 (.l 6 (.s 7 (.ax [4]) (.s 8 (.ax []) (sp [9,10] (.s 11 (.ax []) .d)))))))),(6,[0,0,2,6,14,0,32,96,254,511,1023,2047],(sp [0,1,2,3,5] (.l 4 (.l 6 (.s 7 (.ax [4]) (.s 8 (.ax []) (sp [9,10] (.s 11 (.ax []) .d)))))))),(8,[0,0,2,6,14,0,32,0,128,480,992,2046,4095,8191,16383],(sp [0,1,2,3,5,7] (.l 4 (.l 6 (.l 8 (sp [9] (.s 10 (.ax [4]) (.s 11 (.ax []) (sp [12,13] (.s 14 (.ax []) .d))))))))))],[],[(100001,[(5,.ptr)]),(100002,[(6,.ptr)]),(3,[]),(100003,[(26,.bool)]),(5,[]),(100005,[(45,.bool)]),(100007,[(64,.bool)])],[]⟩ func9 h
def Of(h:(al cE 47 λa=>al #[J 0,J 0,aG,bT] 44 λb=>bu (jn (bu (F6 λc d=>ae (!d) (bH 28 #[J 1] λa=>aA b a 4 (aB b 4 λa=>K (.agg a))) (Aw c 0 λc=>aB a 5 λa=>lG P c [ab p0,.agg a] λa=>gi a λa=>aA b a 4 (aB b 4 λa=>K (.agg a)))) λb=>aC a 0 λc d=>((sF 29 #[] λd=>aY (ai a 0) (J c) λe=>((aH P (Instr.lookup 95 (.map d) (J c) true) λd=>uL d λd e=>al #[.nilFunc] 93 λf=>aY (ai a 0) (J c) (aA f d 1 (b [ab (some (ai f 0)),.bool e]))) e)/\((al #[.nilFunc] 93 λe=>aY (ai a 0) (J c) (aH P (Instr.lookup 95 (.map d) (J c) true) λa=>uL a λa c=>aA e a 1 (b [ab (some (ai e 0)),.bool c]))) e)) d)/\((al #[.nilFunc] 93 λd=>aY (ai a 0) (J c) (sF 29 #[] λe=>aY (ai a 0) (J c) (aH P (Instr.lookup 95 (.map e) (J c) true) λa=>uL a λa c=>aA d a 1 (b [ab (some (ai d 0)),.bool c])))) d))) λa=>ae (Option.isNone p0) (bH 28 #[J 16] λa=>aA b a 4 (aB b 4 λa=>K (.agg a))) (bb p0 4 λc=>ae (Option.isNone c) (bH 28 #[J 16] λa=>aA b a 4 (aB b 4 λa=>K (.agg a))) (a []))) σ):ad P 14 #[ab p0,.agg cE] K σ:=ao ⟨[(3,[0,0,2,7,15,31,31,0,191,511],(sp [1] (.l 2 (.fork 0 [2] (.fork 3 [] (sp [4,5,6] (.s 7 (.ax [2]) (.s 8 (.ax []) (sp [9] .d)))) 7 [2] (.s 3 (.ax []) (sp [4,5,6] (.s 8 (.ax []) (sp [9] .d))))) 7 [2] (.s 0 (.ax [2]) (.s 3 (.ax []) (sp [4,5,6] (.s 8 (.ax []) (sp [9] .d)))))))))],[],[(1,[]),(100003,[(5,.ptr),(6,.bool)])],[]⟩ func14 h
def SM(h:(al bd 62 λa=>aC a 0 λb=>aP (0<=(40:Int)) (aC a 1 λc=>aP (0<=(20:Int)) (aC a 3 λa=>K (J (wrap .i64 (wrap .i64 (wrap .i64 (3458764513820540928+iG .i64 b 40)+iG .i64 c 20)+a)))))) σ):ad P 15 #[.agg bd] K σ:=ao h0 func15 h
def NQ(h:(al bd 23 λa=>aC a 0 λb=>ae (decide (b>12)) (aC a 0 λb=>ae (decide (b<=1048576)) (K (J 0)) (aC a 1 λb=>ae (decide (b>256)) (aC a 1 λa=>ae (decide (a<=1048576)) (K (J 0)) (K (J 1))) (K (J 1)))) (aC a 1 λb=>ae (decide (b>256)) (aC a 1 λa=>ae (decide (a<=1048576)) (K (J 0)) (K (J 1))) (K (J 1)))) σ):ad P 16 #[.agg bd] K σ:=ao h0 func16 h
def PB(h:(al (#[bT,J 0,J 0,J 0,J 0,.bool false,.bool false,J 0]) 67 λa=>al (#[J 0,J 0]) 69 λb=>ad P 30 #[.string s0] λc d=>∃e f,(c=Value.tuple #[.agg e,.agg f])/\((al (#[J 0,J 0,J 0,J 0,aG]) 100 λc=>al (#[J 0,J 0]) 69 λd=>aA c e 5 (aA d f 2 (aB d 2 λe=>aH P (do eqGuard .neq 69 (Operand.tmp 27) (Operand.tmp 28) (.agg e) (.agg (zc P 69));binOp .neq 69 (.agg e) (.agg (zc P 69))) λe=>dq e λe=>ae e (aB d 2 λc=>aA a (#[bT,J 0,J 0,J 0,J 0,.bool false,.bool false,J 0]) 8 (c7 (λa=>∃b,(Value.agg c=Value.agg b)/\((Array.size b=2)/\(∀c,(c<(2:Nat))->(b0 a (Addr.add (ai d 0) c)=b[c]?)))) (aA b c 2 (aB a 8 λa=>aB b 2 λb=>K (aq #[.agg a,.agg b]))))) (eQ (Addr.add (ai c 0) 0) 4 λd=>ad P 18 #[.agg d] λd e=>∃f g,(d=Value.tuple #[ab f,J g])/\((ae (g !=0) (aA a (#[bT,J 0,J 0,J 0,J 0,.bool false,.bool false,J 0]) 8 (aA b (#[J g,J 0]) 2 (aB a 8 λa=>aB b 2 λb=>K (aq #[.agg a,.agg b])))) (al (#[bT,J 0,J 0,J 0,J 0,.bool false,.bool false,J 0]) 105 λd=>al (#[J 0]) 108 λe=>al (#[aG,J 0,J 0,aG,aG,aG,.bool false]) 114 λg=>al (#[.iface 103 (ab (some (ai d 0))),.iface 106 (ab (some (ai e 0))),.iface 109 (ab (some (ai g 0)))]) 117 λd=>bz (λe g h=>∀i,(e=[J i])->((ae (decide (i<3)) (cK i 3 (gN (Addr.add (ai d 0) i.toNat) λa=>ey P (invoke (Target.fn (Fn.method "copyhold/play.ahead") #[]) #[a,ab f]) λa b=>(a=Value.tuple #[])/\((g [J (wrap .i64 (i+1))]) b))) (a8 (Addr.add (ai c 0) 4) λc e _=>bz (λg h i=>∀j k l m n o p,(g=[.slice j k l,.slice m n o,J p])->((ae (decide (p<e)) (ay c λa=>cK p e (eQ (Addr.add a (Int.toNat p*8)) 8 λa=>al (#[J 0,J 0,J 0,J 0,bT,J 0,J 0,J 0]) 122 λb=>aA b a 8 (aB b 8 λa=>bH 31 #[.agg a,.slice m n o] (λa=>al (#[J 0,J 0,J 0,J 0,bT]) 47 λb=>aA b a 5 (aB b 5 λa=>bH 14 #[ab f,.agg a] (λa=>al (#[J 0,J 0,aG,bT]) 44 λc=>aA c a 4 (bu (λa e=>∀g i j k l m,(a=[.slice g i j,.slice k l m])->((bz (λa e n=>∀o,(a=[J o])->((ae (decide (o<3)) (cK o 3 (gN (Addr.add (ai d 0) o.toNat) λa=>aB b 5 λb=>aB c 4 λc=>ey P (invoke (Target.fn (Fn.method "copyhold/play.behind") #[]) #[a,ab f,.agg b,.agg c]) λa b=>(a=Value.tuple #[])/\((e [J (wrap .i64 (o+1))]) b))) (h [.slice g i j,.slice k l m,J (wrap .i64 (p+1))])) n)) [J 0]) e)) λa=>aB c 4 λb=>bA .i64 (Addr.add (ai c 0) 1) λd e=>((aP (Array.size b=4) (al (Array.mk (cV (nj (Array.toList (zc P 44)) 1) (0*4) (Array.toList b))) 44 λe=>aY (Addr.add (ai c 0) 1) (J d) λf=>((cC P (#[119,119]) j k l (some (ai e 0)) 1 1 λe f g=>aY (Addr.add (ai c 0) 1) (J d) (al (#[J d]) 3 λd=>c7 (λa=>∃d,(Value.agg b=Value.agg d)/\((Array.size d=4)/\(∀b,(b<(4:Nat))->(b0 a (Addr.add (ai c 0) b)=d[b]?)))) (cC P (#[31,31]) m n o (some (ai d 0)) 1 1 λb c d=>a [.slice e f g,.slice b c d]))) f)/\((al (#[J d]) 3 λf=>c7 (λa=>∃d,(Value.agg b=Value.agg d)/\((Array.size d=4)/\(∀b,(b<(4:Nat))->(b0 a (Addr.add (ai c 0) b)=d[b]?)))) (cC P (#[119,119]) j k l (some (ai e 0)) 1 1 λb e g=>aY (Addr.add (ai c 0) 1) (J d) (cC P (#[31,31]) m n o (some (ai f 0)) 1 1 λc d f=>a [.slice b e g,.slice c d f]))) f))) e)/\((al (#[J d]) 3 λe=>c7 (λa=>∃d,(Value.agg b=Value.agg d)/\((Array.size d=4)/\(∀b,(b<(4:Nat))->(b0 a (Addr.add (ai c 0) b)=d[b]?)))) (aP (Array.size b=4) (al (Array.mk (cV (nj (Array.toList (zc P 44)) 1) (0*4) (Array.toList b))) 44 λb=>aY (Addr.add (ai c 0) 1) (J d) (cC P (#[119,119]) j k l (some (ai b 0)) 1 1 λb f g=>aY (Addr.add (ai c 0) 1) (J d) (cC P (#[31,31]) m n o (some (ai e 0)) 1 1 λc d e=>a [.slice b f g,.slice c d e]))))) e)))))))) (iD 32 #[.slice j k l] (λc=>al (#[bT,J 0,J 0,J 0,J 0,.bool false,.bool false,J 0]) 67 λe=>aA e (#[.string c,J 0,J 0,J 0,J 0,.bool false,.bool false,J 0]) 8 (bz (λc g h=>∀i,(c=[J i])->((ae (decide (i<3)) (cK i 3 (gN (Addr.add (ai d 0) i.toNat) λa=>ey P (invoke (Target.fn (Fn.method "copyhold/play.end") #[]) #[a,ab f,ab (some (ai e 0))]) λa b=>(a=Value.tuple #[])/\((g [J (wrap .i64 (i+1))]) b))) (aB e 8 λc=>aA a c 8 (aA b (#[J 0,J 0]) 2 (aB a 8 λa=>aB b 2 λb=>K (aq #[.agg a,.agg b]))))) h)) [J 0])))) i)) [aG,aG,J 0])) h)) [J 0])) e))))) d)) σ):ad P 17 #[.string s0] K σ:=ao ⟨[(3,[0,0,1,7],(sp [0] (.l 1 (.s 2 (.ax [1]) (.s 3 (.ax []) .d))))),(20,[0,0,2,7,0,0,32,96,255,511,1023],(sp [0,4,5] (.l 1 (.l 6 (.fork 2 [6] (.fork 3 [6] (.s 7 (.ax [1]) (.s 8 (.ax []) (sp [9,10] (.d)))) 7 [1] (.s 3 (.ax [6]) (.s 8 (.ax []) (sp [9,10] (.d))))) 7 [1] (.s 2 (.ax [6]) (.s 3 (.ax [6]) (.s 8 (.ax []) (sp [9,10] (.d))))))))))],[(1,[(55,.int .i64)]),(3,[(11,.slice),(12,.slice),(66,.int .i64)]),(5,[(87,.int .i64)]),(7,[(103,.int .i64)])],[(100020,[(11,.slice),(12,.slice)])],[]⟩ func17 h
def OD(h:(al bd 23 λa=>aB a 4 λb=>i' 33 #[.agg b] λb c=>ae (c !=0) (K (aq #[ab none,J c])) (aB a 4 λc=>di 34 #[] λd=>c7 (λb=>∃d,(Value.agg c=Value.agg d)/\((Array.size d=4)/\(∀c,(c<(4:Nat))->(b0 b (Addr.add (ai a 0) c)=d[c]?)))) (di 35 #[] λe=>c7 (λb=>∃d,(Value.agg c=Value.agg d)/\((Array.size d=4)/\(∀c,(c<(4:Nat))->(b0 b (Addr.add (ai a 0) c)=d[c]?)))) (aP (Array.size c=4) (al (Array.mk (cV (cV (cV (cV [J 0,J 0,J 0,J 0,ab none,ab none,ab none] 0 (Array.toList c)) 4 [ab b]) 5 [ab d]) 6 [ab e])) 78 λa=>K (aq #[ab (some (ai a 0)),J 0])))))) σ):ad P 18 #[.agg bd] K σ:=ao ⟨[(4,[0,0,0,4,15,31,63,127],(sp [1] (.l 0 (.s 2 (.ax [0]) (.s 3 (.ax [0]) (sp [4] (.s 5 (.ax []) (sp [6,7] (.d)))))))))],[],[],[]⟩ func18 h
def MA(h:(al #[J 0,aG,aG,aG,aG,aG] 36 λa=>aS 36 #[ab p0] λb=>ae (!b) (aA a #[J 0,aG,aG,aG,aG,aG] 6 (aB a 6 λa=>K (.agg a))) (ay p0 λb=>ay p0 λc=>ay p0 λd=>ay p0 λe=>ay p0 λf=>bq (b.add 2) λb=>bq (c.add 1) λg=>bq (d.add 2) λh=>bq (e.add 0) λi=>bq (f.add 3) λj=>aV 37 #[ab b] λb=>aY (f.add 3) (ab j) (aY (e.add 0) (ab i) (aY (d.add 2) (ab h) (aY (c.add 1) (ab g) (b2 38 #[ab g] λc g k=>aY (f.add 3) (ab j) (aY (e.add 0) (ab i) (aY (d.add 2) (ab h) (b2 39 #[ab h] λd h l=>aY (f.add 3) (ab j) (aY (e.add 0) (ab i) (b2 40 #[ab i] λe i m=>aY (f.add 3) (ab j) (b2 41 #[ab j] λf j n=>aA a #[J b,.slice c g k,.slice d h l,.slice e i m,.slice f j n,aG] 6 (aB a 6 λa=>K (.agg a)))))))))))))) σ):ad P 19 #[ab p0] K σ:=ao ⟨[(3,[0,1,3,7,15,0,32,96,224,511,0,1024,3072,7168,16383,0,32768,98304,229376,524287,0,1048576,3145728,7340032,16777215,33554431,67108863],(sp [0,1,2,5,6,7,10,11,12,15,16,17,20,21,22] (.l 3 (.l 8 (.l 13 (.l 18 (.l 23 (.s 4 (.ax [23,18,13,8]) (.s 9 (.ax [23,18,13]) (.s 14 (.ax [23,18]) (.s 19 (.ax [23]) (.s 24 (.ax []) (sp [25] (.s 26 (.ax []) .d))))))))))))))],[],[],[]⟩ func19 h
def N9(h:(aS 42 #[ab p0] λa=>ae (!a) (K aG) (cU p0 0 λa=>ad P 44 #[.map a] λa=>b2 43 #[a] λa b _=>bz (jZ λc d e f g=>ae (decide (f<b)) (fs a b f λa=>b2 45 #[ab p0,J a] λa b h=>cC P #[34,34] c d e a b h λa b c=>g [.slice a b c,J (wrap .i64 (f+1))]) (K (.slice c d e))) [aG,J 0])) σ):ad P 20 #[ab p0] K σ:=ao ⟨[],[(1,[(3,.slice),(16,.int .i64)])],[],[]⟩ func20 h
def NP(h:(al bd 49 λa=>al #[J 0,J 0,J 0,J 0,bT] 47 λb=>aB a 5 λc=>al #[J 0,J 0,J 0,J 0,bT] 47 λd=>aA d c 5 (bu (iH λc=>ae c (aC a 5 λa=>fs p1 l1 (wrap .i64 (a-(1:Int))) λa=>st (ai d 1) (J a) (aB d 5 λa=>aA b a 5 (aB b 5 λa=>K (.agg a)))) (aB d 5 λa=>aA b a 5 (aB b 5 λa=>K (.agg a)))) λb=>aC a 5 λc=>ae (decide (c>0)) (aC a 5 λa=>b [.bool (decide (a<=l1))]) (b [.bool false]))) σ):ad P 21 #[.agg bd,.slice p1 l1 c1] K σ:=ao ⟨[],[],[(100002,[(17,.bool)])],[]⟩ func21 h
def OE(h:(al #[J 0,J 0,aG,bT] 44 λa=>aA a #[J n0,J 0,aG,bT] 4 (aB a 4 λa=>K (.agg a))) σ):ad P 28 #[J n0] K σ:=ao h0 func28 h
def OG(h:(hE λa=>aH P (Instr.mapUpdate 95 (.map (some a)) (J 1) (.agg #[.func (Fn.func 56) #[] #[]])) λ_=>aH P (Instr.mapUpdate 95 (.map (some a)) (J 2) (.agg #[.func (Fn.func 57) #[] #[]])) λ_=>aH P (Instr.mapUpdate 95 (.map (some a)) (J 3) (.agg #[.func (Fn.func 58) #[] #[]])) λ_=>aH P (Instr.mapUpdate 95 (.map (some a)) (J 4) (.agg #[.func (Fn.func 59) #[] #[]])) λ_=>aH P (Instr.mapUpdate 95 (.map (some a)) (J 5) (.agg #[.func (Fn.func 60) #[] #[]])) λ_=>aH P (Instr.mapUpdate 95 (.map (some a)) (J 6) (.agg #[.func (Fn.func 61) #[] #[]])) λ_=>aH P (Instr.mapUpdate 95 (.map (some a)) (J 7) (.agg #[.func (Fn.func 62) #[] #[]])) λ_=>aH P (Instr.mapUpdate 95 (.map (some a)) (J 8) (.agg #[.func (Fn.func 63) #[] #[]])) λ_=>aH P (Instr.mapUpdate 95 (.map (some a)) (J 9) (.agg #[.func (Fn.func 64) #[] #[]])) λ_=>aH P (Instr.mapUpdate 95 (.map (some a)) (J 10) (.agg #[.func (Fn.func 65) #[] #[]])) λ_=>aH P (Instr.mapUpdate 95 (.map (some a)) (J 11) (.agg #[.func (Fn.func 66) #[] #[]])) λ_=>aH P (Instr.mapUpdate 95 (.map (some a)) (J 12) (.agg #[.func (Fn.func 67) #[] #[]])) λ_=>aH P (Instr.mapUpdate 95 (.map (some a)) (J 13) (.agg #[.func (Fn.func 68) #[] #[]])) λ_=>aH P (Instr.mapUpdate 95 (.map (some a)) (J 14) (.agg #[.func (Fn.func 69) #[] #[]])) λ_=>K (.map (some a))) σ):ad P 29 #[] K σ:=ao h0 func29 h
def QA(h:(al #[J 0,J 0,J 0,J 0,aG] 100 λa=>al #[J 0,J 0] 69 λb=>EG 70 #[.string s0] λc d=>al #[J 0,J 0,J 0,J 0,aG] 100 λe=>aA e c 5 (al #[ab none] 172 λc=>aS 71 #[d,.iface 174 (ab (some (ai c 0)))] λd=>ae d (bq (ai c 0) λd=>ay d λe=>eQ e 2 λf=>aA a #[J 0,J 0,J 0,J 0,aG] 5 (c7 (λa=>∃b,(Value.agg f=Value.agg b)/\((Array.size b=2)/\(∀c,(c<(2:Nat))->(b0 a (Addr.add e c)=b[c]?)))) (aY (ai c 0) (ab d) (aA b f 2 (aB a 5 λa=>aB b 2 λb=>K (aq #[.agg a,.agg b])))))) (aB e 5 λc=>aA a c 5 (aA b #[J 0,J 0] 2 (aB a 5 λa=>aB b 2 λb=>K (aq #[.agg a,.agg b])))))) σ):ad P 30 #[.string s0] K σ:=ao ⟨[(4,[0,0,2,6,1,31],(sp [0] (.l 1 (sp [2] (.l 3 (.s 4 (.ax [3,1]) (.s 5 (.ax []) .d)))))))],[],[],[]⟩ func30 h
def QC(h:(al bd 122 λa=>al #[J 0,J 0,J 0,J 0,bT] 47 λb=>aB a 5 λc=>al #[J 0,J 0,J 0,J 0,bT] 47 λd=>aA d c 5 (bz (dr λc e=>ae (decide (c<3)) (cK c 3 (BC #[ab (some (ai d 1)),ab (some (ai d 2)),ab (some (ai d 3))] c.toNat λb=>cK c 3 (bA .i64 (Addr.add (ai a 5) c.toNat) λa=>bu (iH λd=>ae d (fs p1 l1 (wrap .i64 (a-(1:Int))) λa=>cJ b 0 (J a) (e [J (wrap .i64 (c+1))])) (ae (a !=0) (cJ b 0 (J 0) (e [J (wrap .i64 (c+1))])) (e [J (wrap .i64 (c+1))]))) λb=>ae (decide (a>=1)) (b [.bool (decide (a<=l1))]) (b [.bool false])))) (aB d 5 λa=>aA b a 5 (aB b 5 λa=>K (.agg a)))) [J 0])) σ):ad P 31 #[.agg bd,.slice p1 l1 c1] K σ:=ao ⟨[],[(1,[(15,.int .i64)])],[(100006,[(23,.bool)])],[]⟩ func31 h
def QB(h:(al (#[ab none,aG]) 180 λa=>bz (λb c d=>∀e,(b=[J e])->((ae (decide (e<l0)) (ay p0 λb=>cK e l0 (eQ (Addr.add b (Int.toNat e*4)) 4 λb=>al (#[J 0,J 0,aG,bT]) 44 λd=>aA d b 4 (aB d 4 λb=>ad P 72 #[.agg b] λb d=>∃f g,(b=Value.tuple #[.string f,.bool g])/\((aH P (do eqGuard .add 9 (Operand.tmp 19) (Operand.const (.string ⟨#[10]⟩)) (.string f) (.string ⟨#[10]⟩);binOp .add 9 (.string f) (.string ⟨#[10]⟩)) λb=>mI b λb=>ad P 73 #[ab (some (ai a 0)),.string b] λa b=>∃d f,(a=Value.tuple #[J d,f])/\((c [J (wrap .i64 (e+1))]) b)) d)))) (iD 74 #[ab (some (ai a 0))] (λa=>K (.string a)))) d)) [J 0]) σ):ad P 32 #[.slice p0 l0 c0] K σ:=ao ⟨[],[(1,[(10,.int .i64)])],[],[]⟩ func32 h
def MO(h:(al bd 23 λa=>aC a 0 λb=>aC a 1 λc=>i' 75 #[J b,J c] λb c=>ae (c !=0) (K (aq #[ab none,J c])) (aC a 2 λc=>aC a 3 λd=>i' 76 #[ab b,J c,J d] λc d=>ae (d !=0) (K (aq #[ab none,J d])) (aC a 0 λa=>di 77 #[J a] λa=>di 78 #[] λd=>di 79 #[] λe=>hE λf=>al #[ab a,ab b,ab c,ab d,ab e,.map (some f)] 139 λa=>K (aq #[ab (some (ai a 0)),J 0])))) σ):ad P 33 #[.agg bd] K σ:=ao h0 func33 h
def P9(h:(di 80 #[J 4096] λa=>hE λb=>al #[ab a,.map (some b)] 197 λa=>K (ab (some (ai a 0)))) σ):ad P 34 #[] K σ:=ao h0 func34 h
def N7(h:(hE λa=>al #[.map (some a)] 152 λa=>K (ab (some (ai a 0)))) σ):ad P 35 #[] K σ:=ao h0 func35 h
def MK(h:(ae (!Option.isNone p0) (bb p0 0 λa=>K (.bool !Option.isNone a)) (K (.bool false))) σ):ad P 36 #[ab p0] K σ:=ao h0 func36 h
def P2(h:(aS 81 #[ab p0] λa=>ae (!a) (K (J 0)) (bb p0 4 λa=>aV 82 #[ab a,J 0] λa=>K (J a))) σ):ad P 37 #[ab p0] K σ:=ao h0 func37 h
def RU(h:(aS 83 #[ab p0] λa=>ae (!a) (K aG) (b6 p0 2 λ_ a _=>c5 P 83 (↑a:Int) (↑a:Int) λb=>bz (dr λc d=>ae (decide (c<(↑(Int.toNat (↑a:Int)):Int))) (mJ 84 #[ab p0,J c] λe _=>aP ((0<=c)/\(c<(↑(Int.toNat (↑a:Int)):Int))) (gW (Addr.add (ai b 0) (Int.toNat c*3)) e 3 (d [J (wrap .i64 (c+1))]))) (K (.slice (some (ai b 0)) (Int.toNat (↑a:Int)) (Int.toNat (↑a:Int))))) [J 0])) σ):ad P 38 #[ab p0] K σ:=ao ⟨[],[(1,[(16,.int .i64)])],[],[]⟩ func38 h
def P3(h:(aS 81 #[ab p0] λa=>ae (!a) (K aG) (bb p0 2 λa=>b2 85 #[ab a] λa b c=>K (.slice a b c))) σ):ad P 39 #[ab p0] K σ:=ao h0 func39 h
def NX(h:(aS 86 #[ab p0] λa=>ae (!a) (K aG) (bb p0 1 λa=>b2 87 #[ab a] λa b c=>K (.slice a b c))) σ):ad P 40 #[ab p0] K σ:=ao h0 func40 h
def SF(h:(aS 88 #[ab p0] λa=>ae (!a) (K aG) (cU p0 1 λa=>aH P (Builtin.len_ #[215] 3 #[.map a]) λa=>db .i64 a λa=>c5 P 160 0 a λb=>cU p0 1 λc=>ad P 89 #[.map c] λc=>b2 43 #[c] λc d _=>bz (jZ λa b e f g=>ae (decide (f<d)) (fs c d f λc=>b6 p0 0 λd h _=>dI d h (wrap .i64 (c-(1:Int))) 5 5 λc=>aP (Array.size c=5) (al (Array.mk (cV [J 0,J 0,J 0,J 0,J 0] (0*5) (Array.toList c))) 160 λc=>cC P #[33,33] a b e (some (ai c 0)) 1 1 λa b c=>g [.slice a b c,J (wrap .i64 (f+1))])) (K (.slice a b e))) [.slice (some (ai b 0)) 0 a.toNat,J 0])) σ):ad P 41 #[ab p0] K σ:=ao ⟨[],[(1,[(3,.slice),(22,.int .i64)])],[],[]⟩ func41 h
def Oc(h:(ae (!Option.isNone p0) (cU p0 0 λa=>K (.bool !Option.isNone a)) (K (.bool false))) σ):ad P 42 #[ab p0] K σ:=ao h0 func42 h
def Rj(h:(b2 90 #[.func (Fn.func g0) #[] uF] λa b c=>ce 91 #[.slice a b c] (K (.slice a b c))) σ):ad P 43 #[.func (.func g0) #[] uF] K σ:=ao h0 func43 h
def OL(h:(al #[.map m0] 149 λa=>K (.func (Fn.func 92) #[] #[ab (some (ai a 0))])) σ):ad P 44 #[.map m0] K σ:=ao h0 func44 h
