/- Lemmas that lead to TopWhole (their names made short by a program); no condition. -/
import Derived.Test.YtlmgompopkamfaaGreatDoorLL
set_option linter.all false
set_option maxRecDepth 20000
set_option synthInstance.checkSynthOrder false
namespace Go.Proofs.YtlmgompopkamfaaGreatDoor
open Go.XS Go.bn
section
structure Sp where
 at':Int
 len:Int
abbrev dt(s:Sp):aB:=[D s.at',D s.len]
def jC(s:Sp):(dt s).length=2:=rfl
def fW(s:Sp):Bool:=decide (0<=s.at'/\1<=s.len/\s.at'+s.len<=9223372036854775807)
def Sp.ok(s:Sp):Prop:=aF s.at'/\aF s.len
def ja(a b:Sp):Bool:=fW a&&fW b&&decide (a.at'<b.at'+b.len/\b.at'<a.at'+a.len)
def hE:Int->List Sp->Bool
 |_,[]=>true
 |e,s::l=>fW s&&decide (e<=s.at')&&hE (s.at'+s.len) l
def l'(l:List Sp):Bool:=hE 0 l
def kl:Int->List Sp->Int
 |e,[]=>e
 |_,s::l=>kl (s.at'+s.len) l
def yl(e:Int)(l a:List Sp):hE e (l++a)=(hE e l&&hE (kl e l) a):=by
 induction l generalizing e with
 |nil=>simp[hE,kl]
 |cons s l b=>simp only[qE,hE,kl,b,Bool.and_assoc]
def EF(e:Int)(l a:List Sp):kl e (l++a)=kl (kl e l) a:=by
 induction l generalizing e with
 |nil=>rfl
 |cons s l b=>simp only[qE,kl,b]
section
variable {B:Heap}{H H0:au}{K:aK}{q:aw}{l c:Nat}{ss:List Sp}{s a:Sp}{n:Int}
instance acY:gl P 222 2:=gl.of (e:=0) (by kernel_rfl)
def ZB(h:s.ok)(I:T B H (K (.bool (fW s)))):T B H (ab P 282 #[.agg #[D s.at',D s.len]] K):=by
 apply an (RG _);have U:=h.1;have a:=h.2;unfold fW at I;repeat' first|apply J.go|refine Sa.go λ_=>?_|refine S2.go (λ_=>?_) λ_=>?_|refine Sc.go (by assumption) ?_|done
 ·have e:decide (aF (s.at'+s.len))=decide (0<=s.at'/\1<=s.len/\s.at'+s.len<=9223372036854775807):=hZ.2 (by unfold aF;omega)
  rw[e];exact af I
 ·rw[cD (by omega)]at I
  exact af I
 ·rw[cD (by omega)]at I
  exact af I
instance ade{x y:Int}:Sc B H (ab P 282 #[.agg #[D x,D y]] K) (aF x/\aF y) (T B H (K (.bool (fW ⟨x,y⟩)))):=⟨λh I=>ZB (s:=⟨x,y⟩) h I⟩
def jb{s:Sp}(h:fW s=true):0<=s.at'/\1<=s.len/\s.at'+s.len<=9223372036854775807:=by unfold fW at h;simpa using h
def BR{b:Sp}(ha:a.ok)(i:b.ok)(I:T B H (K (.bool (ja a b)))):T B H (ab P 284 #[.agg #[D a.at',D a.len],.agg #[D b.at',D b.len]] K):=by
 apply an (RC _ _);have U:=ha.1;have j:=ha.2;have k:=i.1;have l:=i.2;unfold ja at I;repeat' first|apply J.go|refine Sa.go λ_=>?_|refine S2.go (λ_=>?_) λ_=>?_|refine Sc.go (by first|rfl|assumption) ?_|done
 ·rename_i c d f
  have g:=jb c;have w2:=jb d;simp only at g w2;rw[bd (by omega)]at f;rw[bd (by omega)]
  have e:(decide (b.at'<a.at'+a.len))=(fW a&&fW b&&decide (a.at'<b.at'+b.len/\b.at'<a.at'+a.len)):=by rw[c,d,e5,e5];exact hZ.2 ⟨λh=>⟨f,h⟩,λh=>h.2⟩
  rw[e];exact af I
 ·rename_i c d f
  have g:=jb c;have w2:=jb d;simp only at g w2;rw[bd (by omega)]at f;rw[c,d,e5,e5,cD λh=>f h.1]at I;exact af I
 ·rename_i c d
  rw[c,d]at I;exact af I
 ·rename_i c
  rw[c]at I;exact af I
def TR{e:Int}{l:List Sp}(h:hE e l=true)(he:0<=e/\e<=9223372036854775807):0<=kl e l/\kl e l<=9223372036854775807:=by
 induction l generalizing e with
 |nil=>exact he
 |cons s l a=>simp only[hE,b9,bz]at h;have:=jb h.1.1;exact a h.2 ⟨by omega,this.2.2⟩
def HE[hr:Rd B H q (ss.flatMap dt)](hl:l=ss.length)(hlen:l<1000000)(aP:∀s∈ss,s.ok)(I:T B H (K (.bool (l' ss)))):T B H (ab P 281 #[.slice q l c] K):=by
 subst hl;refine an (RD _ _ _) (mC (λm x y H'=>∃k:Nat,m+k=ss.length/\H'=H/\y=(k:Int)/\hE 0 (ss.take k)=true/\x=kl 0 (ss.take k)) ss.length ⟨0,by omega,rfl,rfl,rfl,rfl⟩ ?_);rintro m x y H' R ⟨k,hm,rfl,rfl,b,rfl⟩ g;have n:=TR b ⟨by omega,by omega⟩;refine S2.go (λ_=>?_) λ_=>?_
 ·have d:k<ss.length:=by omega
  have a:ss[k]?=some ss[k]:=ba d;have e:=aP ss[k] (dz d);generalize ss[k]=s at a e
  have i:ss=ss.take k++(s::ss.drop (k+1)):=by
   conv=>lhs;rw[<-j6 (k+1) ss]
   rw[dQ a,er];rfl
  have f:(fW s&&decide (kl 0 (ss.take k)<=s.at'))=false->l' ss=false:=λh=>by unfold l';rw[i,yl];simp only[hE];rw[h];simp
  apply dO jC (by omega) k rfl d a;have U:=e.1;have o:=e.2;repeat' first|apply J.go|refine Sa.go λ_=>?_|refine S2.go (λ_=>?_) λ_=>?_|refine Sc.go (by first|rfl|exact⟨rfl,rfl⟩|assumption) ?_|done
  ·rename_i h
   have h:fW s=false:=h;rw[f (by rw[h];rfl)]at I;exact af I
  ·rename_i h j
   rw[f (by rw[cD (by omega)];simp)]at I;exact af I
  ·rename_i h j
   have h:fW s=true:=h;have hw:=jb h;rw[bd (by omega),bd (by omega)];refine af (g (m-1) _ _ _ (by omega) ⟨k+1,by omega,rfl,by omega,?_,?_⟩)
   ·rw[dQ a,yl,b]
    simp only[hE,h,e5,yP,bz];omega
   ·rw[dQ a,EF]
    rfl
 ·have hl:k=ss.length:=by omega
  subst hl;rw[gA]at b;have:l' ss=true:=b;rw[this]at I;exact I
def v8(l:List Sp):Prop:=l.Pairwise λa b=>a.at'<b.at'
def sn{e:Int}{l:List Sp}(h:hE e l=true):v8 l/\∀s∈l,e<=s.at':=by
 induction l generalizing e with
 |nil=>exact⟨.nil,by simp⟩
 |cons s l d=>
  simp only[hE,b9,bz]at h;have hw:=jb h.1.1;obtain⟨U,c⟩:=d h.2;refine⟨oo.2 ⟨λb a=>by have:=c b a;omega,U⟩,λb a=>?_⟩;rcases cR.1 a with rfl|a
  ·exact h.1.2
  ·have:=c b a;omega
def dX(x:Int)(l:List Sp):Nat:=(l.takeWhile λs=>decide (s.at'<x)).length
def HA{x:Int}{l:List Sp}{i:Nat}(hi:i<=l.length)(U:∀k s,k<i->l[k]?=some s->s.at'<x)(b:∀s,l[i]?=some s->x<=s.at'):dX x l=i:=by
 induction l generalizing i with
 |nil=>simp at hi;subst hi;rfl
 |cons a l c=>
  cases i with
  |zero=>have:=b a rfl;unfold dX;rw[IT (by simp;omega)];rfl
  |succ i=>have:=U 0 a (by omega) rfl;unfold dX;rw[IU (by simpa using this)];have:=c (by simpa using hi) (λk s I hs=>U (k+1) s (by omega) (by simpa using hs)) (λs hs=>b s (by simpa using hs));unfold dX at this;simp[this]
instance adb{x y:Int}:J B H (ab P 358 #[.agg #[D x,D y],D n] K) (T B H (K (D (if x<n then-1 else if x>n then 1 else 0)))):=⟨by
 intro I;apply an (RF _ _);repeat' first|apply J.go|refine Sa.go λ_=>?_|refine S2.go (λ_=>?_) λ_=>?_|done
 ·rename_i h;rw[ah h]at I;exact af I
 ·rename_i h a;rw[ak h,ah a]at I;exact af I
 ·rename_i h a;rw[ak h,ak a]at I;exact af I⟩
def ZA[hr:Rd B H q (ss.flatMap dt)](hl:l=ss.length)(hlen:l<1000000)(v:v8 ss)(I:∀b,T B H (K (.tuple #[D (dX n ss),.bool b]))):T B H (ab P 283 #[.slice q l c,D n] K):=by
 subst hl;apply an (RE _ _ _ _);unfold fR;apply an (QW _ _ _ _ _ _)
 have p:∀(i j:Nat) (a b:Sp),i<j->ss[i]?=some a->ss[j]?=some b->a.at'<b.at':=by intro i j a b r ha d;have hi:=(b0.1 ha);have t:=(b0.1 d);have:=kJ.1 v i j hi.1 t.1 r;rw[hi.2,t.2]at this;exact this
 refine mC (λm x y H'=>∃i j:Nat,m=j-i/\i<=j/\j<=ss.length/\H'=H/\x=(i:Int)/\y=(j:Int)/\(∀k s,k<i->ss[k]?=some s->s.at'<n)/\(∀k s,j<=k->ss[k]?=some s->n<=s.at')) ss.length ⟨0,ss.length,by omega,by omega,by omega,rfl,rfl,rfl,λk s h=>by omega,λk s h hs=>by have:=(b0.1 hs).1;omega⟩ ?_;rintro m x y H' R ⟨i,j,rfl,r,w,rfl,rfl,rfl,U,o⟩ u;repeat' first|apply J.go|refine S2.go (λ_=>?_) λ_=>?_|refine Sc.go (by omega) ?_|done
 ·rename_i h
  have z:IntKind.wrap .i64 (bP .u64 (IntKind.wrap .u64 (IntKind.wrap .i64 ((i:Int)+(j:Int)))) (1:Int))=(((i+j)/2:Nat):Int):=by
   have A:IntKind.wrap .i64 ((i:Int)+(j:Int))=(i:Int)+(j:Int):=bd (by omega)
   have C:IntKind.wrap .u64 ((i:Int)+(j:Int))=(i:Int)+(j:Int):=by show((i:Int)+(j:Int))%18446744073709551616=_;omega
   have E:bP .u64 ((i:Int)+(j:Int)) 1=(((i+j)/2:Nat):Int):=by show Int.fdiv ((i:Int)+(j:Int)) 2=_;rw[CE _ (by decide)];omega
   rw[A,C,E,bd (by omega)]
  have g:(i+j)/2<ss.length:=by omega
  have f:ss[(i+j)/2]?=some ss[(i+j)/2]:=ba g;generalize ss[(i+j)/2]=s at f;rw[z];refine dO jC (by omega) ((i+j)/2) rfl g f (lI (by kernel_rfl) ?_);show T B _ (ab P 358 #[.agg #[D s.at',D s.len],D n] _);refine J.go (J.go ?_);by_cases hs:s.at'<n
  ·rw[ah hs]
   apply bk (by decide);rw[bd (by omega)];refine u (j-((i+j)/2+1)) _ _ _ (by omega) ⟨(i+j)/2+1,j,rfl,by omega,w,rfl,by omega,rfl,λk b I d=>?_,o⟩;by_cases e:k=(i+j)/2
   ·subst e;rw[f]at d;cases d;exact hs
   ·have:=p k _ b s (by omega) d f;omega
  ·rw[ak hs]
   apply aD (by split<;>decide);refine u ((i+j)/2-i) _ _ _ (by omega) ⟨i,(i+j)/2,rfl,by omega,by omega,rfl,rfl,rfl,U,λk b I d=>?_⟩;by_cases e:k=(i+j)/2
   ·subst e;rw[f]at d;cases d;omega
   ·have:=p _ k s b (by omega) f d;omega
 ·rename_i h F
  have e:j=i:=by omega
  subst e;have g:j<ss.length:=by omega
  have f:ss[j]?=some ss[j]:=ba g;generalize ss[j]=s at f;refine dO jC (by omega) j rfl g f (lI (by kernel_rfl) ?_);show T B _ (ab P 358 #[.agg #[D s.at',D s.len],D n] _);refine J.go (J.go (J.go ?_));have:=I ((if s.at'<n then-1 else if s.at'>n then(1:Int)else 0)==0);rw[HA (by omega) U λs hs=>o j s (by omega) hs]at this;exact this
 ·rename_i h F
  have e:j=i:=by omega
  subst e;have:=I false;rw[HA (by omega) U λs hs=>o j s (by omega) hs]at this;exact this
def Za{g:Nat}{ca:ax}{f:Sp->Bool}(o:gb P g=true)[hr:Rd B H q (ss.flatMap dt)](hl:l=ss.length)(hlen:l<1000000)(hf:∀m∈ss,∀n:aK,T B H (n (.bool (f m)))->T B H (ab P g (Array.mk (Array.toList #[]++[Value.agg (dt m).toArray]++Array.toList ca)) n))(I:T B H (K (D (cJ f ss)))):T B H (ab P 294 #[.slice q l c,.func (.func g) #[] ca] K):=by
 apply an (Ra _ _ _ _ _);subst hl;refine cF ss.length (by omega) (λk H'=>H'=H/\∀j x,j<k->ss[j]?=some x->f x=false) ⟨rfl,by simp⟩ ?_;rintro k H' R r ⟨rfl,d⟩ p;refine S2.go (λ_=>?_) λ_=>?_
 ·have b:k<ss.length:=by omega
  have h:ss[k]?=some ss[k]:=ba b;refine dO jC (by omega) k rfl b h (lI o (hf _ (dz b) _ ?_));repeat' first|apply J.go|refine S2.go (λ_=>?_) λ_=>?_|done
  ·rename_i i
   unfold cJ at I;rw[nD d h i]at I;exact I
  ·rename_i i
   refine p b _ ⟨rfl,λj x s a=>?_⟩;by_cases e:j=k
   ·subst e;rw[h]at a;cases a;exact i
   ·exact d j x (by omega) a
 ·unfold cJ at I
  rw[mI λj x a=>d j x (by have:=(b0.1 a).1;omega) a]at I;exact I
def pe(x:Int)(s:Sp):Bool:=decide (s.at'<=x/\x-s.at'<s.len)
def vu{e:Int}{l:List Sp}(h:hE e l=true):∀s∈l,fW s=true:=by
 induction l generalizing e with
 |nil=>simp
 |cons s l c=>
  simp only[hE,b9,bz]at h;intro b a;rcases cR.1 a with rfl|a
  ·exact h.1.1
  ·exact c h.2 b a
def Zz[hr:Rd B H q (ss.flatMap dt)](hl:l=ss.length)(hlen:l<1000000)(aP:∀s∈ss,s.ok)(b:l' ss=true)(d:aF n)(I:T B H (K (D (cJ (pe n) ss)))):T B H (ab P 197 #[.slice q l c,D n] K):=by
 refine an (Rz _ _ _ _) (Sa.go λaa=>?_);have i:Rd B (cl aa #[D n]::H) q (ss.flatMap dt):=⟨hr.rd.tail⟩;unfold aJ;refine HE hl hlen aP (J.go ?_);rw[b];apply aD rfl;unfold aU;refine Za (f:=pe n) (by kernel_rfl) hl hlen (λm hm g hK=>?_) ?_
 ·show T B _ (ab P 295 #[.agg #[D m.at',D m.len],pz aa] g)
  apply an (RA _ _);have hw:=jb (vu b m hm);have U:=aP m hm;unfold Sp.ok aF at U;unfold aF at d;unfold pe at hK;repeat' first|apply J.go|refine Sa.go λ_=>?_|refine S2.go (λ_=>?_) λ_=>?_|done
  ·rename_i h
   rw[bd (by omega)];have e:decide (m.at'<=n/\n-m.at'<m.len)=decide (n-m.at'<m.len):=hZ.2 ⟨λh=>h.2,λa=>⟨h,a⟩⟩;rw[e]at hK;exact af hK
  ·rename_i h
   rw[cD λa=>h a.1]at hK;exact af hK
 ·exact J.go (af I)
instance acv{l:List Sp}:ka (l.flatMap dt).toArray:=⟨by intro v a;obtain⟨m,hm,a⟩:=lC.1 a;simp only[dt,cR,jH,ji]at a;rcases a with rfl|rfl<;>rfl⟩
def Hx[hr:Rd B H q (ss.flatMap dt)](hl:l=ss.length)(hlen:l<1000000)(I:∀b c',T B (ai 2 b ss.length c' (ss.flatMap dt)::H) (K (.slice b ss.length c'))):T B H (ab P 285 #[.slice q l c] K):=by
 subst hl;apply an (QZ _ _ _)
 cases q with
 |none=>
  apply bk rfl;by_cases hs:ss=[]
  ·subst hs
   exact dR 2 (I none 0)
  ·intro σ o
   exfalso;rcases hr.rd σ o with⟨_,h⟩|⟨a,h,_⟩
   ·have:=dr jC ss
    rw[h]at this;have d:=r1.2 hs;simp at this;omega
   ·cases h
 |some a=>apply aD rfl;refine Sa.go λaa=>?_;refine kf (l:=0) 2 rfl ?_;have e:Rd B (ai 2 (some ⟨aa,0,none⟩) 0 0 (#[]:ax).toList::H) (some a) (ss.flatMap dt):=⟨hr.rd.tail⟩;refine oy (by omega) (dr jC ss) λb c'=>?_;rw[bJ,kI];exact I b c'
def I4{ys:aB}{k:Nat}(h:bF B H q ys)(I:k<=ys.length):bF B H (q.map (·.add k)) (ys.drop k):=by
 intro σ o;rcases h σ o with⟨rfl,rfl⟩|⟨a,rfl,hc⟩
 ·exact .inl ⟨rfl,by simp⟩
 ·refine .inr ⟨a.add k,rfl,λi hi=>?_⟩
  rw[lB]at hi;rw[add_add,hc (k+i) (by omega),qG]
def Zv{k:Nat}(I:k<=ss.length):(ss.flatMap dt).drop (k*2)=(ss.drop k).flatMap dt:=by
 have:ss.flatMap dt=(ss.take k).flatMap dt++(ss.drop k).flatMap dt:=by rw[<-og,j6]
 rw[this,yX (by rw[dr jC];simp;omega)]
def Zw{k:Nat}(I:k<=ss.length):(ss.flatMap dt).take (k*2)=(ss.take k).flatMap dt:=by
 have:ss.flatMap dt=(ss.take k).flatMap dt++(ss.drop k).flatMap dt:=by rw[<-og,j6]
 rw[this,qI (by rw[dr jC];simp;omega)]
def qx(ss:List Sp)(s:Sp):Bool:=
 (match ss[dX s.at' ss]? with|some b=>ja b s|none=>false)||(decide (0<dX s.at' ss)&&ja (ss.getD (dX s.at' ss-1) ⟨0,0⟩) s)
def qy(ss:List Sp)(s:Sp):List Sp:=ss.take (dX s.at' ss)++s::ss.drop (dX s.at' ss)
def HD{x:Int}{l:List Sp}{k:Nat}{s:Sp}(I:k<dX x l)(hs:l[k]?=some s):s.at'<x:=by
 unfold dX at I
 have U:(l.takeWhile λs=>decide (s.at'<x))[k]?=some s:=by have a:l=(l.takeWhile λs=>decide (s.at'<x))++(l.dropWhile λs=>decide (s.at'<x)):=IQ.symm;rw[a,hb I]at hs;exact hs
 have:=cz U;have b:=ig.1 (List.all_takeWhile) _ this;simpa using b
def HB{x:Int}{l:List Sp}{s:Sp}(hs:l[dX x l]?=some s):x<=s.at':=by
 unfold dX at hs;have b:l=(l.takeWhile λs=>decide (s.at'<x))++(l.dropWhile λs=>decide (s.at'<x)):=IQ.symm
 conv at hs=>lhs;arg 1;rw[b]
 rw[iI (d' _),lF]at hs
 cases hd:l.dropWhile (λs=>decide (s.at'<x))with
 |nil=>rw[hd]at hs;simp at hs
 |cons a t=>rw[hd]at hs;simp at hs;subst hs;have:=List.head?_dropWhile_not (λs:Sp=>decide (s.at'<x)) l;rw[hd]at this;simpa using this
def TT(e:Int)(l:List Sp)(s:Sp):kl e (l++[s])=s.at'+s.len:=by rw[EF];rfl
def Zx{s:Sp}(g:l' ss=true)(hw:fW s=true)(e:qx ss s=false):l' (qy ss s)=true:=by
 unfold l' qy at*;unfold qx at e;have hi:=ID (IV (λt:Sp=>decide (t.at'<s.at')) (l:=ss));have m:∀k b,k<dX s.at' ss->ss[k]?=some b->b.at'<s.at':=λk b U c=>HD U c;have n:∀b,ss[dX s.at' ss]?=some b->s.at'<=b.at':=λb h=>HB h;have hi:dX s.at' ss<=ss.length:=hi;generalize dX s.at' ss=i at*;have f:hE 0 (ss.take i++ss.drop i)=true:=by rw[j6];exact g
 rw[yl,b9]at f;have p:=jb hw;rw[tC]at e;rw[yl,f.1,e5];simp only[hE,hw,e5,b9,bz];constructor
 ·cases i with
  |zero=>simp[kl];omega
  |succ i=>have a:ss[i]?=some ss[i]:=ba (by omega);have c:=e.2;rw[cB (by omega),e5,List.getD,Nat.add_sub_cancel,a]at c;simp only[fC]at c;have o:=m i _ (by omega) a;rw[dQ a,TT];have d:=vu g ss[i] (dz _);unfold ja at c;rw[d,hw,e5,e5,fN]at c;have:=jb d;omega
 ·cases hd:ss.drop i with
  |nil=>rfl
  |cons b t=>
   have a:ss[i]?=some b:=by have:=congrArg (·[0]?) hd;simpa using this
   have U:=e.1;rw[a]at U;simp only at U;have o:=n b a;have d:=vu g b (cz a);unfold ja at U;rw[d,hw,e5,e5,fN]at U;have:=jb d;rw[hd]at f;have j:=f.2;simp only[hE,b9,bz]at j⊢;exact⟨⟨j.1.1,by omega⟩,j.2⟩
def HC{x:Int}{l:List Sp}:dX x l<=l.length:=by unfold dX;exact ID (IV _)
def Zy[hr:Rd B H q (ss.flatMap dt)](hl:l=ss.length)(am:l<=c)(hlen:l<900000)(aP:∀s∈ss,s.ok)(t:l' ss=true)(hs:s.ok)(hw:fW s=true)(m:qx ss s=true->T B H (K (.tuple #[.slice none 0 0,.bool false])))(I:qx ss s=false->∀d c',T B (ai 2 d (ss.length+1) c' ((qy ss s).flatMap dt)::H) (K (.tuple #[.slice d (ss.length+1) c',.bool true]))):T B H (ab P 189 #[.slice q l c,.agg #[D s.at',D s.len]] K):=by
 subst hl;refine an (Ry _ _ _ _) (Sa.go λaa=>?_);have ao:Rd B (cl aa #[D s.at',D s.len]::H) q (ss.flatMap dt):=⟨hr.rd.tail⟩;have F:=(sn t).1;have hi:=HC (x:=s.at') (l:=ss);refine dV (α:=Unit) (λ_=>cl aa #[D s.at',D s.len]::H) (λ_=>[]) (λu body=>?_) λ_=>?_
 ·unfold aJ
  apply HE rfl (by omega) aP;rw[t];refine J.go (aD rfl ?_);have U:=hs.1;have ap:=hs.2;repeat' first|apply J.go|refine S2.go (λ_=>?_) λ_=>?_|refine Sc.go (by first|rfl|assumption) ?_|done
  ·rename_i h
   have h:fW s=false:=h;rw[hw]at h;cases h
  ·exact af (body ())
 refine J.go (a1 rfl ?_);unfold fR;refine ZA rfl (by omega) F λaq=>J.go ?_;unfold qx at m I;unfold qy at I;generalize ar:dX s.at' ss=i at*;refine dV (α:={av:Unit//((match ss[i]? with|some b=>ja b s|none=>false)||(decide (0<i)&&ja (ss.getD (i-1) ⟨0,0⟩) s))=false}) (λ_=>cl aa #[D s.at',D s.len]::H) (λ_=>[]) (λu body=>?_) λ⟨_,L⟩=>?_
 ·have v:0<i->(match ss[i]? with|some b=>ja b s|none=>false)=false->T B (cl aa #[D s.at',D s.len]::H) (de q ss.length (IntKind.wrap .i64 ((i:Int)-(1:Int))) 2 2 λM=>eY (ag aa 0) 2 λN=>aJ 284 #[Value.agg M,Value.agg N] λO=>ae O (K (Value.tuple #[Value.slice none 0 0,Value.bool false])) (u [])):=by
   intro n g;have a:ss[i-1]?=some ss[i-1]:=ba (by omega);have w:ss.getD (i-1) ⟨0,0⟩=ss[i-1]:=by rw[List.getD,a];rfl
   have r:=aP ss[i-1] (dz _);rw[g,Bool.false_or,cB n,e5,w]at m;generalize ss[i-1]=Q at*;apply dO jC (by omega) (i-1) (by rw[bd (by omega)];omega) (by omega) a;refine bI rfl ?_;unfold aJ;refine BR r hs (J.go ?_)
   cases hm:ja Q s with
   |true=>exact bk rfl (af (m hm))
   |false=>apply aD rfl;exact af (body ⟨(),by rw[g,w,hm];simp⟩)
  repeat' first|refine S2.go (λ_=>?_) λ_=>?_|done
  ·rename_i h
   have y:i<ss.length:=by omega
   have a:ss[i]?=some ss[i]:=ba y;have r:=aP ss[i] (dz y);generalize ss[i]=nx at*;refine dO jC (by omega) i rfl (by omega) a (bI rfl ?_);unfold aJ;refine BR r hs (J.go ?_)
   cases hm:ja nx s with
   |true=>apply bk rfl;exact af (m (by rw[a];simp only[hm];rfl))
   |false=>
    apply aD rfl;have g:(match ss[i]? with|some b=>ja b s|none=>false)=false:=by rw[a];exact hm
    by_cases n:0<i
    ·apply bk (by simp;omega)
     exact v n g
    ·apply aD (by simp;omega)
     exact af (body ⟨(),by rw[g,cD n];rfl⟩)
  ·rename_i h R
   have a:ss[i]?=none:=jg (by omega);exact v (by omega) (by rw[a])
  ·rename_i h R
   have a:ss[i]?=none:=jg (by omega);exact af (body ⟨(),by rw[a,cD (by omega)];rfl⟩)
 have I:=I L;refine J.go (bj (by omega) (bj (by omega) (bj (by omega) ?_)));refine bI rfl ?_;rw[lf,a7,iN]
 have z:bF B H q ((ss.take i).flatMap dt):=by
  have:=hr.rd.take (i*2) (by rw[dr jC];omega)
  rwa [Zw hi]at this
 have A:bF B H (dh q 2 i c) ((ss.drop i).flatMap dt):=by
  unfold dh;split
  ·rename_i e
   have:ss.drop i=[]:=oe (by omega);rw[this];have:=hr.rd.take 0 (by omega);simpa using this
  ·have:=I4 (k:=i*2) hr.rd (by rw[dr jC];omega)
   rwa [Zv hi]at this
 have p:(ss.take i).length=i:=by rw[ff];omega
 have S:(ss.drop i).length=ss.length-i:=by rw[lB]
 have C:∀{G:au} {p1:aw} {c1 k:Nat},bF B G (dh q 2 i c) ((ss.drop i).flatMap dt)->(∀d c',T B (ai 2 d (ss.length+1) c' ((ss.take i++s::ss.drop i).flatMap dt)::cl k #[D s.at',D s.len]::G) (K (.tuple #[.slice d (ss.length+1) c',.bool true])))->
   T B (ai 2 p1 i c1 ((ss.take i).flatMap dt)::cl k #[D s.at',D s.len]::G) (cI P #[222,222] p1 i c1 (some (ag k 0)) 1 1 λV W X=>cI P #[222,222] V W X (dh q 2 i c) (ss.length-i) (c-i) λY Z ac=>K (Value.tuple #[Value.slice Y Z ac,Value.bool true])):=by
  intro G p1 c1 k ad ah;refine e0 rfl (by omega) λp2 c2=>?_;have ay:ka ((ss.drop i).flatMap dt).toArray:=inferInstance;have E:Rd B (ai 2 p2 (i+1) c2 ((ss.take i).flatMap dt++(#[D s.at',D s.len]:ax).toList)::cl k #[D s.at',D s.len]::G) (dh q 2 i c) ((ss.drop i).flatMap dt):=⟨ad.tail.tail⟩;refine oy (by omega) (by rw[dr jC,S]) λp3 c3=>?_;have aj:i+1+(ss.length-i)=ss.length+1:=by omega
  rw[aj];have ak:(ss.take i).flatMap dt++(#[D s.at',D s.len]:ax).toList++(ss.drop i).flatMap dt=(ss.take i++s::ss.drop i).flatMap dt:=by simp
  rw[ak];exact ah p3 c3
 refine fO ?_ ?_
 ·unfold bX
  have E:Rd B (cl aa #[D s.at',D s.len]::H) q ((ss.take i).flatMap dt):=⟨z.tail⟩;refine Hx p.symm (by omega) λp1 c1=>J.go ?_;have hC:bY B (ai 2 p1 (ss.take i).length c1 ((ss.take i).flatMap dt)::cl aa #[D s.at',D s.len]::H) aa #[D s.at',D s.len]:=inferInstance;refine fF (λσ o=>⟨_,rfl,rfl,λj al=>?_⟩) ?_
  ·rw[aQ,hC.cell o,bJ]
  apply bj rfl;refine Sa.go λf=>?_;refine jP (ds:=#[D s.at',D s.len]) rfl ?_;rw[p];refine af (H':=ai 2 p1 i c1 ((ss.take i).flatMap dt)::cl f #[D s.at',D s.len]::H) ?_;exact C A λd c'=>af (I d c')
 ·refine bj rfl (Sa.go λf=>jP (ds:=#[D s.at',D s.len]) rfl ?_)
  unfold bX;have E:Rd B (cl f #[D s.at',D s.len]::cl aa #[D s.at',D s.len]::H) q ((ss.take i).flatMap dt):=⟨z.tail.tail⟩;refine af (H':=cl f #[D s.at',D s.len]::cl aa #[D s.at',D s.len]::H) ?_;refine Hx (ss:=ss.take i) p.symm (by omega) λp1 c1=>?_;apply J.go;have hC:bY B (ai 2 p1 (ss.take i).length c1 ((ss.take i).flatMap dt)::cl f #[D s.at',D s.len]::cl aa #[D s.at',D s.len]::H) aa #[D s.at',D s.len]:=inferInstance;refine fF (λσ o=>⟨_,rfl,rfl,λj al=>?_⟩) ?_
  ·rw[aQ,hC.cell o,bJ]
  rw[p];exact af (H':=ai 2 p1 i c1 ((ss.take i).flatMap dt)::cl f #[D s.at',D s.len]::H) (C A λd c'=>af (I d c'))
end
end
section
section
variable {α β:Type}{f:α->β}{m:ML α}{k:Int}
def eg(f:α->β)(m:ML α):ML β:=m.map λe=>(e.1,f e.2)
def AR:bb (eg f m)=bb m:=by simp[eg,bb,CD]
def rQ(h:bS m):bS (eg f m):=by unfold bS;rw[AR];exact h
def mS:aS (eg f m) k=(aS m k).map f:=by
 induction m with
 |nil=>rfl
 |cons e m a=>
  show(if e.1=k then some (f e.2)else aS (eg f m) k)=(if e.1=k then some e.2 else aS m k).map f;split
  ·rfl
  ·exact a
def Gf{a:α}(h:bS m):eg f (bE k a m)=bE k (f a) (eg f m):=AT (rQ (fA h)) (fA (rQ h)) λj=>by rw[mS,gR h,gR (rQ h),mS];split<;>rfl
def Ge(h:bS m):eg f (bO k m)=bO k (eg f m):=AT (rQ (ma h)) (ma (rQ h)) λj=>by rw[mS,mR,mR,mS];split<;>rfl
end
structure Pc where
 at':Int
 len:Int
 bT:Int
abbrev Pc.sp(p:Pc):Sp:=⟨p.at',p.len⟩
abbrev Pc.kv(p:Pc):Int×Int:=(p.at',p.bT)
structure Lk where
 gen:Int
 ps:List Pc
abbrev Lk.ss(k:Lk):List Sp:=k.ps.map (·.sp)
def Lk.ins(k:Lk)(p:Pc):Lk:=⟨k.gen,k.ps.take (dX p.at' k.ss)++p::k.ps.drop (dX p.at' k.ss)⟩
structure Lv where
 all:ML Lk
 bw:Nat
structure pI where
 b:Nat
 rr:Nat
 p:aw
 c:Nat
 k:Lk
abbrev AM(e:pI):ax:=#[.slice e.p e.k.ps.length e.c,D e.k.gen,.map (some e.rr)]
abbrev hO(e:pI)(H:au):au:=cl e.b (AM e)::ai 2 e.p e.k.ps.length e.c (e.k.ss.flatMap dt)::MP D e.rr (e.k.ps.map Pc.kv)::H
def gd(e:pI):bg:=eG (hO e [])
abbrev e'(e:pI):aw:=some ⟨e.b,0,none⟩
structure tV where
 r:Nat
 m:ML pI
abbrev mN(b:Nat)(V:Lv)(x:tV)(H:au):au:=
 cl b #[.map (some x.r)]::MP Value.pointer x.r (eg e' x.m)::cS gd x.m::H
structure Lk.Ok(k:Lk)(bw:Nat):Prop where
 R:l' k.ss=true
 gen:0<=k.gen/\k.gen<=1048575
 sm:∀p∈k.ps,0<=p.at'/\p.at'<=1048575/\1<=p.len/\p.len<=1048576/\0<=p.bT/\p.bT<=9223372036854775807
 len:k.ps.length<=bw
structure Lv.Ok(V:Lv)(x:tV):Prop where
 bV:bS x.m
 all:V.all=eg (·.k) x.m
 ok:∀e∈x.m,e.2.k.Ok V.bw/\0<=e.1/\e.1<=1048575
def cL(b:Nat)(V:Lv):bg:=BD V.Ok (mN b V)
def UY{k:Lk}{p:Pc}(h:∀q∈k.ps,q.at'≠p.at')(ha:v8 k.ss):(k.ins p).ps.map Pc.kv=bE p.at' p.bT (k.ps.map Pc.kv):=by
 obtain⟨g,ps⟩:=k;unfold Lk.ins Lk.ss at*;simp only at*
 induction ps with
 |nil=>simp[dX,bE]
 |cons q ps a=>
  have d:=h q (by simp);simp only[c4]at ha⊢;have b:=(oo.1 ha);unfold bE;by_cases c:q.at'<p.at'
  ·have e:dX p.at' (q.sp::ps.map (·.sp))=dX p.at' (ps.map (·.sp))+1:=by unfold dX;rw[IU (by simpa using c)];rfl
   rw[e,tQ,List.drop_succ_cons,qE,c4,a (λz hz=>h z (by simp[hz])) b.2];rw[ak (by simp only;omega),ak (by simp only;omega)]
  ·have e:dX p.at' (q.sp::ps.map (·.sp))=0:=by unfold dX;rw[IT (by simp;omega)];rfl
   rw[e];rw[ah (by simp only;omega)];rfl
structure Ld where
 chunk:Int
 gen:Int
 bT:Int
 at':Int
 len:Int
abbrev c6(l:Ld):aB:=[D l.chunk,D l.gen,D l.bT,D l.at',D l.len]
def uI(l:Ld):(c6 l).length=5:=rfl
abbrev AH:Ld:=⟨0,0,0,0,0⟩
def eO(i:Int)(k:Lk):List Ld:=k.ps.map λp=>⟨i,k.gen,p.bT,p.at',p.len⟩
def small(n:Int):Bool:=decide (0<=n/\n<=1048575)
namespace Lv
def new:Lv:=⟨[],0⟩
def p'(V:Lv)(i:Int):List Ld:=match aS V.all i with|some k=>eO i k|none=>[]
abbrev oM(V:Lv):List Ld:=V.all.flatMap λe=>eO e.1 e.2
def si(l:Ld):Bool:=small l.chunk&&small l.gen&&small l.at'&&decide (1<=l.len/\l.len<=1048576/\0<=l.bT)
def kU(V:Lv)(i g:Int):Lk:=(aS V.all i).getD ⟨g,[]⟩
def gp(V:Lv)(l:Ld):Int:=if si l then(if(V.kU l.chunk l.gen).gen=l.gen then(if qx (V.kU l.chunk l.gen).ss ⟨l.at',l.len⟩then 19 else 0)else 4)else 2
def add(V:Lv)(l:Ld):Lv:=if V.gp l=0 then⟨bE l.chunk ((V.kU l.chunk l.gen).ins ⟨l.at',l.len,l.bT⟩) V.all,V.bw+1⟩else V
def drop(V:Lv)(i:Int):Lv:={V with all:=bO i V.all}
def w3(V:Lv)(h:Int):Option Ld:=
 match aS V.all (gP h)with
 |some k=>if k.gen=gG h then(match k.ps.find? λp=>p.at'==iw h with|some p=>some ⟨gP h,k.gen,p.bT,p.at',p.len⟩|none=>none)else none
 |none=>none
def bo(V:Lv)(h:Int):Int:=if mL h=true/\hv h=3 then(match V.w3 h with|some _=>0|none=>4)else 20
def find(V:Lv)(h:Int):Ld:=if V.bo h=0 then(V.w3 h).getD AH else AH
end Lv
instance ac0:gl P 34 5:=gl.of (e:=0) (by kernel_rfl)
section
variable {B:Heap}{H H0:au}{K:aK}{b:Nat}{V:Lv}{i n h:Int}{e:pI}
def qf{q:HP}(t:∀x,V.Ok x->T B (mN b V x H) q):T B (cL b V::H) q:=mz (λ_ _=>rfl) t
def k0{q:HP}(x:tV)(h:V.Ok x)(t:T B (cL b V::H) q):T B (mN b V x H) q:=my x h (λ_ _=>rfl) t
def AN{q:HP}(t:T B (hO e H) q):T B (gd e::H) q:=lJ t
def xx{q:HP}(t:T B (gd e::H) q):T B (hO e H) q:=jQ (Hs:=hO e []) t
def xL{α:Type}{th:α->bg}{m:ML α}{a:α}{k:Int}{q:HP}(hs:bS m)(h:aS m k=some a)(t:T B (th a::cS th (bO k m)::H) q):T B (cS th m::H) q:=wx (sU (f:=th) hs h) t
def Ba{α:Type}{th:α->bg}{m:ML α}{a:α}{k:Int}{q:HP}(hs:bS m)(h:aS m k=some a)(t:T B (cS th m::H) q):T B (th a::cS th (bO k m)::H) q:=wy (sU (f:=th) hs h) t
instance ab6[h:Ow H (cL b) V H0]:J B H (ab P 42 #[pz b] K) (T B (cL b V::H0) (K (.bool true))):=⟨by
 intro I;refine bh h.pl (qf λx ok=>an (NK _) ?_);repeat apply J.go
 exact af (k0 x ok I)⟩
instance ab7:J B H (ab P 188 #[D n] K) (T B H (K (.bool (small n)))):=⟨by intro I;apply an (NM _);unfold small at I;refine S2.go (λ_=>?_) λ_=>?_;all_goals (refine eb I ?_;simp;omega)⟩
def Vu(I:∀b,T B (cL b Lv.new::H) (K (pz b))):T B H (ab P 35 #[] K):=by
 apply an (NC);repeat refine Sa.go λ_=>?_
 rename_i r b;refine bL (q:=IM r λ_=>none) (iQ Value.pointer ?_);have:=k0 ⟨r,[]⟩ ⟨by simp[bS,bb,eu],rfl,by simp⟩ (I b);refine jQ (Hs:=[]) ?_;exact af (H':=cl b #[.map (some r)]::MP Value.pointer r []::eG []::H) this
def FP{s:Sp}{rg:ML Int}[hc:bY B H e.b (AM e)][hm:Ow H (MP D e.rr) rg H0][a:bY B H0 e.b (AM e)](I:T B (MP D e.rr rg::H0) (K (.agg (c6 ⟨i,e.k.gen,(aS rg s.at').getD 0,s.at',s.len⟩).toArray))):T B H (ab P 93 #[pz e.b,D i,.agg #[D s.at',D s.len]] K):=by
 apply an (NL _ _ _);repeat first|apply J.go|refine Sa.go λ_=>?_|refine Sc.go (by first|rfl|exact⟨rfl,rfl⟩) ?_
 exact af I
def FI{k:Lk}{bw:Nat}(I:k.Ok bw){p:Pc}(b:p∈k.ps):(aS (k.ps.map Pc.kv) p.at').getD 0=p.bT:=by
 have a:=(sn I.R).1
 have hs:bS (k.ps.map Pc.kv):=by unfold bS bb eu;rw[nj];unfold v8 at a;rw[lD]at a⊢;exact a
 rw[(xB hs).2 (bQ.2 ⟨p,b,rfl⟩)];rfl
def FO[h:Ow H (cL b) V H0](C:V.bw<900000)(I:∀p c,T B (ai 5 p (V.p' i).length c ((V.p' i).flatMap c6)::cL b V::H0) (K (.slice p (V.p' i).length c))):T B H (ab P 45 #[pz b,D i] K):=by
 refine bh h.pl (an (NJ _ _) ?_);repeat apply J.go
 refine aN (cL b) (qf λx ok=>?_);unfold Lv.p' at I;rw[ok.all,mS]at I;have d:aS (eg e' x.m) i=(aS x.m i).map e':=mS
 cases f:aS x.m i with
 |none=>
  rw[f]at I d;repeat' first|apply J.go|refine S2.go (λ_=>?_) λ_=>?_|done
  ·rename_i a
   exact dR 5 (af (H':=mN b V x (ai 5 none 0 0 []::H0)) (k0 x ok (cq (cy _ _ _) (I none 0))))
  ·rename_i a
   rw[d]at a;cases a
 |some e=>
  rw[f]at I d;repeat' first|apply J.go|refine S2.go (λ_=>?_) λ_=>?_|done
  ·rename_i a
   rw[d]at a;cases a
  ·rename_i a
   have v:=jv f;have n:=(ok.ok _ v).1;simp only at n;have E:=n.len;rw[d];refine aN (cS gd) (xL ok.bV f (AN ?_));simp only[ih,fC];refine af (H':=hO e (cS gd (bO i x.m)::cl b #[.map (some x.r)]::MP Value.pointer x.r (eg e' x.m)::H0)) (J.go ?_);have w:(eO i e.k).length=e.k.ps.length:=by simp[eO]
   refine dR 5 (oH e.k.ps.length (by omega) (λk p l c H'=>l=k/\H'=ai 5 p k c (((eO i e.k).take k).flatMap c6)::hO e (cS gd (bO i x.m)::cl b #[.map (some x.r)]::MP Value.pointer x.r (eg e' x.m)::H0)) ⟨rfl,rfl⟩ ?_);rintro k p l c H' R F ⟨rfl,rfl⟩ y;refine S2.go (λ_=>?_) λ_=>?_
   ·have q:l<e.k.ps.length:=by omega
    have g:e.k.ps[l]?=some e.k.ps[l]:=ba q;generalize e.k.ps[l]=pc at g;have z:=FI n (cz g);refine dO jC (by omega) l rfl q (by rw[fo,g];rfl) ?_;repeat first|apply J.go|refine Sa.go λ_=>?_|refine Sc.go (by first|rfl|exact⟨rfl,rfl⟩) ?_
    rw[d];simp only[ih,fC];rename_i t;refine af (H':=cl t (dt pc.sp).toArray::MP Value.pointer x.r (eg e' x.m)::ai 5 p l c (((eO i e.k).take l).flatMap c6)::hO e (cS gd (bO i x.m)::cl b #[.map (some x.r)]::H0)) ?_;have hC:bY B (cl t (dt pc.sp).toArray::MP Value.pointer x.r (eg e' x.m)::ai 5 p l c (((eO i e.k).take l).flatMap c6)::hO e (cS gd (bO i x.m)::cl b #[.map (some x.r)]::H0)) t (dt pc.sp).toArray:=inferInstance;refine fF (λσ o=>⟨_,rfl,rfl,λj G=>?_⟩) ?_
    ·rw[aQ,hC.cell o,bJ]
    unfold bH;apply FP;rw[show(aS (e.k.ps.map Pc.kv) pc.sp.at').getD 0=pc.bT from z];apply J.go;apply bj rfl;refine Sa.go λL=>?_;refine jP (ds:=(c6 ⟨i,e.k.gen,pc.bT,pc.at',pc.len⟩).toArray) rfl ?_;refine aN (ai 5 p l c) (e0 (s:=5) (c:=c) rfl (by omega) λu c'=>?_)
    have A:((eO i e.k).take (l+1)).flatMap c6=((eO i e.k).take l).flatMap c6++(c6 ⟨i,e.k.gen,pc.bT,pc.at',pc.len⟩).toArray.toList:=by rw[dQ (by unfold eO;rw[fo,g];rfl)];simp
    rw[<-A];exact af (H':=ai 5 u (l+1) c' (((eO i e.k).take (l+1)).flatMap c6)::hO e (cS gd (bO i x.m)::cl b #[.map (some x.r)]::MP Value.pointer x.r (eg e' x.m)::H0)) (y q u _ c' _ ⟨rfl,rfl⟩)
   ·have hl:l=e.k.ps.length:=by omega
    rw[j7 (by omega)];have I:=I p c;simp only[ih]at I;rw[w,<-hl]at I;refine af (H':=hO e (cS gd (bO i x.m)::cl b #[.map (some x.r)]::MP Value.pointer x.r (eg e' x.m)::ai 5 p l c ((eO i e.k).flatMap c6)::H0)) (xx (Ba ok.bV f ?_));exact af (H':=mN b V x (ai 5 p l c ((eO i e.k).flatMap c6)::H0)) (k0 x ok (cq (cy _ _ _) I))
def Lv.Ok.TL{x:tV}(ok:V.Ok x):(V.drop i).Ok {x with m:=bO i x.m}:=⟨ma ok.bV,by show bO i V.all=_;rw[ok.all,Ge ok.bV],λe he=>ok.ok e (sW.1 he).1⟩
def Vt[h:Ow H (cL b) V H0](d:V.bw<900000)(I:T B (cL b (V.drop i)::H0) (K (D (V.p' i).length))):T B H (ab P 114 #[pz b,D i] K):=by
 refine bh h.pl (an (NG _ _) ?_);unfold bX;refine FO d λp c=>?_;repeat apply J.go
 refine aN (cL b) (qf λx ok=>?_);repeat apply J.go
 have aP:=ok.TL (i:=i)
 have:T B (cS gd (bO i x.m)::MP Value.pointer x.r (bO i (eg e' x.m))::cl b #[.map (some x.r)]::H0) (K (D (V.p' i).length)):=by rw[<-Ge ok.bV];exact af (H':=mN b (V.drop i) {x with m:=bO i x.m} H0) (k0 _ aP I)
 refine af (H':=cS gd x.m::MP Value.pointer x.r (bO i (eg e' x.m))::cl b #[.map (some x.r)]::H0) ?_
 cases a:aS x.m i with
 |none=>rw[uT a]at this;exact this
 |some e=>exact xL ok.bV a (pN (.drop .refl) this)
def Wi{k:Lk}{s:Sp}(c:l' k.ss=true)(hw:fW s=true)(b:qx k.ss s=false):∀q∈k.ps,q.at'≠s.at':=by
 intro q m he;have n:=(sn c).1;have hm:q.sp∈k.ss:=bQ.2 ⟨q,m,rfl⟩;obtain⟨j,d,f⟩:=qH hm;have g:k.ss[j]?=some q.sp:=by rw[ba d,f]
 unfold qx at b;rw[tC]at b
 have o:dX s.at' k.ss<=j:=by refine Nat.le_of_not_lt λh=>?_;have:=HD h g;simp only at this;omega
 have a:k.ss[dX s.at' k.ss]?=some k.ss[dX s.at' k.ss]:=ba (by omega);have U:=b.1;rw[a]at U;simp only at U;have p:=HB a
 have heq:k.ss[dX s.at' k.ss].at'<=s.at':=by
  by_cases e:dX s.at' k.ss=j
  ·have:k.ss[dX s.at' k.ss]=q.sp:=by
    have i:k.ss[dX s.at' k.ss]?=some q.sp:=by rw[e];exact g
    rw[a]at i;exact qL i
   rw[this];simp only;omega
  ·have:=kJ.1 n (dX s.at' k.ss) j (by omega) d (by omega)
   rw[f]at this;simp only at this;omega
 have l:=vu c _ (cz a);have r:=jb l;have w2:=jb hw;unfold ja at U;rw[l,hw,e5,e5,fN]at U;omega
def Vr{l:Ld}[h:Ow H (cL b) V H0](ao:V.bw<800000)(hl:aF l.len/\aF l.at')(X:aF l.bT)(I:T B (cL b (V.add l)::H0) (K (.tuple #[D (if V.gp l=0 then eM 3 l.chunk l.gen l.at' else 0),D (V.gp l)]))):T B H (ab P 112 #[pz b,.agg (c6 l).toArray] K):=by
 refine bh h.pl (an (ND _ _) ?_);refine Sa.go λaa=>?_;unfold Lv.add at I;generalize d:V.gp l=e at I;unfold Lv.gp at d;refine dV (α:={ap:Unit//Lv.si l=true}) (λ_=>cl aa (c6 l).toArray::cL b V::H0) (λ_=>[]) (λY body=>?_) λ⟨_,ha⟩=>?_
 ·have v:Lv.si l=false->T B (cL b V::H0) (K (.tuple #[D 0,D 2])):=λh=>by rw[h]at d;simp only[fM,ej]at d;subst d;exact I
  have o:Lv.si l=(small l.chunk&&small l.gen&&small l.at'&&decide (1<=l.len/\l.len<=1048576/\0<=l.bT)):=rfl;rw[show c6 l=[D l.chunk,D l.gen,D l.bT,D l.at',D l.len]from rfl]at body⊢;repeat' first|apply J.go|refine S2.go (λ_=>?_) λ_=>?_|done
  ·rename_i U
   exact af (v (by rw[o,U];rfl))
  ·rename_i U i
   exact af (v (by rw[o,i];simp))
  ·rename_i U i w
   exact af (v (by rw[o,w];simp))
  ·rename_i U i w E
   exact af (v (by rw[o,cD (by omega)];simp))
  ·rename_i U i w E M
   exact af (v (by rw[o,cD (by omega)];simp))
  ·rename_i U i w E M Z
   exact af (v (by rw[o,cD (by omega)];simp))
  ·rename_i U i w E M Z
   exact af (body ⟨(),by rw[o,U,i,w,cB (by omega)];rfl⟩)
 rw[ha,ah rfl]at d;have j:=ha;unfold Lv.si small at j;simp only[b9,bz]at j;refine aN (cL b) (qf λx ok=>?_);rw[show c6 l=[D l.chunk,D l.gen,D l.bT,D l.at',D l.len]from rfl];refine J.go (J.go (J.go (J.go (J.go ?_))));have z:aS (eg e' x.m) l.chunk=(aS x.m l.chunk).map e':=mS;have u:V.kU l.chunk l.gen=((aS x.m l.chunk).map (·.k)).getD ⟨l.gen,[]⟩:=by unfold Lv.kU;rw[ok.all,mS]
 refine dV (α:={e:pI//e.k=V.kU l.chunk l.gen/\(aS x.m l.chunk=some e\/(aS x.m l.chunk=none/\e.k.ps=[]))})
  (λe=>hO e.1 (cS gd (bO l.chunk x.m)::MP Value.pointer x.r (eg e' x.m)::cl b #[.map (some x.r)]::cl aa #[D l.chunk,D l.gen,D l.bT,D l.at',D l.len]::H0)) (λe=>[.pointer (e' e.1)]) (λY body=>?_) λ⟨a,F,N⟩=>?_
 ·cases f:aS x.m l.chunk with
  |none=>
   rw[f]at z u body;rw[z];repeat first|apply J.go|refine Sa.go λ_=>?_|refine bk (by with_reducible decide) ?_
   ·rename_i A O
    refine bL (q:=IM A λ_=>none) (iQ D (dR 2 ?_));have:=body ⟨⟨O,A,none,0,⟨l.gen,[]⟩⟩,u.symm,.inr ⟨rfl,rfl⟩⟩;rw[uT f]at this;exact af (H':=cl O #[.slice none 0 0,D l.gen,.map (some A)]::ai 2 none 0 0 []::MP D A []::cS gd x.m::MP Value.pointer x.r (eg e' x.m)::cl b #[.map (some x.r)]::cl aa #[D l.chunk,D l.gen,D l.bT,D l.at',D l.len]::H0) this
  |some ac=>rw[f]at z u body;rw[z];refine aN (cS gd) (xL ok.bV f (AN ?_));simp only[ih,fC]at u⊢;apply aD rfl;have:=body ⟨ac,u.symm,.inl rfl⟩;exact af this
 have Q:T B (cL b V::H0) (K (.tuple #[D 0,D e]))->T B (hO a (cS gd (bO l.chunk x.m)::MP Value.pointer x.r (eg e' x.m)::cl b #[.map (some x.r)]::cl aa #[D l.chunk,D l.gen,D l.bT,D l.at',D l.len]::H0)) (K (.tuple #[D 0,D e])):=by
  intro t;rcases N with f|⟨f,_⟩
  ·exact xx (Ba ok.bV f (af (H':=mN b V x H0) (k0 x ok t)))
  ·rw[uT f]
   exact af (H':=mN b V x H0) (k0 x ok t)
 have n:a.k.Ok V.bw:=by
  rcases N with f|⟨f,g⟩
  ·exact(ok.ok _ (jv f)).1
  ·rw[f]at u
   rw[u]at F;rw[F];exact⟨rfl,j.1.1.2,by simp,by simp⟩
 rw[<-F]at d I;repeat' first|apply J.go|refine S2.go (λ_=>?_) λ_=>?_|done
 ·rename_i G
  rw[ak G]at d;subst d;exact Q I
 rename_i G;rw[ah G]at d;simp only;have L:fW ⟨l.at',l.len⟩=true:=by unfold fW;simp only[bz];omega
 have ad:∀s∈a.k.ss,s.ok:=by intro s hs;obtain⟨p,g,rfl⟩:=bQ.1 hs;have:=n.sm p g;unfold Sp.ok aF;simp only;omega
 have aq:=n.len;refine aN (ai 2 a.p a.k.ps.length a.c) (A7 λae=>?_);refine af (H':=hO a (cS gd (bO l.chunk x.m)::MP Value.pointer x.r (eg e' x.m)::cl b #[.map (some x.r)]::cl aa #[D l.chunk,D l.gen,D l.bT,D l.at',D l.len]::H0)) ?_;unfold pU;refine Zy (ss:=a.k.ss) (s:=⟨l.at',l.len⟩) (by simp) ae (by omega) ad n.R ⟨hl.2,hl.1⟩ L (λy=>?_) λy S c'=>?_
 ·rw[y,ah rfl]at d
  subst d;repeat apply J.go
  exact Q I
 ·rw[y,ak (by simp)]at d
  subst d;rw[ah rfl,ah rfl]at I;have ag:=Wi n.R L y;repeat first|apply J.go|refine Sa.go λ_=>?_
  have C:∀{ks:Lk},(ks.ins ⟨l.at',l.len,l.bT⟩).ss=qy ks.ss ⟨l.at',l.len⟩/\(ks.ins ⟨l.at',l.len,l.bT⟩).ps.length=ks.ss.length+1:=by
   intro ks;have U:(ks.ins ⟨l.at',l.len,l.bT⟩).ss=qy ks.ss ⟨l.at',l.len⟩:=by simp[Lk.ins,qy,Lk.ss,List.map_take,List.map_drop]
   refine⟨U,?_⟩;have i:(ks.ins ⟨l.at',l.len,l.bT⟩).ps.length=(ks.ins ⟨l.at',l.len,l.bT⟩).ss.length:=by simp
   rw[i,U];have:=HC (x:=l.at') (l:=ks.ss);unfold qy;simp only[cr,ff,dd,lB];omega
  have W:=UY (k:=a.k) (p:=⟨l.at',l.len,l.bT⟩) ag (sn n.R).1
  have aj:fS 3 l.chunk l.gen l.at'=0:=by unfold fS;rw[ak (by omega),ak (by omega),ak (by omega),ak (by omega)]
  rw[aj,ah rfl]
  have al:(a.k.ins ⟨l.at',l.len,l.bT⟩).Ok (V.bw+1):=by
   refine⟨by rw[C.1];exact Zx n.R L y,n.gen,λp g=>?_,by rw[C.2];simp;omega⟩;unfold Lk.ins at g;simp only[dL,cR]at g;rcases g with g|rfl|g
   ·exact n.sm p (kH g)
   ·exact⟨j.1.2.1,j.1.2.2,j.2.1,j.2.2.1,j.2.2.2,X.2⟩
   ·exact n.sm p (tM g)
  have aP:Lv.Ok ⟨bE l.chunk (a.k.ins ⟨l.at',l.len,l.bT⟩) V.all,V.bw+1⟩ {x with m:=bE l.chunk ⟨a.b,a.rr,S,c',a.k.ins ⟨l.at',l.len,l.bT⟩⟩ x.m}:=by
   refine⟨fA ok.bV,by simp only;rw[ok.all,Gf ok.bV],λe he=>?_⟩;rcases(oX ok.bV).1 he with rfl|⟨he,_⟩
   ·exact⟨al,j.1.1.1⟩
   ·have:=ok.ok e he
    exact⟨⟨this.1.R,this.1.gen,this.1.sm,Nat.le_succ_of_le this.1.len⟩,this.2⟩
  have:=k0 _ aP I;rw[mN,Gf ok.bV]at this;have am:(a.k.ins ⟨l.at',l.len,l.bT⟩).gen=a.k.gen:=rfl;simp only at W;rw[<-W,<-(C).2,<-(C).1,<-am];refine af (H':=hO ⟨a.b,a.rr,S,c',a.k.ins ⟨l.at',l.len,l.bT⟩⟩ (cS gd (bO l.chunk x.m)::MP Value.pointer x.r (bE l.chunk (e' a) (eg e' x.m))::cl b #[.map (some x.r)]::H0)) (xx (Bb ok.bV ?_));exact af this
end
end
section
def EG{e:Int}{l:List Sp}(h:hE e l=true):l.Pairwise λa b=>a.at'+a.len<=b.at':=by
 induction l generalizing e with
 |nil=>exact .nil
 |cons s l c=>simp only[hE,b9,bz]at h;exact oo.2 ⟨(sn h.2).2,c h.2⟩
def Uf{k:Lk}{n:Int}(b:l' k.ss=true):(cJ (pe n) k.ss=-1/\k.ps.find? (λp=>p.at'==n)=none)\/∃(j:Nat) (p:Pc),cJ (pe n) k.ss=j/\k.ps[j]?=some p/\k.ps.find? (λp=>p.at'==n)=if p.at'=n then some p else none:=by
 have o:=EG b;have f:=vu b;have q:=(sn b).1;unfold cJ
 cases hf:k.ss.findIdx? (pe n)with
 |none=>refine .inl ⟨rfl,pA.2 λp a=>?_⟩;rw[vO]at hf;have U:=hf p.sp (bQ.2 ⟨p,a,rfl⟩);have hw:=jb (f p.sp (bQ.2 ⟨p,a,rfl⟩));unfold pe at U;simp only[fN]at U;simp only[gB];simp only at hw;omega
 |some j=>
  obtain⟨c,d,r⟩:=yY.1 hf;have g:j<k.ps.length:=by simpa using c
  refine .inr ⟨j,k.ps[j],rfl,ba g,?_⟩;have l:k.ss[j]=k.ps[j].sp:=by simp
  rw[l]at d;unfold pe at d;simp only[bz]at d;split
  ·rename_i he
   rw[List.find?_eq_some_iff_getElem];refine⟨by simpa using he,j,g,rfl,λi hi=>?_⟩;have:=kJ.1 q i j (by simp;omega) c hi;simp only[tL]at this;simp only[ml,r7,ne_eq];omega
  ·rename_i he
   refine pA.2 λp a=>?_;simp only[gB];intro s;obtain⟨i,hi,rfl⟩:=qH a;have e:k.ss[i]'(by simpa using hi)=k.ps[i].sp:=by simp
   have m:=jb (f _ (dz (by simpa using hi)));rw[e]at m;simp only at m;rcases Nat.lt_trichotomy i j with h|h|h
   ·have:=r i h
    rw[e]at this;unfold pe at this;simp only[bz]at this;omega
   ·subst h;exact he s
   ·have:=kJ.1 o j i c (by simpa using hi) h
    rw[e,l]at this;simp only at this;omega
section
variable {B:Heap}{H H0:au}{K:aK}{b:Nat}{V:Lv}{i n h:Int}{e:pI}
instance ab5[C:Ow H (cL b) V H0]:Sc B H (ab P 117 #[pz b,D h] K) (aF h/\V.bw<900000) (T B (cL b V::H0) (K (.tuple #[.agg (c6 (V.find h)).toArray,D (V.bo h)]))):=⟨by
 rintro⟨hi,Q⟩ I;refine bh C.pl (an (NI _ _) ?_);refine Sa.go λaa=>J.go (J.go ?_);refine aD rfl (Sc.go hi ?_);unfold Lv.find at I;generalize a:V.bo h=e at I;unfold Lv.bo at a;unfold p7;have d:e≠0->T B (cL b V::H0) (K (.tuple #[.agg #[D 0,D 0,D 0,D 0,D 0],D e])):=λhe=>by rw[ak he]at I;exact I
 split
 ·rename_i i
  have S:0<=iw h/\iw h<1048576:=by unfold iw;omega
  apply J.go;refine dV (α:={E:Unit//hv h=3}) (λ_=>cL b V::cl aa #[D 0,D 0,D 0,D 0,D 0]::H0) (λ_=>[]) (λF body=>?_) λ⟨_,G⟩=>?_
  ·refine aD rfl (S2.go (λl=>?_) λl=>?_)
   ·rw[ak λh=>l h.2]at a
    subst a;repeat refine Sc.go (by first|rfl|exact⟨rfl,rfl⟩) ?_
    exact af (d (by decide))
   ·exact af (body ⟨(),l⟩)
  rw[ah ⟨i,G⟩]at a;unfold Lv.w3 at a I;refine aN (cL b) (qf λx ok=>?_);rw[ok.all,mS]at a I;have L:aS (eg e' x.m) (gP h)=(aS x.m (gP h)).map e':=mS;refine J.go (J.go (J.go (J.go ?_)));rw[L]
  cases g:aS x.m (gP h)with
  |none=>
   rw[g]at a I;simp only[y8,Option.getD_none]at a I⊢;subst a;repeat first|apply J.go|refine Sc.go (by first|rfl|exact⟨rfl,rfl⟩) ?_
   exact af (k0 x ok (d (by decide)))
  |some c=>
   rw[g]at a I;simp only[ih,fC]at a I⊢;have f:=(ok.ok _ (jv g)).1;simp only at f;have U:=f.len;refine aN (cS gd) (xL ok.bV g (AN ?_))
   have z:∀{q:HP},T B (cL b V::H0) q->T B (hO c (cS gd (bO (gP h) x.m)::MP Value.pointer x.r (eg e' x.m)::cl b #[.map (some x.r)]::H0)) q:=λt=>xx (Ba ok.bV g (af (H':=mN b V x H0) (k0 x ok t)))
   have n:∀{q:HP},T B (cL b V::H0) q->T B (hO c (cS gd (bO (gP h) x.m)::MP Value.pointer x.r (eg e' x.m)::cl b #[.map (some x.r)]::cl aa #[D 0,D 0,D 0,D 0,D 0]::H0)) q:=λt=>af (H':=hO c (cS gd (bO (gP h) x.m)::MP Value.pointer x.r (eg e' x.m)::cl b #[.map (some x.r)]::H0)) (z t)
   refine af (H':=hO c (cS gd (bO (gP h) x.m)::MP Value.pointer x.r (eg e' x.m)::cl b #[.map (some x.r)]::cl aa #[D 0,D 0,D 0,D 0,D 0]::H0)) (dV (α:={E:Unit//c.k.gen=gG h}) (λ_=>hO c (cS gd (bO (gP h) x.m)::MP Value.pointer x.r (eg e' x.m)::cl b #[.map (some x.r)]::cl aa #[D 0,D 0,D 0,D 0,D 0]::H0)) (λ_=>[]) (λF body=>?_) λ⟨_,M⟩=>?_)
   ·repeat' first|apply J.go|refine S2.go (λ_=>?_) λ_=>?_|refine Sc.go (by first|rfl|exact⟨rfl,rfl⟩) ?_|done
    ·rename_i o
     rw[ak o]at a;simp only at a;subst a;exact af (n (d (by decide)))
    ·rename_i o
     exact af (body ⟨(),o⟩)
   rw[ah M]at a I
   have N:∀s∈c.k.ss,s.ok:=by intro s hs;obtain⟨p,O,rfl⟩:=bQ.1 hs;have:=f.sm p O;unfold Sp.ok aF;simp only;omega
   refine J.go (J.go ?_);unfold aU;apply Zz (by simp) (by omega) N f.R (by unfold aF;omega);apply J.go;rcases Uf f.R with⟨u,v⟩|⟨j,p,u,w,v⟩
   ·rw[v]at a
    simp only at a;subst a;rw[u];refine J.go (bk (by decide) ?_);repeat refine Sc.go (by first|rfl|exact⟨rfl,rfl⟩) ?_
    exact af (n (d (by decide)))
   ·rw[v]at a I
    rw[u];have W:=(b0.1 w).1;have A:c.k.ss[j]?=some p.sp:=by rw[fo,w];rfl
    refine J.go (aD (by simp) (J.go (eA j rfl (by omega) (dW jC c.k.ss j p.sp A 0 (by omega)) (S2.go (λy=>?_) λy=>?_))))
    ·rw[ak y]at a
     simp only at a;subst a;repeat refine Sc.go (by first|rfl|exact⟨rfl,rfl⟩) ?_
     exact af (n (d (by decide)))
    ·rw[ah y]at a I
     simp only at a I;subst a;rw[ah rfl]at I;refine J.go (J.go ?_);apply dO jC (by omega) j rfl (by omega) A;unfold bH;apply FP;rw[show(aS (c.k.ps.map Pc.kv) p.sp.at').getD 0=p.bT from FI f (cz w)];repeat first|apply J.go|refine Sc.go (by first|rfl|exact⟨rfl,rfl⟩) ?_
     exact af (H':=hO c (cS gd (bO (gP h) x.m)::MP Value.pointer x.r (eg e' x.m)::cl b #[.map (some x.r)]::H0)) (z I)
 ·rename_i i
  rw[ak λh=>i h.1]at a;subst a;repeat first|apply J.go|refine Sc.go (by first|rfl|exact⟨rfl,rfl⟩) ?_
  exact af (d (by decide))⟩
def Vs(D:V.bw<900)(E:V.all.length<900)(I:∀p c,T B (ai 5 p V.oM.length c (V.oM.flatMap c6)::cL b V::H0) (K (.slice p V.oM.length c))):T B (cL b V::H0) (ab P 20 #[pz b] K):=by
 apply an (NF _);repeat apply J.go
 refine aN (cL b) (qf λx ok=>?_);apply J.go;have i:(eg e' x.m).length=V.all.length:=by rw[ok.all];simp[eg]
 refine Sx.go (by rw[i];omega) λy=>?_;rw[i];have o:bb (eg e' x.m)=bb V.all:=by rw[AR,ok.all,AR]
 rw[o];apply J.go;have q:bS V.all:=by rw[ok.all];exact rQ ok.bV
 have j:∀e∈V.all,(eO e.1 e.2).length<=V.bw:=by intro e he;rw[ok.all]at he;obtain⟨r,s,rfl⟩:=bQ.1 he;have:=(ok.ok r s).1.len;simpa[eO]using this
 refine af (H':=mN b V x (ai 1 y.1 V.all.length y.2 (iv .i64 (bb V.all))::H0)) (k0 x ok ?_);refine dR 5 (af (H':=ai 5 none 0 0 []::ai 1 y.1 V.all.length y.2 (iv .i64 (bb V.all))::cL b V::H0) ?_)
 have hle:∀k,((V.all.take k).flatMap λe=>eO e.1 e.2).length<=k*900:=λk=>by
  have:∀(l:ML Lk),(∀e∈l,(eO e.1 e.2).length<=V.bw)->(l.flatMap λe=>eO e.1 e.2).length<=l.length*900:=by
   intro l hl
   induction l with
   |nil=>simp
   |cons e l t=>have:=t λg h=>hl g (by simp[h]);have:=hl e (by simp);simp only[gz,cr,dd];omega
  have U:=this (V.all.take k) λg h=>j g (kH h);have u:(V.all.take k).length<=k:=by rw[ff];omega
  have:=jM 900 u;omega
 refine oH V.all.length (by omega) (λk p l c H'=>l=((V.all.take k).flatMap λe=>eO e.1 e.2).length/\H'=ai 5 p ((V.all.take k).flatMap λe=>eO e.1 e.2).length c (((V.all.take k).flatMap λe=>eO e.1 e.2).flatMap c6)::ai 1 y.1 V.all.length y.2 (iv .i64 (bb V.all))::cL b V::H0) ⟨rfl,rfl⟩ ?_;rintro k p l c H' R F ⟨rfl,rfl⟩ w;refine S2.go (λ_=>?_) λ_=>?_
 ·have f:k<V.all.length:=by omega
  have a:V.all[k]?=some V.all[k]:=ba f;generalize V.all[k]=e at a;have n:=cz a
  have z:V.p' e.1=eO e.1 e.2:=by unfold Lv.p';rw[(xB q).2 n]
  refine e1 k rfl f (by unfold bb;rw[fo,a];rfl) ?_;unfold bX;refine FO (by omega) λp2 c2=>?_;rw[z];apply J.go;have G:=j e n;have H:=hle k
  have L:ka ((eO e.1 e.2).flatMap c6).toArray:=⟨by intro v d;obtain⟨m,hm,d⟩:=lC.1 d;simp only[c6,cR,jH,ji]at d;rcases d with rfl|rfl|rfl|rfl|rfl<;>rfl⟩
  refine af (H':=ai 5 p ((V.all.take k).flatMap λe=>eO e.1 e.2).length c (((V.all.take k).flatMap λe=>eO e.1 e.2).flatMap c6)::ai 5 p2 (eO e.1 e.2).length c2 ((eO e.1 e.2).flatMap c6)::ai 1 y.1 V.all.length y.2 (iv .i64 (bb V.all))::cL b V::H0) (oy (by omega) (dr uI _) λA c'=>?_);have C:(V.all.take (k+1)).flatMap (λe=>eO e.1 e.2)=(V.all.take k).flatMap (λe=>eO e.1 e.2)++eO e.1 e.2:=by rw[dQ a];simp
  have:=w f A _ c' _ ⟨rfl,rfl⟩;rw[C,cr,og]at this;exact af this
 ·have hl:k=V.all.length:=by omega
  subst hl;rw[gA];exact af (I p c)
def Ue{x:tV}(ok:V.Ok x):0<=(V.find h).at'/\(V.find h).at'<=1048575/\0<=(V.find h).len/\(V.find h).len<=1048576/\0<=(V.find h).chunk/\(V.find h).chunk<=1048575/\0<=(V.find h).gen/\(V.find h).gen<=1048575/\0<=(V.find h).bT/\(V.find h).bT<=9223372036854775807:=by
 unfold Lv.find;split
 ·unfold Lv.w3
  rw[ok.all,mS]
  cases a:aS x.m (gP h)with
  |none=>simp
  |some e=>
   have I:=(ok.ok _ (jv a));simp only[ih]at I⊢;split
   ·cases hf:e.k.ps.find? (λp=>p.at'==iw h)with
    |none=>simp
    |some p=>have:=I.1.sm p (List.mem_of_find?_eq_some hf);have:=I.1.gen;simp only[fC];omega
   ·simp
 ·simp
end
end
section
def lV(V:Lv)(h o n:Int):Int:=
 if V.bo h=0 then(if 4096<n then 5 else if o<0\/n<0\/(V.find h).len<o\/(V.find h).len-o<n then 15 else 0)else V.bo h
def AY(S:aH)(V:Lv)(h o:Int)(t:List UInt8):Int:=if lV V h o t.length=0 then S.gh (V.find h).chunk (V.find h).gen ((V.find h).at'+o) t else lV V h o t.length
def nM(S:aH)(V:Lv)(h o:Int)(t:List UInt8):aH:=if lV V h o t.length=0 then S.put (V.find h).chunk (V.find h).gen ((V.find h).at'+o) t else S
def AW(S:aH)(V:Lv)(h o n:Int):Int:=if lV V h o n=0 then S.uO (V.find h).chunk (V.find h).gen ((V.find h).at'+o) n else lV V h o n
def AX(S:aH)(V:Lv)(h o n:Int):List UInt8:=if lV V h o n=0 then S.loadT (V.find h).chunk (V.find h).gen ((V.find h).at'+o) n else[]
section
variable {B:Heap}{H H0 Ha:au}{K:aK}{sb pb:Nat}{V:Lv}{S:aH}{h o n:Int}{t:List UInt8}
def xw{q:HP}(k:(∀h,0<=(V.find h).at'/\(V.find h).at'<=1048575/\0<=(V.find h).len/\(V.find h).len<=1048576/\0<=(V.find h).chunk/\(V.find h).chunk<=1048575/\0<=(V.find h).gen/\(V.find h).gen<=1048575/\0<=(V.find h).bT/\(V.find h).bT<=9223372036854775807)->T B (cL pb V::H) q):T B (cL pb V::H) q:=qf λx ok=>k0 x ok (k λh=>Ue ok)
def ZD{q:HP}(k:64<=S.size->T B (cj sb S::H) q):T B (cj sb S::H) q:=pf λx ok=>hT x ok (k ok.inv.s1)
def Ga(i:aF o)(l:aF n)(j:aF h)(k:V.bw<900000)(I:T B (cj sb S::cL pb V::H) (K (.tuple #[.agg (c6 (if lV V h o n=0 then V.find h else AH)).toArray,D (lV V h o n)]))):T B (cj sb S::cL pb V::H) (ab P 198 #[pz sb,pz pb,D h,D o,D n] K):=by
 refine an (On _ _ _ _ _) (ZD λhs=>cq (cy _ _ _) (xw λf=>cq (cy _ _ _) ?_));have f:=f h;unfold aF at i;generalize a:lV V h o n=e at I;unfold lV at a;refine Sa.go λaa=>J.go (J.go ?_);apply aD (by simp;omega);refine Sc.go ⟨j,k⟩ ?_;repeat' first|apply J.go|refine Sa.go λ_=>?_|refine S2.go (λ_=>?_) λ_=>?_|refine Sc.go (by first|rfl|exact⟨rfl,rfl⟩) ?_|done
 ·rename_i h0
  rw[ak h0]at a;subst a;rw[ak h0]at I;exact af I
 ·rename_i h0 U
  rw[ah h0,ah (by omega)]at a;subst a;exact af I
 ·rename_i h0 U b
  rw[ah h0,ak (by omega),ah (by omega)]at a;subst a;exact af I
 ·rename_i h0 U b c
  rw[ah h0,ak (by omega),ah (by omega)]at a;subst a;exact af I
 ·rename_i h0 U b c g
  rw[ah h0,ak (by omega),ah (by omega)]at a;subst a;exact af I
 ·rename_i h0 U b c g d
  rw[bd (by omega)]at d;rw[ah h0,ak (by omega),ah (by omega)]at a;subst a;exact af I
 ·rename_i h0 U b c g d
  rw[bd (by omega)]at d;rw[ah h0,ak (by omega),ak (by omega)]at a;subst a;exact af I
def Gb(h0:lV V h o n=0):V.bo h=0/\0<=o/\0<=n/\o<=(V.find h).len/\n<=(V.find h).len-o/\n<=4096:=by
 unfold lV at h0;split at h0
 ·split at h0
  ·cases h0
  ·split at h0
   ·cases h0
   ·exact⟨by assumption,by omega⟩
 ·rename_i a;exact absurd h0 a
def V5(b:aF o)(c:aF h)(d:V.bw<900000)(f:t.length<1000000)(I:T B (cj sb (nM S V h o t)::cL pb V::H) (K (D (AY S V h o t)))):T B (cj sb S::cL pb V::H) (ab P 118 #[pz sb,pz pb,D h,D o,.string ⟨t.toArray⟩] K):=by
 refine an (Om _ _ _ _ _) (cq (cy _ _ _) (xw λa=>cq (cy _ _ _) ?_));have a:=a h;have e:((ByteArray.mk t.toArray).size:Int)=(t.length:Int):=by simp[ByteArray.size]
 rw[e];unfold fH;apply Ga b (by unfold aF;omega) c d;unfold nM AY at I;repeat' first|apply J.go|refine Sa.go λ_=>?_|refine S2.go (λ_=>?_) λ_=>?_|refine Sc.go ⟨rfl,rfl⟩ ?_|done
 ·rename_i h0
  rw[ak h0,ak h0]at I;exact af I
 ·rename_i h0
  rw[ah h0,ah h0]at I;have hm:=Gb h0;rw[ah h0];rw[bd (by omega)];exact af I
def V4(b:aF o)(c:aF n)(d:aF h)(e:V.bw<900000)(I:T B (cj sb S::cL pb V::H) (K (.tuple #[.string ⟨(AX S V h o n).toArray⟩,D (AW S V h o n)]))):T B (cj sb S::cL pb V::H) (ab P 119 #[pz sb,pz pb,D h,D o,D n] K):=by
 refine an (Ol _ _ _ _ _) (cq (cy _ _ _) (xw λa=>cq (cy _ _ _) ?_));have a:=a h;unfold fH;apply Ga b c d e;unfold AX AW at I;repeat' first|apply J.go|refine Sa.go λ_=>?_|refine S2.go (λ_=>?_) λ_=>?_|refine Sc.go ⟨rfl,rfl⟩ ?_|done
 ·rename_i h0
  rw[ak h0,ak h0]at I;exact af I
 ·rename_i h0
  rw[ah h0,ah h0]at I;have hm:=Gb h0;rw[ah h0];rw[bd (by omega)];exact af I
end
end
section
structure Setup where
 c:Int
 z:Int
 q:Int
 l:Int
structure bB where
 s:Setup
 X:aL
 W:a8
 V:Lv
structure ze where
 dj:Nat
 tb:Nat
 pb:Nat
abbrev ju(s:Setup)(x:ze):ax:=#[D s.c,D s.z,D s.q,D s.l,pz x.dj,pz x.tb,pz x.pb]
abbrev k1(b:Nat)(M:bB)(x:ze)(H:au):au:=cl b (ju M.s x)::bR x.dj M.X::cK x.tb M.W::cL x.pb M.V::H
def bC(b:Nat)(M:bB):bg:=BX True (k1 b M)
structure Op where
 kind:Int
 a:Int
 b:Int
 c:Int
 text:List UInt8
abbrev b8(o:Op):ax:=#[D o.kind,D o.a,D o.b,D o.c,.string ⟨o.text.toArray⟩]
abbrev rep(e n:Int):Value:= .agg #[D e,D n,.slice none 0 0,.string ⟨#[]⟩]
structure bB.Fit(M:bB):Prop where
 br:4*M.X.S.br<800000
 next:M.X.R.line.next<4000000000
 Ie:M.W.bw<500
 mh:M.V.bw<500
 qA:M.V.all.length<500
 under:∀p,(M.W.under p).length<400000
 cur:∀k,aF (M.W.rg k).cur
 f':M.X.Q.f'<256
 fresh:∀e∈M.X.Q.L,e.1≠M.X.T.next
 UU:∀i,M.X.T.cN (c8 · 3) check i=0->∃e∈M.X.Q.L,e.1=i
 tick:M.X.zo
structure Op.Fit(o:Op):Prop where
 a:aF o.a
 b:aF o.b
 c:aF o.c
 t:o.text.length<1000000
section
variable {B:Heap}{H H0:au}{K:aK}{b:Nat}{M:bB}{o:Op}{n e c r:Int}
def gO{q:HP}(t:∀x,T B (k1 b M x H) q):T B (bC b M::H) q:=pG (λ_ _=>rfl) λx _=>t x
def eE{q:HP}(x:ze)(t:T B (bC b M::H) q):T B (k1 b M x H) q:=pF x trivial (λ_ _=>rfl) t
instance ab':J B H (ab P 28 #[D e] K) (T B H (K (rep e 0))):=⟨by
 intro I;apply an (N8 _);repeat first|refine Sa.go λ_=>?_|refine Sc.go (by first|rfl|exact⟨rfl,rfl⟩) ?_
 exact af I⟩
instance acb:J B H (ab P 97 #[D n,D e] K) (T B H (K (rep e (if e=0 then n else 0)))):=⟨by
 intro I;apply an (N9 _ _);repeat' first|apply J.go|refine Sa.go λ_=>?_|refine S2.go (λ_=>?_) λ_=>?_|refine Sc.go (by first|rfl|exact⟨rfl,rfl⟩) ?_|done
 ·rename_i h
  rw[ak h]at I;exact af I
 ·rename_i h
  rw[ah h,h]at I;exact af I⟩
def xf{k p g o:Int}(h:fS k p g o=0):aF (eM k p g o):=by
 unfold fS at h;unfold eM aF;split at h
 ·cases h
 ·split at h
  ·cases h
  ·split at h
   ·cases h
   ·split at h
    ·cases h
    ·omega
def Al(L:bG)(p:Int):aF (L.handle p):=by
 unfold bG.handle;split
 ·decide
 ·split
  ·exact xf (by assumption)
  ·decide
def zB{dj:Nat}{X:aL}{q:HP}(t:(∀c,X.L.bo c=0->0<=X.L.place c/\X.L.place c<64)->T B (bR dj X::H) q):T B (bR dj X::H) q:=by
 refine fg λx ok=>aN (bx x.lb) (uJ λa b=>?_);refine af (dB x ok (t λc hc=>?_));have d:X.L.place c=gP c:=by unfold bG.place;rw[ah hc]
 unfold bG.bo at hc;split at hc
 ·unfold bK.e8 at hc
  split at hc
  ·rename_i hr
   unfold aV.right at hr;simp only[b9]at hr;have:=b.lt hr.1;rw[a.n]at this;rw[d];omega
  ·cases hc
 ·cases hc
instance aca[h:Ow H (bC b) M H0]:Sc B H (ab P 99 #[pz b,D c] K) (aF c) (T B (bC b M::H0) (K (D (M.X.fi c)))):=⟨by
 intro hc I;refine bh h.pl (gO λx=>an (NV _ _) ?_);unfold aL.fi at I;repeat' first|apply J.go|refine S2.go (λ_=>?_) λ_=>?_|refine Sc.go (by omega) ?_|done
 ·rename_i U a
  rw[ah U,ah a.2]at I;exact af (eE x I)
 ·rename_i U a
  rw[ah U,ak λh=>a ⟨U,h⟩]at I;rw[U];exact af (eE x I)
 ·rename_i U
  rw[ak U]at I;exact af (eE x I)⟩
end
end
section
structure e7 where
 M:bB
 e:Int
 n:Int->Int
 list:aO
 text:List UInt8
abbrev e7.of(M:bB)(e:Int)(n:Int):e7:=⟨M,e,λ_=>if e=0 then n else 0,[],[]⟩
abbrev e7.bad(M:bB)(e:Int):e7:=⟨M,e,λ_=>0,[],[]⟩
namespace bB
def j2(M:bB)(r:Int):Int:=if M.W.bo r=0 then M.X.fi (M.X.L.handle (M.W.rg (gP r)).aM)else M.W.bo r
def dp(M:bB)(r:Int):Int:=if M.W.bo r=0 then M.X.L.handle (M.W.rg (gP r)).aM else 0
def register(M:bB)(o:Op):e7:= .of {M with X:=M.X.bT o.a} (M.X.L.rK o.a) (M.X.L.tc o.a)
def td(M:bB)(o:Op):e7:=if M.X.fi o.a=0 then(if 0<M.W.roots (M.X.L.place o.a)then .bad M 11 else .bad {M with X:=M.X.ret o.a} (M.X.rL o.a))else .bad M (M.X.fi o.a)
def ask(M:bB)(o:Op):e7:= .of {M with X:=M.X.ask o.a o.b} (M.X.qX o.a o.b) (M.X.so o.a o.b)
def cancel(M:bB)(o:Op):e7:= .bad {M with X:=M.X.can o.a o.b} (M.X.wM o.a o.b)
def root(M:bB)(o:Op):e7:=if M.X.fi o.a=0 then .of {M with W:=M.W.root (M.X.L.place o.a)} (M.W.qq (M.X.L.place o.a)) M.W.kp else .bad M (M.X.fi o.a)
def child(M:bB)(o:Op):e7:=if M.j2 o.a=0 then .of {M with W:=M.W.child o.a} (M.W.pV o.a) M.W.kp else .bad M (M.j2 o.a)
def eL(M:bB)(o:Op):e7:= .bad {M with X:=M.X.xd o.a o.b} (M.X.xe o.a o.b)
def trim(M:bB)(o:Op):e7:=⟨M,M.X.L.bo o.a,λw=>if M.X.L.bo o.a=0 then w else 0,[],[]⟩
def tick(M:bB):e7:=⟨{M with X:=M.X.tick},0,λ_=>M.X.R.many,M.X.bp.cn.gs.map (·.id),[]⟩
end bB
abbrev x8(R:e7)(w:Int)(p:aw)(c:Nat):Value:= .agg #[D R.e,D (R.n w),.slice p R.list.length c,.string ⟨R.text.toArray⟩]
section
variable {B:Heap}{H H0:au}{K:aK}{b:Nat}{M:bB}{o:Op}{n e c r:Int}
abbrev h1(B:Heap)(b:Nat)(R:e7)(H:au)(K:aK):Prop:=∀w p c,0<=w/\w<=9223372036854775807->T B (ai 1 p R.list.length c (iv .i64 R.list)::bC b R.M::H) (K (x8 R w p c))
def ga{M':bB}{e n:Int}{R:e7}(a:R=⟨M',e,λ_=>n,[],[]⟩)(I:h1 B b R H K):T B (bC b M'::H) (K (rep e n)):=by subst a;exact dR 1 (I 0 none 0 ⟨by omega,by omega⟩)
def VP(c:o.Fit)(I:h1 B b (M.register o) H K):T B (bC b M::H) (ab P 56 #[pz b,.agg (b8 o)] K):=by
 apply an (NZ _ _);have I:=ga rfl I;have ha:=c.a;refine gO λx=>?_;repeat first|apply J.go|refine Sa.go λ_=>?_|refine Sc.go (by first|omega|rfl|exact⟨rfl,rfl⟩) ?_
 exact af (eE x I)
def VQ(d:o.Fit)(I:h1 B b (M.td o) H K):T B (bC b M::H) (ab P 57 #[pz b,.agg (b8 o)] K):=by
 apply an (N0 _ _);have ha:=d.a;unfold bB.td at I;refine Sa.go λaa=>Sa.go λaj=>?_;repeat' first|apply J.go|refine S2.go (λ_=>?_) λ_=>?_|refine Sc.go (by first|omega|rfl|exact⟨rfl,rfl⟩) ?_|done
 ·rename_i h
  rw[ak h]at I;exact af (ga rfl I)
 ·rename_i h
  rw[ah h]at I;refine aN (bC b) (gO λx=>?_);refine J.go (aN (bR x.dj) (fg λy ok=>?_));repeat' first|apply J.go|refine S2.go (λ_=>?_) λ_=>?_|refine Sc.go (by first|omega|rfl|exact⟨rfl,rfl⟩) ?_|done
  ·rename_i c
   exfalso;unfold aL.fi at h;rw[ak c]at h;exact c h
  ·rename_i c
   refine af (H':=ew x.dj M.X y (cl aa (b8 o)::cl aj #[D 0,D 0,.slice none 0 0,.string ⟨#[]⟩]::cl b (ju M.s x)::cK x.tb M.W::cL x.pb M.V::H)) (dB y ok ?_);refine aN (cK x.tb) ?_;unfold bX;refine X4 λq c'=>?_;repeat' first|apply J.go|refine S2.go (λ_=>?_) λ_=>?_|refine Sc.go (by first|omega|rfl|exact⟨rfl,rfl⟩) ?_|done
   ·rename_i e
    rw[ah (by omega)]at I;exact af (eE x (ga rfl I))
   ·rename_i e
    rw[ak (by omega)]at I;exact af (eE x (ga rfl I))
def VI(c:M.Fit)(d:o.Fit)(I:h1 B b (M.ask o) H K):T B (bC b M::H) (ab P 58 #[pz b,.agg (b8 o)] K):=by
 apply an (NQ _ _);have I:=ga rfl I;have ha:=d.a;have e:=d.b;refine gO λx=>?_;repeat first|apply J.go|refine Sa.go λ_=>?_
 refine aN (bR x.dj) (zB λf=>?_);unfold c5;apply KM ha e (f o.a) (λ_=>⟨c.f',c.fresh⟩);repeat first|apply J.go|refine Sc.go (by first|rfl|exact⟨rfl,rfl⟩) ?_
 exact af (eE x I)
def VJ(d:M.Fit)(c:o.Fit)(I:h1 B b (M.cancel o) H K):T B (bC b M::H) (ab P 59 #[pz b,.agg (b8 o)] K):=by
 apply an (NR _ _);have I:=ga rfl I;have ha:=c.a;have e:=c.b;refine gO λx=>?_;repeat first|apply J.go|refine Sa.go λ_=>?_
 unfold aU;apply KN ha e (d.UU o.b);repeat first|apply J.go|refine Sc.go (by first|rfl|exact⟨rfl,rfl⟩) ?_
 exact af (eE x I)
def VM(c:M.Fit)(d:o.Fit)(I:h1 B b (M.eL o) H K):T B (bC b M::H) (ab P 64 #[pz b,.agg (b8 o)] K):=by
 apply an (NU _ _);have I:=ga rfl I;have ha:=d.a;have e:=d.b;have g:=c.br;refine gO λx=>?_;repeat first|apply J.go|refine Sa.go λ_=>?_
 refine aN (bR x.dj) (zB λf=>?_);unfold aU;apply KO ha e (f o.a) (by omega) c.next
 repeat first|apply J.go|refine Sc.go (by first|rfl|exact⟨rfl,rfl⟩) ?_
 exact af (eE x I)
def VU(c:o.Fit)(I:h1 B b (M.trim o) H K):T B (bC b M::H) (ab P 69 #[pz b,.agg (b8 o)] K):=by
 apply an (N5 _ _);have ha:=c.a;refine gO λx=>Sa.go λaa=>Sa.go λaj=>J.go (J.go ?_);refine Sc.go ha λw hw=>?_;have e:(if M.X.L.bo o.a=0 then(if M.X.L.bo o.a=0 then w else 0)else 0)=(if M.X.L.bo o.a=0 then w else 0):=by split<;>rfl
 have:T B (ai 1 none 0 0 []::bC b M::H) (K (rep (M.X.L.bo o.a) (if M.X.L.bo o.a=0 then w else 0))):=I w none 0 hw;repeat first|apply J.go|refine Sc.go (by first|rfl|exact⟨rfl,rfl⟩) ?_
 rw[e];exact af (eE x (dR 1 this))
def VT(a:M.Fit)(I:h1 B b M.tick H K):T B (bC b M::H) (ab P 67 #[pz b,.agg (b8 o)] K):=by
 refine an (N4 _ _) (gO λx=>?_);repeat first|apply J.go|refine Sa.go λ_=>?_
 refine aN (bR x.dj) ?_;unfold Eh;refine KT a.tick λq c'=>?_;repeat first|apply J.go|refine Sc.go (by first|rfl|exact⟨rfl,rfl⟩) ?_
 have:=I 0 q c' ⟨by omega,by omega⟩;unfold bB.tick at this;simp only[x8,fe]at this;refine af (H':=k1 b {M with X:=M.X.tick} x (ai 1 q M.X.bp.cn.gs.length c' (iv .i64 (M.X.bp.cn.gs.map (·.id)))::H)) (eE x ?_);exact af this
end
end
section
namespace bB
def read(M:bB)(o:Op):e7:=⟨M,AW M.X.S M.V o.a o.b o.c,λ_=>0,[],AX M.X.S M.V o.a o.b o.c⟩
def write(M:bB)(o:Op):e7:=
 if M.V.bo o.a=0 then
  (if M.j2 (M.V.find o.a).bT=0 then .bad {M with X:={M.X with S:=nM M.X.S M.V o.a o.b o.text}} (AY M.X.S M.V o.a o.b o.text)
   else .bad M (M.j2 (M.V.find o.a).bT))
 else .bad M (M.V.bo o.a)
def vv(M:bB)(o:Op):e7:=
 if M.X.L.bo o.a=0 then
  (if M.X.T.e8 o.b=0/\(M.X.T.get o.b).aM=M.X.L.place o.a then⟨M,0,λ_=>0,[(M.X.T.get o.b).state,(M.X.T.get o.b).count,(M.X.T.get o.b).b1],[]⟩else .bad M 12)
 else .bad M (M.X.L.bo o.a)
def free(M:bB)(o:Op):e7:=
 if M.j2 o.a=0 then
  .of {M with W:=M.W.free o.a,V:=(M.W.under (gP o.a)).foldl Lv.drop M.V,X:=M.X.lv (M.dp o.a) (M.W.under (gP o.a))} (M.X.uQ (M.dp o.a) (M.W.under (gP o.a))) (M.W.under (gP o.a)).length
 else .bad M (M.j2 o.a)
def laid(M:bB)(o:Op):e7:=
 if M.W.e9 o.a o.b o.c M.s.z=0 then
  .of {M with W:=M.W.lay o.a o.b o.c M.s.z,V:=M.V.add ⟨M.W.gM o.a o.b o.c M.s.z,(M.X.cE (M.W.gM o.a o.b o.c M.s.z)).gen,o.a,M.W.js o.a o.b o.c M.s.z,o.b⟩}
   (M.V.gp ⟨M.W.gM o.a o.b o.c M.s.z,(M.X.cE (M.W.gM o.a o.b o.c M.s.z)).gen,o.a,M.W.js o.a o.b o.c M.s.z,o.b⟩)
   (eM 3 (M.W.gM o.a o.b o.c M.s.z) (M.X.cE (M.W.gM o.a o.b o.c M.s.z)).gen (M.W.js o.a o.b o.c M.s.z))
 else .bad {M with W:=M.W.lay o.a o.b o.c M.s.z} (M.W.e9 o.a o.b o.c M.s.z)
def sP(M:bB)(o:Op):e7:=
 if M.j2 o.a=0 then
  (if M.W.e9 o.a o.b o.c M.s.z=9 then
   (if M.X.ql (M.dp o.a)=0 then
    (if M.W.gp o.a (M.X.mY (M.dp o.a))=0 then laid {M with X:=M.X.nS (M.dp o.a),W:=M.W.add o.a (M.X.mY (M.dp o.a))} o
     else .bad {M with X:=M.X.nS (M.dp o.a),W:=M.W.add o.a (M.X.mY (M.dp o.a))} (M.W.gp o.a (M.X.mY (M.dp o.a))))
    else .bad {M with X:=M.X.nS (M.dp o.a)} (M.X.ql (M.dp o.a)))
   else laid M o)
 else .bad M (M.j2 o.a)
end bB
section
variable {B:Heap}{H H0:au}{K:aK}{b:Nat}{M:bB}{o:Op}{n e c r:Int}
instance abt{dj:Nat}{y:mA}[h:bY B H dj (hn y)]:J B H (ab P 111 #[pz dj] K) (T B H (K (pz y.sb))):=⟨by
 intro I;apply an (L8 _);repeat apply J.go
 exact I⟩
instance acd[h:Ow H (bC b) M H0]:Sc B H (ab P 106 #[pz b,D r] K) (aF r) (T B (bC b M::H0) (K (.tuple #[D (M.dp r),D (M.j2 r)]))):=⟨by
 intro hr I;refine bh h.pl (an (NX _ _) ?_);unfold bB.dp bB.j2 at I;refine gO λx=>?_;repeat' first|apply J.go|refine S2.go (λ_=>?_) λ_=>?_|refine Sc.go (by omega) ?_|done
 ·rename_i h
  rw[ak h,ak h]at I;exact af (eE x I)
 ·rename_i h
  rw[ah h,ah h]at I;rw[ah h];refine aN (bR x.dj) (fg λy ok=>?_);have a:=Al M.X.L (M.W.rg (gP r)).aM;repeat apply J.go
  refine af (H':=ew x.dj M.X y (cl b (ju M.s x)::cK x.tb M.W::cL x.pb M.V::H0)) (dB y ok ?_);refine af (H':=k1 b M x H0) (eE x ?_);repeat first|apply J.go|refine Sc.go (by omega) ?_
  exact I⟩
def VR(d:o.Fit)(I:h1 B b (M.root o) H K):T B (bC b M::H) (ab P 60 #[pz b,.agg (b8 o)] K):=by
 apply an (N1 _ _);have ha:=d.a;unfold bB.root at I;refine Sa.go λaa=>Sa.go λaj=>?_;repeat' first|apply J.go|refine S2.go (λ_=>?_) λ_=>?_|refine Sc.go (by first|omega|rfl|exact⟨rfl,rfl⟩) ?_|done
 ·rename_i h
  rw[ak h]at I;exact af (ga rfl I)
 ·rename_i h
  rw[ah h]at I;have I:=ga rfl I;refine aN (bC b) (gO λx=>?_);refine J.go (aN (bR x.dj) (fg λy ok=>?_));repeat' first|apply J.go|refine S2.go (λ_=>?_) λ_=>?_|refine Sc.go (by first|omega|rfl|exact⟨rfl,rfl⟩) ?_|done
  ·rename_i c
   exfalso;unfold aL.fi at h;rw[ak c]at h;exact c h
  ·rename_i c
   refine af (H':=ew x.dj M.X y (cl aa (b8 o)::cl aj #[D 0,D 0,.slice none 0 0,.string ⟨#[]⟩]::cl b (ju M.s x)::cK x.tb M.W::cL x.pb M.V::H)) (dB y ok ?_);unfold c5;apply X5;repeat first|apply J.go|refine Sc.go (by first|rfl|exact⟨rfl,rfl⟩) ?_
   have e:(if M.W.qq (M.X.L.place o.a)=0 then(if M.W.qq (M.X.L.place o.a)=0 then M.W.kp else 0)else 0)=(if M.W.qq (M.X.L.place o.a)=0 then M.W.kp else 0):=by split<;>rfl
   rw[e];exact af (eE x I)
def VK(c:o.Fit)(I:h1 B b (M.child o) H K):T B (bC b M::H) (ab P 61 #[pz b,.agg (b8 o)] K):=by
 apply an (NS _ _);have ha:=c.a;unfold bB.child at I;refine Sa.go λaa=>Sa.go λaj=>?_;repeat' first|apply J.go|refine S2.go (λ_=>?_) λ_=>?_|refine Sc.go (by first|omega|rfl|exact⟨rfl,rfl⟩) ?_|done
 ·rename_i h
  rw[ak h]at I;exact af (ga rfl I)
 ·rename_i h
  rw[ah h]at I;have I:=ga rfl I;refine aN (bC b) (gO λx=>?_);repeat apply J.go
  unfold c5;apply X1 ha;repeat first|apply J.go|refine Sc.go (by first|rfl|exact⟨rfl,rfl⟩) ?_
  have d:(if M.W.pV o.a=0 then(if M.W.pV o.a=0 then M.W.kp else 0)else 0)=(if M.W.pV o.a=0 then M.W.kp else 0):=by split<;>rfl
  rw[d];exact af (eE x I)
def VO(e:M.Fit)(d:o.Fit)(I:h1 B b (M.read o) H K):T B (bC b M::H) (ab P 66 #[pz b,.agg (b8 o)] K):=by
 apply an (NY _ _);have ha:=d.a;have f:=d.b;have hc:=d.c;have g:=e.mh;refine Sa.go λaa=>Sa.go λaj=>aN (bC b) (gO λx=>?_);refine aN (bR x.dj) (fg λy ok=>?_);repeat apply J.go
 refine af (H':=cj y.sb M.X.S::cL x.pb M.V::cl aa (b8 o)::cl aj #[D 0,D 0,.slice none 0 0,.string ⟨#[]⟩]::cl x.dj (hn y)::bx y.lb M.X.L::dC y.rb y.sb M.X.R::dE y.tb M.X.T::eR y.qb M.X.Q::MP fV y.r y.m::dS y.m::cl b (ju M.s x)::cK x.tb M.W::H) ?_;unfold wO;apply V4 f hc ha (by omega);repeat first|apply J.go|refine Sc.go (by first|rfl|exact⟨rfl,rfl⟩) ?_
 have:=I 0 none 0 ⟨by omega,by omega⟩;refine dR 1 (af (H':=ew x.dj M.X y (cl b (ju M.s x)::cK x.tb M.W::cL x.pb M.V::ai 1 none 0 0 []::H)) (dB y ok ?_));refine af (H':=k1 b M x (ai 1 none 0 0 []::H)) (eE x ?_);exact cq (cy _ _ _) this
def VV(g:M.Fit)(c:o.Fit)(I:h1 B b (M.write o) H K):T B (bC b M::H) (ab P 65 #[pz b,.agg (b8 o)] K):=by
 apply an (N6 _ _);have ha:=c.a;have i:=c.b;have l:=g.mh;have n:M.V.bw<900000:=by omega
 refine Sa.go λaa=>Sa.go λaj=>dV (λk=>bC b M::cl aa (b8 o)::cl aj #[D 0,D 0,.slice none 0 0,.string ⟨#[]⟩]::cl k (c6 (M.V.find o.a)).toArray::H) (λk=>[.pointer (some (ag k 0)),D (M.V.bo o.a)]) (λp body=>?_) λk=>?_
 ·refine aN (bC b) (gO λx=>?_)
  repeat apply J.go
  refine fO ?_ ?_
  ·repeat first|apply J.go|refine Sa.go λ_=>?_|refine Sc.go (by first|exact⟨rfl,rfl⟩|(constructor<;>assumption)) ?_
   rename_i d;exact af (eE x (body d))
  ·repeat first|apply J.go|refine Sa.go λ_=>?_|refine Sc.go (by first|exact⟨rfl,rfl⟩|(constructor<;>assumption)) ?_
   rename_i d;exact af (eE x (body d))
 unfold bB.write at I;repeat' first|apply J.go|refine S2.go (λ_=>?_) λ_=>?_|refine Sc.go (by first|rfl|exact⟨rfl,rfl⟩) ?_|done
 ·rename_i h
  rw[ak h]at I;exact af (ga rfl I)
 rename_i h;rw[ah h]at I;refine aN (bC b) (gO λx=>?_);refine aN (cL x.pb) (xw λf=>?_);have f:=f o.a;refine af (H':=k1 b M x (cl aa (b8 o)::cl aj #[D 0,D 0,.slice none 0 0,.string ⟨#[]⟩]::H)) (eE x ?_);refine Sc.go (by unfold aF;omega) ?_;refine J.go (S2.go (λe=>?_) λe=>?_)
 ·rw[ak e]at I
  repeat first|apply J.go|refine Sc.go (by first|rfl|exact⟨rfl,rfl⟩) ?_
  exact af (ga rfl I)
 rw[ah e]at I;have I:=ga rfl I;refine aN (bC b) (gO λx=>?_);refine aN (bR x.dj) (fg λy ok=>?_);repeat apply J.go
 refine af (H':=cj y.sb M.X.S::cL x.pb M.V::cl aa (b8 o)::cl aj #[D 0,D 0,.slice none 0 0,.string ⟨#[]⟩]::cl x.dj (hn y)::bx y.lb M.X.L::dC y.rb y.sb M.X.R::dE y.tb M.X.T::eR y.qb M.X.Q::MP fV y.r y.m::dS y.m::cl b (ju M.s x)::cK x.tb M.W::H) ?_;unfold aU;apply V5 i ha (by omega) c.t;repeat first|apply J.go|refine Sc.go (by first|rfl|exact⟨rfl,rfl⟩) ?_
 have j:M.X.S.br<=(nM M.X.S M.V o.a o.b o.text).br:=by
  unfold nM;split
  ·unfold aH.put
   split
   ·simp only;omega
   ·exact d' _
  ·exact d' _
 refine af (H':=ew x.dj {M.X with S:=nM M.X.S M.V o.a o.b o.text} y (cl b (ju M.s x)::cK x.tb M.W::cL x.pb M.V::H)) (dB y (ok.with rfl j) ?_);exact af (eE x I)
def VS(f:o.Fit)(I:h1 B b (M.vv o) H K):T B (bC b M::H) (ab P 68 #[pz b,.agg (b8 o)] K):=by
 apply an (N2 _ _);have ha:=f.a;have g:=f.b;unfold bB.vv at I;refine Sa.go λaa=>Sa.go λaj=>aN (bC b) (gO λx=>?_);refine J.go (aN (bR x.dj) (fg λy ok=>?_));refine J.go (J.go ?_);refine Sc.go ha (J.go (S2.go (λh=>?_) λh=>?_))
 ·rw[ak h]at I
  repeat first|apply J.go|refine Sc.go (by first|rfl|exact⟨rfl,rfl⟩) ?_
  refine af (H':=ew x.dj M.X y (cl b (ju M.s x)::cK x.tb M.W::cL x.pb M.V::H)) (dB y ok ?_);exact af (eE x (ga rfl I))
 rw[ah h]at I;refine af (H':=ew x.dj M.X y (cl aa (b8 o)::cl aj #[D 0,D 0,.slice none 0 0,.string ⟨#[]⟩]::cl b (ju M.s x)::cK x.tb M.W::cL x.pb M.V::H)) (dB y ok ?_);refine dV (α:=Nat) (λk=>k1 b M x (cl aa (b8 o)::cl aj #[D 0,D 0,.slice none 0 0,.string ⟨#[]⟩]::cl k (aE (M.X.T.get o.b)).toArray::H)) (λk=>[.pointer (some (ag k 0)),D (M.X.T.e8 o.b)]) (λi body=>?_) λk=>?_
 ·repeat apply J.go
  refine fO ?_ ?_
  ·repeat first|apply J.go|refine Sa.go λ_=>?_|refine Sc.go (by first|omega|exact⟨rfl,rfl⟩) ?_
   rename_i c;exact af (body c)
  ·repeat first|apply J.go|refine Sa.go λ_=>?_|refine Sc.go (by first|omega|exact⟨rfl,rfl⟩) ?_
   rename_i c;exact af (body c)
 rw[show aE (M.X.T.get o.b)=[D (M.X.T.get o.b).id,D (M.X.T.get o.b).aM,D (M.X.T.get o.b).count,D (M.X.T.get o.b).state,D (M.X.T.get o.b).b1]from rfl];repeat' first|apply J.go|refine Sa.go λ_=>?_|refine S2.go (λ_=>?_) λ_=>?_|refine Sc.go (by first|rfl|exact⟨rfl,rfl⟩) ?_|done
 ·rename_i U
  rw[ak λh=>U h.1]at I;exact af (eE x (ga rfl I))
 ·rename_i U d
  rw[ak λh=>d h.2]at I;exact af (eE x (ga rfl I))
 ·rename_i U d e
  rw[ah ⟨U,d⟩]at I;have:=I 0 (some ⟨e,0,none⟩) 3 ⟨by omega,by omega⟩;refine bL (q:=cl e #[D (M.X.T.get o.b).state,D (M.X.T.get o.b).count,D (M.X.T.get o.b).b1]) (kf (l:=3) 1 rfl ?_);refine af (H':=k1 b M x (ai 1 (some ⟨e,0,none⟩) 3 3 (#[D (M.X.T.get o.b).state,D (M.X.T.get o.b).count,D (M.X.T.get o.b).b1]:ax).toList::H)) (eE x ?_);exact cq (cy _ _ _) this
def VL(c:M.Fit)(g:o.Fit)(I:h1 B b (M.free o) H K):T B (bC b M::H) (ab P 63 #[pz b,.agg (b8 o)] K):=by
 apply an (NT _ _);have ha:=g.a;have t:=c.Ie;have u:=c.mh;have v:=c.br;have w:=c.under (gP o.a);unfold bB.free at I;refine Sa.go λaa=>Sa.go λaj=>?_;repeat' first|apply J.go|refine S2.go (λ_=>?_) λ_=>?_|refine Sc.go (by first|omega|rfl|exact⟨rfl,rfl⟩) ?_|done
 ·rename_i h
  rw[ak h]at I;exact af (ga rfl I)
 rename_i h;rw[ah h]at I;have I:=ga rfl I
 have j:M.W.bo o.a=0:=by
  unfold bB.j2 at h;split at h
  ·assumption
  ·exact h
 refine aN (bC b) (gO λx=>?_);repeat apply J.go
 refine aN (cK x.tb) ?_;unfold uu;refine X2 ha (by omega) (λhe=>absurd j he) λ_ q c'=>J.go (aD (by simp) ?_);generalize y:M.W.under (gP o.a)=us at*;refine af (H':=ai 1 q us.length c' (iv .i64 us)::cl b (ju M.s x)::bR x.dj M.X::cK x.tb (M.W.free o.a)::cL x.pb M.V::cl aa (b8 o)::cl aj #[D 0,D 0,.slice none 0 0,.string ⟨#[]⟩]::H) ?_
 have m:∀l:aO,(l.foldl Lv.drop M.V).bw=M.V.bw:=λl=>by
  generalize M.V=V
  induction l generalizing V with
  |nil=>rfl
  |cons i l n=>rw[vR,n];rfl
 apply cF us.length (by omega) (λk H'=>H'=ai 1 q us.length c' (iv .i64 us)::cl b (ju M.s x)::bR x.dj M.X::cK x.tb (M.W.free o.a)::cL x.pb ((us.take k).foldl Lv.drop M.V)::cl aa (b8 o)::cl aj #[D 0,D 0,.slice none 0 0,.string ⟨#[]⟩]::H) rfl;rintro k H' R z rfl d;repeat' first|apply J.go|refine S2.go (λ_=>?_) λ_=>?_|done
 ·have e:k<us.length:=by omega
  have f:us[k]?=some us[k]:=ba e;generalize us[k]=i at f;apply e1 k rfl e f;have d:=d e;rw[dQ f,vQ,vR,List.foldl_nil]at d;have hc:=m (us.take k);generalize(us.take k).foldl Lv.drop M.V=V at hc d⊢;apply J.go;unfold aU;exact Vt (by omega) (J.go (af (d _ rfl)))
 ·have hl:k=us.length:=by omega
  subst hl;rw[gA];refine aN (bR x.dj) (zB λp=>?_);refine af (H':=bR x.dj M.X::ai 1 q us.length c' (iv .i64 us)::cl b (ju M.s x)::cK x.tb (M.W.free o.a)::cL x.pb (us.foldl Lv.drop M.V)::cl aa (b8 o)::cl aj #[D 0,D 0,.slice none 0 0,.string ⟨#[]⟩]::H) ?_;have r:aF (M.dp o.a):=by unfold bB.dp;split<;>first|exact Al _ _|decide
  unfold aU;apply KP bF.iB r (p _) (by omega) c.next
  repeat first|apply J.go|refine Sc.go (by first|rfl|exact⟨rfl,rfl⟩) ?_
  exact af (eE x I)
def VN(i:M.Fit)(j:o.Fit)(I:h1 B b (M.sP o) H K):T B (bC b M::H) (ab P 62 #[pz b,.agg (b8 o)] K):=by
 apply an (NW _ _);have ha:=j.a;have k:=j.b;have hc:=j.c;have C:=i.Ie;have E:=i.mh;have F:=i.br;have q:=i.cur;unfold bB.sP at I;refine Sa.go λaa=>Sa.go λaj=>?_;repeat' first|apply J.go|refine S2.go (λ_=>?_) λ_=>?_|refine Sc.go (by first|omega|rfl|exact⟨rfl,rfl⟩) ?_|done
 ·rename_i h
  rw[ak h]at I;exact af (ga rfl I)
 rename_i h;rw[ah h]at I
 have G:M.W.bo o.a=0:=by
  unfold bB.j2 at h;split at h
  ·assumption
  ·exact h
 have r:aF (M.dp o.a):=by unfold bB.dp;split<;>first|exact Al _ _|decide
 refine aN (bC b) (gO λx=>?_);refine J.go (J.go (J.go (J.go (J.go ?_))));unfold pT;refine G6 ha k hc (q _) (by omega) (J.go ?_)
 refine dV (α:={M':bB//h1 B b (M'.laid o) H K/\M'.s=M.s/\M'.V=M.V})
  (λM'=>k1 b {M'.1 with W:=M'.1.W.lay o.a o.b o.c M.s.z} x (cl aa (b8 o)::cl aj #[D 0,D 0,.slice none 0 0,.string ⟨#[]⟩]::H))
  (λM'=>[D (M'.1.W.gM o.a o.b o.c M.s.z),D (M'.1.W.js o.a o.b o.c M.s.z),D (M'.1.W.e9 o.a o.b o.c M.s.z)]) (λL body=>?_) λ⟨M',d,hs,n⟩=>?_
 ·have t:M.W.e9 o.a o.b o.c M.s.z≠0->M.W.lay o.a o.b o.c M.s.z=M.W:=λh=>by unfold a8.lay;rw[ak h]
  refine S2.go (λm=>?_) λm=>?_
  ·rw[ah m]at I
   rw[t (by omega)];apply J.go;unfold c5;refine KR r (J.go (S2.go (λU=>?_) λU=>?_))
   ·rw[ak U]at I
    repeat first|apply J.go|refine Sc.go (by first|rfl|exact⟨rfl,rfl⟩) ?_
    exact af (eE x (ga rfl I))
   rw[ah U]at I;refine J.go (J.go ?_);unfold aU;refine X0 ha (by omega) (J.go (S2.go (λg=>?_) λg=>?_))
   ·rw[ak g]at I
    repeat first|apply J.go|refine Sc.go (by first|rfl|exact⟨rfl,rfl⟩) ?_
    exact af (eE x (ga rfl I))
   rw[ah g]at I;have u:((M.W.add o.a (M.X.mY (M.dp o.a))).rg (gP o.a)).cur=0:=by unfold a8.add;rw[ah g];simp[b2]
   have N:(M.W.add o.a (M.X.mY (M.dp o.a))).bw=M.W.bw+1:=by unfold a8.add;rw[ah g]
   refine J.go (J.go (J.go (J.go (J.go (J.go (J.go ?_))))));apply G6 ha k hc (by rw[u];decide) (by omega);exact J.go (af (body ⟨{M with X:=M.X.nS (M.dp o.a),W:=M.W.add o.a (M.X.mY (M.dp o.a))},I,rfl,rfl⟩))
  ·rw[ak m]at I
   exact af (body ⟨M,I,rfl,rfl⟩)
 ·obtain⟨O,X',W',V'⟩:=M'
  simp only at hs n;subst hs n;simp only;unfold bB.laid at d;simp only at d;refine J.go (S2.go (λU=>?_) λU=>?_)
  ·rw[ak U]at d
   repeat first|apply J.go|refine Sc.go (by first|rfl|exact⟨rfl,rfl⟩) ?_
   exact af (eE x (ga rfl d))
  rw[ah U]at d;have d:=ga rfl d;refine J.go (aN (bR x.dj) (fg λy ok=>?_));refine J.go (J.go (J.go (J.go ?_)));refine Sa.go λv=>Sc.go ⟨rfl,rfl⟩ (af (H':=ew x.dj X' y (cl b (ju M.s x)::cK x.tb (W'.lay o.a o.b o.c M.s.z)::cL x.pb M.V::cl aa (b8 o)::cl aj #[D 0,D 0,.slice none 0 0,.string ⟨#[]⟩]::cl v (dc (X'.cE (W'.gM o.a o.b o.c M.s.z))).toArray::H)) (dB y ok ?_));repeat apply J.go
  have w:aF (W'.js o.a o.b o.c M.s.z):=by
   have e:∀c s a z,aF (rH c s a z):=by
    intro c s a z;have h0:aF 0:=by decide
    unfold rH;split
    ·by_cases e:kg c a=true
     ·have:=DF e
      unfold kg at e;simp only[b9,bz]at e;unfold aF;omega
     ·unfold iV;rw[ak e];exact h0
    ·exact h0
   unfold a8.js;by_cases h0:W'.e9 o.a o.b o.c M.s.z=0
   ·rw[ah h0];exact e _ _ _ _
   ·rw[ak h0];decide
  generalize p:(⟨W'.gM o.a o.b o.c M.s.z,(X'.cE (W'.gM o.a o.b o.c M.s.z)).gen,o.a,W'.js o.a o.b o.c M.s.z,o.b⟩:Ld)=l at*;have f:l.len=o.b/\l.at'=W'.js o.a o.b o.c M.s.z/\l.bT=o.a/\l.chunk=W'.gM o.a o.b o.c M.s.z/\l.gen=(X'.cE (W'.gM o.a o.b o.c M.s.z)).gen:=by subst p;exact⟨rfl,rfl,rfl,rfl,rfl⟩
  rw[show(#[D (W'.gM o.a o.b o.c M.s.z),D (X'.cE (W'.gM o.a o.b o.c M.s.z)).gen,D o.a,D (W'.js o.a o.b o.c M.s.z),D o.b]:ax)=(c6 l).toArray by subst p;rfl];unfold c5;refine Vr (by omega) ⟨by rw[f.1];exact k,by rw[f.2.1];exact w⟩ (by rw[f.2.2.1];exact ha) ?_;rw[f.2.2.2.1,f.2.2.2.2,f.2.1];have A:∀z:Int,(if M.V.gp l=0 then(if M.V.gp l=0 then z else 0)else 0)=(if M.V.gp l=0 then z else 0):=λz=>by split<;>rfl
  repeat first|apply J.go|refine Sc.go (by first|rfl|exact⟨rfl,rfl⟩) ?_
  rw[A];exact af (eE x d)
end
end
section
abbrev Ae(x:Option Nat):Value:=match x with|none=> .nilFunc|some n=> .func (.func n) #[] #[]
abbrev w6(x:Option Nat):Value:= .agg #[Ae x]
instance acg:h2 P 95 (Option Nat) w6 none:=⟨93,by kernel_rfl,pq,by kernel_rfl⟩
instance acs{x:Option Nat}:kL (Ae x):=⟨by cases x<;>rfl⟩
instance abK{n:Nat}:nm w6 (.agg #[.func (.func n) #[] #[]]) (some n):=⟨rfl⟩
def vy:ML (Option Nat):=[(1,some 56),(2,some 57),(3,some 58),(4,some 59),(5,some 60),(6,some 61),(7,some 62),(8,some 63),(9,some 64),(10,some 65),(11,some 66),(12,some 67),(13,some 68),(14,some 69)]
def bB.da(M:bB)(o:Op):e7:=
 if o.kind=1 then M.register o else if o.kind=2 then M.td o else if o.kind=3 then M.ask o else if o.kind=4 then M.cancel o else if o.kind=5 then M.root o
 else if o.kind=6 then M.child o else if o.kind=7 then M.sP o else if o.kind=8 then M.free o else if o.kind=9 then M.eL o else if o.kind=10 then M.write o
 else if o.kind=11 then M.read o else if o.kind=12 then M.tick else if o.kind=13 then M.vv o else if o.kind=14 then M.trim o else .bad M 1
section
variable {B:Heap}{H H0:au}{K:aK}{b:Nat}{M:bB}{o:Op}{n e c r:Int}
instance ace:Sa B H (ab P 29 #[] K) (λr=>T B (MP w6 r vy::H) (K (.map (some r)))):=⟨by
 intro I;refine an (N') (Sa.go λr=>iQ w6 ?_);repeat apply J.go
 exact I r⟩
def kq{g k aa aj:Nat}{R:e7}{cs:ax}(d:gb P g=true)(e:h1 B b R H K)(hc:∀{H':au} {a:aK},h1 B b R H' a->T B (bC b M::H') (ab P g #[pz b,.agg (b8 o)] a)):T B (cl k cs::bC b M::cl aa (b8 o)::cl aj #[D 0,D 0,.slice none 0 0,.string ⟨#[]⟩]::H) (lx P (.func (.func g) #[] #[]) [pz b,.agg (b8 o)] λf=>hk f λh=>gW (ag aj 0) h 4 (eY (ag aj 0) 4 λi=>K (Value.agg i))):=by
 apply nz d;refine af (H':=bC b M::cl aj #[D 0,D 0,.slice none 0 0,.string ⟨#[]⟩]::H) ?_;refine hc λw p c hw=>?_;have:=e w p c hw;repeat first|apply J.go|refine Sc.go (by first|rfl|exact⟨rfl,rfl⟩) ?_
 exact af this
def AO(c:M.Fit)(a:o.Fit)(I:h1 B b (M.da o) H K):T B (bC b M::H) (ab P 14 #[pz b,.agg (b8 o)] K):=by
 apply an (NN _ _);refine Sa.go λaa=>Sa.go λaj=>?_;refine dV (α:=Unit) (λ_=>bC b M::cl aa (b8 o)::cl aj #[D 0,D 0,.slice none 0 0,.string ⟨#[]⟩]::H) (λ_=>[]) (λg body=>?_) λ_=>?_
 ·refine aN (bC b) (gO λx=>?_)
  repeat apply J.go
  exact af (eE x (body ()))
 refine J.go (dV (α:=Nat) (λk=>cl k #[Ae ((aS vy o.kind).getD none)]::bC b M::cl aa (b8 o)::cl aj #[D 0,D 0,.slice none 0 0,.string ⟨#[]⟩]::H) (λk=>[.pointer (some (ag k 0)),.bool (aS vy o.kind).isSome]) (λg body=>?_) λk=>?_)
 ·refine J.go (fO ?_ ?_)
  ·repeat first|apply J.go|refine Sa.go λ_=>?_
   refine fO ?_ ?_
   ·repeat first|apply J.go|refine Sa.go λ_=>?_|refine Sc.go ⟨rfl,rfl⟩ ?_
    rename_i d;exact af (body d)
   ·repeat first|apply J.go|refine Sa.go λ_=>?_|refine Sc.go ⟨rfl,rfl⟩ ?_
    rename_i d;exact af (body d)
  ·repeat first|apply J.go|refine Sa.go λ_=>?_|refine Sc.go ⟨rfl,rfl⟩ ?_
   rename_i d _;exact af (body d)
 unfold bB.da at I;repeat' first|apply J.go|refine S2.go (λ_=>?_) λ_=>?_|refine Sc.go (by first|rfl|exact⟨rfl,rfl⟩) ?_|done
 ·rename_i f
  have j:¬(1<=o.kind/\o.kind<=14):=by
   intro h;have:o.kind=1\/o.kind=2\/o.kind=3\/o.kind=4\/o.kind=5\/o.kind=6\/o.kind=7\/o.kind=8\/o.kind=9\/o.kind=10\/o.kind=11\/o.kind=12\/o.kind=13\/o.kind=14:=by omega
   rcases this with e|e|e|e|e|e|e|e|e|e|e|e|e|e<;>(rw[e]at f;exact absurd f (by decide))
  repeat rw[ak (by omega)]at I
  exact af (ga rfl I)
 ·rename_i f
  have i:o.kind=1\/o.kind=2\/o.kind=3\/o.kind=4\/o.kind=5\/o.kind=6\/o.kind=7\/o.kind=8\/o.kind=9\/o.kind=10\/o.kind=11\/o.kind=12\/o.kind=13\/o.kind=14:=by
   by_cases h:1<=o.kind/\o.kind<=14
   ·omega
   ·exfalso
    have:aS vy o.kind=none:=by rw[kr];intro hm;have:bb vy=[1,2,3,4,5,6,7,8,9,10,11,12,13,14]:=rfl;rw[this]at hm;simp at hm;omega
    rw[this]at f;cases f
  rcases i with e|e|e|e|e|e|e|e|e|e|e|e|e|e
  ·rw[e];rw[ah e]at I;exact kq (by kernel_rfl) I λh=>VP a h
  ·rw[e];rw[ak (by omega),ah e]at I;exact kq (by kernel_rfl) I λh=>VQ a h
  ·rw[e];repeat rw[ak (by omega)]at I
   rw[ah e]at I;exact kq (by kernel_rfl) I λh=>VI c a h
  ·rw[e];repeat rw[ak (by omega)]at I
   rw[ah e]at I;exact kq (by kernel_rfl) I λh=>VJ c a h
  ·rw[e];repeat rw[ak (by omega)]at I
   rw[ah e]at I;exact kq (by kernel_rfl) I λh=>VR a h
  ·rw[e];repeat rw[ak (by omega)]at I
   rw[ah e]at I;exact kq (by kernel_rfl) I λh=>VK a h
  ·rw[e];repeat rw[ak (by omega)]at I
   rw[ah e]at I;exact kq (by kernel_rfl) I λh=>VN c a h
  ·rw[e];repeat rw[ak (by omega)]at I
   rw[ah e]at I;exact kq (by kernel_rfl) I λh=>VL c a h
  ·rw[e];repeat rw[ak (by omega)]at I
   rw[ah e]at I;exact kq (by kernel_rfl) I λh=>VM c a h
  ·rw[e];repeat rw[ak (by omega)]at I
   rw[ah e]at I;exact kq (by kernel_rfl) I λh=>VV c a h
  ·rw[e];repeat rw[ak (by omega)]at I
   rw[ah e]at I;exact kq (by kernel_rfl) I λh=>VO c a h
  ·rw[e];repeat rw[ak (by omega)]at I
   rw[ah e]at I;exact kq (by kernel_rfl) I λh=>VT c h
  ·rw[e];repeat rw[ak (by omega)]at I
   rw[ah e]at I;exact kq (by kernel_rfl) I λh=>VS a h
  ·rw[e];repeat rw[ak (by omega)]at I
   rw[ah e]at I;exact kq (by kernel_rfl) I λh=>VU a h
end
end
section
structure kd where
 tk:Int
 cs:List bA
 w:aO
 ms:List Mem
 ts:List Tk
 ls:List Ld
structure qP where
 p1:aw
 c1:Nat
 p2:aw
 c2:Nat
 p3:aw
 c3:Nat
 p4:aw
 lP:Nat
 p5:aw
 pS:Nat
abbrev b'(s:kd)(x:qP):ax:=#[D s.tk,.slice x.p1 s.cs.length x.c1,.slice x.p2 s.w.length x.c2,.slice x.p3 s.ms.length x.c3,.slice x.p4 s.ts.length x.lP,.slice x.p5 s.ls.length x.pS]
abbrev iG(s:kd)(x:qP)(H:au):au:=
 ai 3 x.p1 s.cs.length x.c1 (s.cs.flatMap dc)::rN 1 x.p2 s.w.length (iv .i64 s.w)::ai 4 x.p3 s.ms.length x.c3 (aW s.ms)::ai 5 x.p4 s.ts.length x.lP (s.ts.flatMap aE)::ai 5 x.p5 s.ls.length x.pS (s.ls.flatMap c6)::H
def bB.snap(M:bB):kd:=⟨M.X.R.dx,M.X.S.cs,M.X.R.line.xs,M.X.L.av.members,M.X.T.cZ,M.V.oM⟩
section
variable {B:Heap}{H H0:au}{K:aK}{b:Nat}{M:bB}{o:Op}{n e c r:Int}
def uR(d:M.V.bw<500/\M.V.all.length<500)(I:∀x,T B (bC b M::iG M.snap x H) (K (.agg (b' M.snap x)))):T B (bC b M::H) (ab P 8 #[pz b] K):=by
 refine an (NP _) (Sa.go λaa=>aD rfl (aN (bC b) (gO λx=>?_)));refine J.go (aN (bR x.dj) ?_);unfold bH;refine KS λq1 y me a=>?_;repeat first|apply J.go|refine Sa.go λ_=>?_|refine Sc.go ⟨rfl,rfl⟩ ?_
 rename_i e;refine aN (cL x.pb) ?_;unfold bX;refine Vs (by omega) (by omega) λp c=>?_;repeat first|apply J.go|refine Sc.go (by first|rfl|exact⟨rfl,rfl⟩) ?_
 have:=I ⟨some ⟨q1,0,none⟩,M.X.S.cs.length,y,M.X.R.line.xs.length,me.1,me.2,a.1,a.2,p,c⟩;refine af (H':=k1 b M x (iG ⟨M.X.R.dx,M.X.S.cs,M.X.R.line.xs,M.X.L.av.members,M.X.T.cZ,M.V.oM⟩ ⟨some ⟨q1,0,none⟩,M.X.S.cs.length,y,M.X.R.line.xs.length,me.1,me.2,a.1,a.2,p,c⟩ H)) (eE x ?_);exact this
def F0{z q l:Int}(a:ui c z q l=false->T B H (K (.tuple #[.pointer none,D 2])))(d:∀(n m q':Nat) b,c=n->z=m->q=q'->1<=n->n<=1048576->64<=m->m<=1048576->1<=q'->q'<=1048576->T B (bC b ⟨⟨c,z,q,l⟩,aL.new n m q',a8.new,Lv.new⟩::H) (K (.tuple #[pz b,D 0]))):T B H (ab P 18 #[.agg #[D c,D z,D q,D l]] K):=by
 apply an (N7 _);refine Sa.go λaa=>?_;apply bI (b:=aa) (cs:=#[D c,D z,D q,D l]) rfl;unfold iZ;refine KQ (λh=>?_) λn m q' dj U e f g i k p r s=>?_
 ·repeat first|apply J.go|refine bk (by with_reducible decide) ?_
  exact af (a h)
 apply J.go;apply aD rfl;refine bL (q:=cl aa #[D c,D z,D q,D l]) ?_;apply bI (b:=aa) (cs:=#[D c,D z,D q,D l]) rfl;have hC:∀{H:au},bY B (cl aa #[D c,D z,D q,D l]::H) aa #[D c,D z,D q,D l]:=inferInstance;unfold dq;refine X3 λtb=>?_;apply J.go;refine af (H':=cl aa #[D c,D z,D q,D l]::cK tb a8.new::bR dj (aL.new n m q')::H) ?_;refine fF (λσ o=>⟨_,rfl,rfl,λj t=>?_⟩) ?_
 ·rw[aQ,hC.cell o,bJ]
 refine Vu λpb=>?_;apply J.go;refine af (H':=cl aa #[D c,D z,D q,D l]::cL pb Lv.new::cK tb a8.new::bR dj (aL.new n m q')::H) ?_;refine fF (λσ o=>⟨_,rfl,rfl,λj t=>?_⟩) ?_
 ·rw[aQ,hC.cell o,bJ]
 apply bj rfl;refine Sa.go λb=>?_;refine jP (ds:=ju ⟨c,z,q,l⟩ ⟨dj,tb,pb⟩) rfl ?_;have:=d n m q' b U e f g i k p r s;exact af (eE (M:=⟨⟨c,z,q,l⟩,aL.new n m q',a8.new,Lv.new⟩) ⟨dj,tb,pb⟩ this)
end
end
section
section
variable {B:Heap}{H H0:au}{K:aK}{q:aw}{l c:Nat}{xs:aO}{n i:Int}{cs:List bA}{ms:List Mem}
def XK[hr:Rd B H q (iv .i64 xs)](hl:l=xs.length)(hlen:l<1000000)(I:T B H (K (D (xs.countP (·==n):Nat)))):T B H (ab P 46 #[.slice q l c,D n] K):=by
 subst hl;refine an (PO _ _ _ _) (mC (λm x y H'=>∃k:Nat,m+k=xs.length/\H'=H/\y=(k:Int)/\x=((xs.take k).countP (·==n):Nat)) xs.length ⟨0,by omega,rfl,rfl,by simp⟩ ?_);rintro m x y H' R ⟨k,hm,rfl,rfl,rfl⟩ b;have f:(xs.take k).countP (·==n)<=k:=jL mn (by rw[ff];omega);refine S2.go (λ_=>?_) λ_=>?_
 ·have d:k<xs.length:=by omega
  have a:xs[k]?=some xs[k]:=ba d;generalize xs[k]=v at a;apply e1 k rfl d a;rw[bd (by omega),bd (by omega)];have e:(xs.take (k+1)).countP (·==n)=(xs.take k).countP (·==n)+if v==n then 1 else 0:=by rw[dQ a,rY,rZ]
  refine S2.go (λ_=>?_) λ_=>?_
  ·rename_i h
   rw[ah (by simpa using h)]at e;exact b (m-1) _ _ _ (by omega) ⟨k+1,by omega,rfl,by omega,by rw[e];omega⟩
  ·rename_i h
   rw[ak (by simpa using h)]at e;exact b (m-1) _ _ _ (by omega) ⟨k+1,by omega,rfl,by omega,by rw[e];omega⟩
 ·have hl:k=xs.length:=by omega
  subst hl;rw[gA];exact I
def lW(c:bA):Bool:=decide (0<=c.gen/\c.gen<1048576)&&if c.ph=1 then decide (0<c.own)else decide (c.ph<=3/\c.own=0)
def XH{c:bA}(h:lW c=true)(I:T B H (K (.bool true))):T B H (ab P 47 #[.agg (dc c).toArray] K):=by
 apply an (PK _);unfold lW at h;simp only[b9,bz]at h;obtain⟨⟨U,b⟩,a⟩:=h
 have e:(c.ph=1/\0<c.own)\/(c.ph≠1/\c.ph<=3/\c.own=0):=by
  split at a
  ·exact .inl ⟨by assumption,by simpa using a⟩
  ·exact .inr ⟨by assumption,by simpa using a⟩
 rw[show dc c=[D c.ph,D c.own,D c.gen]from rfl];have d:decide (c.gen<1048576)=true:=cB b;repeat' first|apply J.go|refine Sa.go λ_=>?_|refine S2.go (λ_=>?_) λ_=>?_|done
 all_goals first
  |(rw[d];exact af I)
  |(exfalso;omega)
def XG[hr:Rd B H q (cs.flatMap dc)](hl:l=cs.length)(hlen:l<1000000)(f:1<=n)(I:T B H (K (D (cs.countP (λc=>c.own==n):Nat)))):T B H (ab P 48 #[.slice q l c,D n] K):=by
 subst hl;refine an (PH _ _ _ _) (mC (λm x y H'=>∃k:Nat,m+k=cs.length/\H'=H/\y=(k:Int)/\x=((cs.take k).countP (λc=>c.own==n):Nat)) cs.length ⟨0,by omega,rfl,rfl,by simp⟩ ?_);rintro m x y H' R ⟨k,hm,rfl,rfl,rfl⟩ b;have g:(cs.take k).countP (λc=>c.own==n)<=k:=jL mn (by rw[ff];omega);refine S2.go (λ_=>?_) λ_=>?_
 ·have d:k<cs.length:=by omega
  have a:cs[k]?=some cs[k]:=ba d;generalize cs[k]=v at a;apply eA k rfl d (dW h6 cs k v a 1 (by omega));rw[bd (by omega),bd (by omega)];have e:(cs.take (k+1)).countP (λc=>c.own==n)=(cs.take k).countP (λc=>c.own==n)+if v.own==n then 1 else 0:=by rw[dQ a,rY,rZ]
  repeat' first|refine S2.go (λ_=>?_) λ_=>?_|done
  ·rename_i h i
   rw[ah (by simpa using h)]at e;exact b (m-1) _ _ _ (by omega) ⟨k+1,by omega,rfl,by omega,by rw[e];omega⟩
  ·omega
  ·rename_i h
   rw[ak (by simpa using h)]at e;exact b (m-1) _ _ _ (by omega) ⟨k+1,by omega,rfl,by omega,by rw[e];omega⟩
 ·have hl:k=cs.length:=by omega
  subst hl;rw[gA];exact I
def G5[hr:Rd B H q (aW ms)](hl:l=ms.length)(hlen:l<1000000)(I:T B H (K (D (cJ (λm:Mem=>m.1==n) ms)))):T B H (ab P 50 #[.slice q l c,D n] K):=by
 subst hl;refine an (PY _ _ _ _) (cF ms.length (by omega) (λk H'=>H'=H/\∀j x,j<k->ms[j]?=some x->(x.1==n)=false) ⟨rfl,by simp⟩ ?_);rintro k H' R i ⟨rfl,d⟩ h;refine S2.go (λ_=>?_) λ_=>?_
 ·have f:k<ms.length:=by omega
  have b:ms[k]?=some ms[k]:=ba f;generalize ms[k]=v at b;refine eA k rfl f (dW eP ms k v b 0 (by omega)) (S2.go (λ_=>?_) λ_=>?_)
  ·rename_i g
   unfold cJ at I;rw[nD d b (by simpa using g)]at I;exact I
  ·rename_i g
   refine h f _ ⟨rfl,λj x o a=>?_⟩;by_cases e:j=k
   ·subst e;rw[b]at a;cases a;simpa using g
   ·exact d j x (by omega) a
 ·unfold cJ at I
  rw[mI λj x a=>d j x (by have:=(b0.1 a).1;omega) a]at I;exact I
def x7{a:Acc}(ha:bZ a=true)(I:T B H (K (.bool true))):T B H (ab P 13 #[.agg #[D a.dG,D a.held,D a.cf]] K):=by
 apply an (PR _);unfold bZ at ha;simp only[bz]at ha;repeat' first|apply J.go|refine Sa.go λ_=>?_|refine S2.go (λ_=>?_) λ_=>?_|done
 all_goals first
  |(rw[bd (by omega),cB (by omega)];exact af I)
  |(exfalso;omega)
def XL{a:Acc}(ha:bZ a=true)(I:T B H (K (D (a.dG-a.held)))):T B H (ab P 95 #[.agg #[D a.dG,D a.held,D a.cf]] K):=by
 apply an (PQ _);refine Sa.go λaa=>?_;apply bI (b:=aa) (cs:=#[D a.dG,D a.held,D a.cf]) rfl;unfold aJ;apply x7 ha;unfold bZ at ha;simp only[bz]at ha;repeat apply J.go
 rw[bd (by omega)];exact af I
def G3{s:Sp}(hs:s.ok)(I:T B H (K (.bool (fW s)))):T B H (ab P 96 #[.agg #[D s.at',D s.len]] K):=by
 apply an (PD _);have U:=hs.1;have f:=hs.2;unfold aF at U f
 have xg:∀{H:au} {d:aK},T B H (d (.tuple #[D (if aF (s.at'+s.len)then s.at'+s.len else 0),.bool (decide (aF (s.at'+s.len)))]))->T B H (ab P 160 #[D s.at',D s.len] d):=by
  intro H d hK;apply an (PB _ _);by_cases b:aF (s.at'+s.len)
  ·rw[ah b,cB b]at hK
   unfold aF at b;repeat' first|refine S2.go (λ_=>?_) λ_=>?_|done
   all_goals (first|(rename_i c a g;rw[bd (by omega)]at a;omega)|(rename_i c a;rw[bd (by omega)]at a;omega)|(rename_i c a;rw[bd (by omega)];exact hK)|(rw[bd (by omega)];exact hK)|omega)
  ·rw[ak b,cD b]at hK
   unfold aF at b;repeat' first|refine S2.go (λ_=>?_) λ_=>?_|done
   all_goals (first|exact hK|omega|(rename_i c a;rw[bd (by omega)]at a;omega)|(rename_i c a g;rw[bd (by omega)]at a;omega))
 unfold fW at I;refine Sa.go λaa=>J.go (J.go ?_);unfold fR;apply xg;repeat' first|apply J.go|refine S2.go (λ_=>?_) λ_=>?_|done
 ·have e:decide (aF (s.at'+s.len))=decide (0<=s.at'/\1<=s.len/\s.at'+s.len<=9223372036854775807):=hZ.2 (by unfold aF;omega)
  rw[e];exact af I
 ·rw[cD (by omega)]at I
  exact af I
 ·rw[cD (by omega)]at I
  exact af I
def XE{a b:Sp}(ha:a.ok)(e:b.ok)(f:ja a b=false)(c:fW a=true)(d:fW b=true)(I:T B H (K (.bool false))):T B H (ab P 55 #[.agg #[D a.at',D a.len],.agg #[D b.at',D b.len]] K):=by
 apply an (PC _ _);have h:=jb c;have w2:=jb d;have U:=ha.1;have g:=e.1;unfold aF at U g;unfold ja at f;rw[c,d,e5,e5,fN]at f;refine Sa.go λaa=>Sa.go λaj=>J.go ?_;refine bL (q:=cl aa #[D a.at',D a.len]) ?_;apply bI (b:=aa) (cs:=#[D a.at',D a.len]) rfl;unfold aJ;apply G3 ha;rw[c];refine J.go (aD rfl (bL (q:=cl aj #[D b.at',D b.len]) (bI (b:=aj) (cs:=#[D b.at',D b.len]) rfl (G3 e ?_))));rw[d];refine J.go (aD rfl ?_);repeat' first|apply J.go|refine S2.go (λ_=>?_) λ_=>?_|done
 ·rw[bd (by omega),cD (by omega)]
  exact af I
 ·rw[bd (by omega),cD (by omega)]
  exact af I
end
end
abbrev il(v:Nat->Int):ax:=#[D (v 0),D (v 1),D (v 2),D (v 3)]
def DH{v:Nat->Int}{k:Nat}(I:k<4):(il v)[k]?=some (D (v k)):=by
 obtain rfl|rfl|rfl|rfl:k=0\/k=1\/k=2\/k=3:=by omega
 all_goals rfl
def zv{v:Nat->Int}{k:Nat}{x:Int}(I:k<4):(il v).setIfInBounds k (D x)=il (up v k x):=by
 obtain rfl|rfl|rfl|rfl:k=0\/k=1\/k=2\/k=3:=by omega
 all_goals rfl
def cC(cs:List bA)(p:Nat):Nat:=cs.countP λc=>c.ph==p
def i6(a b:bA):Prop:=a.ph<=3/\b.ph<=3/\0<=a.gen/\a.gen<=b.gen/\(a.gen=b.gen->a.ph<=b.ph)/\(a.gen=b.gen->a.ph=1->b.ph=1->a.own=b.own)
section
variable {B:Heap}{H H0:au}{K:aK}{q q':aw}{l c c':Nat}{xs:aO}{n i:Int}{cs:List bA}{ms:List Mem}
def G4[hr:Rd B H q (cs.flatMap dc)](hl:l=cs.length)(hlen:l<1000000)(I:T B H (K (.agg #[D (cC cs 0),D (cC cs 1),D (cC cs 2),D (cC cs 3)]))):T B H (ab P 10 #[.slice q l c] K):=by
 subst hl;refine an (PJ _ _ _) (Sa.go λaa=>Sa.go λaj=>af (cF 4 (by omega) (λk H'=>∃v:Nat->Int,(∀j,v j=if j<k then(cC cs j:Int)else 0)/\H'=cl aj (il v)::cl aa (il λ_=>0)::H) ⟨λ_=>0,λj=>by simp,rfl⟩ ?_));rintro k H' R u ⟨v,b,rfl⟩ r;refine S2.go (λs=>?_) λs=>?_
 ·have g:k<4:=by omega
  refine cF cs.length (by omega) (λm H'=>∃w:Nat->Int,(∀j,w j=if j<k then(cC cs j:Int)else if j=k then(cC (cs.take m) k:Int)else 0)/\H'=cl aj (il w)::cl aa (il λ_=>0)::H) ⟨v,λj=>by rw[b];split;rfl;split<;>simp[cC],rfl⟩ ?_;rintro m H' x hm ⟨w,hw,rfl⟩ n;have y:cC (cs.take m) k<=m:=jL mn (by rw[ff];omega);have o:=hw k;rw[ak (by omega),ah rfl]at o;refine S2.go (λ_=>?_) λ_=>?_
  ·have d:m<cs.length:=by omega
   have i:cs[m]?=some cs[m]:=ba d;generalize cs[m]=z at i;have A:Rd B (cl aj (il w)::cl aa (il λ_=>0)::H) q (cs.flatMap dc):=⟨hr.rd.tail.tail⟩;apply eA m rfl d (dW h6 cs m z i 0 (by omega));have e:cC (cs.take (m+1)) k=cC (cs.take m) k+if z.ph==k then 1 else 0:=by unfold cC;rw[dQ i,rY,rZ]
   repeat' first|refine S2.go (λ_=>?_) λ_=>?_|refine Sc.go (by omega) ?_|done
   ·rename_i h
    have h:z.ph=k:=by omega
    rw[ah (by simpa using h)]at e;rw[aQ,a7,bJ];refine a1 (DH g) (bj (by omega) ?_);rw[o,bd (by omega)];apply eB (by simp;omega) rfl;rw[zv g];refine n d _ ⟨_,λj=>?_,rfl⟩;unfold Go.bn.up;by_cases f:j=k
    ·subst f;rw[ah rfl,ak (by omega),ah rfl,e];omega
    ·rw[ak f,hw,ak f,ak f]
   ·rename_i h
    have h:¬z.ph=k:=by omega
    rw[ak (by simpa using h)]at e;refine n d _ ⟨w,λj=>?_,rfl⟩;rw[hw];split
    ·rfl
    ·split
     ·rw[e];simp
     ·rfl
  ·have hl:m=cs.length:=by omega
   subst hl;rw[gA]at hw;refine r g _ ⟨w,λj=>?_,rfl⟩;rw[hw];by_cases U:j<k
   ·rw[ah U,ah (by omega)]
   ·rw[ak U]
    by_cases a:j=k
    ·rw[ah a,ah (by omega),a]
    ·rw[ak a,ak (by omega)]
 ·have t:k=4:=by omega
  subst t;have h0:=b 0;have U:=b 1;have a:=b 2;have p:=b 3;simp only[Nat.lt_irrefl,dT,show(0:Nat)<4 from by omega,show(1:Nat)<4 from by omega,show(2:Nat)<4 from by omega,show(3:Nat)<4 from by omega]at h0 U a p;rw[<-h0,<-U,<-a,<-p]at I;repeat refine Sc.go (by first|rfl|exact⟨rfl,rfl⟩) ?_
  exact af I
def XJ{ws:aO}[hr:Rd B H q (cs.flatMap dc)][hw:Rd B H q' (iv .i64 ws)](hl:l=cs.length)(g:n.toNat=ws.length)(hlen:l<1000000)(h:ws.length<1000000)(U:∀(i:Nat) c,cs[i]?=some c->lW c=true/\(ws.countP (·==(i:Int))=if c.ph=2 then 1 else 0))(m:∀i∈ws,0<=i/\i<(cs.length:Int))(I:T B H (K (.bool true))):T B H (ab P 22 #[.slice q l c,.slice q' n.toNat c'] K):=by
 rw[g];subst hl;refine an (PM _ _ _ _ _ _) (cF cs.length (by omega) (λk H'=>H'=H) rfl ?_);rintro k H' R t rfl f;refine S2.go (λ_=>?_) λ_=>?_
 ·have a:k<cs.length:=by omega
  have b:cs[k]?=some cs[k]:=ba a;generalize cs[k]=z at b;obtain⟨o,p⟩:=U k z b;unfold aU;refine XK rfl h (J.go (dO h6 (by omega) k rfl a b ?_));unfold aJ;refine XH o (J.go (aD rfl ?_));have e:=dW h6 cs k z b 0 (by omega);apply eA k rfl a e;rw[p];by_cases d:z.ph=2
  ·rw[ah d]
   exact bk (by simp[d]) (aD (by decide) (eA k rfl a e (aD (by simp[d]) (f a _ rfl))))
  ·rw[ak d]
   apply aD (by simp;omega);apply eA k rfl a e;apply bk (by simp;omega);exact aD (by decide) (f a _ rfl)
 ·apply cF ws.length (by omega) (λ_ X=>X=H') rfl
  rintro j X u w rfl r;refine S2.go (λ_=>?_) λ_=>?_
  ·have a:j<ws.length:=by omega
   have b:ws[j]?=some ws[j]:=ba a;have s:=m ws[j] (dz a);generalize ws[j]=v at b s;apply e1 j rfl a b;apply aD (by simp;omega);apply e1 j rfl a b;apply aD (by simp;omega);exact r a _ rfl
  ·exact I
def XF{a b:bA}(h:i6 a b)(I:T B H (K (.bool true))):T B H (ab P 27 #[.agg (dc a).toArray,.agg (dc b).toArray] K):=by
 apply an (PG _ _);obtain⟨U,d,f,g,i,c⟩:=h;rw[show dc a=[D a.ph,D a.own,D a.gen]from rfl,show dc b=[D b.ph,D b.own,D b.gen]from rfl];repeat' first|apply J.go|refine Sa.go λ_=>?_|refine S2.go (λ_=>?_) λ_=>?_|done
 all_goals first
  |exact af I
  |(exfalso;omega)
  |(have e:(a.own==b.own)=true:=by have:=c (by omega) (by omega) (by omega);simp[this]
    rw[e];exact af I)
end
