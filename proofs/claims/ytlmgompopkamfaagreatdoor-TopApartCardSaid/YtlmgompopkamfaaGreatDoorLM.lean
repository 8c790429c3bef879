/- Lemmas that lead to TopApart (their names made short by a program); no condition. -/
import Derived.Test.YtlmgompopkamfaaGreatDoorLL
set_option linter.all false
set_option maxRecDepth 20000
set_option synthInstance.checkSynthOrder false
namespace Go.Proofs.YtlmgompopkamfaaGreatDoor
open Go.XS Go.bm
section
structure Sp where
 at':Int
 len:Int
abbrev dm(s:Sp):az:=[J s.at',J s.len]
def jF(s:Sp):(dm s).length=2:=rfl
def hI(s:Sp):Bool:=decide (0<=s.at'/\1<=s.len/\s.at'+s.len<=9223372036854775807)
def Sp.ok(s:Sp):Prop:=aF s.at'/\aF s.len
def h3(a b:Sp):Bool:=hI a&&hI b&&decide (a.at'<b.at'+b.len/\b.at'<a.at'+a.len)
def hH:Int->List Sp->Bool
 |_,[]=>true
 |e,s::l=>hI s&&decide (e<=s.at')&&hH (s.at'+s.len) l
def mj(l:List Sp):Bool:=hH 0 l
def kr:Int->List Sp->Int
 |e,[]=>e
 |_,s::l=>kr (s.at'+s.len) l
def yy(e:Int)(l a:List Sp):hH e (l++a)=(hH e l&&hH (kr e l) a):=by
 induction l generalizing e with
 |nil=>simp[hH,kr]
 |cons s l b=>simp only[qL,hH,kr,b,Bool.and_assoc]
def E6(e:Int)(l a:List Sp):kr e (l++a)=kr (kr e l) a:=by
 induction l generalizing e with
 |nil=>rfl
 |cons s l b=>simp only[qL,kr,b]
section
variable {B:Heap}{H H0:au}{K:aK}{q:av}{l c:Nat}{ss:List Sp}{s a:Sp}{n:Int}
instance ac4:fG P 222 2:=fG.of (e:=0) (by kernel_rfl)
def ZA(h:s.ok)(U:T B H (K (.bool (hI s)))):T B H (ad P 282 #[.agg #[J s.at',J s.len]] K):=by
 apply an (RN _);have h1:=h.1;have a:=h.2;unfold hI at U;repeat' first|apply St.go|refine Sa.go λ_=>?_|refine S2.go (λ_=>?_) λ_=>?_|refine Sc.go (by assumption) ?_|done
 ·have e:decide (aF (s.at'+s.len))=decide (0<=s.at'/\1<=s.len/\s.at'+s.len<=9223372036854775807):=jl.2 (by unfold aF;omega)
  rw[e];exact af U
 ·rw[cP (by omega)]at U
  exact af U
 ·rw[cP (by omega)]at U
  exact af U
instance adl{x y:Int}:Sc B H (ad P 282 #[.agg #[J x,J y]] K) (aF x/\aF y) (T B H (K (.bool (hI ⟨x,y⟩)))):=⟨λh U=>ZA (s:=⟨x,y⟩) h U⟩
def j7{s:Sp}(h:hI s=true):0<=s.at'/\1<=s.len/\s.at'+s.len<=9223372036854775807:=by unfold hI at h;simpa using h
def B'{b:Sp}(ha:a.ok)(i:b.ok)(U:T B H (K (.bool (h3 a b)))):T B H (ad P 284 #[.agg #[J a.at',J a.len],.agg #[J b.at',J b.len]] K):=by
 apply an (RH _ _);have h1:=ha.1;have j:=ha.2;have k:=i.1;have l:=i.2;unfold h3 at U;repeat' first|apply St.go|refine Sa.go λ_=>?_|refine S2.go (λ_=>?_) λ_=>?_|refine Sc.go (by first|rfl|assumption) ?_|done
 ·rename_i c d f
  have g:=j7 c;have w2:=j7 d;simp only at g w2;rw[br (by omega)]at f;rw[br (by omega)]
  have e:(decide (b.at'<a.at'+a.len))=(hI a&&hI b&&decide (a.at'<b.at'+b.len/\b.at'<a.at'+a.len)):=by rw[c,d,ff,ff];exact jl.2 ⟨λh=>⟨f,h⟩,λh=>h.2⟩
  rw[e];exact af U
 ·rename_i c d f
  have g:=j7 c;have w2:=j7 d;simp only at g w2;rw[br (by omega)]at f;rw[c,d,ff,ff,cP λh=>f h.1]at U;exact af U
 ·rename_i c d
  rw[c,d]at U;exact af U
 ·rename_i c
  rw[c]at U;exact af U
def TZ{e:Int}{l:List Sp}(h:hH e l=true)(he:0<=e/\e<=9223372036854775807):0<=kr e l/\kr e l<=9223372036854775807:=by
 induction l generalizing e with
 |nil=>exact he
 |cons s l a=>simp only[hH,cg,bJ]at h;have:=j7 h.1.1;exact a h.2 ⟨by omega,this.2.2⟩
def H8[hr:Rd B H q (ss.flatMap dm)](hl:l=ss.length)(hlen:l<1000000)(aM:∀s∈ss,s.ok)(U:T B H (K (.bool (mj ss)))):T B H (ad P 281 #[.slice q l c] K):=by
 subst hl;refine an (RJ _ _ _) (qX (λm x y H'=>∃k:Nat,m+k=ss.length/\H'=H/\y=(k:Int)/\hH 0 (ss.take k)=true/\x=kr 0 (ss.take k)) ss.length ⟨0,by omega,rfl,rfl,rfl,rfl⟩ ?_);rintro m x y H' R ⟨k,hm,rfl,rfl,b,rfl⟩ g;have n:=TZ b ⟨by omega,by omega⟩;refine S2.go (λ_=>?_) λ_=>?_
 ·have d:k<ss.length:=by omega
  have a:ss[k]?=some ss[k]:=bj d;have e:=aM ss[k] (eK d);generalize ss[k]=s at a e
  have i:ss=ss.take k++(s::ss.drop (k+1)):=by
   conv=>lhs;rw[<-kd (k+1) ss]
   rw[ef a,el];rfl
  have f:(hI s&&decide (kr 0 (ss.take k)<=s.at'))=false->mj ss=false:=λh=>by unfold mj;rw[i,yy];simp only[hH];rw[h];simp
  apply eD jF (by omega) k rfl d a;have h1:=e.1;have o:=e.2;repeat' first|apply St.go|refine Sa.go λ_=>?_|refine S2.go (λ_=>?_) λ_=>?_|refine Sc.go (by first|rfl|exact⟨rfl,rfl⟩|assumption) ?_|done
  ·rename_i h
   have h:hI s=false:=h;rw[f (by rw[h];rfl)]at U;exact af U
  ·rename_i h j
   rw[f (by rw[cP (by omega)];simp)]at U;exact af U
  ·rename_i h j
   have h:hI s=true:=h;have hw:=j7 h;rw[br (by omega),br (by omega)];refine af (g (m-1) _ _ _ (by omega) ⟨k+1,by omega,rfl,by omega,?_,?_⟩)
   ·rw[ef a,yy,b]
    simp only[hH,h,ff,y3,bJ];omega
   ·rw[ef a,E6]
    rfl
 ·have hl:k=ss.length:=by omega
  subst hl;rw[ix]at b;have:mj ss=true:=b;rw[this]at U;exact U
def wx(l:List Sp):Prop:=l.Pairwise λa b=>a.at'<b.at'
def sy{e:Int}{l:List Sp}(h:hH e l=true):wx l/\∀s∈l,e<=s.at':=by
 induction l generalizing e with
 |nil=>exact⟨.nil,by simp⟩
 |cons s l d=>
  simp only[hH,cg,bJ]at h;have hw:=j7 h.1.1;obtain⟨h1,c⟩:=d h.2;refine⟨my.2 ⟨λb a=>by have:=c b a;omega,h1⟩,λb a=>?_⟩;rcases cL.1 a with rfl|a
  ·exact h.1.2
  ·have:=c b a;omega
def dN(x:Int)(l:List Sp):Nat:=(l.takeWhile λs=>decide (s.at'<x)).length
def H4{x:Int}{l:List Sp}{i:Nat}(hi:i<=l.length)(h1:∀k s,k<i->l[k]?=some s->s.at'<x)(b:∀s,l[i]?=some s->x<=s.at'):dN x l=i:=by
 induction l generalizing i with
 |nil=>simp at hi;subst hi;rfl
 |cons a l c=>
  cases i with
  |zero=>have:=b a rfl;unfold dN;rw[Jh (by simp;omega)];rfl
  |succ i=>have:=h1 0 a (by omega) rfl;unfold dN;rw[Ji (by simpa using this)];have:=c (by simpa using hi) (λk s U hs=>h1 (k+1) s (by omega) (by simpa using hs)) (λs hs=>b s (by simpa using hs));unfold dN at this;simp[this]
instance adk{x y:Int}:St B H (ad P 358 #[.agg #[J x,J y],J n] K) (T B H (K (J (if x<n then-1 else if x>n then 1 else 0)))):=⟨by
 intro U;apply an (RM _ _);repeat' first|apply St.go|refine Sa.go λ_=>?_|refine S2.go (λ_=>?_) λ_=>?_|done
 ·rename_i h;rw[ag h]at U;exact af U
 ·rename_i h a;rw[aj h,ag a]at U;exact af U
 ·rename_i h a;rw[aj h,aj a]at U;exact af U⟩
def Zz[hr:Rd B H q (ss.flatMap dm)](hl:l=ss.length)(hlen:l<1000000)(v:wx ss)(U:∀b,T B H (K (.tuple #[J (dN n ss),.bool b]))):T B H (ad P 283 #[.slice q l c,J n] K):=by
 subst hl;apply an (RL _ _ _ _);unfold gk;apply an (Q0 _ _ _ _ _ _)
 have p:∀(i j:Nat) (a b:Sp),i<j->ss[i]?=some a->ss[j]?=some b->a.at'<b.at':=by intro i j a b r ha d;have hi:=(bY.1 ha);have t:=(bY.1 d);have:=mz.1 v i j hi.1 t.1 r;rw[hi.2,t.2]at this;exact this
 refine qX (λm x y H'=>∃i j:Nat,m=j-i/\i<=j/\j<=ss.length/\H'=H/\x=(i:Int)/\y=(j:Int)/\(∀k s,k<i->ss[k]?=some s->s.at'<n)/\(∀k s,j<=k->ss[k]?=some s->n<=s.at')) ss.length ⟨0,ss.length,by omega,by omega,by omega,rfl,rfl,rfl,λk s h=>by omega,λk s h hs=>by have:=(bY.1 hs).1;omega⟩ ?_;rintro m x y H' R ⟨i,j,rfl,r,w,rfl,rfl,rfl,h1,o⟩ u;repeat' first|apply St.go|refine S2.go (λ_=>?_) λ_=>?_|refine Sc.go (by omega) ?_|done
 ·rename_i h
  have z:IntKind.wrap .i64 (bO .u64 (IntKind.wrap .u64 (IntKind.wrap .i64 ((i:Int)+(j:Int)))) (1:Int))=(((i+j)/2:Nat):Int):=by
   have A:IntKind.wrap .i64 ((i:Int)+(j:Int))=(i:Int)+(j:Int):=br (by omega)
   have C:IntKind.wrap .u64 ((i:Int)+(j:Int))=(i:Int)+(j:Int):=by show((i:Int)+(j:Int))%18446744073709551616=_;omega
   have D:bO .u64 ((i:Int)+(j:Int)) 1=(((i+j)/2:Nat):Int):=by show Int.fdiv ((i:Int)+(j:Int)) 2=_;rw[CX _ (by decide)];omega
   rw[A,C,D,br (by omega)]
  have g:(i+j)/2<ss.length:=by omega
  have f:ss[(i+j)/2]?=some ss[(i+j)/2]:=bj g;generalize ss[(i+j)/2]=s at f;rw[z];refine eD jF (by omega) ((i+j)/2) rfl g f (lR (by kernel_rfl) ?_);show T B _ (ad P 358 #[.agg #[J s.at',J s.len],J n] _);refine St.go (St.go ?_);by_cases hs:s.at'<n
  ·rw[ag hs]
   apply bo (by decide);rw[br (by omega)];refine u (j-((i+j)/2+1)) _ _ _ (by omega) ⟨(i+j)/2+1,j,rfl,by omega,w,rfl,by omega,rfl,λk b U d=>?_,o⟩;by_cases e:k=(i+j)/2
   ·subst e;rw[f]at d;cases d;exact hs
   ·have:=p k _ b s (by omega) d f;omega
  ·rw[aj hs]
   apply aI (by split<;>decide);refine u ((i+j)/2-i) _ _ _ (by omega) ⟨i,(i+j)/2,rfl,by omega,by omega,rfl,rfl,rfl,h1,λk b U d=>?_⟩;by_cases e:k=(i+j)/2
   ·subst e;rw[f]at d;cases d;omega
   ·have:=p _ k s b (by omega) f d;omega
 ·rename_i h E
  have e:j=i:=by omega
  subst e;have g:j<ss.length:=by omega
  have f:ss[j]?=some ss[j]:=bj g;generalize ss[j]=s at f;refine eD jF (by omega) j rfl g f (lR (by kernel_rfl) ?_);show T B _ (ad P 358 #[.agg #[J s.at',J s.len],J n] _);refine St.go (St.go (St.go ?_));have:=U ((if s.at'<n then-1 else if s.at'>n then(1:Int)else 0)==0);rw[H4 (by omega) h1 λs hs=>o j s (by omega) hs]at this;exact this
 ·rename_i h E
  have e:j=i:=by omega
  subst e;have:=U false;rw[H4 (by omega) h1 λs hs=>o j s (by omega) hs]at this;exact this
def Y'{g:Nat}{ca:aw}{f:Sp->Bool}(o:fW P g=true)[hr:Rd B H q (ss.flatMap dm)](hl:l=ss.length)(hlen:l<1000000)(hf:∀m∈ss,∀n:aK,T B H (n (.bool (f m)))->T B H (ad P g (Array.mk (Array.toList #[]++[Value.agg (dm m).toArray]++Array.toList ca)) n))(U:T B H (K (J (cS f ss)))):T B H (ad P 294 #[.slice q l c,.func (.func g) #[] ca] K):=by
 apply an (Rf _ _ _ _ _);subst hl;refine dh ss.length (by omega) (λk H'=>H'=H/\∀j x,j<k->ss[j]?=some x->f x=false) ⟨rfl,by simp⟩ ?_;rintro k H' R r ⟨rfl,d⟩ p;refine S2.go (λ_=>?_) λ_=>?_
 ·have b:k<ss.length:=by omega
  have h:ss[k]?=some ss[k]:=bj b;refine eD jF (by omega) k rfl b h (lR o (hf _ (eK b) _ ?_));repeat' first|apply St.go|refine S2.go (λ_=>?_) λ_=>?_|done
  ·rename_i i
   unfold cS at U;rw[qc d h i]at U;exact U
  ·rename_i i
   refine p b _ ⟨rfl,λj x s a=>?_⟩;by_cases e:j=k
   ·subst e;rw[h]at a;cases a;exact i
   ·exact d j x (by omega) a
 ·unfold cS at U
  rw[oV λj x a=>d j x (by have:=(bY.1 a).1;omega) a]at U;exact U
def pr(x:Int)(s:Sp):Bool:=decide (s.at'<=x/\x-s.at'<s.len)
def vK{e:Int}{l:List Sp}(h:hH e l=true):∀s∈l,hI s=true:=by
 induction l generalizing e with
 |nil=>simp
 |cons s l c=>
  simp only[hH,cg,bJ]at h;intro b a;rcases cL.1 a with rfl|a
  ·exact h.1.1
  ·exact c h.2 b a
def Zy[hr:Rd B H q (ss.flatMap dm)](hl:l=ss.length)(hlen:l<1000000)(aM:∀s∈ss,s.ok)(b:mj ss=true)(d:aF n)(U:T B H (K (J (cS (pr n) ss)))):T B H (ad P 197 #[.slice q l c,J n] K):=by
 refine an (RF _ _ _ _) (Sa.go λaa=>?_);have i:Rd B (cl aa #[J n]::H) q (ss.flatMap dm):=⟨hr.rd.tail⟩;unfold aS;refine H8 hl hlen aM (St.go ?_);rw[b];apply aI rfl;unfold aV;refine Y' (f:=pr n) (by kernel_rfl) hl hlen (λm hm g hK=>?_) ?_
 ·show T B _ (ad P 295 #[.agg #[J m.at',J m.len],pz aa] g)
  apply an (RG _ _);have hw:=j7 (vK b m hm);have h1:=aM m hm;unfold Sp.ok aF at h1;unfold aF at d;unfold pr at hK;repeat' first|apply St.go|refine Sa.go λ_=>?_|refine S2.go (λ_=>?_) λ_=>?_|done
  ·rename_i h
   rw[br (by omega)];have e:decide (m.at'<=n/\n-m.at'<m.len)=decide (n-m.at'<m.len):=jl.2 ⟨λh=>h.2,λa=>⟨h,a⟩⟩;rw[e]at hK;exact af hK
  ·rename_i h
   rw[cP λa=>h a.1]at hK;exact af hK
 ·exact St.go (af U)
instance acB{l:List Sp}:kj (l.flatMap dm).toArray:=⟨by intro v a;obtain⟨m,hm,a⟩:=lL.1 a;simp only[dm,cL,jJ,jm]at a;rcases a with rfl|rfl<;>rfl⟩
def HY[hr:Rd B H q (ss.flatMap dm)](hl:l=ss.length)(hlen:l<1000000)(U:∀b c',T B (ah 2 b ss.length c' (ss.flatMap dm)::H) (K (.slice b ss.length c'))):T B H (ad P 285 #[.slice q l c] K):=by
 subst hl;apply an (Q3 _ _ _)
 cases q with
 |none=>
  apply bo rfl;by_cases hs:ss=[]
  ·subst hs
   exact dL 2 (U none 0)
  ·intro σ o
   exfalso;rcases hr.rd σ o with⟨_,h⟩|⟨a,h,_⟩
   ·have:=dj jF ss
    rw[h]at this;have d:=r9.2 hs;simp at this;omega
   ·cases h
 |some a=>apply aI rfl;refine Sa.go λaa=>?_;refine kk (l:=0) 2 rfl ?_;have e:Rd B (ah 2 (some ⟨aa,0,none⟩) 0 0 (#[]:aw).toList::H) (some a) (ss.flatMap dm):=⟨hr.rd.tail⟩;refine oB (by omega) (dj jF ss) λb c'=>?_;rw[bI,kQ];exact U b c'
def Js{ys:az}{k:Nat}(h:bF B H q ys)(U:k<=ys.length):bF B H (q.map (·.add k)) (ys.drop k):=by
 intro σ o;rcases h σ o with⟨rfl,rfl⟩|⟨a,rfl,hc⟩
 ·exact .inl ⟨rfl,by simp⟩
 ·refine .inr ⟨a.add k,rfl,λi hi=>?_⟩
  rw[kN]at hi;rw[add_add,hc (k+i) (by omega),pF]
def Zu{k:Nat}(U:k<=ss.length):(ss.flatMap dm).drop (k*2)=(ss.drop k).flatMap dm:=by
 have:ss.flatMap dm=(ss.take k).flatMap dm++(ss.drop k).flatMap dm:=by rw[<-oo,kd]
 rw[this,za (by rw[dj jF];simp;omega)]
def Zv{k:Nat}(U:k<=ss.length):(ss.flatMap dm).take (k*2)=(ss.take k).flatMap dm:=by
 have:ss.flatMap dm=(ss.take k).flatMap dm++(ss.drop k).flatMap dm:=by rw[<-oo,kd]
 rw[this,qO (by rw[dj jF];simp;omega)]
def qF(ss:List Sp)(s:Sp):Bool:=
 (match ss[dN s.at' ss]? with|some b=>h3 b s|none=>false)||(decide (0<dN s.at' ss)&&h3 (ss.getD (dN s.at' ss-1) ⟨0,0⟩) s)
def qG(ss:List Sp)(s:Sp):List Sp:=ss.take (dN s.at' ss)++s::ss.drop (dN s.at' ss)
def H7{x:Int}{l:List Sp}{k:Nat}{s:Sp}(U:k<dN x l)(hs:l[k]?=some s):s.at'<x:=by
 unfold dN at U
 have h1:(l.takeWhile λs=>decide (s.at'<x))[k]?=some s:=by have a:l=(l.takeWhile λs=>decide (s.at'<x))++(l.dropWhile λs=>decide (s.at'<x)):=Jf.symm;rw[a,gx U]at hs;exact hs
 have:=cr h1;have b:=iq.1 (List.all_takeWhile) _ this;simpa using b
def H5{x:Int}{l:List Sp}{s:Sp}(hs:l[dN x l]?=some s):x<=s.at':=by
 unfold dN at hs;have b:l=(l.takeWhile λs=>decide (s.at'<x))++(l.dropWhile λs=>decide (s.at'<x)):=Jf.symm
 conv at hs=>lhs;arg 1;rw[b]
 rw[iu (dQ _),kS]at hs
 cases hd:l.dropWhile (λs=>decide (s.at'<x))with
 |nil=>rw[hd]at hs;simp at hs
 |cons a t=>rw[hd]at hs;simp at hs;subst hs;have:=List.head?_dropWhile_not (λs:Sp=>decide (s.at'<x)) l;rw[hd]at this;simpa using this
def T0(e:Int)(l:List Sp)(s:Sp):kr e (l++[s])=s.at'+s.len:=by rw[E6];rfl
def Zw{s:Sp}(g:mj ss=true)(hw:hI s=true)(e:qF ss s=false):mj (qG ss s)=true:=by
 unfold mj qG at*;unfold qF at e;have hi:=I5 (Jj (λt:Sp=>decide (t.at'<s.at')) (l:=ss));have m:∀k b,k<dN s.at' ss->ss[k]?=some b->b.at'<s.at':=λk b h1 c=>H7 h1 c;have n:∀b,ss[dN s.at' ss]?=some b->s.at'<=b.at':=λb h=>H5 h;have hi:dN s.at' ss<=ss.length:=hi;generalize dN s.at' ss=i at*;have f:hH 0 (ss.take i++ss.drop i)=true:=by rw[kd];exact g
 rw[yy,cg]at f;have p:=j7 hw;rw[tN]at e;rw[yy,f.1,ff];simp only[hH,hw,ff,cg,bJ];constructor
 ·cases i with
  |zero=>simp[kr];omega
  |succ i=>have a:ss[i]?=some ss[i]:=bj (by omega);have c:=e.2;rw[cM (by omega),ff,List.getD,Nat.add_sub_cancel,a]at c;simp only[fx]at c;have o:=m i _ (by omega) a;rw[ef a,T0];have d:=vK g ss[i] (eK _);unfold h3 at c;rw[d,hw,ff,ff,hg]at c;have:=j7 d;omega
 ·cases hd:ss.drop i with
  |nil=>rfl
  |cons b t=>
   have a:ss[i]?=some b:=by have:=congrArg (·[0]?) hd;simpa using this
   have h1:=e.1;rw[a]at h1;simp only at h1;have o:=n b a;have d:=vK g b (cr a);unfold h3 at h1;rw[d,hw,ff,ff,hg]at h1;have:=j7 d;rw[hd]at f;have j:=f.2;simp only[hH,cg,bJ]at j⊢;exact⟨⟨j.1.1,by omega⟩,j.2⟩
def H6{x:Int}{l:List Sp}:dN x l<=l.length:=by unfold dN;exact I5 (Jj _)
def Zx[hr:Rd B H q (ss.flatMap dm)](hl:l=ss.length)(ak:l<=c)(hlen:l<900000)(aM:∀s∈ss,s.ok)(t:mj ss=true)(hs:s.ok)(hw:hI s=true)(m:qF ss s=true->T B H (K (.tuple #[.slice none 0 0,.bool false])))(U:qF ss s=false->∀d c',T B (ah 2 d (ss.length+1) c' ((qG ss s).flatMap dm)::H) (K (.tuple #[.slice d (ss.length+1) c',.bool true]))):T B H (ad P 189 #[.slice q l c,.agg #[J s.at',J s.len]] K):=by
 subst hl;refine an (RE _ _ _ _) (Sa.go λaa=>?_);have al:Rd B (cl aa #[J s.at',J s.len]::H) q (ss.flatMap dm):=⟨hr.rd.tail⟩;have E:=(sy t).1;have hi:=H6 (x:=s.at') (l:=ss);refine dU (α:=Unit) (λ_=>cl aa #[J s.at',J s.len]::H) (λ_=>[]) (λu body=>?_) λ_=>?_
 ·unfold aS
  apply H8 rfl (by omega) aM;rw[t];refine St.go (aI rfl ?_);have h1:=hs.1;have am:=hs.2;repeat' first|apply St.go|refine S2.go (λ_=>?_) λ_=>?_|refine Sc.go (by first|rfl|assumption) ?_|done
  ·rename_i h
   have h:hI s=false:=h;rw[hw]at h;cases h
  ·exact af (body ())
 refine St.go (bg rfl ?_);unfold gk;refine Zz rfl (by omega) E λao=>St.go ?_;unfold qF at m U;unfold qG at U;generalize ap:dN s.at' ss=i at*;refine dU (α:={aq:Unit//((match ss[i]? with|some b=>h3 b s|none=>false)||(decide (0<i)&&h3 (ss.getD (i-1) ⟨0,0⟩) s))=false}) (λ_=>cl aa #[J s.at',J s.len]::H) (λ_=>[]) (λu body=>?_) λ⟨_,F⟩=>?_
 ·have v:0<i->(match ss[i]? with|some b=>h3 b s|none=>false)=false->T B (cl aa #[J s.at',J s.len]::H) (dI q ss.length (IntKind.wrap .i64 ((i:Int)-(1:Int))) 2 2 λI=>eQ (ai aa 0) 2 λL=>aS 284 #[Value.agg I,Value.agg L] λM=>ae M (K (Value.tuple #[Value.slice none 0 0,Value.bool false])) (u [])):=by
   intro n g;have a:ss[i-1]?=some ss[i-1]:=bj (by omega);have w:ss.getD (i-1) ⟨0,0⟩=ss[i-1]:=by rw[List.getD,a];rfl
   have r:=aM ss[i-1] (eK _);rw[g,Bool.false_or,cM n,ff,w]at m;generalize ss[i-1]=N at*;apply eD jF (by omega) (i-1) (by rw[br (by omega)];omega) (by omega) a;refine bV rfl ?_;unfold aS;refine B' r hs (St.go ?_)
   cases hm:h3 N s with
   |true=>exact bo rfl (af (m hm))
   |false=>apply aI rfl;exact af (body ⟨(),by rw[g,w,hm];simp⟩)
  repeat' first|refine S2.go (λ_=>?_) λ_=>?_|done
  ·rename_i h
   have y:i<ss.length:=by omega
   have a:ss[i]?=some ss[i]:=bj y;have r:=aM ss[i] (eK y);generalize ss[i]=nx at*;refine eD jF (by omega) i rfl (by omega) a (bV rfl ?_);unfold aS;refine B' r hs (St.go ?_)
   cases hm:h3 nx s with
   |true=>apply bo rfl;exact af (m (by rw[a];simp only[hm];rfl))
   |false=>
    apply aI rfl;have g:(match ss[i]? with|some b=>h3 b s|none=>false)=false:=by rw[a];exact hm
    by_cases n:0<i
    ·apply bo (by simp;omega)
     exact v n g
    ·apply aI (by simp;omega)
     exact af (body ⟨(),by rw[g,cP n];rfl⟩)
  ·rename_i h O
   have a:ss[i]?=none:=iN (by omega);exact v (by omega) (by rw[a])
  ·rename_i h O
   have a:ss[i]?=none:=iN (by omega);exact af (body ⟨(),by rw[a,cP (by omega)];rfl⟩)
 have U:=U F;refine St.go (ba (by omega) (ba (by omega) (ba (by omega) ?_)));refine bV rfl ?_;rw[lx,aZ,iQ]
 have z:bF B H q ((ss.take i).flatMap dm):=by
  have:=hr.rd.take (i*2) (by rw[dj jF];omega)
  rwa [Zv hi]at this
 have A:bF B H (da q 2 i c) ((ss.drop i).flatMap dm):=by
  unfold da;split
  ·rename_i e
   have:ss.drop i=[]:=om (by omega);rw[this];have:=hr.rd.take 0 (by omega);simpa using this
  ·have:=Js (k:=i*2) hr.rd (by rw[dj jF];omega)
   rwa [Zu hi]at this
 have p:(ss.take i).length=i:=by rw[fv];omega
 have Q:(ss.drop i).length=ss.length-i:=by rw[kN]
 have C:∀{G:au} {p1:av} {c1 k:Nat},bF B G (da q 2 i c) ((ss.drop i).flatMap dm)->(∀d c',T B (ah 2 d (ss.length+1) c' ((ss.take i++s::ss.drop i).flatMap dm)::cl k #[J s.at',J s.len]::G) (K (.tuple #[.slice d (ss.length+1) c',.bool true])))->
   T B (ah 2 p1 i c1 ((ss.take i).flatMap dm)::cl k #[J s.at',J s.len]::G) (cC P #[222,222] p1 i c1 (some (ai k 0)) 1 1 λR S V=>cC P #[222,222] R S V (da q 2 i c) (ss.length-i) (c-i) λW X Y=>K (Value.tuple #[Value.slice W X Y,Value.bool true])):=by
  intro G p1 c1 k Z ab;refine eZ rfl (by omega) λp2 c2=>?_;have ar:kj ((ss.drop i).flatMap dm).toArray:=inferInstance;have D:Rd B (ah 2 p2 (i+1) c2 ((ss.take i).flatMap dm++(#[J s.at',J s.len]:aw).toList)::cl k #[J s.at',J s.len]::G) (da q 2 i c) ((ss.drop i).flatMap dm):=⟨Z.tail.tail⟩;refine oB (by omega) (by rw[dj jF,Q]) λp3 c3=>?_;have ac:i+1+(ss.length-i)=ss.length+1:=by omega
  rw[ac];have ag:(ss.take i).flatMap dm++(#[J s.at',J s.len]:aw).toList++(ss.drop i).flatMap dm=(ss.take i++s::ss.drop i).flatMap dm:=by simp
  rw[ag];exact ab p3 c3
 refine e0 ?_ ?_
 ·unfold b2
  have D:Rd B (cl aa #[J s.at',J s.len]::H) q ((ss.take i).flatMap dm):=⟨z.tail⟩;refine HY p.symm (by omega) λp1 c1=>St.go ?_;have hC:bZ B (ah 2 p1 (ss.take i).length c1 ((ss.take i).flatMap dm)::cl aa #[J s.at',J s.len]::H) aa #[J s.at',J s.len]:=inferInstance;refine e7 (λσ o=>⟨_,rfl,rfl,λj aj=>?_⟩) ?_
  ·rw[aR,hC.cell o,bI]
  apply ba rfl;refine Sa.go λf=>?_;refine jP (ds:=#[J s.at',J s.len]) rfl ?_;rw[p];refine af (H':=ah 2 p1 i c1 ((ss.take i).flatMap dm)::cl f #[J s.at',J s.len]::H) ?_;exact C A λd c'=>af (U d c')
 ·refine ba rfl (Sa.go λf=>jP (ds:=#[J s.at',J s.len]) rfl ?_)
  unfold b2;have D:Rd B (cl f #[J s.at',J s.len]::cl aa #[J s.at',J s.len]::H) q ((ss.take i).flatMap dm):=⟨z.tail.tail⟩;refine af (H':=cl f #[J s.at',J s.len]::cl aa #[J s.at',J s.len]::H) ?_;refine HY (ss:=ss.take i) p.symm (by omega) λp1 c1=>?_;apply St.go;have hC:bZ B (ah 2 p1 (ss.take i).length c1 ((ss.take i).flatMap dm)::cl f #[J s.at',J s.len]::cl aa #[J s.at',J s.len]::H) aa #[J s.at',J s.len]:=inferInstance;refine e7 (λσ o=>⟨_,rfl,rfl,λj aj=>?_⟩) ?_
  ·rw[aR,hC.cell o,bI]
  rw[p];exact af (H':=ah 2 p1 i c1 ((ss.take i).flatMap dm)::cl f #[J s.at',J s.len]::H) (C A λd c'=>af (U d c'))
end
end
section
section
variable {α β:Type}{f:α->β}{m:ML α}{k:Int}
def d'(f:α->β)(m:ML α):ML β:=m.map λe=>(e.1,f e.2)
def Bb:a7 (d' f m)=a7 m:=by simp[d',a7,CV]
def rX(h:bQ m):bQ (d' f m):=by unfold bQ;rw[Bb];exact h
def mW:aQ (d' f m) k=(aQ m k).map f:=by
 induction m with
 |nil=>rfl
 |cons e m a=>
  show(if e.1=k then some (f e.2)else aQ (d' f m) k)=(if e.1=k then some e.2 else aQ m k).map f;split
  ·rfl
  ·exact a
def GK{a:α}(h:bQ m):d' f (bC k a m)=bC k (f a) (d' f m):=Bc (rX (fu h)) (fu (rX h)) λj=>by rw[mW,gR h,gR (rX h),mW];split<;>rfl
def GJ(h:bQ m):d' f (bN k m)=bN k (d' f m):=Bc (rX (ml h)) (ml (rX h)) λj=>by rw[mW,mV,mV,mW];split<;>rfl
end
structure Pc where
 at':Int
 len:Int
 bR:Int
abbrev Pc.sp(p:Pc):Sp:=⟨p.at',p.len⟩
abbrev Pc.kv(p:Pc):Int×Int:=(p.at',p.bR)
structure Lk where
 gen:Int
 ps:List Pc
abbrev Lk.ss(k:Lk):List Sp:=k.ps.map (·.sp)
def Lk.ins(k:Lk)(p:Pc):Lk:=⟨k.gen,k.ps.take (dN p.at' k.ss)++p::k.ps.drop (dN p.at' k.ss)⟩
structure Lv where
 all:ML Lk
 bs:Nat
structure pO where
 b:Nat
 rr:Nat
 p:av
 c:Nat
 k:Lk
abbrev A8(e:pO):aw:=#[.slice e.p e.k.ps.length e.c,J e.k.gen,.map (some e.rr)]
abbrev hX(e:pO)(H:au):au:=cl e.b (A8 e)::ah 2 e.p e.k.ps.length e.c (e.k.ss.flatMap dm)::MP J e.rr (e.k.ps.map Pc.kv)::H
def fX(e:pO):bc:=eA (hX e [])
abbrev e4(e:pO):av:=some ⟨e.b,0,none⟩
structure uf where
 r:Nat
 m:ML pO
abbrev mR(b:Nat)(V:Lv)(x:uf)(H:au):au:=
 cl b #[.map (some x.r)]::MP Value.pointer x.r (d' e4 x.m)::cQ fX x.m::H
structure Lk.Ok(k:Lk)(bs:Nat):Prop where
 R:mj k.ss=true
 gen:0<=k.gen/\k.gen<=1048575
 sm:∀p∈k.ps,0<=p.at'/\p.at'<=1048575/\1<=p.len/\p.len<=1048576/\0<=p.bR/\p.bR<=9223372036854775807
 len:k.ps.length<=bs
structure Lv.Ok(V:Lv)(x:uf):Prop where
 bX:bQ x.m
 all:V.all=d' (·.k) x.m
 ok:∀e∈x.m,e.2.k.Ok V.bs/\0<=e.1/\e.1<=1048575
def cF(b:Nat)(V:Lv):bc:=BD V.Ok (mR b V)
def U4{k:Lk}{p:Pc}(h:∀q∈k.ps,q.at'≠p.at')(ha:wx k.ss):(k.ins p).ps.map Pc.kv=bC p.at' p.bR (k.ps.map Pc.kv):=by
 obtain⟨g,ps⟩:=k;unfold Lk.ins Lk.ss at*;simp only at*
 induction ps with
 |nil=>simp[dN,bC]
 |cons q ps a=>
  have d:=h q (by simp);simp only[cX]at ha⊢;have b:=(my.1 ha);unfold bC;by_cases c:q.at'<p.at'
  ·have e:dN p.at' (q.sp::ps.map (·.sp))=dN p.at' (ps.map (·.sp))+1:=by unfold dN;rw[Ji (by simpa using c)];rfl
   rw[e,t',List.drop_succ_cons,qL,cX,a (λz hz=>h z (by simp[hz])) b.2];rw[aj (by simp only;omega),aj (by simp only;omega)]
  ·have e:dN p.at' (q.sp::ps.map (·.sp))=0:=by unfold dN;rw[Jh (by simp;omega)];rfl
   rw[e];rw[ag (by simp only;omega)];rfl
structure Ld where
 chunk:Int
 gen:Int
 bR:Int
 at':Int
 len:Int
abbrev cy(l:Ld):az:=[J l.chunk,J l.gen,J l.bR,J l.at',J l.len]
def xA(l:Ld):(cy l).length=5:=rfl
abbrev A4:Ld:=⟨0,0,0,0,0⟩
def ek(i:Int)(k:Lk):List Ld:=k.ps.map λp=>⟨i,k.gen,p.bR,p.at',p.len⟩
def small(n:Int):Bool:=decide (0<=n/\n<=1048575)
namespace Lv
def new:Lv:=⟨[],0⟩
def qh(V:Lv)(i:Int):List Ld:=match aQ V.all i with|some k=>ek i k|none=>[]
abbrev hU(V:Lv):List Ld:=V.all.flatMap λe=>ek e.1 e.2
def sv(l:Ld):Bool:=small l.chunk&&small l.gen&&small l.at'&&decide (1<=l.len/\l.len<=1048576/\0<=l.bR)
def k5(V:Lv)(i g:Int):Lk:=(aQ V.all i).getD ⟨g,[]⟩
def gh(V:Lv)(l:Ld):Int:=if sv l then(if(V.k5 l.chunk l.gen).gen=l.gen then(if qF (V.k5 l.chunk l.gen).ss ⟨l.at',l.len⟩then 19 else 0)else 4)else 2
def add(V:Lv)(l:Ld):Lv:=if V.gh l=0 then⟨bC l.chunk ((V.k5 l.chunk l.gen).ins ⟨l.at',l.len,l.bR⟩) V.all,V.bs+1⟩else V
def drop(V:Lv)(i:Int):Lv:={V with all:=bN i V.all}
def sR(V:Lv)(h:Int):Option Ld:=
 match aQ V.all (gP h)with
 |some k=>if k.gen=gG h then(match k.ps.find? λp=>p.at'==iE h with|some p=>some ⟨gP h,k.gen,p.bR,p.at',p.len⟩|none=>none)else none
 |none=>none
def bk(V:Lv)(h:Int):Int:=if mO h=true/\hv h=3 then(match V.sR h with|some _=>0|none=>4)else 20
def find(V:Lv)(h:Int):Ld:=if V.bk h=0 then(V.sR h).getD A4 else A4
end Lv
instance ac6:fG P 34 5:=fG.of (e:=0) (by kernel_rfl)
section
variable {B:Heap}{H H0:au}{K:aK}{b:Nat}{V:Lv}{i n h:Int}{e:pO}
def qm{q:HP}(t:∀x,V.Ok x->T B (mR b V x H) q):T B (cF b V::H) q:=mC (λ_ _=>rfl) t
def k9{q:HP}(x:uf)(h:V.Ok x)(t:T B (cF b V::H) q):T B (mR b V x H) q:=mB x h (λ_ _=>rfl) t
def A9{q:HP}(t:T B (hX e H) q):T B (fX e::H) q:=lS t
def xH{q:HP}(t:T B (fX e::H) q):T B (hX e H) q:=jQ (Hs:=hX e []) t
def xW{α:Type}{th:α->bc}{m:ML α}{a:α}{k:Int}{q:HP}(hs:bQ m)(h:aQ m k=some a)(t:T B (th a::cQ th (bN k m)::H) q):T B (cQ th m::H) q:=wL (s9 (f:=th) hs h) t
def Bs{α:Type}{th:α->bc}{m:ML α}{a:α}{k:Int}{q:HP}(hs:bQ m)(h:aQ m k=some a)(t:T B (cQ th m::H) q):T B (th a::cQ th (bN k m)::H) q:=wM (s9 (f:=th) hs h) t
instance acb[h:Ow H (cF b) V H0]:St B H (ad P 42 #[pz b] K) (T B (cF b V::H0) (K (.bool true))):=⟨by
 intro U;refine bf h.pl (qm λx ok=>an (Oc _) ?_);repeat apply St.go
 exact af (k9 x ok U)⟩
instance acd:St B H (ad P 188 #[J n] K) (T B H (K (.bool (small n)))):=⟨by intro U;apply an (Oe _);unfold small at U;refine S2.go (λ_=>?_) λ_=>?_;all_goals (refine dT U ?_;simp;omega)⟩
def VB(U:∀b,T B (cF b Lv.new::H) (K (pz b))):T B H (ad P 35 #[] K):=by
 apply an (N7);repeat refine Sa.go λ_=>?_
 rename_i r b;refine bL (q:=IM r λ_=>none) (iT Value.pointer ?_);have:=k9 ⟨r,[]⟩ ⟨by simp[bQ,a7,ed],rfl,by simp⟩ (U b);refine jQ (Hs:=[]) ?_;exact af (H':=cl b #[.map (some r)]::MP Value.pointer r []::eA []::H) this
def Gj{s:Sp}{rg:ML Int}[hc:bZ B H e.b (A8 e)][hm:Ow H (MP J e.rr) rg H0][a:bZ B H0 e.b (A8 e)](U:T B (MP J e.rr rg::H0) (K (.agg (cy ⟨i,e.k.gen,(aQ rg s.at').getD 0,s.at',s.len⟩).toArray))):T B H (ad P 93 #[pz e.b,J i,.agg #[J s.at',J s.len]] K):=by
 apply an (Od _ _ _);repeat first|apply St.go|refine Sa.go λ_=>?_|refine Sc.go (by first|rfl|exact⟨rfl,rfl⟩) ?_
 exact af U
def Ga{k:Lk}{bs:Nat}(U:k.Ok bs){p:Pc}(b:p∈k.ps):(aQ (k.ps.map Pc.kv) p.at').getD 0=p.bR:=by
 have a:=(sy U.R).1
 have hs:bQ (k.ps.map Pc.kv):=by unfold bQ a7 ed;rw[nz];unfold wx at a;rw[kR]at a⊢;exact a
 rw[(xM hs).2 (bP.2 ⟨p,b,rfl⟩)];rfl
def Gh[h:Ow H (cF b) V H0](C:V.bs<900000)(U:∀p c,T B (ah 5 p (V.qh i).length c ((V.qh i).flatMap cy)::cF b V::H0) (K (.slice p (V.qh i).length c))):T B H (ad P 45 #[pz b,J i] K):=by
 refine bf h.pl (an (Ob _ _) ?_);repeat apply St.go
 refine aL (cF b) (qm λx ok=>?_);unfold Lv.qh at U;rw[ok.all,mW]at U;have d:aQ (d' e4 x.m) i=(aQ x.m i).map e4:=mW
 cases f:aQ x.m i with
 |none=>
  rw[f]at U d;repeat' first|apply St.go|refine S2.go (λ_=>?_) λ_=>?_|done
  ·rename_i a
   exact dL 5 (af (H':=mR b V x (ah 5 none 0 0 []::H0)) (k9 x ok (cp (cA _ _ _) (U none 0))))
  ·rename_i a
   rw[d]at a;cases a
 |some e=>
  rw[f]at U d;repeat' first|apply St.go|refine S2.go (λ_=>?_) λ_=>?_|done
  ·rename_i a
   rw[d]at a;cases a
  ·rename_i a
   have v:=jA f;have n:=(ok.ok _ v).1;simp only at n;have D:=n.len;rw[d];refine aL (cQ fX) (xW ok.bX f (A9 ?_));simp only[iy,fx];refine af (H':=hX e (cQ fX (bN i x.m)::cl b #[.map (some x.r)]::MP Value.pointer x.r (d' e4 x.m)::H0)) (St.go ?_);have w:(ek i e.k).length=e.k.ps.length:=by simp[ek]
   refine dL 5 (nI e.k.ps.length (by omega) (λk p l c H'=>l=k/\H'=ah 5 p k c (((ek i e.k).take k).flatMap cy)::hX e (cQ fX (bN i x.m)::cl b #[.map (some x.r)]::MP Value.pointer x.r (d' e4 x.m)::H0)) ⟨rfl,rfl⟩ ?_);rintro k p l c H' R E ⟨rfl,rfl⟩ y;refine S2.go (λ_=>?_) λ_=>?_
   ·have q:l<e.k.ps.length:=by omega
    have g:e.k.ps[l]?=some e.k.ps[l]:=bj q;generalize e.k.ps[l]=pc at g;have z:=Ga n (cr g);refine eD jF (by omega) l rfl q (by rw[e6,g];rfl) ?_;repeat first|apply St.go|refine Sa.go λ_=>?_|refine Sc.go (by first|rfl|exact⟨rfl,rfl⟩) ?_
    rw[d];simp only[iy,fx];rename_i t;refine af (H':=cl t (dm pc.sp).toArray::MP Value.pointer x.r (d' e4 x.m)::ah 5 p l c (((ek i e.k).take l).flatMap cy)::hX e (cQ fX (bN i x.m)::cl b #[.map (some x.r)]::H0)) ?_;have hC:bZ B (cl t (dm pc.sp).toArray::MP Value.pointer x.r (d' e4 x.m)::ah 5 p l c (((ek i e.k).take l).flatMap cy)::hX e (cQ fX (bN i x.m)::cl b #[.map (some x.r)]::H0)) t (dm pc.sp).toArray:=inferInstance;refine e7 (λσ o=>⟨_,rfl,rfl,λj F=>?_⟩) ?_
    ·rw[aR,hC.cell o,bI]
    unfold bH;apply Gj;rw[show(aQ (e.k.ps.map Pc.kv) pc.sp.at').getD 0=pc.bR from z];apply St.go;apply ba rfl;refine Sa.go λG=>?_;refine jP (ds:=(cy ⟨i,e.k.gen,pc.bR,pc.at',pc.len⟩).toArray) rfl ?_;refine aL (ah 5 p l c) (eZ (s:=5) (c:=c) rfl (by omega) λu c'=>?_)
    have A:((ek i e.k).take (l+1)).flatMap cy=((ek i e.k).take l).flatMap cy++(cy ⟨i,e.k.gen,pc.bR,pc.at',pc.len⟩).toArray.toList:=by rw[ef (by unfold ek;rw[e6,g];rfl)];simp
    rw[<-A];exact af (H':=ah 5 u (l+1) c' (((ek i e.k).take (l+1)).flatMap cy)::hX e (cQ fX (bN i x.m)::cl b #[.map (some x.r)]::MP Value.pointer x.r (d' e4 x.m)::H0)) (y q u _ c' _ ⟨rfl,rfl⟩)
   ·have hl:l=e.k.ps.length:=by omega
    rw[ke (by omega)];have U:=U p c;simp only[iy]at U;rw[w,<-hl]at U;refine af (H':=hX e (cQ fX (bN i x.m)::cl b #[.map (some x.r)]::MP Value.pointer x.r (d' e4 x.m)::ah 5 p l c ((ek i e.k).flatMap cy)::H0)) (xH (Bs ok.bX f ?_));exact af (H':=mR b V x (ah 5 p l c ((ek i e.k).flatMap cy)::H0)) (k9 x ok (cp (cA _ _ _) U))
def Lv.Ok.TT{x:uf}(ok:V.Ok x):(V.drop i).Ok {x with m:=bN i x.m}:=⟨ml ok.bX,by show bN i V.all=_;rw[ok.all,GJ ok.bX],λe he=>ok.ok e (ta.1 he).1⟩
def VA[h:Ow H (cF b) V H0](d:V.bs<900000)(U:T B (cF b (V.drop i)::H0) (K (J (V.qh i).length))):T B H (ad P 114 #[pz b,J i] K):=by
 refine bf h.pl (an (N' _ _) ?_);unfold b2;refine Gh d λp c=>?_;repeat apply St.go
 refine aL (cF b) (qm λx ok=>?_);repeat apply St.go
 have aM:=ok.TT (i:=i)
 have:T B (cQ fX (bN i x.m)::MP Value.pointer x.r (bN i (d' e4 x.m))::cl b #[.map (some x.r)]::H0) (K (J (V.qh i).length)):=by rw[<-GJ ok.bX];exact af (H':=mR b (V.drop i) {x with m:=bN i x.m} H0) (k9 _ aM U)
 refine af (H':=cQ fX x.m::MP Value.pointer x.r (bN i (d' e4 x.m))::cl b #[.map (some x.r)]::H0) ?_
 cases a:aQ x.m i with
 |none=>rw[u3 a]at this;exact this
 |some e=>exact xW ok.bX a (q0 (.drop .refl) this)
def Wx{k:Lk}{s:Sp}(c:mj k.ss=true)(hw:hI s=true)(b:qF k.ss s=false):∀q∈k.ps,q.at'≠s.at':=by
 intro q m he;have n:=(sy c).1;have hm:q.sp∈k.ss:=bP.2 ⟨q,m,rfl⟩;obtain⟨j,d,f⟩:=qN hm;have g:k.ss[j]?=some q.sp:=by rw[bj d,f]
 unfold qF at b;rw[tN]at b
 have o:dN s.at' k.ss<=j:=by refine Nat.le_of_not_lt λh=>?_;have:=H7 h g;simp only at this;omega
 have a:k.ss[dN s.at' k.ss]?=some k.ss[dN s.at' k.ss]:=bj (by omega);have h1:=b.1;rw[a]at h1;simp only at h1;have p:=H5 a
 have heq:k.ss[dN s.at' k.ss].at'<=s.at':=by
  by_cases e:dN s.at' k.ss=j
  ·have:k.ss[dN s.at' k.ss]=q.sp:=by
    have i:k.ss[dN s.at' k.ss]?=some q.sp:=by rw[e];exact g
    rw[a]at i;exact qQ i
   rw[this];simp only;omega
  ·have:=mz.1 n (dN s.at' k.ss) j (by omega) d (by omega)
   rw[f]at this;simp only at this;omega
 have l:=vK c _ (cr a);have r:=j7 l;have w2:=j7 hw;unfold h3 at h1;rw[l,hw,ff,ff,hg]at h1;omega
def Vy{l:Ld}[h:Ow H (cF b) V H0](al:V.bs<800000)(hl:aF l.len/\aF l.at')(S:aF l.bR)(U:T B (cF b (V.add l)::H0) (K (.tuple #[J (if V.gh l=0 then dM 3 l.chunk l.gen l.at' else 0),J (V.gh l)]))):T B H (ad P 112 #[pz b,.agg (cy l).toArray] K):=by
 refine bf h.pl (an (N8 _ _) ?_);refine Sa.go λaa=>?_;unfold Lv.add at U;generalize d:V.gh l=e at U;unfold Lv.gh at d;refine dU (α:={am:Unit//Lv.sv l=true}) (λ_=>cl aa (cy l).toArray::cF b V::H0) (λ_=>[]) (λW body=>?_) λ⟨_,ha⟩=>?_
 ·have v:Lv.sv l=false->T B (cF b V::H0) (K (.tuple #[J 0,J 2])):=λh=>by rw[h]at d;simp only[gb,ep]at d;subst d;exact U
  have o:Lv.sv l=(small l.chunk&&small l.gen&&small l.at'&&decide (1<=l.len/\l.len<=1048576/\0<=l.bR)):=rfl;rw[show cy l=[J l.chunk,J l.gen,J l.bR,J l.at',J l.len]from rfl]at body⊢;repeat' first|apply St.go|refine S2.go (λ_=>?_) λ_=>?_|done
  ·rename_i h1
   exact af (v (by rw[o,h1];rfl))
  ·rename_i h1 i
   exact af (v (by rw[o,i];simp))
  ·rename_i h1 i w
   exact af (v (by rw[o,w];simp))
  ·rename_i h1 i w D
   exact af (v (by rw[o,cP (by omega)];simp))
  ·rename_i h1 i w D I
   exact af (v (by rw[o,cP (by omega)];simp))
  ·rename_i h1 i w D I X
   exact af (v (by rw[o,cP (by omega)];simp))
  ·rename_i h1 i w D I X
   exact af (body ⟨(),by rw[o,h1,i,w,cM (by omega)];rfl⟩)
 rw[ha,ag rfl]at d;have j:=ha;unfold Lv.sv small at j;simp only[cg,bJ]at j;refine aL (cF b) (qm λx ok=>?_);rw[show cy l=[J l.chunk,J l.gen,J l.bR,J l.at',J l.len]from rfl];refine St.go (St.go (St.go (St.go (St.go ?_))));have z:aQ (d' e4 x.m) l.chunk=(aQ x.m l.chunk).map e4:=mW;have u:V.k5 l.chunk l.gen=((aQ x.m l.chunk).map (·.k)).getD ⟨l.gen,[]⟩:=by unfold Lv.k5;rw[ok.all,mW]
 refine dU (α:={e:pO//e.k=V.k5 l.chunk l.gen/\(aQ x.m l.chunk=some e\/(aQ x.m l.chunk=none/\e.k.ps=[]))})
  (λe=>hX e.1 (cQ fX (bN l.chunk x.m)::MP Value.pointer x.r (d' e4 x.m)::cl b #[.map (some x.r)]::cl aa #[J l.chunk,J l.gen,J l.bR,J l.at',J l.len]::H0)) (λe=>[.pointer (e4 e.1)]) (λW body=>?_) λ⟨a,E,L⟩=>?_
 ·cases f:aQ x.m l.chunk with
  |none=>
   rw[f]at z u body;rw[z];repeat first|apply St.go|refine Sa.go λ_=>?_|refine bo (by with_reducible decide) ?_
   ·rename_i A M
    refine bL (q:=IM A λ_=>none) (iT J (dL 2 ?_));have:=body ⟨⟨M,A,none,0,⟨l.gen,[]⟩⟩,u.symm,.inr ⟨rfl,rfl⟩⟩;rw[u3 f]at this;exact af (H':=cl M #[.slice none 0 0,J l.gen,.map (some A)]::ah 2 none 0 0 []::MP J A []::cQ fX x.m::MP Value.pointer x.r (d' e4 x.m)::cl b #[.map (some x.r)]::cl aa #[J l.chunk,J l.gen,J l.bR,J l.at',J l.len]::H0) this
  |some Y=>rw[f]at z u body;rw[z];refine aL (cQ fX) (xW ok.bX f (A9 ?_));simp only[iy,fx]at u⊢;apply aI rfl;have:=body ⟨Y,u.symm,.inl rfl⟩;exact af this
 have N:T B (cF b V::H0) (K (.tuple #[J 0,J e]))->T B (hX a (cQ fX (bN l.chunk x.m)::MP Value.pointer x.r (d' e4 x.m)::cl b #[.map (some x.r)]::cl aa #[J l.chunk,J l.gen,J l.bR,J l.at',J l.len]::H0)) (K (.tuple #[J 0,J e])):=by
  intro t;rcases L with f|⟨f,_⟩
  ·exact xH (Bs ok.bX f (af (H':=mR b V x H0) (k9 x ok t)))
  ·rw[u3 f]
   exact af (H':=mR b V x H0) (k9 x ok t)
 have n:a.k.Ok V.bs:=by
  rcases L with f|⟨f,g⟩
  ·exact(ok.ok _ (jA f)).1
  ·rw[f]at u
   rw[u]at E;rw[E];exact⟨rfl,j.1.1.2,by simp,by simp⟩
 rw[<-E]at d U;repeat' first|apply St.go|refine S2.go (λ_=>?_) λ_=>?_|done
 ·rename_i F
  rw[aj F]at d;subst d;exact N U
 rename_i F;rw[ag F]at d;simp only;have G:hI ⟨l.at',l.len⟩=true:=by unfold hI;simp only[bJ];omega
 have Z:∀s∈a.k.ss,s.ok:=by intro s hs;obtain⟨p,g,rfl⟩:=bP.1 hs;have:=n.sm p g;unfold Sp.ok aF;simp only;omega
 have ao:=n.len;refine aL (ah 2 a.p a.k.ps.length a.c) (Bo λab=>?_);refine af (H':=hX a (cQ fX (bN l.chunk x.m)::MP Value.pointer x.r (d' e4 x.m)::cl b #[.map (some x.r)]::cl aa #[J l.chunk,J l.gen,J l.bR,J l.at',J l.len]::H0)) ?_;unfold sD;refine Zx (ss:=a.k.ss) (s:=⟨l.at',l.len⟩) (by simp) ab (by omega) Z n.R ⟨hl.2,hl.1⟩ G (λy=>?_) λy O c'=>?_
 ·rw[y,ag rfl]at d
  subst d;repeat apply St.go
  exact N U
 ·rw[y,aj (by simp)]at d
  subst d;rw[ag rfl,ag rfl]at U;have ac:=Wx n.R G y;repeat first|apply St.go|refine Sa.go λ_=>?_
  have C:∀{ks:Lk},(ks.ins ⟨l.at',l.len,l.bR⟩).ss=qG ks.ss ⟨l.at',l.len⟩/\(ks.ins ⟨l.at',l.len,l.bR⟩).ps.length=ks.ss.length+1:=by
   intro ks;have h1:(ks.ins ⟨l.at',l.len,l.bR⟩).ss=qG ks.ss ⟨l.at',l.len⟩:=by simp[Lk.ins,qG,Lk.ss,List.map_take,List.map_drop]
   refine⟨h1,?_⟩;have i:(ks.ins ⟨l.at',l.len,l.bR⟩).ps.length=(ks.ins ⟨l.at',l.len,l.bR⟩).ss.length:=by simp
   rw[i,h1];have:=H6 (x:=l.at') (l:=ks.ss);unfold qG;simp only[b',fv,c8,kN];omega
  have Q:=U4 (k:=a.k) (p:=⟨l.at',l.len,l.bR⟩) ac (sy n.R).1
  have ae:fK 3 l.chunk l.gen l.at'=0:=by unfold fK;rw[aj (by omega),aj (by omega),aj (by omega),aj (by omega)]
  rw[ae,ag rfl]
  have ai:(a.k.ins ⟨l.at',l.len,l.bR⟩).Ok (V.bs+1):=by
   refine⟨by rw[C.1];exact Zw n.R G y,n.gen,λp g=>?_,by rw[C.2];simp;omega⟩;unfold Lk.ins at g;simp only[dO,cL]at g;rcases g with g|rfl|g
   ·exact n.sm p (kP g)
   ·exact⟨j.1.2.1,j.1.2.2,j.2.1,j.2.2.1,j.2.2.2,S.2⟩
   ·exact n.sm p (tW g)
  have aM:Lv.Ok ⟨bC l.chunk (a.k.ins ⟨l.at',l.len,l.bR⟩) V.all,V.bs+1⟩ {x with m:=bC l.chunk ⟨a.b,a.rr,O,c',a.k.ins ⟨l.at',l.len,l.bR⟩⟩ x.m}:=by
   refine⟨fu ok.bX,by simp only;rw[ok.all,GK ok.bX],λe he=>?_⟩;rcases(o2 ok.bX).1 he with rfl|⟨he,_⟩
   ·exact⟨ai,j.1.1.1⟩
   ·have:=ok.ok e he
    exact⟨⟨this.1.R,this.1.gen,this.1.sm,Nat.le_succ_of_le this.1.len⟩,this.2⟩
  have:=k9 _ aM U;rw[mR,GK ok.bX]at this;have ak:(a.k.ins ⟨l.at',l.len,l.bR⟩).gen=a.k.gen:=rfl;simp only at Q;rw[<-Q,<-(C).2,<-(C).1,<-ak];refine af (H':=hX ⟨a.b,a.rr,O,c',a.k.ins ⟨l.at',l.len,l.bR⟩⟩ (cQ fX (bN l.chunk x.m)::MP Value.pointer x.r (bC l.chunk (e4 a) (d' e4 x.m))::cl b #[.map (some x.r)]::H0)) (xH (Bt ok.bX ?_));exact af this
end
end
section
def Aq{e:Int}{l:List Sp}(h:hH e l=true):l.Pairwise λa b=>a.at'+a.len<=b.at':=by
 induction l generalizing e with
 |nil=>exact .nil
 |cons s l c=>simp only[hH,cg,bJ]at h;exact my.2 ⟨(sy h.2).2,c h.2⟩
def Um{k:Lk}{n:Int}(b:mj k.ss=true):(cS (pr n) k.ss=-1/\k.ps.find? (λp=>p.at'==n)=none)\/∃(j:Nat) (p:Pc),cS (pr n) k.ss=j/\k.ps[j]?=some p/\k.ps.find? (λp=>p.at'==n)=if p.at'=n then some p else none:=by
 have o:=Aq b;have f:=vK b;have q:=(sy b).1;unfold cS
 cases hf:k.ss.findIdx? (pr n)with
 |none=>refine .inl ⟨rfl,pE.2 λp a=>?_⟩;rw[we]at hf;have h1:=hf p.sp (bP.2 ⟨p,a,rfl⟩);have hw:=j7 (f p.sp (bP.2 ⟨p,a,rfl⟩));unfold pr at h1;simp only[hg]at h1;simp only[hQ];simp only at hw;omega
 |some j=>
  obtain⟨c,d,r⟩:=zb.1 hf;have g:j<k.ps.length:=by simpa using c
  refine .inr ⟨j,k.ps[j],rfl,bj g,?_⟩;have l:k.ss[j]=k.ps[j].sp:=by simp
  rw[l]at d;unfold pr at d;simp only[bJ]at d;split
  ·rename_i he
   rw[List.find?_eq_some_iff_getElem];refine⟨by simpa using he,j,g,rfl,λi hi=>?_⟩;have:=mz.1 q i j (by simp;omega) c hi;simp only[zg]at this;simp only[ns,ub,ne_eq];omega
  ·rename_i he
   refine pE.2 λp a=>?_;simp only[hQ];intro s;obtain⟨i,hi,rfl⟩:=qN a;have e:k.ss[i]'(by simpa using hi)=k.ps[i].sp:=by simp
   have m:=j7 (f _ (eK (by simpa using hi)));rw[e]at m;simp only at m;rcases Nat.lt_trichotomy i j with h|h|h
   ·have:=r i h
    rw[e]at this;unfold pr at this;simp only[bJ]at this;omega
   ·subst h;exact he s
   ·have:=mz.1 o j i c (by simpa using hi) h
    rw[e,l]at this;simp only at this;omega
section
variable {B:Heap}{H H0:au}{K:aK}{b:Nat}{V:Lv}{i n h:Int}{e:pO}
instance aca[C:Ow H (cF b) V H0]:Sc B H (ad P 117 #[pz b,J h] K) (aF h/\V.bs<900000) (T B (cF b V::H0) (K (.tuple #[.agg (cy (V.find h)).toArray,J (V.bk h)]))):=⟨by
 rintro⟨hi,N⟩ U;refine bf C.pl (an (Oa _ _) ?_);refine Sa.go λaa=>St.go (St.go ?_);refine aI rfl (Sc.go hi ?_);unfold Lv.find at U;generalize a:V.bk h=e at U;unfold Lv.bk at a;unfold qe;have d:e≠0->T B (cF b V::H0) (K (.tuple #[.agg #[J 0,J 0,J 0,J 0,J 0],J e])):=λhe=>by rw[aj he]at U;exact U
 split
 ·rename_i i
  have O:0<=iE h/\iE h<1048576:=by unfold iE;omega
  apply St.go;refine dU (α:={D:Unit//hv h=3}) (λ_=>cF b V::cl aa #[J 0,J 0,J 0,J 0,J 0]::H0) (λ_=>[]) (λE body=>?_) λ⟨_,F⟩=>?_
  ·refine aI rfl (S2.go (λl=>?_) λl=>?_)
   ·rw[aj λh=>l h.2]at a
    subst a;repeat refine Sc.go (by first|rfl|exact⟨rfl,rfl⟩) ?_
    exact af (d (by decide))
   ·exact af (body ⟨(),l⟩)
  rw[ag ⟨i,F⟩]at a;unfold Lv.sR at a U;refine aL (cF b) (qm λx ok=>?_);rw[ok.all,mW]at a U;have G:aQ (d' e4 x.m) (gP h)=(aQ x.m (gP h)).map e4:=mW;refine St.go (St.go (St.go (St.go ?_)));rw[G]
  cases g:aQ x.m (gP h)with
  |none=>
   rw[g]at a U;simp only[zq,Option.getD_none]at a U⊢;subst a;repeat first|apply St.go|refine Sc.go (by first|rfl|exact⟨rfl,rfl⟩) ?_
   exact af (k9 x ok (d (by decide)))
  |some c=>
   rw[g]at a U;simp only[iy,fx]at a U⊢;have f:=(ok.ok _ (jA g)).1;simp only at f;have Q:=f.len;refine aL (cQ fX) (xW ok.bX g (A9 ?_))
   have z:∀{q:HP},T B (cF b V::H0) q->T B (hX c (cQ fX (bN (gP h) x.m)::MP Value.pointer x.r (d' e4 x.m)::cl b #[.map (some x.r)]::H0)) q:=λt=>xH (Bs ok.bX g (af (H':=mR b V x H0) (k9 x ok t)))
   have n:∀{q:HP},T B (cF b V::H0) q->T B (hX c (cQ fX (bN (gP h) x.m)::MP Value.pointer x.r (d' e4 x.m)::cl b #[.map (some x.r)]::cl aa #[J 0,J 0,J 0,J 0,J 0]::H0)) q:=λt=>af (H':=hX c (cQ fX (bN (gP h) x.m)::MP Value.pointer x.r (d' e4 x.m)::cl b #[.map (some x.r)]::H0)) (z t)
   refine af (H':=hX c (cQ fX (bN (gP h) x.m)::MP Value.pointer x.r (d' e4 x.m)::cl b #[.map (some x.r)]::cl aa #[J 0,J 0,J 0,J 0,J 0]::H0)) (dU (α:={D:Unit//c.k.gen=gG h}) (λ_=>hX c (cQ fX (bN (gP h) x.m)::MP Value.pointer x.r (d' e4 x.m)::cl b #[.map (some x.r)]::cl aa #[J 0,J 0,J 0,J 0,J 0]::H0)) (λ_=>[]) (λE body=>?_) λ⟨_,I⟩=>?_)
   ·repeat' first|apply St.go|refine S2.go (λ_=>?_) λ_=>?_|refine Sc.go (by first|rfl|exact⟨rfl,rfl⟩) ?_|done
    ·rename_i o
     rw[aj o]at a;simp only at a;subst a;exact af (n (d (by decide)))
    ·rename_i o
     exact af (body ⟨(),o⟩)
   rw[ag I]at a U
   have L:∀s∈c.k.ss,s.ok:=by intro s hs;obtain⟨p,M,rfl⟩:=bP.1 hs;have:=f.sm p M;unfold Sp.ok aF;simp only;omega
   refine St.go (St.go ?_);unfold aV;apply Zy (by simp) (by omega) L f.R (by unfold aF;omega);apply St.go;rcases Um f.R with⟨u,v⟩|⟨j,p,u,w,v⟩
   ·rw[v]at a
    simp only at a;subst a;rw[u];refine St.go (bo (by decide) ?_);repeat refine Sc.go (by first|rfl|exact⟨rfl,rfl⟩) ?_
    exact af (n (d (by decide)))
   ·rw[v]at a U
    rw[u];have S:=(bY.1 w).1;have A:c.k.ss[j]?=some p.sp:=by rw[e6,w];rfl
    refine St.go (aI (by simp) (St.go (mF j rfl (by omega) (ht jF c.k.ss j p.sp A 0 (by omega)) (S2.go (λy=>?_) λy=>?_))))
    ·rw[aj y]at a
     simp only at a;subst a;repeat refine Sc.go (by first|rfl|exact⟨rfl,rfl⟩) ?_
     exact af (n (d (by decide)))
    ·rw[ag y]at a U
     simp only at a U;subst a;rw[ag rfl]at U;refine St.go (St.go ?_);apply eD jF (by omega) j rfl (by omega) A;unfold bH;apply Gj;rw[show(aQ (c.k.ps.map Pc.kv) p.sp.at').getD 0=p.bR from Ga f (cr w)];repeat first|apply St.go|refine Sc.go (by first|rfl|exact⟨rfl,rfl⟩) ?_
     exact af (H':=hX c (cQ fX (bN (gP h) x.m)::MP Value.pointer x.r (d' e4 x.m)::cl b #[.map (some x.r)]::H0)) (z U)
 ·rename_i i
  rw[aj λh=>i h.1]at a;subst a;repeat first|apply St.go|refine Sc.go (by first|rfl|exact⟨rfl,rfl⟩) ?_
  exact af (d (by decide))⟩
def Vz(D:V.bs<900)(E:V.all.length<900)(U:∀p c,T B (ah 5 p V.hU.length c (V.hU.flatMap cy)::cF b V::H0) (K (.slice p V.hU.length c))):T B (cF b V::H0) (ad P 20 #[pz b] K):=by
 apply an (N9 _);repeat apply St.go
 refine aL (cF b) (qm λx ok=>?_);apply St.go;have i:(d' e4 x.m).length=V.all.length:=by rw[ok.all];simp[d']
 refine Sx.go (by rw[i];omega) λy=>?_;rw[i];have o:a7 (d' e4 x.m)=a7 V.all:=by rw[Bb,ok.all,Bb]
 rw[o];apply St.go;have q:bQ V.all:=by rw[ok.all];exact rX ok.bX
 have j:∀e∈V.all,(ek e.1 e.2).length<=V.bs:=by intro e he;rw[ok.all]at he;obtain⟨r,s,rfl⟩:=bP.1 he;have:=(ok.ok r s).1.len;simpa[ek]using this
 refine af (H':=mR b V x (ah 1 y.1 V.all.length y.2 (iv .i64 (a7 V.all))::H0)) (k9 x ok ?_);refine dL 5 (af (H':=ah 5 none 0 0 []::ah 1 y.1 V.all.length y.2 (iv .i64 (a7 V.all))::cF b V::H0) ?_)
 have hle:∀k,((V.all.take k).flatMap λe=>ek e.1 e.2).length<=k*900:=λk=>by
  have:∀(l:ML Lk),(∀e∈l,(ek e.1 e.2).length<=V.bs)->(l.flatMap λe=>ek e.1 e.2).length<=l.length*900:=by
   intro l hl
   induction l with
   |nil=>simp
   |cons e l t=>have:=t λg h=>hl g (by simp[h]);have:=hl e (by simp);simp only[gw,b',c8];omega
  have h1:=this (V.all.take k) λg h=>j g (kP h);have u:(V.all.take k).length<=k:=by rw[fv];omega
  have:=jk 900 u;omega
 refine nI V.all.length (by omega) (λk p l c H'=>l=((V.all.take k).flatMap λe=>ek e.1 e.2).length/\H'=ah 5 p ((V.all.take k).flatMap λe=>ek e.1 e.2).length c (((V.all.take k).flatMap λe=>ek e.1 e.2).flatMap cy)::ah 1 y.1 V.all.length y.2 (iv .i64 (a7 V.all))::cF b V::H0) ⟨rfl,rfl⟩ ?_;rintro k p l c H' R F ⟨rfl,rfl⟩ w;refine S2.go (λ_=>?_) λ_=>?_
 ·have f:k<V.all.length:=by omega
  have a:V.all[k]?=some V.all[k]:=bj f;generalize V.all[k]=e at a;have n:=cr a
  have z:V.qh e.1=ek e.1 e.2:=by unfold Lv.qh;rw[(xM q).2 n]
  refine fA k rfl f (by unfold a7;rw[e6,a];rfl) ?_;unfold b2;refine Gh (by omega) λp2 c2=>?_;rw[z];apply St.go;have G:=j e n;have H:=hle k
  have I:kj ((ek e.1 e.2).flatMap cy).toArray:=⟨by intro v d;obtain⟨m,hm,d⟩:=lL.1 d;simp only[cy,cL,jJ,jm]at d;rcases d with rfl|rfl|rfl|rfl|rfl<;>rfl⟩
  refine af (H':=ah 5 p ((V.all.take k).flatMap λe=>ek e.1 e.2).length c (((V.all.take k).flatMap λe=>ek e.1 e.2).flatMap cy)::ah 5 p2 (ek e.1 e.2).length c2 ((ek e.1 e.2).flatMap cy)::ah 1 y.1 V.all.length y.2 (iv .i64 (a7 V.all))::cF b V::H0) (oB (by omega) (dj xA _) λA c'=>?_);have C:(V.all.take (k+1)).flatMap (λe=>ek e.1 e.2)=(V.all.take k).flatMap (λe=>ek e.1 e.2)++ek e.1 e.2:=by rw[ef a];simp
  have:=w f A _ c' _ ⟨rfl,rfl⟩;rw[C,b',oo]at this;exact af this
 ·have hl:k=V.all.length:=by omega
  subst hl;rw[ix];exact af (U p c)
def Ul{x:uf}(ok:V.Ok x):0<=(V.find h).at'/\(V.find h).at'<=1048575/\0<=(V.find h).len/\(V.find h).len<=1048576/\0<=(V.find h).chunk/\(V.find h).chunk<=1048575/\0<=(V.find h).gen/\(V.find h).gen<=1048575/\0<=(V.find h).bR/\(V.find h).bR<=9223372036854775807:=by
 unfold Lv.find;split
 ·unfold Lv.sR
  rw[ok.all,mW]
  cases a:aQ x.m (gP h)with
  |none=>simp
  |some e=>
   have U:=(ok.ok _ (jA a));simp only[iy]at U⊢;split
   ·cases hf:e.k.ps.find? (λp=>p.at'==iE h)with
    |none=>simp
    |some p=>have:=U.1.sm p (List.mem_of_find?_eq_some hf);have:=U.1.gen;simp only[fx];omega
   ·simp
 ·simp
end
end
section
def kB(V:Lv)(h o n:Int):Int:=
 if V.bk h=0 then(if 4096<n then 5 else if o<0\/n<0\/(V.find h).len<o\/(V.find h).len-o<n then 15 else 0)else V.bk h
def u6(S:aE)(V:Lv)(h o:Int)(t:List UInt8):Int:=if kB V h o t.length=0 then S.fO (V.find h).chunk (V.find h).gen ((V.find h).at'+o) t else kB V h o t.length
def l'(S:aE)(V:Lv)(h o:Int)(t:List UInt8):aE:=if kB V h o t.length=0 then S.put (V.find h).chunk (V.find h).gen ((V.find h).at'+o) t else S
def u5(S:aE)(V:Lv)(h o n:Int):Int:=if kB V h o n=0 then S.s5 (V.find h).chunk (V.find h).gen ((V.find h).at'+o) n else kB V h o n
def rE(S:aE)(V:Lv)(h o n:Int):List UInt8:=if kB V h o n=0 then S.loadT (V.find h).chunk (V.find h).gen ((V.find h).at'+o) n else[]
section
variable {B:Heap}{H H0 Ha:au}{K:aK}{sb pb:Nat}{V:Lv}{S:aE}{h o n:Int}{t:List UInt8}
def xG{q:HP}(k:(∀h,0<=(V.find h).at'/\(V.find h).at'<=1048575/\0<=(V.find h).len/\(V.find h).len<=1048576/\0<=(V.find h).chunk/\(V.find h).chunk<=1048575/\0<=(V.find h).gen/\(V.find h).gen<=1048575/\0<=(V.find h).bR/\(V.find h).bR<=9223372036854775807)->T B (cF pb V::H) q):T B (cF pb V::H) q:=qm λx ok=>k9 x ok (k λh=>Ul ok)
def ZC{q:HP}(k:64<=S.size->T B (cf sb S::H) q):T B (cf sb S::H) q:=pv λx ok=>h4 x ok (k ok.inv.s1)
def GD(i:aF o)(l:aF n)(j:aF h)(k:V.bs<900000)(U:T B (cf sb S::cF pb V::H) (K (.tuple #[.agg (cy (if kB V h o n=0 then V.find h else A4)).toArray,J (kB V h o n)]))):T B (cf sb S::cF pb V::H) (ad P 198 #[pz sb,pz pb,J h,J o,J n] K):=by
 refine an (OT _ _ _ _ _) (ZC λhs=>cp (cA _ _ _) (xG λf=>cp (cA _ _ _) ?_));have f:=f h;unfold aF at i;generalize a:kB V h o n=e at U;unfold kB at a;refine Sa.go λaa=>St.go (St.go ?_);apply aI (by simp;omega);refine Sc.go ⟨j,k⟩ ?_;repeat' first|apply St.go|refine Sa.go λ_=>?_|refine S2.go (λ_=>?_) λ_=>?_|refine Sc.go (by first|rfl|exact⟨rfl,rfl⟩) ?_|done
 ·rename_i h0
  rw[aj h0]at a;subst a;rw[aj h0]at U;exact af U
 ·rename_i h0 h1
  rw[ag h0,ag (by omega)]at a;subst a;exact af U
 ·rename_i h0 h1 b
  rw[ag h0,aj (by omega),ag (by omega)]at a;subst a;exact af U
 ·rename_i h0 h1 b c
  rw[ag h0,aj (by omega),ag (by omega)]at a;subst a;exact af U
 ·rename_i h0 h1 b c g
  rw[ag h0,aj (by omega),ag (by omega)]at a;subst a;exact af U
 ·rename_i h0 h1 b c g d
  rw[br (by omega)]at d;rw[ag h0,aj (by omega),ag (by omega)]at a;subst a;exact af U
 ·rename_i h0 h1 b c g d
  rw[br (by omega)]at d;rw[ag h0,aj (by omega),aj (by omega)]at a;subst a;exact af U
def GF(h0:kB V h o n=0):V.bk h=0/\0<=o/\0<=n/\o<=(V.find h).len/\n<=(V.find h).len-o/\n<=4096:=by
 unfold kB at h0;split at h0
 ·split at h0
  ·cases h0
  ·split at h0
   ·cases h0
   ·exact⟨by assumption,by omega⟩
 ·rename_i a;exact absurd h0 a
def We(b:aF o)(c:aF h)(d:V.bs<900000)(f:t.length<1000000)(U:T B (cf sb (l' S V h o t)::cF pb V::H) (K (J (u6 S V h o t)))):T B (cf sb S::cF pb V::H) (ad P 118 #[pz sb,pz pb,J h,J o,.string ⟨t.toArray⟩] K):=by
 refine an (OS _ _ _ _ _) (cp (cA _ _ _) (xG λa=>cp (cA _ _ _) ?_));have a:=a h;have e:((ByteArray.mk t.toArray).size:Int)=(t.length:Int):=by simp[ByteArray.size]
 rw[e];unfold fC;apply GD b (by unfold aF;omega) c d;unfold l' u6 at U;repeat' first|apply St.go|refine Sa.go λ_=>?_|refine S2.go (λ_=>?_) λ_=>?_|refine Sc.go ⟨rfl,rfl⟩ ?_|done
 ·rename_i h0
  rw[aj h0,aj h0]at U;exact af U
 ·rename_i h0
  rw[ag h0,ag h0]at U;have hm:=GF h0;rw[ag h0];rw[br (by omega)];exact af U
def Wc(b:aF o)(c:aF n)(d:aF h)(e:V.bs<900000)(U:T B (cf sb S::cF pb V::H) (K (.tuple #[.string ⟨(rE S V h o n).toArray⟩,J (u5 S V h o n)]))):T B (cf sb S::cF pb V::H) (ad P 119 #[pz sb,pz pb,J h,J o,J n] K):=by
 refine an (OR _ _ _ _ _) (cp (cA _ _ _) (xG λa=>cp (cA _ _ _) ?_));have a:=a h;unfold fC;apply GD b c d e;unfold rE u5 at U;repeat' first|apply St.go|refine Sa.go λ_=>?_|refine S2.go (λ_=>?_) λ_=>?_|refine Sc.go ⟨rfl,rfl⟩ ?_|done
 ·rename_i h0
  rw[aj h0,aj h0]at U;exact af U
 ·rename_i h0
  rw[ag h0,ag h0]at U;have hm:=GF h0;rw[ag h0];rw[br (by omega)];exact af U
end
end
section
structure Setup where
 c:Int
 z:Int
 q:Int
 l:Int
structure bx where
 s:Setup
 X:aJ
 W:a6
 V:Lv
structure zx where
 dc:Nat
 tb:Nat
 pb:Nat
abbrev jz(s:Setup)(x:zx):aw:=#[J s.c,J s.z,J s.q,J s.l,pz x.dc,pz x.tb,pz x.pb]
abbrev lf(b:Nat)(M:bx)(x:zx)(H:au):au:=cl b (jz M.s x)::bS x.dc M.X::cD x.tb M.W::cF x.pb M.V::H
def bw(b:Nat)(M:bx):bc:=BX True (lf b M)
structure Op where
 kind:Int
 a:Int
 b:Int
 c:Int
 text:List UInt8
abbrev b3(o:Op):aw:=#[J o.kind,J o.a,J o.b,J o.c,.string ⟨o.text.toArray⟩]
abbrev rep(e n:Int):Value:= .agg #[J e,J n,.slice none 0 0,.string ⟨#[]⟩]
structure bx.Fit(M:bx):Prop where
 bl:4*M.X.S.bl<800000
 next:M.X.R.line.next<4000000000
 IE:M.W.bs<500
 nq:M.V.bs<500
 r0:M.V.all.length<500
 under:∀p,(M.W.under p).length<400000
 cur:∀k,aF (M.W.rg k).cur
 fU:M.X.Q.fU<256
 fresh:∀e∈M.X.Q.L,e.1≠M.X.T.next
 U1:∀i,M.X.T.cI (c6 · 3) check i=0->∃e∈M.X.Q.L,e.1=i
 tick:M.X.zJ
structure Op.Fit(o:Op):Prop where
 a:aF o.a
 b:aF o.b
 c:aF o.c
 t:o.text.length<1000000
section
variable {B:Heap}{H H0:au}{K:aK}{b:Nat}{M:bx}{o:Op}{n e c r:Int}
def gO{q:HP}(t:∀x,T B (lf b M x H) q):T B (bw b M::H) q:=pM (λ_ _=>rfl) λx _=>t x
def ew{q:HP}(x:zx)(t:T B (bw b M::H) q):T B (lf b M x H) q:=pL x trivial (λ_ _=>rfl) t
instance acg:St B H (ad P 28 #[J e] K) (T B H (K (rep e 0))):=⟨by
 intro U;apply an (OE _);repeat first|refine Sa.go λ_=>?_|refine Sc.go (by first|rfl|exact⟨rfl,rfl⟩) ?_
 exact af U⟩
instance aci:St B H (ad P 97 #[J n,J e] K) (T B H (K (rep e (if e=0 then n else 0)))):=⟨by
 intro U;apply an (OF _ _);repeat' first|apply St.go|refine Sa.go λ_=>?_|refine S2.go (λ_=>?_) λ_=>?_|refine Sc.go (by first|rfl|exact⟨rfl,rfl⟩) ?_|done
 ·rename_i h
  rw[aj h]at U;exact af U
 ·rename_i h
  rw[ag h,h]at U;exact af U⟩
def xq{k p g o:Int}(h:fK k p g o=0):aF (dM k p g o):=by
 unfold fK at h;unfold dM aF;split at h
 ·cases h
 ·split at h
  ·cases h
  ·split at h
   ·cases h
   ·split at h
    ·cases h
    ·omega
def AJ(L:bE)(p:Int):aF (L.handle p):=by
 unfold bE.handle;split
 ·decide
 ·split
  ·exact xq (by assumption)
  ·decide
def zU{dc:Nat}{X:aJ}{q:HP}(t:(∀c,X.L.bk c=0->0<=X.L.place c/\X.L.place c<64)->T B (bS dc X::H) q):T B (bS dc X::H) q:=by
 refine e8 λx ok=>aL (bq x.lb) (uS λa b=>?_);refine af (dw x ok (t λc hc=>?_));have d:X.L.place c=gP c:=by unfold bE.place;rw[ag hc]
 unfold bE.bk at hc;split at hc
 ·unfold bG.e1 at hc
  split at hc
  ·rename_i hr
   unfold aT.right at hr;simp only[cg]at hr;have:=b.lt hr.1;rw[a.n]at this;rw[d];omega
  ·cases hc
 ·cases hc
instance ach[h:Ow H (bw b) M H0]:Sc B H (ad P 99 #[pz b,J c] K) (aF c) (T B (bw b M::H0) (K (J (M.X.e2 c)))):=⟨by
 intro hc U;refine bf h.pl (gO λx=>an (Oo _ _) ?_);unfold aJ.e2 at U;repeat' first|apply St.go|refine S2.go (λ_=>?_) λ_=>?_|refine Sc.go (by omega) ?_|done
 ·rename_i h1 a
  rw[ag h1,ag a.2]at U;exact af (ew x U)
 ·rename_i h1 a
  rw[ag h1,aj λh=>a ⟨h1,h⟩]at U;rw[h1];exact af (ew x U)
 ·rename_i h1
  rw[aj h1]at U;exact af (ew x U)⟩
end
end
section
structure eL where
 M:bx
 e:Int
 n:Int->Int
 list:aN
 text:List UInt8
abbrev eL.of(M:bx)(e:Int)(n:Int):eL:=⟨M,e,λ_=>if e=0 then n else 0,[],[]⟩
abbrev eL.bad(M:bx)(e:Int):eL:=⟨M,e,λ_=>0,[],[]⟩
namespace bx
def hY(M:bx)(r:Int):Int:=if M.W.bk r=0 then M.X.e2 (M.X.L.handle (M.W.rg (gP r)).aO)else M.W.bk r
def df(M:bx)(r:Int):Int:=if M.W.bk r=0 then M.X.L.handle (M.W.rg (gP r)).aO else 0
def register(M:bx)(o:Op):eL:= .of {M with X:=M.X.bR o.a} (M.X.L.rP o.a) (M.X.L.tt o.a)
def tu(M:bx)(o:Op):eL:=if M.X.e2 o.a=0 then(if 0<M.W.roots (M.X.L.place o.a)then .bad M 11 else .bad {M with X:=M.X.ret o.a} (M.X.rR o.a))else .bad M (M.X.e2 o.a)
def ask(M:bx)(o:Op):eL:= .of {M with X:=M.X.ask o.a o.b} (M.X.q6 o.a o.b) (M.X.sA o.a o.b)
def cancel(M:bx)(o:Op):eL:= .bad {M with X:=M.X.can o.a o.b} (M.X.w1 o.a o.b)
def root(M:bx)(o:Op):eL:=if M.X.e2 o.a=0 then .of {M with W:=M.W.root (M.X.L.place o.a)} (M.W.qz (M.X.L.place o.a)) M.W.kz else .bad M (M.X.e2 o.a)
def child(M:bx)(o:Op):eL:=if M.hY o.a=0 then .of {M with W:=M.W.child o.a} (M.W.p6 o.a) M.W.kz else .bad M (M.hY o.a)
def eG(M:bx)(o:Op):eL:= .bad {M with X:=M.X.xo o.a o.b} (M.X.xp o.a o.b)
def trim(M:bx)(o:Op):eL:=⟨M,M.X.L.bk o.a,λw=>if M.X.L.bk o.a=0 then w else 0,[],[]⟩
def tick(M:bx):eL:=⟨{M with X:=M.X.tick},0,λ_=>M.X.R.many,M.X.bn.cn.gs.map (·.id),[]⟩
end bx
abbrev rQ(R:eL)(w:Int)(p:av)(c:Nat):Value:= .agg #[J R.e,J (R.n w),.slice p R.list.length c,.string ⟨R.text.toArray⟩]
section
variable {B:Heap}{H H0:au}{K:aK}{b:Nat}{M:bx}{o:Op}{n e c r:Int}
abbrev h'(B:Heap)(b:Nat)(R:eL)(H:au)(K:aK):Prop:=∀w p c,0<=w/\w<=9223372036854775807->T B (ah 1 p R.list.length c (iv .i64 R.list)::bw b R.M::H) (K (rQ R w p c))
def fV{M':bx}{e n:Int}{R:eL}(a:R=⟨M',e,λ_=>n,[],[]⟩)(U:h' B b R H K):T B (bw b M'::H) (K (rep e n)):=by subst a;exact dL 1 (U 0 none 0 ⟨by omega,by omega⟩)
def VV(c:o.Fit)(U:h' B b (M.register o) H K):T B (bw b M::H) (ad P 56 #[pz b,.agg (b3 o)] K):=by
 apply an (Ov _ _);have U:=fV rfl U;have ha:=c.a;refine gO λx=>?_;repeat first|apply St.go|refine Sa.go λ_=>?_|refine Sc.go (by first|omega|rfl|exact⟨rfl,rfl⟩) ?_
 exact af (ew x U)
def VW(d:o.Fit)(U:h' B b (M.tu o) H K):T B (bw b M::H) (ad P 57 #[pz b,.agg (b3 o)] K):=by
 apply an (Ox _ _);have ha:=d.a;unfold bx.tu at U;refine Sa.go λaa=>Sa.go λak=>?_;repeat' first|apply St.go|refine S2.go (λ_=>?_) λ_=>?_|refine Sc.go (by first|omega|rfl|exact⟨rfl,rfl⟩) ?_|done
 ·rename_i h
  rw[aj h]at U;exact af (fV rfl U)
 ·rename_i h
  rw[ag h]at U;refine aL (bw b) (gO λx=>?_);refine St.go (aL (bS x.dc) (e8 λy ok=>?_));repeat' first|apply St.go|refine S2.go (λ_=>?_) λ_=>?_|refine Sc.go (by first|omega|rfl|exact⟨rfl,rfl⟩) ?_|done
  ·rename_i c
   exfalso;unfold aJ.e2 at h;rw[aj c]at h;exact c h
  ·rename_i c
   refine af (H':=eh x.dc M.X y (cl aa (b3 o)::cl ak #[J 0,J 0,.slice none 0 0,.string ⟨#[]⟩]::cl b (jz M.s x)::cD x.tb M.W::cF x.pb M.V::H)) (dw y ok ?_);refine aL (cD x.tb) ?_;unfold b2;refine X2 λq c'=>?_;repeat' first|apply St.go|refine S2.go (λ_=>?_) λ_=>?_|refine Sc.go (by first|omega|rfl|exact⟨rfl,rfl⟩) ?_|done
   ·rename_i e
    rw[ag (by omega)]at U;exact af (ew x (fV rfl U))
   ·rename_i e
    rw[aj (by omega)]at U;exact af (ew x (fV rfl U))
def VO(c:M.Fit)(d:o.Fit)(U:h' B b (M.ask o) H K):T B (bw b M::H) (ad P 58 #[pz b,.agg (b3 o)] K):=by
 apply an (Oi _ _);have U:=fV rfl U;have ha:=d.a;have e:=d.b;refine gO λx=>?_;repeat first|apply St.go|refine Sa.go λ_=>?_
 refine aL (bS x.dc) (zU λf=>?_);unfold c4;apply Le ha e (f o.a) (λ_=>⟨c.fU,c.fresh⟩);repeat first|apply St.go|refine Sc.go (by first|rfl|exact⟨rfl,rfl⟩) ?_
 exact af (ew x U)
def VP(d:M.Fit)(c:o.Fit)(U:h' B b (M.cancel o) H K):T B (bw b M::H) (ad P 59 #[pz b,.agg (b3 o)] K):=by
 apply an (Oj _ _);have U:=fV rfl U;have ha:=c.a;have e:=c.b;refine gO λx=>?_;repeat first|apply St.go|refine Sa.go λ_=>?_
 unfold aV;apply Lf ha e (d.U1 o.b);repeat first|apply St.go|refine Sc.go (by first|rfl|exact⟨rfl,rfl⟩) ?_
 exact af (ew x U)
def VS(c:M.Fit)(d:o.Fit)(U:h' B b (M.eG o) H K):T B (bw b M::H) (ad P 64 #[pz b,.agg (b3 o)] K):=by
 apply an (On _ _);have U:=fV rfl U;have ha:=d.a;have e:=d.b;have g:=c.bl;refine gO λx=>?_;repeat first|apply St.go|refine Sa.go λ_=>?_
 refine aL (bS x.dc) (zU λf=>?_);unfold aV;apply Lg ha e (f o.a) (by omega) c.next
 repeat first|apply St.go|refine Sc.go (by first|rfl|exact⟨rfl,rfl⟩) ?_
 exact af (ew x U)
def V0(c:o.Fit)(U:h' B b (M.trim o) H K):T B (bw b M::H) (ad P 69 #[pz b,.agg (b3 o)] K):=by
 apply an (OB _ _);have ha:=c.a;refine gO λx=>Sa.go λaa=>Sa.go λak=>St.go (St.go ?_);refine Sc.go ha λw hw=>?_;have e:(if M.X.L.bk o.a=0 then(if M.X.L.bk o.a=0 then w else 0)else 0)=(if M.X.L.bk o.a=0 then w else 0):=by split<;>rfl
 have:T B (ah 1 none 0 0 []::bw b M::H) (K (rep (M.X.L.bk o.a) (if M.X.L.bk o.a=0 then w else 0))):=U w none 0 hw;repeat first|apply St.go|refine Sc.go (by first|rfl|exact⟨rfl,rfl⟩) ?_
 rw[e];exact af (ew x (dL 1 this))
def VZ(a:M.Fit)(U:h' B b M.tick H K):T B (bw b M::H) (ad P 67 #[pz b,.agg (b3 o)] K):=by
 refine an (OA _ _) (gO λx=>?_);repeat first|apply St.go|refine Sa.go λ_=>?_
 refine aL (bS x.dc) ?_;unfold EI;refine Lm a.tick λq c'=>?_;repeat first|apply St.go|refine Sc.go (by first|rfl|exact⟨rfl,rfl⟩) ?_
 have:=U 0 q c' ⟨by omega,by omega⟩;unfold bx.tick at this;simp only[rQ,eX]at this;refine af (H':=lf b {M with X:=M.X.tick} x (ah 1 q M.X.bn.cn.gs.length c' (iv .i64 (M.X.bn.cn.gs.map (·.id)))::H)) (ew x ?_);exact af this
end
end
section
namespace bx
def read(M:bx)(o:Op):eL:=⟨M,u5 M.X.S M.V o.a o.b o.c,λ_=>0,[],rE M.X.S M.V o.a o.b o.c⟩
def write(M:bx)(o:Op):eL:=
 if M.V.bk o.a=0 then
  (if M.hY (M.V.find o.a).bR=0 then .bad {M with X:={M.X with S:=l' M.X.S M.V o.a o.b o.text}} (u6 M.X.S M.V o.a o.b o.text)
   else .bad M (M.hY (M.V.find o.a).bR))
 else .bad M (M.V.bk o.a)
def vL(M:bx)(o:Op):eL:=
 if M.X.L.bk o.a=0 then
  (if M.X.T.e1 o.b=0/\(M.X.T.get o.b).aO=M.X.L.place o.a then⟨M,0,λ_=>0,[(M.X.T.get o.b).state,(M.X.T.get o.b).count,(M.X.T.get o.b).b4],[]⟩else .bad M 12)
 else .bad M (M.X.L.bk o.a)
def free(M:bx)(o:Op):eL:=
 if M.hY o.a=0 then
  .of {M with W:=M.W.free o.a,V:=(M.W.under (gP o.a)).foldl Lv.drop M.V,X:=M.X.lv (M.df o.a) (M.W.under (gP o.a))} (M.X.u0 (M.df o.a) (M.W.under (gP o.a))) (M.W.under (gP o.a)).length
 else .bad M (M.hY o.a)
def laid(M:bx)(o:Op):eL:=
 if M.W.e3 o.a o.b o.c M.s.z=0 then
  .of {M with W:=M.W.lay o.a o.b o.c M.s.z,V:=M.V.add ⟨M.W.gM o.a o.b o.c M.s.z,(M.X.ck (M.W.gM o.a o.b o.c M.s.z)).gen,o.a,M.W.jy o.a o.b o.c M.s.z,o.b⟩}
   (M.V.gh ⟨M.W.gM o.a o.b o.c M.s.z,(M.X.ck (M.W.gM o.a o.b o.c M.s.z)).gen,o.a,M.W.jy o.a o.b o.c M.s.z,o.b⟩)
   (dM 3 (M.W.gM o.a o.b o.c M.s.z) (M.X.ck (M.W.gM o.a o.b o.c M.s.z)).gen (M.W.jy o.a o.b o.c M.s.z))
 else .bad {M with W:=M.W.lay o.a o.b o.c M.s.z} (M.W.e3 o.a o.b o.c M.s.z)
def sZ(M:bx)(o:Op):eL:=
 if M.hY o.a=0 then
  (if M.W.e3 o.a o.b o.c M.s.z=9 then
   (if M.X.qu (M.df o.a)=0 then
    (if M.W.gh o.a (M.X.nf (M.df o.a))=0 then laid {M with X:=M.X.nX (M.df o.a),W:=M.W.add o.a (M.X.nf (M.df o.a))} o
     else .bad {M with X:=M.X.nX (M.df o.a),W:=M.W.add o.a (M.X.nf (M.df o.a))} (M.W.gh o.a (M.X.nf (M.df o.a))))
    else .bad {M with X:=M.X.nX (M.df o.a)} (M.X.qu (M.df o.a)))
   else laid M o)
 else .bad M (M.hY o.a)
end bx
section
variable {B:Heap}{H H0:au}{K:aK}{b:Nat}{M:bx}{o:Op}{n e c r:Int}
instance abz{dc:Nat}{y:mD}[h:bZ B H dc (hk y)]:St B H (ad P 111 #[pz dc] K) (T B H (K (pz y.sb))):=⟨by
 intro U;apply an (MB _);repeat apply St.go
 exact U⟩
instance acj[h:Ow H (bw b) M H0]:Sc B H (ad P 106 #[pz b,J r] K) (aF r) (T B (bw b M::H0) (K (.tuple #[J (M.df r),J (M.hY r)]))):=⟨by
 intro hr U;refine bf h.pl (an (Ot _ _) ?_);unfold bx.df bx.hY at U;refine gO λx=>?_;repeat' first|apply St.go|refine S2.go (λ_=>?_) λ_=>?_|refine Sc.go (by omega) ?_|done
 ·rename_i h
  rw[aj h,aj h]at U;exact af (ew x U)
 ·rename_i h
  rw[ag h,ag h]at U;rw[ag h];refine aL (bS x.dc) (e8 λy ok=>?_);have a:=AJ M.X.L (M.W.rg (gP r)).aO;repeat apply St.go
  refine af (H':=eh x.dc M.X y (cl b (jz M.s x)::cD x.tb M.W::cF x.pb M.V::H0)) (dw y ok ?_);refine af (H':=lf b M x H0) (ew x ?_);repeat first|apply St.go|refine Sc.go (by omega) ?_
  exact U⟩
def VX(d:o.Fit)(U:h' B b (M.root o) H K):T B (bw b M::H) (ad P 60 #[pz b,.agg (b3 o)] K):=by
 apply an (Oy _ _);have ha:=d.a;unfold bx.root at U;refine Sa.go λaa=>Sa.go λak=>?_;repeat' first|apply St.go|refine S2.go (λ_=>?_) λ_=>?_|refine Sc.go (by first|omega|rfl|exact⟨rfl,rfl⟩) ?_|done
 ·rename_i h
  rw[aj h]at U;exact af (fV rfl U)
 ·rename_i h
  rw[ag h]at U;have U:=fV rfl U;refine aL (bw b) (gO λx=>?_);refine St.go (aL (bS x.dc) (e8 λy ok=>?_));repeat' first|apply St.go|refine S2.go (λ_=>?_) λ_=>?_|refine Sc.go (by first|omega|rfl|exact⟨rfl,rfl⟩) ?_|done
  ·rename_i c
   exfalso;unfold aJ.e2 at h;rw[aj c]at h;exact c h
  ·rename_i c
   refine af (H':=eh x.dc M.X y (cl aa (b3 o)::cl ak #[J 0,J 0,.slice none 0 0,.string ⟨#[]⟩]::cl b (jz M.s x)::cD x.tb M.W::cF x.pb M.V::H)) (dw y ok ?_);unfold c4;apply X3;repeat first|apply St.go|refine Sc.go (by first|rfl|exact⟨rfl,rfl⟩) ?_
   have e:(if M.W.qz (M.X.L.place o.a)=0 then(if M.W.qz (M.X.L.place o.a)=0 then M.W.kz else 0)else 0)=(if M.W.qz (M.X.L.place o.a)=0 then M.W.kz else 0):=by split<;>rfl
   rw[e];exact af (ew x U)
def VQ(c:o.Fit)(U:h' B b (M.child o) H K):T B (bw b M::H) (ad P 61 #[pz b,.agg (b3 o)] K):=by
 apply an (Ol _ _);have ha:=c.a;unfold bx.child at U;refine Sa.go λaa=>Sa.go λak=>?_;repeat' first|apply St.go|refine S2.go (λ_=>?_) λ_=>?_|refine Sc.go (by first|omega|rfl|exact⟨rfl,rfl⟩) ?_|done
 ·rename_i h
  rw[aj h]at U;exact af (fV rfl U)
 ·rename_i h
  rw[ag h]at U;have U:=fV rfl U;refine aL (bw b) (gO λx=>?_);repeat apply St.go
  unfold c4;apply XZ ha;repeat first|apply St.go|refine Sc.go (by first|rfl|exact⟨rfl,rfl⟩) ?_
  have d:(if M.W.p6 o.a=0 then(if M.W.p6 o.a=0 then M.W.kz else 0)else 0)=(if M.W.p6 o.a=0 then M.W.kz else 0):=by split<;>rfl
  rw[d];exact af (ew x U)
def VU(e:M.Fit)(d:o.Fit)(U:h' B b (M.read o) H K):T B (bw b M::H) (ad P 66 #[pz b,.agg (b3 o)] K):=by
 apply an (Ou _ _);have ha:=d.a;have f:=d.b;have hc:=d.c;have g:=e.nq;refine Sa.go λaa=>Sa.go λak=>aL (bw b) (gO λx=>?_);refine aL (bS x.dc) (e8 λy ok=>?_);repeat apply St.go
 refine af (H':=cf y.sb M.X.S::cF x.pb M.V::cl aa (b3 o)::cl ak #[J 0,J 0,.slice none 0 0,.string ⟨#[]⟩]::cl x.dc (hk y)::bq y.lb M.X.L::dx y.rb y.sb M.X.R::dz y.tb M.X.T::eH y.qb M.X.Q::MP fP y.r y.m::dJ y.m::cl b (jz M.s x)::cD x.tb M.W::H) ?_;unfold w4;apply Wc f hc ha (by omega);repeat first|apply St.go|refine Sc.go (by first|rfl|exact⟨rfl,rfl⟩) ?_
 have:=U 0 none 0 ⟨by omega,by omega⟩;refine dL 1 (af (H':=eh x.dc M.X y (cl b (jz M.s x)::cD x.tb M.W::cF x.pb M.V::ah 1 none 0 0 []::H)) (dw y ok ?_));refine af (H':=lf b M x (ah 1 none 0 0 []::H)) (ew x ?_);exact cp (cA _ _ _) this
def V1(g:M.Fit)(c:o.Fit)(U:h' B b (M.write o) H K):T B (bw b M::H) (ad P 65 #[pz b,.agg (b3 o)] K):=by
 apply an (OC _ _);have ha:=c.a;have i:=c.b;have l:=g.nq;have n:M.V.bs<900000:=by omega
 refine Sa.go λaa=>Sa.go λak=>dU (λk=>bw b M::cl aa (b3 o)::cl ak #[J 0,J 0,.slice none 0 0,.string ⟨#[]⟩]::cl k (cy (M.V.find o.a)).toArray::H) (λk=>[.pointer (some (ai k 0)),J (M.V.bk o.a)]) (λp body=>?_) λk=>?_
 ·refine aL (bw b) (gO λx=>?_)
  repeat apply St.go
  refine e0 ?_ ?_
  ·repeat first|apply St.go|refine Sa.go λ_=>?_|refine Sc.go (by first|exact⟨rfl,rfl⟩|(constructor<;>assumption)) ?_
   rename_i d;exact af (ew x (body d))
  ·repeat first|apply St.go|refine Sa.go λ_=>?_|refine Sc.go (by first|exact⟨rfl,rfl⟩|(constructor<;>assumption)) ?_
   rename_i d;exact af (ew x (body d))
 unfold bx.write at U;repeat' first|apply St.go|refine S2.go (λ_=>?_) λ_=>?_|refine Sc.go (by first|rfl|exact⟨rfl,rfl⟩) ?_|done
 ·rename_i h
  rw[aj h]at U;exact af (fV rfl U)
 rename_i h;rw[ag h]at U;refine aL (bw b) (gO λx=>?_);refine aL (cF x.pb) (xG λf=>?_);have f:=f o.a;refine af (H':=lf b M x (cl aa (b3 o)::cl ak #[J 0,J 0,.slice none 0 0,.string ⟨#[]⟩]::H)) (ew x ?_);refine Sc.go (by unfold aF;omega) ?_;refine St.go (S2.go (λe=>?_) λe=>?_)
 ·rw[aj e]at U
  repeat first|apply St.go|refine Sc.go (by first|rfl|exact⟨rfl,rfl⟩) ?_
  exact af (fV rfl U)
 rw[ag e]at U;have U:=fV rfl U;refine aL (bw b) (gO λx=>?_);refine aL (bS x.dc) (e8 λy ok=>?_);repeat apply St.go
 refine af (H':=cf y.sb M.X.S::cF x.pb M.V::cl aa (b3 o)::cl ak #[J 0,J 0,.slice none 0 0,.string ⟨#[]⟩]::cl x.dc (hk y)::bq y.lb M.X.L::dx y.rb y.sb M.X.R::dz y.tb M.X.T::eH y.qb M.X.Q::MP fP y.r y.m::dJ y.m::cl b (jz M.s x)::cD x.tb M.W::H) ?_;unfold aV;apply We i ha (by omega) c.t;repeat first|apply St.go|refine Sc.go (by first|rfl|exact⟨rfl,rfl⟩) ?_
 have j:M.X.S.bl<=(l' M.X.S M.V o.a o.b o.text).bl:=by
  unfold l';split
  ·unfold aE.put
   split
   ·simp only;omega
   ·exact dQ _
  ·exact dQ _
 refine af (H':=eh x.dc {M.X with S:=l' M.X.S M.V o.a o.b o.text} y (cl b (jz M.s x)::cD x.tb M.W::cF x.pb M.V::H)) (dw y (ok.with rfl j) ?_);exact af (ew x U)
def VY(f:o.Fit)(U:h' B b (M.vL o) H K):T B (bw b M::H) (ad P 68 #[pz b,.agg (b3 o)] K):=by
 apply an (Oz _ _);have ha:=f.a;have g:=f.b;unfold bx.vL at U;refine Sa.go λaa=>Sa.go λak=>aL (bw b) (gO λx=>?_);refine St.go (aL (bS x.dc) (e8 λy ok=>?_));refine St.go (St.go ?_);refine Sc.go ha (St.go (S2.go (λh=>?_) λh=>?_))
 ·rw[aj h]at U
  repeat first|apply St.go|refine Sc.go (by first|rfl|exact⟨rfl,rfl⟩) ?_
  refine af (H':=eh x.dc M.X y (cl b (jz M.s x)::cD x.tb M.W::cF x.pb M.V::H)) (dw y ok ?_);exact af (ew x (fV rfl U))
 rw[ag h]at U;refine af (H':=eh x.dc M.X y (cl aa (b3 o)::cl ak #[J 0,J 0,.slice none 0 0,.string ⟨#[]⟩]::cl b (jz M.s x)::cD x.tb M.W::cF x.pb M.V::H)) (dw y ok ?_);refine dU (α:=Nat) (λk=>lf b M x (cl aa (b3 o)::cl ak #[J 0,J 0,.slice none 0 0,.string ⟨#[]⟩]::cl k (aD (M.X.T.get o.b)).toArray::H)) (λk=>[.pointer (some (ai k 0)),J (M.X.T.e1 o.b)]) (λi body=>?_) λk=>?_
 ·repeat apply St.go
  refine e0 ?_ ?_
  ·repeat first|apply St.go|refine Sa.go λ_=>?_|refine Sc.go (by first|omega|exact⟨rfl,rfl⟩) ?_
   rename_i c;exact af (body c)
  ·repeat first|apply St.go|refine Sa.go λ_=>?_|refine Sc.go (by first|omega|exact⟨rfl,rfl⟩) ?_
   rename_i c;exact af (body c)
 rw[show aD (M.X.T.get o.b)=[J (M.X.T.get o.b).id,J (M.X.T.get o.b).aO,J (M.X.T.get o.b).count,J (M.X.T.get o.b).state,J (M.X.T.get o.b).b4]from rfl];repeat' first|apply St.go|refine Sa.go λ_=>?_|refine S2.go (λ_=>?_) λ_=>?_|refine Sc.go (by first|rfl|exact⟨rfl,rfl⟩) ?_|done
 ·rename_i h1
  rw[aj λh=>h1 h.1]at U;exact af (ew x (fV rfl U))
 ·rename_i h1 d
  rw[aj λh=>d h.2]at U;exact af (ew x (fV rfl U))
 ·rename_i h1 d e
  rw[ag ⟨h1,d⟩]at U;have:=U 0 (some ⟨e,0,none⟩) 3 ⟨by omega,by omega⟩;refine bL (q:=cl e #[J (M.X.T.get o.b).state,J (M.X.T.get o.b).count,J (M.X.T.get o.b).b4]) (kk (l:=3) 1 rfl ?_);refine af (H':=lf b M x (ah 1 (some ⟨e,0,none⟩) 3 3 (#[J (M.X.T.get o.b).state,J (M.X.T.get o.b).count,J (M.X.T.get o.b).b4]:aw).toList::H)) (ew x ?_);exact cp (cA _ _ _) this
def VR(c:M.Fit)(g:o.Fit)(U:h' B b (M.free o) H K):T B (bw b M::H) (ad P 63 #[pz b,.agg (b3 o)] K):=by
 apply an (Om _ _);have ha:=g.a;have t:=c.IE;have u:=c.nq;have v:=c.bl;have w:=c.under (gP o.a);unfold bx.free at U;refine Sa.go λaa=>Sa.go λak=>?_;repeat' first|apply St.go|refine S2.go (λ_=>?_) λ_=>?_|refine Sc.go (by first|omega|rfl|exact⟨rfl,rfl⟩) ?_|done
 ·rename_i h
  rw[aj h]at U;exact af (fV rfl U)
 rename_i h;rw[ag h]at U;have U:=fV rfl U
 have j:M.W.bk o.a=0:=by
  unfold bx.hY at h;split at h
  ·assumption
  ·exact h
 refine aL (bw b) (gO λx=>?_);repeat apply St.go
 refine aL (cD x.tb) ?_;unfold uH;refine X0 ha (by omega) (λhe=>absurd j he) λ_ q c'=>St.go (aI (by simp) ?_);generalize y:M.W.under (gP o.a)=us at*;refine af (H':=ah 1 q us.length c' (iv .i64 us)::cl b (jz M.s x)::bS x.dc M.X::cD x.tb (M.W.free o.a)::cF x.pb M.V::cl aa (b3 o)::cl ak #[J 0,J 0,.slice none 0 0,.string ⟨#[]⟩]::H) ?_
 have m:∀l:aN,(l.foldl Lv.drop M.V).bs=M.V.bs:=λl=>by
  generalize M.V=V
  induction l generalizing V with
  |nil=>rfl
  |cons i l n=>rw[wi,n];rfl
 apply dh us.length (by omega) (λk H'=>H'=ah 1 q us.length c' (iv .i64 us)::cl b (jz M.s x)::bS x.dc M.X::cD x.tb (M.W.free o.a)::cF x.pb ((us.take k).foldl Lv.drop M.V)::cl aa (b3 o)::cl ak #[J 0,J 0,.slice none 0 0,.string ⟨#[]⟩]::H) rfl;rintro k H' R z rfl d;repeat' first|apply St.go|refine S2.go (λ_=>?_) λ_=>?_|done
 ·have e:k<us.length:=by omega
  have f:us[k]?=some us[k]:=bj e;generalize us[k]=i at f;apply fA k rfl e f;have d:=d e;rw[ef f,wh,wi,List.foldl_nil]at d;have hc:=m (us.take k);generalize(us.take k).foldl Lv.drop M.V=V at hc d⊢;apply St.go;unfold aV;exact VA (by omega) (St.go (af (d _ rfl)))
 ·have hl:k=us.length:=by omega
  subst hl;rw[ix];refine aL (bS x.dc) (zU λp=>?_);refine af (H':=bS x.dc M.X::ah 1 q us.length c' (iv .i64 us)::cl b (jz M.s x)::cD x.tb (M.W.free o.a)::cF x.pb (us.foldl Lv.drop M.V)::cl aa (b3 o)::cl ak #[J 0,J 0,.slice none 0 0,.string ⟨#[]⟩]::H) ?_;have r:aF (M.df o.a):=by unfold bx.df;split<;>first|exact AJ _ _|decide
  unfold aV;apply Lh bF.j2 r (p _) (by omega) c.next
  repeat first|apply St.go|refine Sc.go (by first|rfl|exact⟨rfl,rfl⟩) ?_
  exact af (ew x U)
def VT(i:M.Fit)(j:o.Fit)(U:h' B b (M.sZ o) H K):T B (bw b M::H) (ad P 62 #[pz b,.agg (b3 o)] K):=by
 apply an (Oq _ _);have ha:=j.a;have k:=j.b;have hc:=j.c;have C:=i.IE;have D:=i.nq;have E:=i.bl;have q:=i.cur;unfold bx.sZ at U;refine Sa.go λaa=>Sa.go λak=>?_;repeat' first|apply St.go|refine S2.go (λ_=>?_) λ_=>?_|refine Sc.go (by first|omega|rfl|exact⟨rfl,rfl⟩) ?_|done
 ·rename_i h
  rw[aj h]at U;exact af (fV rfl U)
 rename_i h;rw[ag h]at U
 have F:M.W.bk o.a=0:=by
  unfold bx.hY at h;split at h
  ·assumption
  ·exact h
 have r:aF (M.df o.a):=by unfold bx.df;split<;>first|exact AJ _ _|decide
 refine aL (bw b) (gO λx=>?_);refine St.go (St.go (St.go (St.go (St.go ?_))));unfold pZ;refine Hw ha k hc (q _) (by omega) (St.go ?_)
 refine dU (α:={M':bx//h' B b (M'.laid o) H K/\M'.s=M.s/\M'.V=M.V})
  (λM'=>lf b {M'.1 with W:=M'.1.W.lay o.a o.b o.c M.s.z} x (cl aa (b3 o)::cl ak #[J 0,J 0,.slice none 0 0,.string ⟨#[]⟩]::H))
  (λM'=>[J (M'.1.W.gM o.a o.b o.c M.s.z),J (M'.1.W.jy o.a o.b o.c M.s.z),J (M'.1.W.e3 o.a o.b o.c M.s.z)]) (λG body=>?_) λ⟨M',d,hs,n⟩=>?_
 ·have t:M.W.e3 o.a o.b o.c M.s.z≠0->M.W.lay o.a o.b o.c M.s.z=M.W:=λh=>by unfold a6.lay;rw[aj h]
  refine S2.go (λm=>?_) λm=>?_
  ·rw[ag m]at U
   rw[t (by omega)];apply St.go;unfold c4;refine Lj r (St.go (S2.go (λh1=>?_) λh1=>?_))
   ·rw[aj h1]at U
    repeat first|apply St.go|refine Sc.go (by first|rfl|exact⟨rfl,rfl⟩) ?_
    exact af (ew x (fV rfl U))
   rw[ag h1]at U;refine St.go (St.go ?_);unfold aV;refine XY ha (by omega) (St.go (S2.go (λg=>?_) λg=>?_))
   ·rw[aj g]at U
    repeat first|apply St.go|refine Sc.go (by first|rfl|exact⟨rfl,rfl⟩) ?_
    exact af (ew x (fV rfl U))
   rw[ag g]at U;have u:((M.W.add o.a (M.X.nf (M.df o.a))).rg (gP o.a)).cur=0:=by unfold a6.add;rw[ag g];simp[b1]
   have I:(M.W.add o.a (M.X.nf (M.df o.a))).bs=M.W.bs+1:=by unfold a6.add;rw[ag g]
   refine St.go (St.go (St.go (St.go (St.go (St.go (St.go ?_))))));apply Hw ha k hc (by rw[u];decide) (by omega);exact St.go (af (body ⟨{M with X:=M.X.nX (M.df o.a),W:=M.W.add o.a (M.X.nf (M.df o.a))},U,rfl,rfl⟩))
  ·rw[aj m]at U
   exact af (body ⟨M,U,rfl,rfl⟩)
 ·obtain⟨L,X',W',V'⟩:=M'
  simp only at hs n;subst hs n;simp only;unfold bx.laid at d;simp only at d;refine St.go (S2.go (λh1=>?_) λh1=>?_)
  ·rw[aj h1]at d
   repeat first|apply St.go|refine Sc.go (by first|rfl|exact⟨rfl,rfl⟩) ?_
   exact af (ew x (fV rfl d))
  rw[ag h1]at d;have d:=fV rfl d;refine St.go (aL (bS x.dc) (e8 λy ok=>?_));refine St.go (St.go (St.go (St.go ?_)));refine Sa.go λv=>Sc.go ⟨rfl,rfl⟩ (af (H':=eh x.dc X' y (cl b (jz M.s x)::cD x.tb (W'.lay o.a o.b o.c M.s.z)::cF x.pb M.V::cl aa (b3 o)::cl ak #[J 0,J 0,.slice none 0 0,.string ⟨#[]⟩]::cl v (fo (X'.ck (W'.gM o.a o.b o.c M.s.z))).toArray::H)) (dw y ok ?_));repeat apply St.go
  have w:aF (W'.jy o.a o.b o.c M.s.z):=by
   have e:∀c s a z,aF (rM c s a z):=by
    intro c s a z;have h0:aF 0:=by decide
    unfold rM;split
    ·by_cases e:kl c a=true
     ·have:=D6 e
      unfold kl at e;simp only[cg,bJ]at e;unfold aF;omega
     ·unfold iY;rw[aj e];exact h0
    ·exact h0
   unfold a6.jy;by_cases h0:W'.e3 o.a o.b o.c M.s.z=0
   ·rw[ag h0];exact e _ _ _ _
   ·rw[aj h0];decide
  generalize p:(⟨W'.gM o.a o.b o.c M.s.z,(X'.ck (W'.gM o.a o.b o.c M.s.z)).gen,o.a,W'.jy o.a o.b o.c M.s.z,o.b⟩:Ld)=l at*;have f:l.len=o.b/\l.at'=W'.jy o.a o.b o.c M.s.z/\l.bR=o.a/\l.chunk=W'.gM o.a o.b o.c M.s.z/\l.gen=(X'.ck (W'.gM o.a o.b o.c M.s.z)).gen:=by subst p;exact⟨rfl,rfl,rfl,rfl,rfl⟩
  rw[show(#[J (W'.gM o.a o.b o.c M.s.z),J (X'.ck (W'.gM o.a o.b o.c M.s.z)).gen,J o.a,J (W'.jy o.a o.b o.c M.s.z),J o.b]:aw)=(cy l).toArray by subst p;rfl];unfold c4;refine Vy (by omega) ⟨by rw[f.1];exact k,by rw[f.2.1];exact w⟩ (by rw[f.2.2.1];exact ha) ?_;rw[f.2.2.2.1,f.2.2.2.2,f.2.1];have A:∀z:Int,(if M.V.gh l=0 then(if M.V.gh l=0 then z else 0)else 0)=(if M.V.gh l=0 then z else 0):=λz=>by split<;>rfl
  repeat first|apply St.go|refine Sc.go (by first|rfl|exact⟨rfl,rfl⟩) ?_
  rw[A];exact af (ew x d)
end
end
section
abbrev Az(x:Option Nat):Value:=match x with|none=> .nilFunc|some n=> .func (.func n) #[] #[]
abbrev xi(x:Option Nat):Value:= .agg #[Az x]
instance acn:ia P 95 (Option Nat) xi none:=⟨93,by kernel_rfl,py,by kernel_rfl⟩
instance acz{x:Option Nat}:kU (Az x):=⟨by cases x<;>rfl⟩
instance abQ{n:Nat}:nC xi (.agg #[.func (.func n) #[] #[]]) (some n):=⟨rfl⟩
def vO:ML (Option Nat):=[(1,some 56),(2,some 57),(3,some 58),(4,some 59),(5,some 60),(6,some 61),(7,some 62),(8,some 63),(9,some 64),(10,some 65),(11,some 66),(12,some 67),(13,some 68),(14,some 69)]
def bx.b9(M:bx)(o:Op):eL:=
 if o.kind=1 then M.register o else if o.kind=2 then M.tu o else if o.kind=3 then M.ask o else if o.kind=4 then M.cancel o else if o.kind=5 then M.root o
 else if o.kind=6 then M.child o else if o.kind=7 then M.sZ o else if o.kind=8 then M.free o else if o.kind=9 then M.eG o else if o.kind=10 then M.write o
 else if o.kind=11 then M.read o else if o.kind=12 then M.tick else if o.kind=13 then M.vL o else if o.kind=14 then M.trim o else .bad M 1
section
variable {B:Heap}{H H0:au}{K:aK}{b:Nat}{M:bx}{o:Op}{n e c r:Int}
instance ack:Sa B H (ad P 29 #[] K) (λr=>T B (MP xi r vO::H) (K (.map (some r)))):=⟨by
 intro U;refine an (OG) (Sa.go λr=>iT xi ?_);repeat apply St.go
 exact U r⟩
def kA{g k aa ak:Nat}{R:eL}{cs:aw}(d:fW P g=true)(e:h' B b R H K)(hc:∀{H':au} {a:aK},h' B b R H' a->T B (bw b M::H') (ad P g #[pz b,.agg (b3 o)] a)):T B (cl k cs::bw b M::cl aa (b3 o)::cl ak #[J 0,J 0,.slice none 0 0,.string ⟨#[]⟩]::H) (lG P (.func (.func g) #[] #[]) [pz b,.agg (b3 o)] λf=>gi f λh=>gW (ai ak 0) h 4 (eQ (ai ak 0) 4 λi=>K (Value.agg i))):=by
 apply nJ d;refine af (H':=bw b M::cl ak #[J 0,J 0,.slice none 0 0,.string ⟨#[]⟩]::H) ?_;refine hc λw p c hw=>?_;have:=e w p c hw;repeat first|apply St.go|refine Sc.go (by first|rfl|exact⟨rfl,rfl⟩) ?_
 exact af this
def xI(c:M.Fit)(a:o.Fit)(U:h' B b (M.b9 o) H K):T B (bw b M::H) (ad P 14 #[pz b,.agg (b3 o)] K):=by
 apply an (Of _ _);refine Sa.go λaa=>Sa.go λak=>?_;refine dU (α:=Unit) (λ_=>bw b M::cl aa (b3 o)::cl ak #[J 0,J 0,.slice none 0 0,.string ⟨#[]⟩]::H) (λ_=>[]) (λg body=>?_) λ_=>?_
 ·refine aL (bw b) (gO λx=>?_)
  repeat apply St.go
  exact af (ew x (body ()))
 refine St.go (dU (α:=Nat) (λk=>cl k #[Az ((aQ vO o.kind).getD none)]::bw b M::cl aa (b3 o)::cl ak #[J 0,J 0,.slice none 0 0,.string ⟨#[]⟩]::H) (λk=>[.pointer (some (ai k 0)),.bool (aQ vO o.kind).isSome]) (λg body=>?_) λk=>?_)
 ·refine St.go (e0 ?_ ?_)
  ·repeat first|apply St.go|refine Sa.go λ_=>?_
   refine e0 ?_ ?_
   ·repeat first|apply St.go|refine Sa.go λ_=>?_|refine Sc.go ⟨rfl,rfl⟩ ?_
    rename_i d;exact af (body d)
   ·repeat first|apply St.go|refine Sa.go λ_=>?_|refine Sc.go ⟨rfl,rfl⟩ ?_
    rename_i d;exact af (body d)
  ·repeat first|apply St.go|refine Sa.go λ_=>?_|refine Sc.go ⟨rfl,rfl⟩ ?_
   rename_i d _;exact af (body d)
 unfold bx.b9 at U;repeat' first|apply St.go|refine S2.go (λ_=>?_) λ_=>?_|refine Sc.go (by first|rfl|exact⟨rfl,rfl⟩) ?_|done
 ·rename_i f
  have j:¬(1<=o.kind/\o.kind<=14):=by
   intro h;have:o.kind=1\/o.kind=2\/o.kind=3\/o.kind=4\/o.kind=5\/o.kind=6\/o.kind=7\/o.kind=8\/o.kind=9\/o.kind=10\/o.kind=11\/o.kind=12\/o.kind=13\/o.kind=14:=by omega
   rcases this with e|e|e|e|e|e|e|e|e|e|e|e|e|e<;>(rw[e]at f;exact absurd f (by decide))
  repeat rw[aj (by omega)]at U
  exact af (fV rfl U)
 ·rename_i f
  have i:o.kind=1\/o.kind=2\/o.kind=3\/o.kind=4\/o.kind=5\/o.kind=6\/o.kind=7\/o.kind=8\/o.kind=9\/o.kind=10\/o.kind=11\/o.kind=12\/o.kind=13\/o.kind=14:=by
   by_cases h:1<=o.kind/\o.kind<=14
   ·omega
   ·exfalso
    have:aQ vO o.kind=none:=by rw[kC];intro hm;have:a7 vO=[1,2,3,4,5,6,7,8,9,10,11,12,13,14]:=rfl;rw[this]at hm;simp at hm;omega
    rw[this]at f;cases f
  rcases i with e|e|e|e|e|e|e|e|e|e|e|e|e|e
  ·rw[e];rw[ag e]at U;exact kA (by kernel_rfl) U λh=>VV a h
  ·rw[e];rw[aj (by omega),ag e]at U;exact kA (by kernel_rfl) U λh=>VW a h
  ·rw[e];repeat rw[aj (by omega)]at U
   rw[ag e]at U;exact kA (by kernel_rfl) U λh=>VO c a h
  ·rw[e];repeat rw[aj (by omega)]at U
   rw[ag e]at U;exact kA (by kernel_rfl) U λh=>VP c a h
  ·rw[e];repeat rw[aj (by omega)]at U
   rw[ag e]at U;exact kA (by kernel_rfl) U λh=>VX a h
  ·rw[e];repeat rw[aj (by omega)]at U
   rw[ag e]at U;exact kA (by kernel_rfl) U λh=>VQ a h
  ·rw[e];repeat rw[aj (by omega)]at U
   rw[ag e]at U;exact kA (by kernel_rfl) U λh=>VT c a h
  ·rw[e];repeat rw[aj (by omega)]at U
   rw[ag e]at U;exact kA (by kernel_rfl) U λh=>VR c a h
  ·rw[e];repeat rw[aj (by omega)]at U
   rw[ag e]at U;exact kA (by kernel_rfl) U λh=>VS c a h
  ·rw[e];repeat rw[aj (by omega)]at U
   rw[ag e]at U;exact kA (by kernel_rfl) U λh=>V1 c a h
  ·rw[e];repeat rw[aj (by omega)]at U
   rw[ag e]at U;exact kA (by kernel_rfl) U λh=>VU c a h
  ·rw[e];repeat rw[aj (by omega)]at U
   rw[ag e]at U;exact kA (by kernel_rfl) U λh=>VZ c h
  ·rw[e];repeat rw[aj (by omega)]at U
   rw[ag e]at U;exact kA (by kernel_rfl) U λh=>VY a h
  ·rw[e];repeat rw[aj (by omega)]at U
   rw[ag e]at U;exact kA (by kernel_rfl) U λh=>V0 a h
end
end
section
structure kV where
 tk:Int
 cs:List bD
 w:aN
 ms:List Mem
 ts:List Tk
 ls:List Ld
structure sn where
 p1:av
 c1:Nat
 p2:av
 c2:Nat
 p3:av
 c3:Nat
 p4:av
 lZ:Nat
 p5:av
 fI:Nat
abbrev cz(s:kV)(x:sn):aw:=#[J s.tk,.slice x.p1 s.cs.length x.c1,.slice x.p2 s.w.length x.c2,.slice x.p3 s.ms.length x.c3,.slice x.p4 s.ts.length x.lZ,.slice x.p5 s.ls.length x.fI]
abbrev j6(s:kV)(x:sn)(H:au):au:=
 ah 3 x.p1 s.cs.length x.c1 (s.cs.flatMap fo)::rT 1 x.p2 s.w.length (iv .i64 s.w)::ah 4 x.p3 s.ms.length x.c3 (aW s.ms)::ah 5 x.p4 s.ts.length x.lZ (s.ts.flatMap aD)::ah 5 x.p5 s.ls.length x.fI (s.ls.flatMap cy)::H
def bx.snap(M:bx):kV:=⟨M.X.R.du,M.X.S.cs,M.X.R.line.xs,M.X.L.ar.members,M.X.T.cY,M.V.hU⟩
section
variable {B:Heap}{H H0:au}{K:aK}{b:Nat}{M:bx}{o:Op}{n e c r:Int}
def xJ(d:M.V.bs<500/\M.V.all.length<500)(U:∀x,T B (bw b M::j6 M.snap x H) (K (.agg (cz M.snap x)))):T B (bw b M::H) (ad P 8 #[pz b] K):=by
 refine an (Oh _) (Sa.go λaa=>aI rfl (aL (bw b) (gO λx=>?_)));refine St.go (aL (bS x.dc) ?_);unfold bH;refine Ll λq1 y me a=>?_;repeat first|apply St.go|refine Sa.go λ_=>?_|refine Sc.go ⟨rfl,rfl⟩ ?_
 rename_i e;refine aL (cF x.pb) ?_;unfold b2;refine Vz (by omega) (by omega) λp c=>?_;repeat first|apply St.go|refine Sc.go (by first|rfl|exact⟨rfl,rfl⟩) ?_
 have:=U ⟨some ⟨q1,0,none⟩,M.X.S.cs.length,y,M.X.R.line.xs.length,me.1,me.2,a.1,a.2,p,c⟩;refine af (H':=lf b M x (j6 ⟨M.X.R.du,M.X.S.cs,M.X.R.line.xs,M.X.L.ar.members,M.X.T.cY,M.V.hU⟩ ⟨some ⟨q1,0,none⟩,M.X.S.cs.length,y,M.X.R.line.xs.length,me.1,me.2,a.1,a.2,p,c⟩ H)) (ew x ?_);exact this
def Gt{z q l:Int}(a:uA c z q l=false->T B H (K (.tuple #[.pointer none,J 2])))(d:∀(n m q':Nat) b,c=n->z=m->q=q'->1<=n->n<=1048576->64<=m->m<=1048576->1<=q'->q'<=1048576->T B (bw b ⟨⟨c,z,q,l⟩,aJ.new n m q',a6.new,Lv.new⟩::H) (K (.tuple #[pz b,J 0]))):T B H (ad P 18 #[.agg #[J c,J z,J q,J l]] K):=by
 apply an (OD _);refine Sa.go λaa=>?_;apply bV (b:=aa) (cs:=#[J c,J z,J q,J l]) rfl;unfold i';refine Li (λh=>?_) λn m q' dc h1 e f g i k p r s=>?_
 ·repeat first|apply St.go|refine bo (by with_reducible decide) ?_
  exact af (a h)
 apply St.go;apply aI rfl;refine bL (q:=cl aa #[J c,J z,J q,J l]) ?_;apply bV (b:=aa) (cs:=#[J c,J z,J q,J l]) rfl;have hC:∀{H:au},bZ B (cl aa #[J c,J z,J q,J l]::H) aa #[J c,J z,J q,J l]:=inferInstance;unfold di;refine X1 λtb=>?_;apply St.go;refine af (H':=cl aa #[J c,J z,J q,J l]::cD tb a6.new::bS dc (aJ.new n m q')::H) ?_;refine e7 (λσ o=>⟨_,rfl,rfl,λj t=>?_⟩) ?_
 ·rw[aR,hC.cell o,bI]
 refine VB λpb=>?_;apply St.go;refine af (H':=cl aa #[J c,J z,J q,J l]::cF pb Lv.new::cD tb a6.new::bS dc (aJ.new n m q')::H) ?_;refine e7 (λσ o=>⟨_,rfl,rfl,λj t=>?_⟩) ?_
 ·rw[aR,hC.cell o,bI]
 apply ba rfl;refine Sa.go λb=>?_;refine jP (ds:=jz ⟨c,z,q,l⟩ ⟨dc,tb,pb⟩) rfl ?_;have:=d n m q' b h1 e f g i k p r s;exact af (ew (M:=⟨⟨c,z,q,l⟩,aJ.new n m q',a6.new,Lv.new⟩) ⟨dc,tb,pb⟩ this)
end
end
section
section
variable {B:Heap}{H H0:au}{K:aK}{q:av}{l c:Nat}{xs:aN}{n i:Int}{cs:List bD}{ms:List Mem}
def o6(c:bD):Bool:=decide (0<=c.gen/\c.gen<1048576)&&if c.ph=1 then decide (0<c.own)else decide (c.ph<=3/\c.own=0)
end
end
section
abbrev lX(v:Nat->Int):aw:=#[J (v 0),J (v 1),J (v 2),J (v 3)]
def KS{v:Nat->Int}{k:Nat}(U:k<4):(lX v)[k]?=some (J (v k)):=by
 obtain rfl|rfl|rfl|rfl:k=0\/k=1\/k=2\/k=3:=by omega
 all_goals rfl
def D8{v:Nat->Int}{k:Nat}{x:Int}(U:k<4):(lX v).setIfInBounds k (J x)=lX (up v k x):=by
 obtain rfl|rfl|rfl|rfl:k=0\/k=1\/k=2\/k=3:=by omega
 all_goals rfl
def dk(cs:List bD)(p:Nat):Nat:=cs.countP λc=>c.ph==p
def jv(a b:bD):Prop:=a.ph<=3/\b.ph<=3/\0<=a.gen/\a.gen<=b.gen/\(a.gen=b.gen->a.ph<=b.ph)/\(a.gen=b.gen->a.ph=1->b.ph=1->a.own=b.own)
section
variable {B:Heap}{H H0:au}{K:aK}{q q':av}{l c c':Nat}{xs:aN}{n i:Int}{cs:List bD}{ms:List Mem}
end
end
section
section
variable {B:Heap}{H H0:au}{K:aK}{q q':av}{l c c':Nat}{xs:aN}{n i f:Int}{cs:List bD}{ms:List Mem}
end
end
section
abbrev Ld.sp(l:Ld):Sp:=⟨l.at',l.len⟩
def qq(cs:List bD)(i:Int):Int:=(cs.getD i.toNat bD.zero).own
structure kW(s:Setup)(x:kV):Prop where
 c1:(x.cs.length:Int)=s.c
 n1:x.cs.length<=1000
 n2:x.w.length<=1000
 n3:x.ms.length<=1000
 n4:x.ts.length<=1000
 u7:x.ls.length<=100000
 ch:∀(i:Nat) c,x.cs[i]?=some c->o6 c=true/\x.w.countP (·==(i:Int))=if c.ph=2 then 1 else 0
 w:∀i∈x.w,0<=i/\i<(x.cs.length:Int)
 Wj:(x.ms.map (·.1)).Pairwise (·<·)
 me:∀m∈x.ms,0<=m.1/\m.1<=63/\cq m.2=true/\((x.cs.countP λc=>c.own==m.1+1:Nat):Int)=m.2.held
 own:∀z∈x.cs,0<z.own->∃m∈x.ms,m.1=z.own-1
 aad:(x.ts.map (·.id)).Pairwise (·<·)
 Ir:∀t∈x.ts,right t=true/\t.state=1/\∃m∈x.ms,m.1=t.aO
 ko:∀m∈x.ms,((x.ts.filter λt=>t.aO==m.1).map (·.count)).sum=m.2.cB
 safe:kH ((dk x.cs 0:Int)+dk x.cs 2+dk x.cs 3) x.ms=true
 pz:0<=s.z/\s.z<=1048576
 pc:∀l∈x.ls,0<=l.chunk/\0<=l.at'/\1<=l.len/\l.at'+l.len<=s.z/\∃c,x.cs[l.chunk.toNat]?=some c/\c.ph=1/\c.gen=l.gen
 pp:x.ls.Pairwise λa b=>(a.chunk=b.chunk->h3 a.sp b.sp=false)/\(a.bR=b.bR->qq x.cs a.chunk=qq x.cs b.chunk)
section
variable {B:Heap}{H H0:au}{K:aK}{s:Setup}{x:kV}{X:sn}{n:Int}
def FX{α:Type}{p:α->Bool}{l:List α}{a:α}(ha:a∈l)(b:p a=true):¬cS p l<0:=by rw[uR];intro h;have:=h a ha;rw[b]at this;cases this
def Z6{ts:List Tk}{f:Tk->Bool}{k:Nat}(h:∀t∈ts,0<=t.count/\t.count<=1048576)(U:k<=ts.length):0<=(((ts.take k).filter f).map (·.count)).sum/\(((ts.take k).filter f).map (·.count)).sum<=1048576*(k:Int):=by
 induction k with
 |zero=>simp
 |succ k b=>
  have a:ts[k]?=some ts[k]:=bj (by omega);have c:=h ts[k] (eK _);generalize ts[k]=t at a c;have:=b (by omega);rw[ef a,nt,eY,zm];cases hf:f t
  ·simp[hf];omega
  ·simp[hf];omega
end
end
section
abbrev cH(s:Setup):aw:=#[J s.c,J s.z,J s.q,J s.l]
section
variable {B:Heap}{H H0:au}{K:aK}{s:Setup}{x:kV}{X:sn}{n:Int}
structure Dr(x y:kV):Prop where
 tk:x.tk<=y.tk
 len:x.cs.length=y.cs.length
 ch:∀(i:Nat) a b,x.cs[i]?=some a->y.cs[i]?=some b->jv a b
end
end
structure jN where
 o:Op
 ref:Int
abbrev gD(v:jN):az:=[J v.o.kind,J v.o.a,J v.o.b,J v.o.c,.string ⟨v.o.text.toArray⟩,J v.ref]
def Gk(v:jN):(gD v).length=6:=rfl
def qE(s:Setup):Bool:=!(decide (12<s.c/\s.c<=1048576)||decide (256<s.z/\s.z<=1048576))
def ni(v:jN)(nums:aN):Op:=if 0<v.ref/\v.ref<=(nums.length:Int)then{v.o with a:=nums.getD (v.ref-1).toNat 0}else v.o
section
variable {B:Heap}{H H0:au}{K:aK}{s:Setup}{n:Int}{q:av}{l c:Nat}
def J1{p:av}{ys:az}{s j:Nat}[h:Rd B H p ys]{x:ByteArray}{f:ByteArray->HP}(i:Nat)(b:n=(i:Int))(hl:i<l)(hc:ys[i*s+j]?=some (.string x))(t:T B H (f x)):T B H (F2 p l n s j f):=by
 subst b;have hi:i*s+j<ys.length:=(bY.1 hc).1;refine oI h.rd (by omega) λa ha=>ba ⟨by omega,by omega⟩ ?_;subst ha;rw[aZ,add_add];intro σ o;rcases h.rd σ o with⟨h,_⟩|⟨a',h,c⟩
 ·cases h
 ·cases h
  exact⟨x,(c _ hi).trans hc,t σ o⟩
def Va(U:T B H (K (J (if qE s then 1 else 0)))):T B H (ad P 16 #[.agg (cH s)] K):=by
 apply an (NQ _);unfold qE at U;refine Sa.go λaa=>?_;repeat' first|apply St.go|refine S2.go (λ_=>?_) λ_=>?_|done
 all_goals (first
  |(rw[cM (by omega)]at U;exact af U)
  |(rw[cP (by omega),cP (by omega)]at U;exact af U)
  |(rw[cM (p:=256<s.z/\s.z<=1048576) (by omega),Bool.or_true]at U;exact af U))
def Gd{v:jN}{nums:aN}[hr:Rd B H q (iv .i64 nums)](hl:l=nums.length)(hlen:l<1000000)(e:aF v.ref)(U:T B H (K (.agg (b3 (ni v nums))))):T B H (ad P 21 #[.agg (gD v).toArray,.slice q l c] K):=by
 subst hl;apply an (NP _ _ _ _);unfold ni at U;unfold aF at e;refine Sa.go λaa=>Sa.go λak=>?_;refine iV (b:=aa) (cs:=(gD v).toArray) (ds:=b3 v.o) rfl ?_ ?_
 ·intro j f
  obtain rfl|rfl|rfl|rfl|rfl:j=0\/j=1\/j=2\/j=3\/j=4:=by omega
  all_goals rfl
 rw[show gD v=[J v.o.kind,J v.o.a,J v.o.b,J v.o.c,.string ⟨v.o.text.toArray⟩,J v.ref]from rfl];refine Sa.go λg=>?_;repeat' first|apply St.go|refine S2.go (λ_=>?_) λ_=>?_|refine Sc.go (by first|rfl|exact⟨rfl,rfl⟩) ?_|done
 ·have d:nums[(v.ref-1).toNat]?=some (nums[(v.ref-1).toNat]'(by omega)):=bj _
  rw[ag (by omega),eo,d]at U;generalize(nums[(v.ref-1).toNat]'(by omega))=w at d U;rw[br (by omega)];refine fA (v.ref-1).toNat (by omega) (by omega) d ?_;repeat first|apply St.go|refine Sc.go (by first|rfl|exact⟨rfl,rfl⟩) ?_
  exact af U
 ·rw[aj (by omega)]at U
  exact af U
 ·rw[aj (by omega)]at U
  exact af U
def aan{ls:List jN}[hr:Rd B H q (ls.flatMap gD)](hl:l=ls.length)(r:n<=1000)(h0:T B H (K (.bool false)))(h1:(ls.length:Int)<=n->qE s=true->(∀v∈ls,v.o.text.length<=9000)->T B H (K (.bool true))):T B H (ad P 5 #[.agg (cH s),.slice q l c,J n] K):=by
 subst hl;apply an (SN _ _ _ _ _);refine Sa.go λaa=>?_;apply St.go;refine S2.go (λ_=>af h0) λt=>?_;apply bV (b:=aa) (cs:=cH s) rfl;unfold aV;refine Va (St.go (S2.go (λ_=>af h0) λhs=>?_));have hs:qE s=true:=by cases h:qE s;(rw[h]at hs;simp at hs);rfl
 refine St.go (dh ls.length (by omega) (λk Y=>Y=cl aa (cH s)::H/\∀j v,j<k->ls[j]?=some v->v.o.text.length<=9000) ⟨rfl,by simp⟩ ?_);rintro k Y R w ⟨rfl,i⟩ m;refine S2.go (λ_=>?_) λ_=>?_
 ·have a:k<ls.length:=by omega
  have d:ls[k]?=some ls[k]:=bj a;generalize ls[k]=v at d;refine J1 k rfl a (ht Gk ls k v d 4 (by omega)) (S2.go (λ_=>af h0) λx=>m a _ ⟨rfl,λj u f g=>?_⟩);by_cases e:j=k
  ·subst e
   rw[d]at g;cases g;have:(ByteArray.mk v.o.text.toArray).size=v.o.text.length:=by simp[ByteArray.size]
   omega
  ·exact i j u (by omega) g
 ·have e:k=ls.length:=by omega
  subst e;refine af (h1 (by omega) hs λv p=>?_);obtain⟨j,f,rfl⟩:=qN p;exact i j _ f (bj f)
end
structure HX where
 mb:Nat
 p1:av
 c1:Nat
 p2:av
 c2:Nat
 p3:av
 c3:Nat
 cl:aN
 rt:List (Int×Int)
abbrev rU(v:Int×Int):az:=[J v.1,J v.2]
abbrev hC(nums:aN)(x:HX):aw:=#[pz x.mb,.slice x.p1 nums.length x.c1,.slice x.p2 x.cl.length x.c2,.slice x.p3 x.rt.length x.c3]
abbrev hL(b:Nat)(M:bx)(nums:aN)(x:HX)(H:au):au:=cl b (hC nums x)::ah 1 x.p1 nums.length x.c1 (iv .i64 nums)::ah 1 x.p2 x.cl.length x.c2 (iv .i64 x.cl)::ah 2 x.p3 x.rt.length x.c3 (x.rt.flatMap rU)::bw x.mb M::H
