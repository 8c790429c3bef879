/- Lemmas that lead to TopWhole (their names made short by a program); no condition. -/
import Derived.Test.YtlmgompopkamfaaGreatDoorLM
set_option linter.all false
set_option maxRecDepth 20000
set_option synthInstance.checkSynthOrder false
namespace Go.Proofs.YtlmgompopkamfaaGreatDoor
section
open Go.XS Go.bn
section
variable {B:Heap}{H H0:au}{K:aK}{q q':aw}{l c c':Nat}{xs:aO}{n i f:Int}{cs:List bA}{ms:List Mem}
def XP[hr:Rd B H q (iv .i64 xs)](hl:l=xs.length)(hlen:l<1000000)(I:T B H (K (.bool (xs.contains n)))):T B H (ab P 94 #[.slice q l c,D n] K):=by
 subst hl;refine an (PW _ _ _ _) (cF xs.length (by omega) (λk H'=>H'=H/\n∉xs.take k) ⟨rfl,by simp⟩ ?_);rintro k H' R f ⟨rfl,b⟩ e;refine S2.go (λ_=>?_) λ_=>?_
 ·have d:k<xs.length:=by omega
  have a:xs[k]?=some xs[k]:=ba d;generalize xs[k]=v at a;refine e1 k rfl d a (S2.go (λ_=>?_) λ_=>?_)
  ·rename_i h
   have:xs.contains n=true:=by rw[yV];rw[<-h];exact cz a
   rw[this]at I;exact I
  ·rename_i h
   refine e d _ ⟨rfl,?_⟩;rw[dQ a,dL];rintro(U|U)
   ·exact b U
   ·simp at U;exact h U.symm
 ·have hl:k=xs.length:=by omega
  subst hl;rw[gA]at b
  have:xs.contains n=false:=by rw[Bool.eq_false_iff];intro h;exact b (yV.1 h)
  rw[this]at I;exact I
def XM[hr:Rd B H q (aW ms)](hl:l=ms.length)(hlen:l<1000000)(g:∀m∈ms,bZ m.2=true)(I:T B H (K (.bool (decide (0<=f/\f<=1048576))))):T B H (ab P 52 #[D f,.slice q l c] K):=by
 subst hl;refine an (PT _ _ _ _) (cF ms.length (by omega) (λk H'=>H'=H) rfl ?_);rintro k H' R j rfl i;repeat' first|refine S2.go (λ_=>?_) λ_=>?_|done
 ·have a:k<ms.length:=by omega
  have b:ms[k]?=some ms[k]:=ba a;have ha:=g ms[k] (dz a);generalize ms[k]=v at b ha;apply ua k rfl a b;unfold aJ;exact x7 ha (J.go (aD rfl (i a _ rfl)))
 ·rename_i U d
  have e:decide (0<=f/\f<=1048576)=decide (f<=1048576):=hZ.2 ⟨λh=>h.2,λh=>⟨d,h⟩⟩;rw[e]at I;exact I
 ·rename_i U d
  rw[cD (by omega)]at I;exact I
def XO[hr:Rd B H q (aW ms)](hl:l=ms.length)(hlen:ms.length<=1000)(S:∀m∈ms,bZ m.2=true)(hf:0<=f/\f<=1048576)(I:∀p c',T B (ai 1 p (iC f ms).length c' (iv .i64 (iC f ms))::H) (K (.slice p (iC f ms).length c'))):T B H (ab P 53 #[D f,.slice q l c] K):=by
 subst hl;refine an (PV _ _ _ _) (dR 1 ?_)
 refine JI (λm b a p V c' H'=>∃d outs,d.length=ms.length/\(∀i:Nat,i<ms.length->d[i]?=some (outs.contains (i:Int)))/\V=outs.length/\outs.length+d.count false=ms.length/\0<=a/\a<=1048576*(1+(outs.length:Int))/\
  (if b then m=d.count false+1/\outs++kV ms (d.count false) a d=iC f ms else m=0/\outs=iC f ms)/\H'=ai 1 p outs.length c' (iv .i64 outs)::H) (ms.length+1)
  ⟨List.replicate ms.length false,[],by simp,λi hi=>by simp[r0,hi],rfl,by simp,hf.1,by simp;omega,by simp[iC],rfl⟩ ?_
 rintro m b a p V c' H' R ⟨d,outs,W,E,rfl,ad,ae,ag,z,rfl⟩ hOut
 cases b with
 |false=>simp only[fM,ej]at z;apply aD rfl;rw[z.2];exact I p c'
 |true=>
  simp only[dT]at z;obtain⟨rfl,t⟩:=z;apply bk rfl
  refine JK (λA f2 p l2 c2 dJ n H'=>∃(i:Nat) (g:aO),n=(i:Int)/\i<=ms.length/\l2=g.length/\A+i=ms.length/\H'=ai 1 p g.length c2 (iv .i64 g)::H/\
   ((dJ=false/\a=f2/\outs=g/\∀j y,j<i->(d.zip ms)[j]?=some y->(!y.1&&decide (hP y.2<=a))=false)\/
    (dJ=true/\∃(k:Nat) (y:Mem),k<ms.length/\ms[k]?=some y/\fJ a d ms=(k:Int)/\d[k]?=some false/\f2=a+y.2.held/\g=outs++[(k:Int)]))) ms.length
   ⟨0,outs,rfl,by omega,rfl,by omega,rfl,.inl ⟨rfl,rfl,rfl,λj y F=>by omega⟩⟩ ?_
  rintro A f2 p2 l2 c2 dJ n H' aw ⟨i,g,rfl,ay,rfl,az,rfl,X⟩ hIn
  have Y:∀(k:Nat) (y:Mem),k<ms.length->ms[k]?=some y->fJ a d ms=(k:Int)->d[k]?=some false->f2=a+y.2.held->g=outs++[(k:Int)]->T B (ai 1 p2 g.length c2 (iv .i64 g)::H) (R [.bool true,D f2,.slice p2 g.length c2]):=by
   intro k y aA Z u hd aj al;subst aj al;have aB:=count_set hd;have am:=S y (cz Z);simp only[bZ,bz]at am;refine hOut (d.count false) _ _ _ _ _ _ (by omega) ⟨d.set k true,outs++[(k:Int)],by simpa using W,λj F=>?_,rfl,by simp;omega,by omega,by simp;omega,?_,rfl⟩
   ·rw[kE]
    by_cases e:k=j
    ·subst e
     rw[ah rfl,ah (by omega)];simp
    ·rw[ak e,E j F]
     congr 1;rw[yQ,yV,yV,dL];refine⟨.inl,λh=>?_⟩;rcases h with h|h
     ·exact h
     ·simp at h;omega
   ·simp only[dT]
    refine⟨by omega,?_⟩;obtain⟨c0,ao⟩:∃c0,d.count false=c0+1:=⟨(d.set k true).count false,by omega⟩;have ap:(d.set k true).count false=c0:=by omega
    rw[ao,xb (by omega),u,a7]at t;have aq:ms.getD k (0,eJ)=y:=by rw[List.getD,Z];rfl
    rw[aq]at t;rw[ap,er];exact t
  refine J.go (S2.go (λo=>?_) λaC=>?_)
  ·have o:i<ms.length:=by omega
   rcases X with⟨rfl,rfl,rfl,C⟩|⟨rfl,k,y,U,G,L,M,N,O⟩
   ·apply bk rfl
    have w:ms[i]?=some ms[i]:=ba o;have ha:=S ms[i] (dz o);generalize ms[i]=v at w ha;have aa:=E i o;have hz:(d.zip ms)[i]?=some (outs.contains (i:Int),v):=by rw[vS];exact⟨aa,w⟩
    have ar:hP v=v.2.dG-v.2.held:=by unfold hP;rw[ah ha]
    have au:=ha;simp only[bZ,bz]at au;apply J.go;refine dV (α:={v2:Bool//v2=(!outs.contains (i:Int)&&decide (hP v<=a))}) (λ_=>ai 1 p2 outs.length c2 (iv .i64 outs)::H) (λv2=>[.bool v2.1]) (λaE body=>?_) λ⟨v2,r⟩=>?_
    ·unfold aJ
     have aF:Rd B (ai 1 p2 outs.length c2 (iv .i64 outs)::H) p2 (iv .i64 outs):=⟨bF.iB⟩;refine XP rfl (by omega) (J.go ?_)
     cases hc:outs.contains (i:Int)with
     |true=>apply aD rfl;exact body ⟨false,by rw[hc];rfl⟩
     |false=>refine bk rfl (ua i rfl o w ?_);unfold aU;refine XL ha (J.go (body ⟨_,?_⟩));rw[hc,ar];rfl
    ·apply J.go
     simp only
     cases v2 with
     |true=>
      have r:=r.symm;simp only[b9,ml,bz]at r
      have u:fJ a d ms=(i:Int):=by unfold fJ cJ;rw[nD C hz (by show(!outs.contains (i:Int)&&decide (hP v<=a))=true;rw[r.1,cB r.2];rfl)]
      refine bk rfl (eA i rfl o (dW eP ms i v w 2 (by omega)) (Sa.go λaG=>aN (ai 1 p2 outs.length c2) (e0 (s:=1) (c:=c2) rfl (by omega) λp3 c3=>?_)));have av:iv .i64 outs++(#[D (i:Int)]:ax).toList=iv .i64 (outs++[(i:Int)]):=by simp[iv]
      rw[av,bd (by omega),bd (by omega)];refine af (H':=ai 1 p3 (outs.length+1) c3 (iv .i64 (outs++[(i:Int)]))::H) ?_;refine hIn (A-1) _ _ _ _ _ _ _ (by omega) ⟨i+1,outs++[(i:Int)],by omega,by omega,by simp,by omega,by simp,.inr ⟨rfl,i,v,o,w,u,by rw[aa,r.1],rfl,rfl⟩⟩
     |false=>
      apply aD rfl;rw[bd (by omega)];refine hIn (A-1) _ _ _ _ _ _ _ (by omega) ⟨i+1,outs,by omega,by omega,rfl,by omega,rfl,.inl ⟨rfl,rfl,rfl,λj y F Q=>?_⟩⟩;by_cases e:j=i
      ·subst e
       rw[hz]at Q;cases Q;exact r.symm
      ·exact C j y (by omega) Q
   ·exact aD rfl (Y k y U G L M N O)
  ·have hi:i=ms.length:=by omega
   rcases X with⟨rfl,rfl,rfl,C⟩|⟨rfl,k,y,U,G,L,M,N,O⟩
   ·have u:fJ a d ms<0:=by unfold fJ cJ;rw[mI λj x ac=>C j x (by have:=(b0.1 ac).1;simp at this;omega) ac];decide
    rw[xc u,je]at t;refine hOut 0 _ _ _ _ _ _ (by omega) ⟨d,outs,W,E,rfl,ad,ae,ag,?_,rfl⟩;simp only[fM,ej];exact⟨trivial,t⟩
   ·exact Y k y U G L M N O
def XN[hr:Rd B H q (aW ms)](hl:l=ms.length)(hlen:ms.length<=1000)(a:∀m∈ms,bZ m.2=true)(hf:jA f ms=true)(I:∀p c',T B H (K (.tuple #[.slice p (iC f ms).length c',.bool true]))):T B H (ab P 25 #[D f,.slice q l c] K):=by subst hl;apply an (PU _ _ _ _);unfold jA at hf;simp only[b9,bz]at hf;unfold aJ;apply XM rfl (by omega) a;rw[cB hf.1.1];refine J.go (aD rfl ?_);unfold bX;refine XO rfl hlen a hf.1.1 λp c'=>J.go ?_;apply aD (by simp;omega);exact pN (.drop .refl) (I p c')
def Tt{cs:List bA}{a b:Int}(g:a<b){z:bA}(hz:z∈cs)(i:z.own=b):(cs.countP λc=>decide (b<c.own))<cs.countP λc=>decide (a<c.own):=by
 induction cs with
 |nil=>cases hz
 |cons y cs d=>
  have e:∀l:List bA,(l.countP λc=>decide (b<c.own))<=l.countP λc=>decide (a<c.own):=λl=>List.countP_mono_left λx _ h=>by simp only[bz]at h⊢;omega
  rw[py,py];rcases cR.1 hz with rfl|h
  ·have:=e cs
   rw[ak (by simp;omega),ah (by simp;omega)];omega
  ·have:=d h
   split<;>split
   ·omega
   ·rename_i U f;simp only[bz]at U f;omega
   ·omega
   ·omega
def XI[hr:Rd B H q (cs.flatMap dc)](hl:l=cs.length)(hlen:l<100000)(I:∀p c' (ys:aO),(∀y∈ys,0<y/\∃z∈cs,z.own=y)->ys.length<=cs.length->T B (ai 1 p ys.length c' (iv .i64 ys)::H) (K (.slice p ys.length c'))):T B H (ab P 49 #[.slice q l c] K):=by
 subst hl;refine an (PL _ _ _) (dR 1 ?_)
 refine JJ (λm b p r c' last H'=>∃ys:aO,r=ys.length/\(∀y∈ys,0<y/\∃z∈cs,z.own=y)/\0<=last/\ys.length+(cs.countP λc=>decide (last<c.own))<=cs.length/\m=2*(cs.countP λc=>decide (last<c.own))+(if b then 1 else 0)/\H'=ai 1 p ys.length c' (iv .i64 ys)::H)
  (2*(cs.countP λc=>decide ((0:Int)<c.own))+1) ⟨[],rfl,by simp,by omega,by simpa using mn,rfl,rfl⟩ ?_
 rintro m b p r c' last H' R ⟨ys,rfl,g,w,x,rfl,rfl⟩ hOut
 cases b with
 |false=>exact aD rfl (I p c' ys g (by omega))
 |true=>
  refine bk rfl (mC (λk nx j H'=>∃i:Nat,j=(i:Int)/\k+i=cs.length/\H'=ai 1 p ys.length c' (iv .i64 ys)::H/\(nx=0\/(last<nx/\∃z∈cs,z.own=nx))) cs.length ⟨0,rfl,by omega,rfl,.inl rfl⟩ ?_);rintro k nx j H' A ⟨i,rfl,G,rfl,f⟩ hIn;refine S2.go (λa=>?_) λL=>?_
  ·have a:i<cs.length:=by omega
   have n:cs[i]?=some cs[i]:=ba a;generalize cs[i]=z at n;have o:=dW h6 cs i z n 1 (by omega);have M:Rd B (ai 1 p ys.length c' (iv .i64 ys)::H) q (cs.flatMap dc):=⟨hr.rd.tail⟩
   have t:∀e,(e=0\/(last<e/\∃z∈cs,z.own=e))->T B (ai 1 p ys.length c' (iv .i64 ys)::H) (A [D e,D (IntKind.wrap .i64 ((i:Int)+1))]):=λe h=>by rw[bd (by omega)];exact hIn (k-1) _ _ _ (by omega) ⟨i+1,by omega,by omega,rfl,h⟩
   refine dV (α:={v:Bool//v=true->last<z.own}) (λ_=>ai 1 p ys.length c' (iv .i64 ys)::H) (λv=>[.bool v.1]) (λN body=>?_) λ⟨v,C⟩=>?_
   ·refine eA i rfl a o (S2.go (λU=>?_) λU=>?_)
    ·refine S2.go (λE=>?_) λE=>?_
     ·exact body ⟨true,λ_=>U⟩
     ·exact eA i rfl a o (body ⟨_,λ_=>U⟩)
    ·exact body ⟨false,λh=>by cases h⟩
   ·apply J.go
    simp only
    cases v with
    |true=>exact bk rfl (eA i rfl a o (t _ (.inr ⟨C rfl,z,cz n,rfl⟩)))
    |false=>exact aD rfl (t _ f)
  ·rcases f with rfl|⟨f,z,hz,u⟩
   ·apply aD (by decide)
    rw[show decide ((0:Int)>0)=false from rfl];exact hOut (2*(cs.countP λc=>decide (last<c.own))) _ _ _ _ _ _ (by simp) ⟨ys,rfl,g,w,x,rfl,rfl⟩
   ·apply bk (by simp;omega)
    rw[show decide (nx>0)=true from cB (by omega)];refine Sa.go λO=>?_;have a:=Tt f hz u;refine aN (ai 1 p ys.length c') (e0 (s:=1) (c:=c') rfl (by omega) λp3 c3=>?_);have F:iv .i64 ys++(#[D nx]:ax).toList=iv .i64 (ys++[nx]):=by simp[iv]
    rw[F];refine af (H':=ai 1 p3 (ys.length+1) c3 (iv .i64 (ys++[nx]))::H) ?_;refine hOut (2*(cs.countP λc=>decide (nx<c.own))+1) _ _ _ _ _ _ (by simp only[dT];omega) ⟨ys++[nx],by simp,λy d=>?_,by omega,by simp;omega,rfl,by simp⟩;rcases dL.1 d with d|d
    ·exact g y d
    ·simp at d;subst d;exact⟨by omega,z,hz,u⟩
end
end
section
open Go.XS Go.bn
abbrev Ld.sp(l:Ld):Sp:=⟨l.at',l.len⟩
def lY(cs:List bA)(i:Int):Int:=(cs.getD i.toNat bA.zero).own
structure ik(s:Setup)(x:kd):Prop where
 c1:(x.cs.length:Int)=s.c
 n1:x.cs.length<=1000
 n2:x.w.length<=1000
 n3:x.ms.length<=1000
 n4:x.ts.length<=1000
 rz:x.ls.length<=100000
 ch:∀(i:Nat) c,x.cs[i]?=some c->lW c=true/\x.w.countP (·==(i:Int))=if c.ph=2 then 1 else 0
 w:∀i∈x.w,0<=i/\i<(x.cs.length:Int)
 Gg:(x.ms.map (·.1)).Pairwise (·<·)
 me:∀m∈x.ms,0<=m.1/\m.1<=63/\bZ m.2=true/\((x.cs.countP λc=>c.own==m.1+1:Nat):Int)=m.2.held
 own:∀z∈x.cs,0<z.own->∃m∈x.ms,m.1=z.own-1
 HW:(x.ts.map (·.id)).Pairwise (·<·)
 yq:∀t∈x.ts,right t=true/\t.state=1/\∃m∈x.ms,m.1=t.aM
 ux:∀m∈x.ms,((x.ts.filter λt=>t.aM==m.1).map (·.count)).sum=m.2.cf
 safe:jA ((cC x.cs 0:Int)+cC x.cs 2+cC x.cs 3) x.ms=true
 pz:0<=s.z/\s.z<=1048576
 pc:∀l∈x.ls,0<=l.chunk/\0<=l.at'/\1<=l.len/\l.at'+l.len<=s.z/\∃c,x.cs[l.chunk.toNat]?=some c/\c.ph=1/\c.gen=l.gen
 pp:x.ls.Pairwise λa b=>(a.chunk=b.chunk->ja a.sp b.sp=false)/\(a.bT=b.bT->lY x.cs a.chunk=lY x.cs b.chunk)
section
variable {B:Heap}{H H0:au}{K:aK}{s:Setup}{x:kd}{X:qP}{n:Int}
def xj{α:Type}{p:α->Bool}{l:List α}{a:α}(ha:a∈l)(b:p a=true):¬cJ p l<0:=by rw[uG];intro h;have:=h a ha;rw[b]at this;cases this
def XU[U:Rd B H X.p1 (x.cs.flatMap dc)][M:Rd B H X.p3 (aW x.ms)](hs:ik s x)(I:T B H (K (.bool false))):T B H (ab P 23 #[.agg (b' x X)] K):=by
 apply an (P1 _);have n1:=hs.n1;have n3:=hs.n3;refine Sa.go λaa=>cF x.ms.length (by omega) (λk Y=>Y=cl aa (b' x X)::H) rfl ?_;rintro k Y R N rfl q;repeat' first|apply J.go|refine S2.go (λ_=>?_) λ_=>?_|done
 ·have c:k<x.ms.length:=by omega
  have d:x.ms[k]?=some x.ms[k]:=ba c;have hm:=hs.me x.ms[k] (dz c);generalize r:x.ms[k]=v at d hm
  have t:∀{b:Nat},T B (cl b (fj v).toArray::cl aa (b' x X)::H) (aT (ag aa 1) λf g h=>bs .i64 (ag b 0) λi=>bs .i64 (ag b 2) λe=>aU 48 #[Value.slice f g h,D (IntKind.wrap .i64 (i+1))] λl=>dA (λn=>cA n (ag b 2)=some (D e)) (ae (l !=e) (K (Value.bool true)) (R [D (IntKind.wrap .i64 ((k:Int)+1))]))):=by
   intro b;rw[show fj v=[D v.1,D v.2.dG,D v.2.held,D v.2.cf]from rfl];repeat apply J.go
   rw[bd (by omega)];unfold aU;apply XG rfl (by omega) (by omega);rw[hm.2.2.2];repeat' first|apply J.go|refine S2.go (λ_=>?_) λ_=>?_|done
   ·contradiction
   ·exact af (q c _ rfl)
  refine dO eP (by omega) k rfl c d (Sa.go λb=>Sc.go ⟨rfl,rfl⟩ ?_)
  have o:T B (cl b (fj v).toArray::cl aa (b' x X)::H) (eY (ag b 1) 3 λu=>aJ 13 #[Value.agg u] λw=>ae (!w) (dA (λO=>True) (K (Value.bool true))) (aT (ag aa 1) λf g h=>bs .i64 (ag b 0) λi=>bs .i64 (ag b 2) λe=>aU 48 #[Value.slice f g h,D (IntKind.wrap .i64 (i+1))] λl=>dA (λn=>cA n (ag b 2)=some (D e)) (ae (l !=e) (K (Value.bool true)) (R [D (IntKind.wrap .i64 ((k:Int)+1))])))):=by apply wv;unfold aJ;exact x7 hm.2.2.1 (J.go (aD rfl t))
  apply a1 rfl;apply aD (by simp;omega);apply a1 rfl;apply aD (by simp;omega);by_cases A:k=0
  ·subst A
   exact aD (by simp) o
  ·apply bk (by simp;omega)
   refine a1 rfl (J.go ?_);have C:x.ms[k-1]?=some x.ms[k-1]:=ba (by omega)
   have Q:x.ms[k-1].1<v.1:=by have:=kJ.1 hs.Gg (k-1) k (by simp;omega) (by simpa using c) (by omega);simp only[tL]at this;rw[r]at this;exact this
   apply eA (k-1) (by rw[bd (by omega)];omega) (by omega) (dW eP x.ms (k-1) _ C 0 (by omega));apply aD (by simp;omega);exact o
 ·refine af (H':=cl aa (b' x X)::H) ?_
  unfold bX;refine XI rfl (by omega) λp c' ys E S=>J.go (cF ys.length (by omega) (λ_ Y=>Y=ai 1 p ys.length c' (iv .i64 ys)::cl aa (b' x X)::H) rfl ?_);rintro j Y V W rfl F;refine S2.go (λ_=>?_) λ_=>?_
  ·have c:j<ys.length:=by omega
   have d:ys[j]?=some ys[j]:=ba c;obtain⟨G,z,hz,L⟩:=E ys[j] (dz c);generalize ys[j]=y at d G L;obtain⟨m,hm,Z⟩:=hs.own z hz (by omega);have ac:=hs.me m hm;refine nw (bF.iB) (by simp;omega) λa ha=>?_;refine bj (by omega) (J.go ?_);rw[a7];subst ha;apply sf bF.iB (lT d);rw[bd (by omega)];unfold aU;apply G5 rfl (by omega);have:=xj (p:=λm:Mem=>m.1==y-1) hm (by simp;omega);apply J.go;apply aD (by simp;omega);exact F c _ rfl
  ·exact af I
def HR{ts:List Tk}{f:Tk->Bool}{k:Nat}(h:∀t∈ts,0<=t.count/\t.count<=1048576)(I:k<=ts.length):0<=(((ts.take k).filter f).map (·.count)).sum/\(((ts.take k).filter f).map (·.count)).sum<=1048576*(k:Int):=by
 induction k with
 |zero=>simp
 |succ k b=>
  have a:ts[k]?=some ts[k]:=ba (by omega);have c:=h ts[k] (dz _);generalize ts[k]=t at a c;have:=b (by omega);rw[dQ a,mo,e6,vW];cases hf:f t
  ·simp[hf];omega
  ·simp[hf];omega
def XV[U:Rd B H X.p4 (x.ts.flatMap aE)][Q:Rd B H X.p3 (aW x.ms)](hs:ik s x)(I:T B H (K (.bool false))):T B H (ab P 24 #[.agg (b' x X)] K):=by
 apply an (P2 _);have n3:=hs.n3;have n4:=hs.n4
 have n:∀t∈x.ts,0<=t.count/\t.count<=1048576:=λt w=>by have:=(hs.yq t w).1;unfold right at this;simp only[bz]at this;omega
 refine Sa.go λaa=>cF x.ts.length (by omega) (λk Y=>Y=cl aa (b' x X)::H) rfl ?_;rintro k Y R S rfl y;repeat' first|apply J.go|refine S2.go (λ_=>?_) λ_=>?_|done
 ·have a:k<x.ts.length:=by omega
  have c:x.ts[k]?=some x.ts[k]:=ba a;obtain⟨hr,o,m,hm,z⟩:=hs.yq x.ts[k] (dz a);generalize A:x.ts[k]=v at c hr o z
  have q:∀{g:Nat},T B (cl g (aE v).toArray::cl aa (b' x X)::H) (aT (ag aa 3) λC E F=>bs .i64 (ag g 1) λG=>aU 50 #[Value.slice C E F,D G] λL=>ae (decide (L<0)) (K (Value.bool true)) (R [D (IntKind.wrap .i64 ((k:Int)+1))])):=by intro g;rw[show aE v=[D v.id,D v.aM,D v.count,D v.state,D v.b1]from rfl];refine J.go (J.go ?_);unfold aU;apply G5 rfl (by omega);have:=xj (p:=λm:Mem=>m.1==v.aM) hm (by simp;omega);apply J.go;apply aD (by simp;omega);exact af (y a _ rfl)
  apply dO (f:=aE) (rs:=x.ts) ep (by omega) k rfl a c;refine Sa.go λg=>Sc.go ⟨rfl,rfl⟩ ?_;apply bI (b:=g) (cs:=(aE v).toArray) rfl;unfold aJ;apply XQ;rw[hr];refine J.go (aD rfl (a1 rfl (aD (by simp[o]) ?_)));by_cases M:k=0
  ·subst M
   exact aD (by simp) q
  ·apply bk (by simp;omega)
   refine a1 rfl (J.go ?_);have d:x.ts[k-1]?=some x.ts[k-1]:=ba (by omega)
   have h:x.ts[k-1].id<v.id:=by have:=kJ.1 hs.HW (k-1) k (by simp;omega) (by simpa using a) (by omega);simp only[tL]at this;rw[A]at this;exact this
   apply eA (k-1) (by rw[bd (by omega)];omega) (by omega) (dW ep x.ts (k-1) _ d 0 (by omega));apply aD (by simp;omega);exact q
 ·refine af (H':=cl aa (b' x X)::H) (cF x.ms.length (by omega) (λk Y=>Y=cl aa (b' x X)::H) rfl ?_)
  rintro j Y V W rfl N;repeat' first|apply J.go|refine S2.go (λ_=>?_) λ_=>?_|done
  ·have a:j<x.ms.length:=by omega
   have c:x.ms[j]?=some x.ms[j]:=ba a;have r:=hs.ux x.ms[j] (dz a);generalize x.ms[j]=m at c r;refine mC (λl sm i Y=>∃k:Nat,i=(k:Int)/\l+k=x.ts.length/\Y=cl aa (b' x X)::H/\sm=(((x.ts.take k).filter λt=>t.aM==m.1).map (·.count)).sum) x.ts.length ⟨0,rfl,by omega,rfl,by simp⟩ ?_;rintro l sm i Y Z ⟨k,rfl,ac,rfl,rfl⟩ u;have ad:=HR (f:=λt=>t.aM==m.1) (k:=k) n (by omega);repeat' first|apply J.go|refine S2.go (λ_=>?_) λ_=>?_|done
   ·have h:k<x.ts.length:=by omega
    have d:x.ts[k]?=some x.ts[k]:=ba h;have O:=n x.ts[k] (dz h);generalize x.ts[k]=t at d O;have e:((x.ts.take (k+1)).filter λt=>t.aM==m.1)=((x.ts.take k).filter λt=>t.aM==m.1)++([t].filter λt=>t.aM==m.1):=by rw[dQ d,mo]
    refine eA k rfl h (dW ep x.ts k t d 1 (by omega)) (J.go (eA j rfl a (dW eP x.ms j m c 0 (by omega)) ?_));rw[bd (by omega)];refine S2.go (λhc=>?_) λhc=>?_
    ·refine J.go (eA k rfl h (dW ep x.ts k t d 2 (by omega)) ?_)
     rw[bd (by omega)];refine u (l-1) _ _ _ (by omega) ⟨k+1,by omega,by omega,rfl,?_⟩;rw[e,mr (by simpa using hc),CJ,e6,vW];simp
    ·refine u (l-1) _ _ _ (by omega) ⟨k+1,by omega,by omega,rfl,?_⟩
     rw[e,mq (by simpa using hc),CJ,je]
   ·have hl:k=x.ts.length:=by omega
    subst hl;rw[gA,r];exact eA j rfl a (dW eP x.ms j m c 3 (by omega)) (aD (by simp) (N a _ rfl))
  ·exact af I
end
end
section
open Go.XS Go.bn
abbrev cx(s:Setup):ax:=#[D s.c,D s.z,D s.q,D s.l]
section
variable {B:Heap}{H H0:au}{K:aK}{s:Setup}{x:kd}{X:qP}{n:Int}
def XW{v:Ld}[U:Rd B H X.p1 (x.cs.flatMap dc)](hs:ik s x)(b:v∈x.ls)(I:T B H (K (.bool false))):T B H (ab P 54 #[.agg (cx s),.agg (b' x X),.agg (c6 v).toArray] K):=by
 apply an (P3 _ _ _);obtain⟨f,dJ,g,h5,c,hc,d,e⟩:=hs.pc v b;have hz:=hs.pz;have a:v.chunk.toNat<x.cs.length:=(b0.1 hc).1;have n1:=hs.n1;refine Sa.go λaa=>Sa.go λaj=>Sa.go λh=>?_;rw[show c6 v=[D v.chunk,D v.gen,D v.bT,D v.at',D v.len]from rfl];repeat' first|apply J.go|refine S2.go (λ_=>?_) λ_=>?_|done
 all_goals first
  |(exfalso;omega)
  |skip
 ·rename_i hw
  rw[bd (by omega)]at hw;omega
 ·refine eA v.chunk.toNat (by omega) a (dW h6 x.cs _ c hc 0 (by omega)) (aD (by simp[d]) ?_)
  repeat apply J.go
  refine eA v.chunk.toNat (by omega) a (dW h6 x.cs _ c hc 2 (by omega)) (J.go ?_);rw[show(c.gen !=v.gen)=false from by simp[e]];exact af I
def XX[U:Rd B H X.p1 (x.cs.flatMap dc)][Z:Rd B H X.p5 (x.ls.flatMap c6)](hs:ik s x)(I:T B H (K (.bool false))):T B H (ab P 26 #[.agg (cx s),.agg (b' x X)] K):=by
 apply an (P4 _ _);have hz:=hs.pz;have n1:=hs.n1;have rz:=hs.rz;refine Sa.go λaa=>Sa.go λaj=>cF x.ls.length (by omega) (λk Y=>Y=cl aj (b' x X)::cl aa (cx s)::H) rfl ?_;rintro k Y R ac rfl t;repeat' first|apply J.go|refine S2.go (λ_=>?_) λ_=>?_|done
 ·have d:k<x.ls.length:=by omega
  have l:x.ls[k]?=some x.ls[k]:=ba d;have hm:=dz d;generalize w:x.ls[k]=v at l hm;obtain⟨ad,dJ,ah,h5,c,hc,ai,ak⟩:=hs.pc v hm;have y:v.chunk.toNat<x.cs.length:=(b0.1 hc).1;apply dO (f:=c6) (rs:=x.ls) uI (by omega) k rfl d l;refine Sa.go λe=>Sc.go ⟨rfl,rfl⟩ ?_;apply bI (b:=aa) (cs:=cx s) rfl;apply bI (b:=aj) (cs:=b' x X) rfl;apply bI (b:=e) (cs:=(c6 v).toArray) rfl;unfold aJ;refine XW hs hm (J.go (aD rfl (cF k (by omega) (λj Y=>Y=cl e (c6 v).toArray::cl aj (b' x X)::cl aa (cx s)::H) rfl ?_)));rintro j Y m al rfl n;refine S2.go (λg=>?_) λg=>?_
  ·have g:j<k:=by omega
   have o:x.ls[j]?=some x.ls[j]:=ba (by omega);have p:x.ls[j]∈x.ls:=dz (by omega);have h:=kJ.1 hs.pp j k (by omega) d g;rw[w]at h;generalize x.ls[j]=u at o p h;obtain⟨d1,d2,d3,d4,c',eN,am,ao⟩:=hs.pc u p;have z:u.chunk.toNat<x.cs.length:=(b0.1 eN).1;have A:lY x.cs v.chunk=c.own:=by unfold lY;rw[ei,hc];rfl
   have C:lY x.cs u.chunk=c'.own:=by unfold lY;rw[ei,eN];rfl
   rw[A,C]at h;refine J.go (dO (f:=c6) (rs:=x.ls) uI (by omega) j rfl (by omega) o (Sa.go λi=>Sc.go ⟨rfl,rfl⟩ ?_))
   have q:T B (cl i (c6 u).toArray::cl e (c6 v).toArray::cl aj (b' x X)::cl aa (cx s)::H) (bs .i64 (ag i 2) λE=>bs .i64 (ag e 2) λF=>ae (E==F) (aT (ag aj 1) λG L ap=>bs .i64 (ag i 0) λM=>db G L M 3 1 λN=>aT (ag aj 1) λO Q aq=>bs .i64 (ag e 0) λS=>db O Q S 3 1 λV=>ae (N !=V) (K (Value.bool true)) (m [D (IntKind.wrap .i64 ((j:Int)+1))])) (m [D (IntKind.wrap .i64 ((j:Int)+1))])):=by
    rw[show c6 v=[D v.chunk,D v.gen,D v.bT,D v.at',D v.len]from rfl];rw[show c6 u=[D u.chunk,D u.gen,D u.bT,D u.at',D u.len]from rfl];repeat' first|apply J.go|refine S2.go (λ_=>?_) λ_=>?_|done
    ·rename_i W
     apply eA u.chunk.toNat (by omega) z (dW h6 x.cs _ c' eN 1 (by omega));repeat apply J.go
     apply eA v.chunk.toNat (by omega) y (dW h6 x.cs _ c hc 1 (by omega));apply aD (by simp;exact(h.2 (by simpa using W)));exact af (n g _ rfl)
    ·exact af (n g _ rfl)
   refine a1 rfl (a1 rfl (S2.go (λr=>?_) λr=>?_))
   ·refine a1 rfl (a1 rfl (a1 rfl (a1 rfl ?_)))
    refine XE (a:=u.sp) (b:=v.sp) ⟨by unfold aF;simp only;omega,by unfold aF;simp only;omega⟩ ⟨by unfold aF;simp only;omega,by unfold aF;simp only;omega⟩ (h.1 (by simpa using r)) (by unfold fW;simp only[bz];omega) (by unfold fW;simp only[bz];omega) ?_;exact J.go (aD rfl q)
   ·exact q
  ·exact af (t d _ rfl)
 ·exact af I
def XT[U:Rd B H X.p1 (x.cs.flatMap dc)][a:Rd B H X.p2 (iv .i64 x.w)][c:Rd B H X.p3 (aW x.ms)][d:Rd B H X.p4 (x.ts.flatMap aE)][e:Rd B H X.p5 (x.ls.flatMap c6)](hs:ik s x)(I:T B H (K (D 0))):T B H (ab P 11 #[.agg (cx s),.agg (b' x X)] K):=by
 apply an (P0 _ _);have c1:=hs.c1;have n1:=hs.n1;have n2:=hs.n2;have n3:=hs.n3;have hm:∀p,cC x.cs p<=x.cs.length:=λp=>mn;have m0:=hm 0;have m2:=hm 2;have m3:=hm 3;refine Sa.go λaa=>Sa.go λaj=>?_;repeat' first|apply J.go|refine S2.go (λ_=>?_) λ_=>?_|done
 ·rename_i f
  omega
 ·unfold aJ
  apply XJ (cs:=x.cs) (ws:=x.w) (n:=(x.w.length:Int)) rfl rfl (by omega) (by omega) hs.ch hs.w;apply J.go;apply aD rfl;apply J.go;apply bI (b:=aj) (cs:=b' x X) rfl;apply XU (x:=x) hs;apply J.go;apply aD rfl;apply bI (b:=aj) (cs:=b' x X) rfl;apply XV (x:=x) hs;apply J.go;apply aD rfl;apply bW (b:=aj) (cs:=b' x X) rfl;unfold bH;refine G4 rfl (by omega) (J.go (Sa.go λg=>?_));repeat first|apply J.go|refine Sc.go (by first|omega|exact⟨rfl,rfl⟩) ?_
  rw[kC (n:=(cC x.cs 0:Int)+cC x.cs 2) (by omega) (by omega),bd (by omega)];unfold pU;refine XN (ms:=x.ms) rfl n3 (λm hm=>(hs.me m hm).2.2.1) hs.safe λp c'=>?_;apply J.go;apply aD rfl;apply bI (b:=aa) (cs:=cx s) rfl;apply bI (b:=aj) (cs:=b' x X) rfl;apply XX (x:=x) hs;apply J.go;apply aD rfl;exact af I
structure za(x y:kd):Prop where
 tk:x.tk<=y.tk
 len:x.cs.length=y.cs.length
 ch:∀(i:Nat) a b,x.cs[i]?=some a->y.cs[i]?=some b->i6 a b
def XR{y:kd}{Y:qP}[U:Rd B H X.p1 (x.cs.flatMap dc)][h:Rd B H Y.p1 (y.cs.flatMap dc)](i:x.cs.length<=1000)(hf:za x y)(I:T B H (K (.bool true))):T B H (ab P 12 #[.agg (b' x X),.agg (b' y Y)] K):=by
 apply an (PZ _ _);have c1:=hf.len;have c2:=hf.tk;refine Sa.go λaa=>Sa.go λaj=>J.go (a1 rfl (a1 rfl ?_));apply aD (by simp;omega);refine bW rfl (bW rfl ?_);apply aD (by simp;omega);refine J.go (cF x.cs.length (by omega) (λk Z=>Z=cl aj (b' y Y)::cl aa (b' x X)::H) rfl ?_);rintro k Z R j rfl g;repeat' first|apply J.go|refine S2.go (λ_=>?_) λ_=>?_|done
 ·have c:k<x.cs.length:=by omega
  have d:x.cs[k]?=some x.cs[k]:=ba c;have e:y.cs[k]?=some (y.cs[k]'(by omega)):=ba (by omega);have f:=hf.ch k _ _ d e;generalize x.cs[k]=a at d f;generalize(y.cs[k]'(by omega))=b at e f;refine dO h6 (by omega) k rfl c d (J.go (dO h6 (by omega) k rfl (by omega) e ?_));unfold aJ;exact XF f (J.go (aD rfl (g c _ rfl)))
 ·exact af I
end
end
section
open Go.XS Go.bn
structure jN where
 o:Op
 ref:Int
abbrev gE(v:jN):aB:=[D v.o.kind,D v.o.a,D v.o.b,D v.o.c,.string ⟨v.o.text.toArray⟩,D v.ref]
def AK(v:jN):(gE v).length=6:=rfl
def qw(s:Setup):Bool:=!(decide (12<s.c/\s.c<=1048576)||decide (256<s.z/\s.z<=1048576))
def m'(v:jN)(nums:aO):Op:=if 0<v.ref/\v.ref<=(nums.length:Int)then{v.o with a:=nums.getD (v.ref-1).toNat 0}else v.o
section
variable {B:Heap}{H H0:au}{K:aK}{s:Setup}{n:Int}{q:aw}{l c:Nat}
def JD{p:aw}{ys:aB}{s j:Nat}[h:Rd B H p ys]{x:ByteArray}{f:ByteArray->HP}(i:Nat)(b:n=(i:Int))(hl:i<l)(hc:ys[i*s+j]?=some (.string x))(t:T B H (f x)):T B H (Fy p l n s j f):=by
 subst b;have hi:i*s+j<ys.length:=(b0.1 hc).1;refine nw h.rd (by omega) λa ha=>bj ⟨by omega,by omega⟩ ?_;subst ha;rw[a7,add_add];intro σ o;rcases h.rd σ o with⟨h,_⟩|⟨a',h,c⟩
 ·cases h
 ·cases h
  exact⟨x,(c _ hi).trans hc,t σ o⟩
def U4(I:T B H (K (D (if qw s then 1 else 0)))):T B H (ab P 16 #[.agg (cx s)] K):=by
 apply an (Nl _);unfold qw at I;refine Sa.go λaa=>?_;repeat' first|apply J.go|refine S2.go (λ_=>?_) λ_=>?_|done
 all_goals (first
  |(rw[cB (by omega)]at I;exact af I)
  |(rw[cD (by omega),cD (by omega)]at I;exact af I)
  |(rw[cB (p:=256<s.z/\s.z<=1048576) (by omega),Bool.or_true]at I;exact af I))
def FK{v:jN}{nums:aO}[hr:Rd B H q (iv .i64 nums)](hl:l=nums.length)(hlen:l<1000000)(e:aF v.ref)(I:T B H (K (.agg (b8 (m' v nums))))):T B H (ab P 21 #[.agg (gE v).toArray,.slice q l c] K):=by
 subst hl;apply an (Nk _ _ _ _);unfold m' at I;unfold aF at e;refine Sa.go λaa=>Sa.go λaj=>?_;refine iS (b:=aa) (cs:=(gE v).toArray) (ds:=b8 v.o) rfl ?_ ?_
 ·intro j f
  obtain rfl|rfl|rfl|rfl|rfl:j=0\/j=1\/j=2\/j=3\/j=4:=by omega
  all_goals rfl
 rw[show gE v=[D v.o.kind,D v.o.a,D v.o.b,D v.o.c,.string ⟨v.o.text.toArray⟩,D v.ref]from rfl];refine Sa.go λg=>?_;repeat' first|apply J.go|refine S2.go (λ_=>?_) λ_=>?_|refine Sc.go (by first|rfl|exact⟨rfl,rfl⟩) ?_|done
 ·have d:nums[(v.ref-1).toNat]?=some (nums[(v.ref-1).toNat]'(by omega)):=ba _
  rw[ah (by omega),ei,d]at I;generalize(nums[(v.ref-1).toNat]'(by omega))=w at d I;rw[bd (by omega)];refine e1 (v.ref-1).toNat (by omega) (by omega) d ?_;repeat first|apply J.go|refine Sc.go (by first|rfl|exact⟨rfl,rfl⟩) ?_
  exact af I
 ·rw[ak (by omega)]at I
  exact af I
 ·rw[ak (by omega)]at I
  exact af I
def aak{ls:List jN}[hr:Rd B H q (ls.flatMap gE)](hl:l=ls.length)(r:n<=1000)(h0:T B H (K (.bool false)))(U:(ls.length:Int)<=n->qw s=true->(∀v∈ls,v.o.text.length<=9000)->T B H (K (.bool true))):T B H (ab P 5 #[.agg (cx s),.slice q l c,D n] K):=by
 subst hl;apply an (SG _ _ _ _ _);refine Sa.go λaa=>?_;apply J.go;refine S2.go (λ_=>af h0) λt=>?_;apply bI (b:=aa) (cs:=cx s) rfl;unfold aU;refine U4 (J.go (S2.go (λ_=>af h0) λhs=>?_));have hs:qw s=true:=by cases h:qw s;(rw[h]at hs;simp at hs);rfl
 refine J.go (cF ls.length (by omega) (λk Y=>Y=cl aa (cx s)::H/\∀j v,j<k->ls[j]?=some v->v.o.text.length<=9000) ⟨rfl,by simp⟩ ?_);rintro k Y R w ⟨rfl,i⟩ m;refine S2.go (λ_=>?_) λ_=>?_
 ·have a:k<ls.length:=by omega
  have d:ls[k]?=some ls[k]:=ba a;generalize ls[k]=v at d;refine JD k rfl a (dW AK ls k v d 4 (by omega)) (S2.go (λ_=>af h0) λx=>m a _ ⟨rfl,λj u f g=>?_⟩);by_cases e:j=k
  ·subst e
   rw[d]at g;cases g;have:(ByteArray.mk v.o.text.toArray).size=v.o.text.length:=by simp[ByteArray.size]
   omega
  ·exact i j u (by omega) g
 ·have e:k=ls.length:=by omega
  subst e;refine af (U (by omega) hs λv p=>?_);obtain⟨j,f,rfl⟩:=qH p;exact i j _ f (ba f)
end
structure HX where
 mb:Nat
 p1:aw
 c1:Nat
 p2:aw
 c2:Nat
 p3:aw
 c3:Nat
 cl:aO
 rt:List (Int×Int)
abbrev o5(v:Int×Int):aB:=[D v.1,D v.2]
abbrev hC(nums:aO)(x:HX):ax:=#[pz x.mb,.slice x.p1 nums.length x.c1,.slice x.p2 x.cl.length x.c2,.slice x.p3 x.rt.length x.c3]
abbrev hL(b:Nat)(M:bB)(nums:aO)(x:HX)(H:au):au:=cl b (hC nums x)::ai 1 x.p1 nums.length x.c1 (iv .i64 nums)::ai 1 x.p2 x.cl.length x.c2 (iv .i64 x.cl)::ai 2 x.p3 x.rt.length x.c3 (x.rt.flatMap o5)::bC x.mb M::H
end
section
open Go.XS Go.bn
structure jN.Fit(v:jN):Prop where
 k:aF v.o.kind
 a:aF v.o.a
 b:aF v.o.b
 c:aF v.o.c
 r:aF v.ref
 t:v.o.text.length<=9000
def G2{v:jN}{nums:aO}(d:v.Fit)(e:∀n∈nums,aF n):(m' v nums).Fit:=by
 unfold m';split
 ·refine⟨?_,d.b,d.c,by have:=d.t;simp only;omega⟩
  show aF (nums.getD _ 0);rw[ei]
  cases h:nums[(v.ref-1).toNat]? with
  |none=>exact by decide
  |some y=>exact e y (cz h)
 ·exact⟨d.a,d.b,d.c,by have:=d.t;omega⟩
section
variable {B:Heap}{H H0:au}{K:aK}{n:Int}{q:aw}{l c:Nat}
instance ac1:gl P 38 2:=gl.of (e:=81) (by kernel_rfl)
abbrev nW(R:e7)(w:Int)(p:aw)(c:Nat):ax:=#[D R.e,D (R.n w),.slice p R.list.length c,.string ⟨R.text.toArray⟩]
abbrev ib:ax:=#[D 0,D 0,.slice none 0 0,.string ⟨#[]⟩]
def aah{d N:Nat}{M:bB}{nums:aO}{x:HX}{v:jN}(F:M.Fit)(G:v.Fit)(V:∀n∈nums,aF n)(Z:N<1000000)(n1:nums.length<=N)(n2:x.cl.length<=N)(n3:x.rt.length<=N)(I:∀f w z cs,0<=w/\w<=9223372036854775807->(z=nums\/z=nums++[(M.da (m' v nums)).n w])->f.cl.length<=N+1->f.rt.length<=N+1->T B (hL d (M.da (m' v nums)).M z f H) (K (.agg cs))):T B (hL d M nums x H) (ab P 9 #[pz d,.agg (gE v).toArray] K):=by
 apply an (SD _ _);refine Sa.go λaa=>Sa.go λaj=>?_;have hr:=G.r;refine dV (α:=Nat) (λk=>cl k (b8 (m' v nums))::cl aa (gE v).toArray::cl aj ib::hL d M nums x H) (λk=>[.pointer (some (ag k 0))]) (λm body=>?_) λe=>?_
 ·apply J.go
  apply bI (b:=aa) (cs:=(gE v).toArray) rfl;apply J.go;unfold bH;refine fO ?_ ?_
  ·apply FK (nums:=nums) rfl (by omega) hr
   refine J.go (Sa.go λk=>?_);have hC:bY B (cl k (#[D 0,D 0,D 0,D 0,.string ⟨#[]⟩])::cl aj ib::cl aa (gE v).toArray::hL d M nums x H) aa (gE v).toArray:=inferInstance;apply J.go;refine fF (λσ o=>⟨_,rfl,rfl,λj A=>?_⟩) ?_
   ·rw[aQ,hC.cell o,bJ]
   refine Sc.go ⟨rfl,rfl⟩ ?_;exact af (body k)
  ·refine Sa.go λk=>?_
   have hC:bY B (cl k (#[D 0,D 0,D 0,D 0,.string ⟨#[]⟩])::cl aj ib::cl aa (gE v).toArray::hL d M nums x H) aa (gE v).toArray:=inferInstance;apply J.go;refine fF (λσ o=>⟨_,rfl,rfl,λj A=>?_⟩) ?_
   ·rw[aQ,hC.cell o,bJ]
   apply FK (nums:=nums) rfl (by omega) hr;repeat first|apply J.go|refine Sc.go ⟨rfl,rfl⟩ ?_
   exact af (body k)
 have C:=G2 G V;generalize nF:m' v nums=O at I C;apply J.go;refine dV (α:={y:Nat×Int×aw×Nat//0<=y.2.1/\y.2.1<=9223372036854775807}) (λy=>cl y.1.1 (nW (M.da O) y.1.2.1 y.1.2.2.1 y.1.2.2.2)::cl e (b8 O)::cl aj ib::hL d (M.da O).M nums x H) (λy=>[.pointer (some (ag y.1.1 0))]) (λm body=>?_) λ⟨⟨g,w,p,c⟩,hw⟩=>?_
 ·refine J.go (J.go (J.go ?_))
  apply bI (b:=e) (cs:=b8 O) rfl;unfold bH;refine fO ?_ ?_
  ·refine af (H':=bC x.mb M::cl e (b8 O)::cl aj ib::cl d (hC nums x)::ai 1 x.p1 nums.length x.c1 (iv .i64 nums)::ai 1 x.p2 x.cl.length x.c2 (iv .i64 x.cl)::ai 2 x.p3 x.rt.length x.c3 (x.rt.flatMap o5)::H) ?_
   refine AO F C λw p c hw=>?_;refine J.go (Sa.go λk=>?_);have E:bY B (cl k ib::ai 1 p (M.da O).list.length c (iv .i64 (M.da O).list)::bC x.mb (M.da O).M::cl e (b8 O)::cl aj ib::cl d (hC nums x)::ai 1 x.p1 nums.length x.c1 (iv .i64 nums)::ai 1 x.p2 x.cl.length x.c2 (iv .i64 x.cl)::ai 2 x.p3 x.rt.length x.c3 (x.rt.flatMap o5)::H) e (b8 O):=inferInstance;refine fF (λσ o=>⟨_,rfl,rfl,λj A=>?_⟩) ?_
   ·rw[aQ,E.cell o,bJ]
   repeat first|apply J.go|refine Sc.go ⟨rfl,rfl⟩ ?_
   exact af (body ⟨(k,w,p,c),hw⟩)
  ·refine Sa.go λk=>?_
   have E:bY B (cl k ib::cl e (b8 O)::cl aa (gE v).toArray::cl aj ib::hL d M nums x H) e (b8 O):=inferInstance;refine fF (λσ o=>⟨_,rfl,rfl,λj A=>?_⟩) ?_
   ·rw[aQ,E.cell o,bJ]
   apply J.go;refine af (H':=bC x.mb M::cl k ib::cl e (b8 O)::cl aj ib::cl d (hC nums x)::ai 1 x.p1 nums.length x.c1 (iv .i64 nums)::ai 1 x.p2 x.cl.length x.c2 (iv .i64 x.cl)::ai 2 x.p3 x.rt.length x.c3 (x.rt.flatMap o5)::H) ?_;refine AO F C λw p c hw=>?_;repeat first|apply J.go|refine Sc.go ⟨rfl,rfl⟩ ?_
   exact af (body ⟨(k,w,p,c),hw⟩)
 simp only;generalize ac:M.da O=R at I;simp only at hw;apply J.go;refine dV (α:={y:HX×aO//(y.2=nums\/y.2=nums++[R.n w])/\y.1.cl=x.cl/\y.1.rt=x.rt}) (λy=>cl g (nW R w p c)::cl e (b8 O)::cl aj ib::hL d R.M y.1.2 y.1.1 H) (λ_=>[]) (λm body=>?_) λ⟨⟨x2,i⟩,L,l,u⟩=>?_
 ·have q:T B (cl g (nW R w p c)::cl e (b8 O)::cl aj ib::hL d R.M nums x H) (m []):=body ⟨(x,nums),.inl rfl,rfl,rfl⟩
  refine dV (α:=Bool) (λ_=>cl g (nW R w p c)::cl e (b8 O)::cl aj ib::hL d R.M nums x H) (λb=>[.bool b]) (λQ h=>?_) λb=>?_
  ·refine J.go (S2.go (λ_=>?_) λ_=>?_)
   ·apply J.go
    exact h _
   ·exact h _
  ·apply J.go
   cases b
   ·exact aD rfl q
   ·apply bk rfl
    refine J.go (J.go (J.go (J.go ?_)));refine Sa.go λS=>?_;apply J.go;refine e0 (s:=1) rfl (by omega) λt c'=>?_;apply J.go;have:=body ⟨({x with p1:=t,c1:=c'},nums++[R.n w]),.inr rfl,rfl,rfl⟩;dsimp only[hL,hC]at this;rw[show iv .i64 (nums++[R.n w])=iv .i64 nums++#[D (R.n w)].toList from by simp[iv],show(nums++[R.n w]).length=nums.length+1 from by simp]at this;exact af this
 simp only at L l u⊢;have n4:x2.cl.length<=N:=by rw[l];exact n2
 have rz:x2.rt.length<=N:=by rw[u];exact n3
 have W:∀f cs,f.cl.length<=N+1->f.rt.length<=N+1->T B (hL d R.M i f H) (K (.agg cs)):=λf cs=>I f w i cs hw L;clear I l u;apply J.go;refine dV (α:={y:HX//y.cl.length<=N+1/\y.rt.length<=N}) (λy=>cl g (nW R w p c)::cl e (b8 O)::cl aj ib::hL d R.M i y.1 H) (λ_=>[]) (λm body=>?_) λ⟨x3,l,u⟩=>?_
 ·have q:T B (cl g (nW R w p c)::cl e (b8 O)::cl aj ib::hL d R.M i x2 H) (m []):=body ⟨x2,by omega,rz⟩
  refine dV (α:=Bool) (λ_=>cl g (nW R w p c)::cl e (b8 O)::cl aj ib::hL d R.M i x2 H) (λb=>[.bool b]) (λQ h=>?_) λb=>?_
  ·refine J.go (S2.go (λ_=>?_) λ_=>?_)
   ·apply J.go
    exact h _
   ·exact h _
  ·apply J.go
   cases b
   ·exact aD rfl q
   ·apply bk rfl
    refine J.go (J.go (J.go (J.go ?_)));refine Sa.go λS=>?_;apply J.go;refine e0 (s:=1) rfl (by omega) λt c'=>?_;apply J.go;have:=body ⟨{x2 with p2:=t,c2:=c',cl:=x2.cl++[R.n w]},by simp;omega,rz⟩;dsimp only[hL,hC]at this;rw[show iv .i64 (x2.cl++[R.n w])=iv .i64 x2.cl++#[D (R.n w)].toList from by simp[iv],show(x2.cl++[R.n w]).length=x2.cl.length+1 from by simp]at this;exact af this
 apply J.go;simp only
 have U:∀f,f.cl.length<=N+1->f.rt.length<=N+1->T B (cl g (nW R w p c)::cl e (b8 O)::cl aj ib::hL d R.M i f H) (jX (some ⟨g,0,none⟩) 0 4 λX=>gW (ag aj 0) X 4 (eY (ag aj 0) 4 λY=>K (Value.agg Y))):=by
  intro f a b;unfold jX;apply J.go;apply bI (b:=g) (cs:=nW R w p c) rfl;repeat refine Sc.go (by first|rfl|exact⟨rfl,rfl⟩) ?_
  exact af (W f _ a b)
 have q:=U x3 l (by omega);refine dV (α:=Bool) (λ_=>cl g (nW R w p c)::cl e (b8 O)::cl aj ib::hL d R.M i x3 H) (λb=>[.bool b]) (λQ h=>?_) λb=>?_
 ·refine J.go (S2.go (λ_=>?_) λ_=>?_)
  ·apply J.go
   exact h _
  ·exact h _
 ·apply J.go
  cases b
  ·exact aD rfl q
  ·apply bk rfl
   refine J.go (J.go (J.go (J.go (J.go (J.go ?_)))));apply bj rfl;refine Sa.go λS=>?_;apply J.go;refine e0 (s:=2) rfl (by omega) λt c'=>?_;apply J.go;have:=U {x3 with p3:=t,c3:=c',rt:=x3.rt++[(O.a,R.n w)]} l (by simp;omega);dsimp only[hL,hC]at this;rw[show(x3.rt++[(O.a,R.n w)]).flatMap o5=x3.rt.flatMap o5++#[D O.a,D (R.n w)].toList from by simp[o5],show(x3.rt++[(O.a,R.n w)]).length=x3.rt.length+1 from by simp]at this;exact af this
end
end
section
open Go.XS Go.bn
structure a8.Fo(W:a8):Prop where
 sl:W.F.S.Ok
 b6:W.F.S.b6.length=4096
 op:∀p:Nat,W.F.S.b7 p=true↔∃k,p∈W.F.ls k
 nd:∀k,(W.F.ls k).Nodup
 mH:∀k k' n,n∈W.F.ls k->n∈W.F.ls k'->k=k'
 wF:∀k n,n∈W.F.ls k->k<4097/\n<4096
 deep:∀p:Nat,W.F.S.b7 p=true->deep W.F.ls W.bw p
 nil:∀m:Nat,m<4096->W.F.S.b7 m=false->W.F.ls m=[]
structure Basic(M:bB):Prop where
 inv:M.X.S.Inv
 av:M.X.L.av.Ok
 sl:M.X.L.av.aX.Ok
 tk:M.X.T.Ok
 lU:M.X.R.line.xs.Nodup
 lin:∀i∈M.X.R.line.xs,0<=i/\i<(M.X.R.line.n:Int)
 ln:M.X.R.line.n<=1048576
 nx:0<=M.X.R.line.next
 gw:1<=M.X.R.gw/\M.X.R.gw<=1048576
 rl:M.W.Fo
 vs:bS M.V.all
 Ia:∀e∈M.V.all,e.2.Ok M.V.bw/\0<=e.1/\e.1<=1048575
section
variable {B:Heap}{H H0:au}{b:Nat}{M:bB}{q:HP}
def ZC{S:aH}(t:S.Inv->T B (cj b S::H) q):T B (cj b S::H) q:=pf λx ok=>hT x ok (t ok.inv)
def Xw{R:Rec}{sb:Nat}(t:R.line.xs.Nodup->(∀i∈R.line.xs,0<=i/\i<(R.line.n:Int))->R.line.n<=1048576->0<=R.line.next->(1<=R.gw/\R.gw<=1048576)->T B (dC b sb R::H) q):T B (dC b sb R::H) q:=by refine qn λx ok=>aN (hB x.lb) (uN λy a=>?_);refine af (H':=xt x.lb R.line y (cl b #[pz x.tb,pz sb,pz x.lb,pz x.mb,pz x.kb,D R.gw]::e2 x.tb x.xs::cl x.mb (gi x.wm)::eC x.kb 2 [R.dx,x.f]::H)) (nK y a ?_);exact af (H':=vg b sb R x H) (mZ x ok (t a.nd a.xs a.n a.next ok.gw))
def aat{T':a6}(t:T'.Ok->T B (dE b T'::H) q):T B (dE b T'::H) q:=tu λx ok=>mg x ok (t ok)
def Vw{V:Lv}(t:bS V.all->(∀e∈V.all,e.2.Ok V.bw/\0<=e.1/\e.1<=1048575)->T B (cL b V::H) q):T B (cL b V::H) q:=by
 refine qf λx ok=>k0 x ok (t ?_ ?_)
 ·rw[ok.all];exact rQ ok.bV
 ·intro e he
  rw[ok.all]at he;unfold eg at he;obtain⟨a,ha,rfl⟩:=bQ.1 he;exact ok.ok a ha
def aam{W:a8}(t:W.Fo->T B (cK b W::H) q):T B (cK b W::H) q:=by refine tt λU a c d e f=>lq λx ok=>jd x ok (t ⟨U,a,c,d,e,f,ok.deep,ok.nil⟩)
def xy(t:Basic M->T B (bC b M::H) q):T B (bC b M::H) q:=by refine gO λx=>aN (bR x.dj) (fg λy a=>?_);refine aN (bx y.lb) (uJ λU c=>?_);refine aN (cj y.sb) (ZC λd=>?_);refine aN (dC y.rb y.sb) (Xw λe f g h i=>?_);refine aN (dE y.tb) (aat λj=>?_);refine af (H':=ew x.dj M.X y (cl b (ju M.s x)::cK x.tb M.W::cL x.pb M.V::H)) (dB y a ?_);refine aN (cK x.tb) (aam λk=>?_);refine aN (cL x.pb) (Vw λl gr=>?_);exact af (H':=k1 b M x H) (eE x (t ⟨d,U,c,j,e,f,g,h,i,k,l,gr⟩))
end
end
section
open Go.XS Go.bn
structure wh(s:Setup)(c9:Nat->bB->Prop):Prop where
 new:∀(n m q:Nat),s.c=n->s.z=m->s.q=q->1<=n->n<=12->64<=m->m<=256->1<=q->q<=1048576->c9 0 ⟨s,aL.new n m q,a8.new,Lv.new⟩
 fit:∀k M,k<=60->Basic M->c9 k M->M.Fit
 snd:∀k M,k<=60->Basic M->c9 k M->ik s M.snap/\(∀m∈M.snap.ms,m.2.held+m.2.cf<=m.2.dG)/\∀(i:Nat) c,M.snap.cs[i]?=some c->c.ph<=2
 step:∀k M o,k<60->Basic M->Basic (M.da o).M->c9 k M->o.Fit->o.text.length<=9000->c9 (k+1) (M.da o).M/\za M.snap (M.da o).M.snap/\∀w,0<=w/\w<=9223372036854775807->aF ((M.da o).n w)
abbrev DD(B:Heap):Prop:=∀{H:au} {K:aK},T B H (K (.bool true))->T B H (ab P 6 #[] K)
structure Kept(c9:Nat->bB->Prop)(k:Nat)(M:bB)(nums:aO)(x:HX):Prop where
 i:c9 k M
 b:Basic M
 n:∀n∈nums,aF n
 l1:nums.length<=k
 l2:x.cl.length<=k
 l3:x.rt.length<=k
def Xz{v:jN}{nums:aO}:(m' v nums).text=v.o.text:=by unfold m';split<;>rfl
section
variable {B:Heap}{H H0:au}{K:aK}{n:Int}{q:aw}{l c:Nat}{s:Setup}{c9:Nat->bB->Prop}{ls:List jN}
def FE{e k:Nat}{M:bB}{nums:aO}{x:HX}{v:jN}(g:wh s c9)(m:k<60)(a:Kept c9 k M nums x)(f:v.Fit)(I:∀M' d c cs,Kept c9 (k+1) M' d c->za M.snap M'.snap->T B (hL e M' d c H) (K (.agg cs))):T B (hL e M nums x H) (ab P 9 #[pz e,.agg (gE v).toArray] K):=by
 have nF:=G2 f a.n;refine aah (g.fit k M (by omega) a.b a.i) f a.n (by omega) a.l1 a.l2 a.l3 λc w d cs hw j o p=>aN (bC c.mb) (xy λl=>?_);obtain⟨q,i2,i3⟩:=g.step k M (m' v nums) m a.b l a.i nF (by rw[Xz];exact f.t);refine af (I _ d c cs ⟨q,l,?_,?_,o,p⟩ i2)
 ·rcases j with rfl|rfl
  ·exact a.n
  ·intro y r
   rcases dL.1 r with h|h
   ·exact a.n y h
   ·rw[fB.1 h];exact i3 w hw
 ·have:=a.l1
  rcases j with rfl|rfl
  ·omega
  ·simp;omega
def Zk(h:qw s=true):(s.c<=1048576->s.c<=12)/\(s.z<=1048576->s.z<=256):=by unfold qw at h;simp only[ml,tC,fN]at h;omega
def aaj[hr:Rd B H q (ls.flatMap gE)](f:wh s c9)(hs:qw s=true)(hl:l=ls.length)(hlen:ls.length<=60)(hf:∀v∈ls,v.Fit)(h0:∀p,T B H (K (.tuple #[.pointer p,.bool false])))(U:∀g M nums x,Kept c9 ls.length M nums x->T B (hL g M nums x H) (K (.tuple #[pz g,.bool true]))):T B H (ab P 7 #[.agg (cx s),.slice q l c] K):=by
 subst hl;apply an (SF _ _ _ _);refine Sa.go λaa=>?_;apply bI (b:=aa) (cs:=cx s) rfl;unfold iZ;refine F0 (λh=>?_) λn m q' b r t u w N y O A C=>?_
 ·repeat first|apply J.go|refine Sa.go λ_=>?_|refine bk (by with_reducible decide) ?_
  exact af (h0 _)
 ·have Q:=Zk hs
  have hi:=f.new n m q' r t u w (by omega) y (by omega) A C;apply J.go;apply J.go;apply aD rfl;apply aD rfl;apply J.go;refine Sa.go λa=>?_;refine dR 1 ?_;refine dR 1 ?_;refine dR 2 ?_;refine af (H':=cl a #[pz b,.slice none 0 0,.slice none 0 0,.slice none 0 0]::ai 1 none 0 0 []::ai 1 none 0 0 []::ai 2 none 0 0 []::bC b ⟨⟨s.c,s.z,s.q,s.l⟩,aL.new n m q',a8.new,Lv.new⟩::cl aa (cx s)::H) ?_;show T B (hL a ⟨s,aL.new n m q',a8.new,Lv.new⟩ [] ⟨b,none,0,none,0,none,0,[],[]⟩ (cl aa (cx s)::H)) _;refine aN (bC b) (xy λD=>?_);refine af (H':=hL a ⟨s,aL.new n m q',a8.new,Lv.new⟩ [] ⟨b,none,0,none,0,none,0,[],[]⟩ (cl aa (cx s)::H)) (cF ls.length (by omega) (λk Y=>∃M nums x,Kept c9 k M nums x/\Y=hL a M nums x (cl aa (cx s)::H)) ⟨⟨s,aL.new n m q',a8.new,Lv.new⟩,[],⟨b,none,0,none,0,none,0,[],[]⟩,⟨hi,D,by simp,by simp,by simp,by simp⟩,rfl⟩ ?_);rintro k Y R S ⟨M,nums,x,i,rfl⟩ E;refine S2.go (λI=>?_) λI=>?_
  ·have d:k<ls.length:=by omega
   have j:ls[k]?=some ls[k]:=ba d;have o:=hf _ (dz d);generalize ls[k]=v at j o;apply dO AK (by omega) k rfl d j;unfold bH;exact FE f (by omega) i o λM' F G cs L _=>J.go (E d _ ⟨M',F,G,L,rfl⟩)
  ·have e:k=ls.length:=by omega
   subst e;exact af (U a M nums x i)
def F2(cs:List bA)(h:∀(i:Nat) c,cs[i]?=some c->c.ph<=2):cC cs 0+cC cs 1+cC cs 2=cs.length:=by
 have h:∀c∈cs,c.ph<=2:=λc hc=>by obtain⟨i,hi,rfl⟩:=qH hc;exact h i _ (ba hi)
 unfold cC
 induction cs with
 |nil=>rfl
 |cons c cs a=>
  have U:=h c kG;have:=a (by intro i c hc;exact h c (iJ _ (cz hc))) λc hc=>h c (iJ _ hc);simp only[py,dd];obtain e|e|e:c.ph=0\/c.ph=1\/c.ph=2:=by omega
  all_goals (rw[e];simp;omega)
def aai[hr:Rd B H q (ls.flatMap gE)](y:wh s c9)(aj:DD B)(hl:l=ls.length)(hf:∀v∈ls,aF v.o.kind/\aF v.o.a/\aF v.o.b/\aF v.o.c/\aF v.ref)(I:T B H (K (.bool true))):T B H (ab P 3 #[.agg (cx s),.slice q l c] K):=by
 subst hl;apply an (SE _ _ _ _);refine Sa.go λaa=>?_;apply bI (b:=aa) (cs:=cx s) rfl;unfold aJ;have ak:∀{H':au},T B H' (K (.bool true))->T B H' (ab P 6 #[] λv=>dv v λb=>K (.bool b)):=λh=>aj (J.go h);have L:∀{H':au} [Sb H' H],T B H' (ab P 6 #[] λv=>dv v λb=>K (.bool b)):=λ{H'} _=>ak (af I);refine aak rfl (by omega) ?_ λax hs al=>?_
 ·repeat apply J.go
  exact L
 have am:∀v∈ls,v.Fit:=λv A=>by obtain⟨a,b,c,d,e⟩:=hf v A;exact⟨a,b,c,d,e,al v A⟩
 refine J.go (aD rfl (bI (b:=aa) (cs:=cx s) rfl ?_));unfold Eg;refine aaj (ls:=[]) (q:=none) y hs rfl (by simp) (by simp) (λp=>?_) λg M nums x r=>?_
 ·refine J.go (cF 1 (by omega) (λk Y=>Y=cl aa (cx s)::H) rfl ?_)
  rintro k Y R ao rfl S;refine dV (α:=Empty) (λ_=>[]) (λ_=>[]) (λU _=>?_) λe=>e.elim;exact aD rfl L
 refine J.go (cF ls.length (by omega) (λk Y=>∃M nums x,Kept c9 k M nums x/\Y=hL g M nums x (cl aa (cx s)::H)) ⟨M,nums,x,r,rfl⟩ ?_);clear r;rintro k Y R ao ⟨M,nums,x,r,rfl⟩ S;refine dV (α:={u:Unit//k<ls.length}) (λ_=>hL g M nums x (cl aa (cx s)::H)) (λ_=>[]) (λU body=>?_) λ⟨_,E⟩=>?_
 ·refine bk rfl (S2.go (λh=>?_) λh=>?_)
  ·exact body ⟨(),by omega⟩
  ·exact L
 have A:ls[k]?=some ls[k]:=ba E;have V:=am _ (dz E);generalize ls[k]=v at A V;have W:=y.snd k M (by omega) r.b r.i;have ac:=y.fit k M (by omega) r.b r.i;refine J.go (J.go ?_);unfold bH;refine af (H':=bC x.mb M::cl g (hC nums x)::ai 1 x.p1 nums.length x.c1 (iv .i64 nums)::ai 1 x.p2 x.cl.length x.c2 (iv .i64 x.cl)::ai 2 x.p3 x.rt.length x.c3 (x.rt.flatMap o5)::cl aa (cx s)::H) (uR ⟨ac.mh,ac.qA⟩ λX=>J.go (Sa.go λF=>?_));refine Sc.go ⟨rfl,rfl⟩ (dO AK (by omega) k rfl E A (af (H':=hL g M nums x (cl F (b' M.snap X)::ai 3 X.p1 M.snap.cs.length X.c1 (M.snap.cs.flatMap dc)::cl aa (cx s)::H)) (FE y (by omega) r V λM' t f cs C N=>?_)));have O:=y.snd (k+1) M' (by omega) C.b C.i;have ad:=y.fit (k+1) M' (by omega) C.b C.i;refine J.go (J.go ?_);refine af (H':=bC f.mb M'::cl g (hC t f)::ai 1 f.p1 t.length f.c1 (iv .i64 t)::ai 1 f.p2 f.cl.length f.c2 (iv .i64 f.cl)::ai 2 f.p3 f.rt.length f.c3 (f.rt.flatMap o5)::cl F (b' M.snap X)::ai 3 X.p1 M.snap.cs.length X.c1 (M.snap.cs.flatMap dc)::cl aa (cx s)::H) (uR ⟨ad.mh,ad.qA⟩ λY=>J.go (Sa.go λD=>?_));refine Sc.go ⟨rfl,rfl⟩ ?_;have ae:=F2 M'.snap.cs;have z:=O.1;have Q:=O.2;have ap:=z.n1;have aq:=z.n3;have ag:=W.1.n1;have ar:=z.c1;generalize M.snap=x0 at N W ag;generalize M'.snap=x1 at N z Q ap aq ar O ae;refine af (H':=cl D (b' x1 Y)::cl F (b' x0 X)::ai 3 X.p1 x0.cs.length X.c1 (x0.cs.flatMap dc)::iG x1 Y (hL g M' t f (cl aa (cx s)::H))) (bW rfl (G4 rfl (by omega) (J.go (Sa.go λay=>?_))));refine Sc.go ⟨rfl,rfl⟩ (dV (α:=Unit) (λ_=>cl D (b' x1 Y)::iG x1 Y (hL g M' t f (cl aa (cx s)::H))) (λ_=>[]) (λU body=>?_) λ_=>?_)
 ·refine bI (b:=aa) (cs:=cx s) rfl (bI (b:=D) (cs:=b' x1 Y) rfl ?_)
  unfold aU;refine XT z (J.go (aD rfl (bI (b:=F) (cs:=b' x0 X) rfl (bI (b:=D) (cs:=b' x1 Y) rfl (XR ag N (J.go (aD rfl (bj (by omega) (a1 rfl (bj (by omega) (a1 rfl (bj (by omega) (a1 rfl (a1 rfl ?_))))))))))))));have az:=ae (λi c hc=>Q.2 i c hc);rw[kC (n:=(cC x1.cs 0:Int)+cC x1.cs 1) (by omega) (by omega),bd (by omega)];apply aD (by simp;omega);exact af (body ())
 refine J.go (cF x1.ms.length (by omega) (λj Z=>Z=cl D (b' x1 Y)::iG x1 Y (hL g M' t f (cl aa (cx s)::H))) rfl ?_);rintro j Z aA aB rfl av;repeat' first|apply J.go|refine S2.go (λ_=>?_) λ_=>?_|done
 ·have w:j<x1.ms.length:=by omega
  have hm:x1.ms[j]?=some x1.ms[j]:=ba w;have ah:=dz w;have aw:=Q.1 _ ah;have G:=(z.me _ ah).2.2.1;generalize x1.ms[j]=m at hm aw G;have aC:0<=m.2.held/\m.2.held<=1048576/\0<=m.2.cf/\m.2.cf<=1048576:=by unfold bZ at G;simp only[bz]at G;omega
  refine eA j rfl w (dW eP x1.ms j m hm 2 (by omega)) (J.go (eA j rfl w (dW eP x1.ms j m hm 3 (by omega)) (J.go (eA j rfl w (dW eP x1.ms j m hm 1 (by omega)) ?_))));rw[bd (by omega)];apply aD (by simp;omega);exact J.go (ua j rfl w hm (x7 G (J.go (aD rfl (av w _ rfl)))))
 ·exact af (S E _ ⟨M',t,f,C,rfl⟩)
end
end
section
open Go.XS Go.bn
def Aw{S:aH}(h:S.Inv):∃x,S.Ok x:=⟨⟨0,0,0,0,S.cs.map λc=>⟨c,0,none⟩,[],⟨S.many 0,S.many 1,S.many 2,0⟩⟩,by simp[nj,CD],by simp,rfl,rfl,rfl,rfl,by simp,h⟩
structure aH.Step(S S':aH)(i:Int)(c':bA):Prop where
 ok:S.ok i=true
 cs:S'.cs=S.cs.set i.toNat c'
 sz:S'.size=S.size
 cE:S'.br=S.br+1
 inv:S'.Inv
def aH.Inv.defer{S:aH}{i o:Int}(h:S.Inv)(h0:S.kk i o=0):S.Step (S.defer i o) i (oQ (S.at' i))/\(S.at' i).ph=1/\(S.at' i).own=o/\(S.defer i o).free=S.free:=by
 obtain⟨x,b⟩:=Aw h;have U:=h0;unfold aH.kk at U;split at U
 ·rename_i hi
  split at U
  ·rename_i a
   have:=(Ey b hi a.1 (q:=0) (ev':=[]) (by simp)).inv;have e:S.defer i o=⟨S.size,S.cs.set i.toNat (oQ (S.at' i)),S.free,S.br+1⟩:=by unfold aH.defer;rw[ah h0]
   rw[e];exact⟨⟨hi,rfl,rfl,rfl,this⟩,a.1,a.2,rfl⟩
  ·cases U
 ·cases U
def aH.Inv.fX{S:aH}{i:Int}(h:S.Inv)(hi:S.ok i=true)(a:(S.at' i).ph=2):S.Step (S.fX i) i (pX S (S.at' i)):=by obtain⟨x,b⟩:=Aw h;exact⟨hi,rfl,rfl,rfl,(Ii b hi a (q:=0) (ev':=[]) (by simp)).inv⟩
def aH.Inv.take{S:aH}{o:Int}(h:S.Inv)(hf:S.free≠[])(b:1<=o):S.Step (S.take o) S.du (pk S o (S.at' S.du))/\(S.at' S.du).ph=0:=by
 obtain⟨x,a⟩:=Aw h;obtain⟨U,c,d,f⟩:=B3 a hf;have:=(HV a hf b (q:=0) (ev':=[]) (by simp)).inv;have e:S.take o=⟨S.size,S.cs.set S.du.toNat (pk S o (S.at' S.du)),S.free.dropLast,S.br+1⟩:=by unfold aH.take;rw[ak hf]
 rw[e]at this⊢;exact⟨⟨U,rfl,rfl,rfl,this⟩,c⟩
def aH.Inv.cE{S:aH}{i:Int}(h:S.Inv)(hi:S.ok i=true):(S.at' i).ph<=2/\0<=(S.at' i).own/\((S.at' i).ph≠1->(S.at' i).own=0)/\((S.at' i).ph=1->1<=(S.at' i).own)/\0<=(S.at' i).gen/\(S.at' i).gen<=S.br:=by obtain⟨I,_,_⟩:=aH.hQ hi;obtain⟨a,b,c,d,e,f,_⟩:=h.ph _ (cz I);exact⟨a,b,c,d,e,f⟩
def eQ{S:aH}{i:Int}:S.ok i=true↔0<=i/\i<(S.cs.length:Int):=by unfold aH.ok;exact decide_eq_true_iff
section
variable {S S':aH}{i j:Int}{c':bA}
def aH.Step.len(h:S.Step S' i c'):S'.cs.length=S.cs.length:=by rw[h.cs,hg]
def aH.Step.gf(h:S.Step S' i c'):S'.ok j=S.ok j:=by unfold aH.ok;rw[h.len]
def aH.Step.sq(h:S.Step S' i c'):S'.at' i=c':=by have:=eQ.1 h.ok;unfold aH.at';rw[h.cs,ei,tK (by omega)];rfl
def aH.Step.jR(h:S.Step S' i c')(a:0<=j)(b:j≠i):S'.at' j=S.at' j:=by have:=eQ.1 h.ok;unfold aH.at';rw[h.cs,ei,oh (by omega),<-ei]
def aH.Step.count(h:S.Step S' i c')(f:bA->Bool):S'.cs.countP f+(if f (S.at' i)then 1 else 0)=S.cs.countP f+(if f c' then 1 else 0):=by rw[h.cs];exact Es f (aH.hQ h.ok).1
end
structure ef(S S':aH):Prop where
 len:S.cs.length=S'.cs.length
 ch:∀i,S.ok i=true->i6 (S.at' i) (S'.at' i)
def i6.refl{c:bA}(U:c.ph<=2)(a:0<=c.gen):i6 c c:=⟨by omega,by omega,a,by omega,λ_=>by omega,λ_ _ _=>rfl⟩
def i6.trans{a b c:bA}(U:i6 a b)(d:i6 b c):i6 a c:=by
 obtain⟨g,a2,a3,a4,a5,h⟩:=U;obtain⟨l,dJ,m,h5,f,i⟩:=d;refine⟨g,dJ,a3,by omega,λe=>?_,λe j k=>?_⟩
 ·have:=a5 (by omega);have:=f (by omega);omega
 ·have U:=a5 (by omega)
  have d:=f (by omega);exact(h (by omega) j (by omega)).trans (i (by omega) (by omega) k)
def ef.refl{S:aH}(h:S.Inv):ef S S:=⟨rfl,λi hi=>i6.refl (h.cE hi).1 (h.cE hi).2.2.2.2.1⟩
def ef.trans{S S' a:aH}(U:ef S S')(b:ef S' a):ef S a:=⟨U.len.trans b.len,λi hi=>(U.ch i hi).trans (b.ch i (by rw[eQ]at hi⊢;rw[<-U.len];exact hi))⟩
def aH.Step.eo{S S':aH}{i:Int}{c':bA}(h:S.Step S' i c')(hi:S.Inv)(hc:i6 (S.at' i) c'):ef S S':=by
 refine⟨h.len.symm,λj a=>?_⟩;by_cases e:j=i
 ·subst e;rw[h.sq];exact hc
 ·rw[h.jR (eQ.1 a).1 e]
  exact i6.refl (hi.cE a).1 (hi.cE a).2.2.2.2.1
def ef.eo{S S':aH}(h:ef S S')(i:Nat)(a b:bA)(ha:S.cs[i]?=some a)(c:S'.cs[i]?=some b):i6 a b:=by have hl:=(b0.1 ha).1;have:=h.ch (i:Int) (eQ.2 ⟨by omega,by omega⟩);unfold aH.at' at this;rw[ei,ei,a7,ha,c]at this;exact this
def Un{c:bA}(U:c.ph=1)(a:0<=c.gen):i6 c (oQ c):=⟨by omega,by simp,a,by simp,λ_=>by simp;omega,λ_ _ h=>by simp at h⟩
def Up{S:aH}{c:bA}(U:c.ph=2)(a:0<=c.gen):i6 c (pX S c):=⟨by omega,by simp,a,by simp only;omega,λh=>by simp only at h;omega,λh=>by simp only at h;omega⟩
def Uo{S:aH}{o:Int}{c:bA}(U:c.ph=0)(a:0<=c.gen):i6 c (pk S o c):=⟨by omega,by simp,a,by simp,λ_=>by simp;omega,λ_ h=>by omega⟩
def uZ{N:Nat}{l:aO}(h:l.Nodup)(c:∀i∈l,0<=i/\i<(N:Int)):l.length<=N:=by
 have U:(l.map Int.toNat).Nodup:=by apply mw.2;rw[lD];refine(mw.1 h).imp_of_mem λ{a b} ha d f e=>f ?_;have:=c a ha;have:=c b d;omega
 have:=nO N U λx g=>by obtain⟨a,ha,rfl⟩:=bQ.1 g;have:=c a ha;omega
 rwa [fe]at this
end
section
open Go.XS Go.bn
abbrev nh(m:Mem):NH:=(m.2.dG-m.2.held,m.2.held)
def jz(d:List Bool)(ms:List Mem):List NH:=((d.zip ms).filter λx=>!x.1).map λx=>nh x.2
def Hg(ms:List Mem):jz (List.replicate ms.length false) ms=ms.map nh:=by
 unfold jz
 induction ms with
 |nil=>rfl
 |cons m ms a=>simp only[dd,r4,vX,c4];rw[mr (by rfl),c4,a]
def Hi{d:List Bool}{ms:List Mem}{i:Nat}{m:Mem}(hd:d[i]?=some false)(hm:ms[i]?=some m):(jz d ms).Perm (nh m::jz (d.set i true) ms):=by
 induction d generalizing ms i with
 |nil=>cases hd
 |cons b d a=>
  cases ms with
  |nil=>cases hm
  |cons y ms=>
   cases i with
   |zero=>simp only[jF,iO]at hd hm;subst hd;subst hm;unfold jz;simp
   |succ i=>
    simp only[mu]at hd hm;have:=a hd hm;unfold jz at this⊢;simp only[vX,iK];cases b
    ·rw[mr (by rfl),mr (by rfl),c4,c4]
     exact(mm _ this).trans (cy _ _ _)
    ·rw[mq (by simp),mq (by simp)]
     exact this
def Hh{d:List Bool}{ms:List Mem}{x:NH}(h:x∈jz d ms):∃(i:Nat) (m:Mem),d[i]?=some false/\ms[i]?=some m/\x=nh m:=by unfold jz at h;obtain⟨⟨b,m⟩,U,rfl⟩:=bQ.1 h;obtain⟨c,a⟩:=pB.1 U;obtain⟨i,hi,he⟩:=qH c;have:=ba hi;rw[he,vS]at this;simp only[ml]at a;subst a;exact⟨i,m,this.1,this.2,rfl⟩
def BC{d:List Bool}{ms:List Mem}(h:d.length=ms.length):(jz d ms).length=d.count false:=by
 unfold jz;rw[fe]
 induction d generalizing ms with
 |nil=>rfl
 |cons b d a=>
  cases ms with
  |nil=>simp at h
  |cons m ms=>
   simp only[vX];have:=a (by simpa using h);cases b
   ·rw[mr (by rfl),dd,this];simp
   ·rw[mq (by simp),this];simp
def Wu{f:Int}{d:List Bool}{ms:List Mem}{i:Nat}{m:Mem}(h:fJ f d ms<0)(hd:d[i]?=some false)(hm:ms[i]?=some m):¬hP m<=f:=by unfold fJ at h;rw[uG]at h;have:=h (false,m) (cz (vS.2 ⟨hd,hm⟩));simpa using this
def A0{m:Mem}(h:bZ m.2=true):hP m=m.2.dG-m.2.held:=by unfold hP;rw[ah h]
def Ao{m:Mem}(h:bZ m.2=true):0<=m.2.held:=by unfold bZ at h;simp only[bz]at h;omega
def UB{ms:List Mem}(b:∀m∈ms,bZ m.2=true):∀(k:Nat) (f:Int) (d:List Bool),d.length=ms.length->d.count false<=k->bn.Ends f (jz d ms)->(kV ms k f d).length=d.count false:=by
 intro k
 induction k with
 |zero=>intro f d _ I _;unfold kV;simp;omega
 |succ k g=>
  intro f d hl I he;by_cases a:fJ f d ms<0
  ·rw[xc a]
   by_cases h0:jz d ms=[]
   ·rw[<-BC hl,h0];rfl
   ·obtain⟨x,c,h⟩:=bn.Ends.BQ he h0
    obtain⟨i,m,hd,hm,rfl⟩:=Hh c;have:=Wu a hd hm;rw[A0 (b m (cz hm))]at this;exact absurd h this
  ·rw[xb a]
   obtain⟨i,m,e,hd,hm,hf⟩:=A3 a;rw[e,a7,dd];have j:ms.getD i (0,eJ)=m:=by rw[ei,hm];rfl
   rw[j];have hr:=A0 (b m (cz hm))
   have l:∀x∈jz d ms,0<=x.2:=λx c=>by obtain⟨i,m,_,hm,rfl⟩:=Hh c;exact Ao (b m (cz hm))
   have n:=bn.Ends.take he l (nh m) _ (Hi hd hm) (by simp only;omega);have hc:=count_set hd;rw[g _ _ (by rw[hg];exact hl) (by omega) n];omega
def TU{ms:List Mem}(b:∀m∈ms,bZ m.2=true):∀(k:Nat) (f:Int) (d:List Bool),d.length=ms.length->d.count false<=(kV ms k f d).length->bn.Ends f (jz d ms):=by
 intro k
 induction k with
 |zero=>intro f d hl I;have:jz d ms=[]:=kF.1 (by rw[BC hl];unfold kV at I;simp at I;simpa using I);rw[this];exact .nil f
 |succ k c=>
  intro f d hl I;by_cases a:fJ f d ms<0
  ·rw[xc a]at I
   have:jz d ms=[]:=kF.1 (by rw[BC hl];simp at I;simpa using I);rw[this];exact .nil f
  ·rw[xb a]at I
   obtain⟨i,m,e,hd,hm,hf⟩:=A3 a;rw[e,a7,dd]at I;have g:ms.getD i (0,eJ)=m:=by rw[ei,hm];rfl
   rw[g]at I;have hr:=A0 (b m (cz hm));have hc:=count_set hd;exact bn.Ends.step (nh m) (Hi hd hm) (by simp only;omega) (c (f+m.2.held) _ (by rw[hg];exact hl) (by omega))
def Ys{f:Int}{ms:List Mem}(hf:0<=f/\f<=1048576)(a:∀m∈ms,bZ m.2=true)(h:bn.Ends f (ms.map nh)):jA f ms=true:=by unfold jA iC;have:=UB a ms.length f (List.replicate ms.length false) (by simp) (by simp) (by rw[Hg];exact h);rw[this,cB hf,ig.2 a];simp
def TV{f:Int}{ms:List Mem}(h:jA f ms=true):bn.Ends f (ms.map nh):=by unfold jA iC at h;simp only[b9,bz,ig]at h;rw[<-Hg];exact TU h.1.2 ms.length f _ (by simp) (by simpa using h.2)
end
section
open Go.XS Go.bn
abbrev bG.ks(L:bG):aO:=bb L.av.aX.cP
abbrev bG.oZ(L:bG):List NH:=L.ks.map λp=>nh (p,L.av.at' p)
def Gk(L:bG):L.av.members.map nh=L.oZ:=by unfold bK.members;rw[nj];rfl
structure AS(L:bG)(S:aH)(N:ea):Prop where
 inv:S.Inv
 av:L.av.Ok
 sl:L.av.aX.Ok
 lU:N.xs.Nodup
 ch:L.chunks=S.cs.length
 n:N.n=S.cs.length
 ln:∀i,i∈N.xs↔S.ok i=true/\(S.at' i).ph=2
 keys:bb L.av.all=L.ks
 held:∀p∈L.ks,(L.av.at' p).held=(S.cs.countP λc=>c.own==p+1:Nat)
 own:∀c∈S.cs,0<c.own->c.own-1∈L.ks
 safe:bn.Ends ((S.many 0:Int)+S.many 2) L.oZ
def UZ{S:aV}{p:Int}(h:S.b7 p=true):p∈bb S.cP:=by
 unfold aV.b7 at h
 cases a:aS S.cP p with
 |none=>rw[a]at h;cases h
 |some b=>exact bQ.2 ⟨_,jv a,rfl⟩
def mQ{S:aV}{p:Int}(a:S.Ok)(h:p∈bb S.cP):S.b7 p=true:=by obtain⟨e,he,rfl⟩:=bQ.1 h;have:=(a.op e he).1;unfold aV.b7;rw[AQ a.bV he,this];rfl
def p6{L:bG}{c:Int}(h:L.bo c=0):mL c=true/\hv c=1/\iw c=0/\L.av.aX.right (gP c) (gG c)=true/\L.place c=gP c/\gP c∈L.ks:=by
 have a:L.place c=gP c:=by unfold bG.place;rw[ah h]
 unfold bG.bo at h;split at h
 ·rename_i U
  unfold bK.e8 at h;split at h
  ·rename_i hr
   refine⟨U.1,U.2.1,U.2.2,hr,a,?_⟩;unfold aV.right at hr;simp only[b9]at hr;exact UZ hr.1
  ·cases h
 ·cases h
def pP{L:bG}{p:Int}(c:L.av.Ok)(I:bb L.av.all=L.ks)(h:p∈L.ks):bZ (L.av.at' p)=true/\∃a,aS L.av.all p=some a/\L.av.at' p=a:=by
 rw[<-I]at h
 cases b:aS L.av.all p with
 |none=>exact absurd h (kr.1 b)
 |some a=>
  have:L.av.at' p=a:=by unfold bK.at';rw[b];rfl
  rw[this];exact⟨c.all _ (jv b),a,rfl,rfl⟩
abbrev bG.bN(L:bG)(p:Int)(a:Acc):bG:={L with av:=⟨L.av.aX,bE p a L.av.all⟩}
def uL{L:bG}{w:Ac}{c n:Int}(h:L.bo c=0)(h0:L.cN w c n=0):L.bM w c n=L.bN (L.place c) (w.ez (L.av.at' (L.place c)) n)/\bZ (L.av.at' (L.place c))=true/\1<=n/\bZ (w.ez (L.av.at' (L.place c)) n)=true:=by
 obtain⟨_,_,_,hr,e,_⟩:=p6 h;rw[e];unfold bG.cN at h0;rw[ah h]at h0;unfold bG.bM;rw[ah h];unfold bK.bM;rw[ah h0];have f:L.av.get (gP c) (gG c)=L.av.at' (gP c):=by unfold bK.get;rw[ah hr]
 unfold bK.cN at h0;rw[ah (by unfold bK.e8;rw[ah hr])]at h0;rw[f]at h0⊢;obtain⟨a,b,d,_⟩:=Ac.z7 h0;exact⟨rfl,a,b,d⟩
def Vn{L:bG}{w:Ac}{c n:Int}(h0:L.cN w c n≠0):L.bM w c n=L:=by
 unfold bG.bM;split
 ·rename_i h
  unfold bG.cN at h0;rw[ah h]at h0;unfold bK.bM;rw[ak h0]
 ·rfl
def xq{L:bG}{w:Ac}{c n:Int}(h:L.bo c=0)(U:bZ (L.av.at' (L.place c))=true)(a:1<=n/\n<=1048576)(b:bZ (w.ez (L.av.at' (L.place c)) n)=true):L.cN w c n=0:=by
 obtain⟨_,_,_,hr,d,_⟩:=p6 h;rw[d]at U b;unfold bG.cN;rw[ah h];unfold bK.cN;rw[ah (by unfold bK.e8;rw[ah hr])];have e:L.av.get (gP c) (gG c)=L.av.at' (gP c):=by unfold bK.get;rw[ah hr]
 rw[e];unfold Ac.err;rw[ah ⟨U,a.1⟩,ah ⟨a.2,b⟩]
def UW{x:Int}:∀{xs:aO},eu xs->x∈xs->jq x xs=xs:=by intro xs hr a;exact vk (ya hr) hr λz=>by rw[nL];exact⟨λh=>h.elim (λe=>e▸a) id,.inr⟩
section
variable {L:bG}{S S':aH}{N:ea}{p q i c n:Int}{a:Acc}
def jE(b:L.av.Ok):(L.bN p a).av.at' q=if q=p then a else L.av.at' q:=by
 show(aS (bE p a L.av.all) q).getD eJ=_;rw[gR b.bV];split
 ·rfl
 ·rfl
def Ce(b:L.av.Ok)(ha:bZ a=true):(L.bN p a).av.Ok:=by
 refine⟨b.n,λe he=>?_,fA b.bV⟩;rcases(oX b.bV).1 he with rfl|h
 ·exact ha
 ·exact b.all e h.1
def Cd(b:L.av.Ok)(I:bb L.av.all=L.ks)(c:p∈L.ks):bb (L.bN p a).av.all=(L.bN p a).ks:=by show bb (bE p a L.av.all)=L.ks;rw[oT,I,UW (I▸b.bV) c]
def uS{β:Type}{f:Int->β}{ks:aO}(b:ks.Nodup)(a:p∈ks):(ks.map f).Perm (f p::(ks.erase p).map f):=(y4 a).map f
def aay(b:L.av.Ok)(c:L.ks.Nodup):(L.ks.erase p).map (λq=>nh (q,(L.bN p a).av.at' q))=(L.ks.erase p).map λq=>nh (q,L.av.at' q):=by
 refine hX λq d=>?_;have:q≠p:=λe=>by subst e;exact(CG c) d
 rw[jE b,ak this]
def AS.nd(h:AS L S N):L.ks.Nodup:=l7 h.sl.bV
def AS.eL(h:AS L S N)(hf:L.bo c=0)(k:L.place c=p)(hi:S.ok i=true)(u:(S.at' i).ph=1)(o:(S.at' i).own=p+1):S.kk i (p+1)=0/\N.gh i=0/\L.cN .eL c 1=0/\AS (L.bM .eL c 1) (S.defer i (p+1)) (N.put i)/\L.bM .eL c 1=L.bN p (Ac.eL.ez (L.av.at' p) 1):=by
 obtain⟨_,_,_,hr,D,d⟩:=p6 hf;rw[<-D,k]at d;have U:S.kk i (p+1)=0:=by unfold aH.kk;rw[ah hi,ah ⟨u,o⟩]
 have v:=eQ.1 hi;have w:i∉N.xs:=λr=>by have:=((h.ln i).1 r).2;omega
 have y:N.gh i=0:=by unfold ea.gh;rw[ah ⟨v.1,by rw[h.n];exact v.2⟩,ak w]
 have J:=h.held p d;have K:0<S.cs.countP λc=>c.own==p+1:=CH.2 ⟨_,cz (aH.hQ hi).1,by simpa using o⟩;have l:=(pP h.av h.keys d).1
 have A:bZ (Ac.eL.ez (L.av.at' p) 1)=true:=by unfold bZ at l;simp only[bz]at l;apply cB;show 1<=(L.av.at' p).dG/\(L.av.at' p).dG<=1048576/\0<=(L.av.at' p).held-1/\0<=(L.av.at' p).cf/\(L.av.at' p).held-1+(L.av.at' p).cf<=(L.av.at' p).dG;omega
 have B:L.cN .eL c 1=0:=xq hf (by rw[k];exact l) (by omega) (by rw[k];exact A);obtain⟨e,_⟩:=uL hf B;rw[k]at e;obtain⟨st,_,_,_⟩:=h.inv.defer U;refine⟨U,y,B,?_,e⟩;rw[e];have s:N.put i=N.xX i:=by unfold ea.put;rw[ah y]
 rw[s];have t:=st.count;refine⟨st.inv,Ce h.av A,h.sl,?_,by rw[st.len];exact h.ch,by rw[st.len];exact h.n,?_,Cd h.av h.keys d,?_,?_,?_⟩
 ·show(N.xs++[i]).Nodup
  rw[dZ];exact⟨h.lU,by simp,λa ha b E e=>w (by rw[fB.1 E]at e;exact e▸ha)⟩
 ·intro j
  show j∈N.xs++[i]↔_;rw[dL,fB,h.ln,st.gf];by_cases m:j=i
  ·subst m;rw[st.sq];simp[hi]
  ·constructor
   ·rintro(⟨a,b⟩|e)
    ·exact⟨a,by rw[st.jR (eQ.1 a).1 m];exact b⟩
    ·exact absurd e m
   ·rintro⟨a,b⟩
    rw[st.jR (eQ.1 a).1 m]at b;exact .inl ⟨a,b⟩
 ·intro q g
  rw[jE h.av];have hc:=t λc=>c.own==q+1;by_cases e:q=p
  ·subst e
   rw[ah rfl];rw[ah (by simpa using o),ak (by simp only[gB];have:=(h.sl.lt (mQ h.sl g)).1;omega)]at hc;show(L.av.at' q).held-1=_;omega
  ·rw[ak e]
   rw[ak (by simp;omega),ak (by simp;intro h0;have:=(h.sl.lt (mQ h.sl g)).1;omega)]at hc;have:=h.held q g;omega
 ·intro z hz C
  rw[st.cs]at hz;rcases j5 hz with hz|rfl
  ·exact h.own z hz C
  ·simp at C
 ·have c0:=t λc=>c.ph==0
  have c2:=t λc=>c.ph==2;simp only[u]at c0 c2;simp at c0 c2;have F:=h.safe.perm (uS h.nd d)
  have G:=bn.Ends.eL (n:=1) F (by omega) (λx r=>by obtain⟨q,g,rfl⟩:=bQ.1 r;exact Ao (pP h.av h.keys (r3 g)).1) (Ao l)
  have H:bn.Ends (((S.defer i (p+1)).many 0:Int)+(S.defer i (p+1)).many 2) (nh (p,Ac.eL.ez (L.av.at' p) 1)::(L.ks.erase p).map λq=>nh (q,L.av.at' q)):=by
   have I:((S.defer i (p+1)).many 0:Int)+(S.defer i (p+1)).many 2=S.many 0+S.many 2+1:=by unfold aH.many;omega
   have s:nh (p,Ac.eL.ez (L.av.at' p) 1)=((nh (p,L.av.at' p)).1+1,(nh (p,L.av.at' p)).2-1):=by exact v7 (by show(L.av.at' p).dG-((L.av.at' p).held-1)=(L.av.at' p).dG-(L.av.at' p).held+1;omega) rfl
   rw[I,s];exact G
  refine H.perm (List.Perm.symm ?_);have:=uS (f:=λq=>nh (q,(L.bN p (Ac.eL.ez (L.av.at' p) 1)).av.at' q)) h.nd d;rw[aay h.av h.nd,jE h.av,ah rfl]at this;exact this
end
end
section
open Go.XS Go.bn aL
structure I2(l:aO)(X Y:aL):Prop where
 ac:AS Y.L Y.S Y.R.line
 sl:Y.L.av.aX=X.L.av.aX
 ch:Y.L.chunks=X.L.chunks
 ux:∀q,(Y.L.av.at' q).cf=(X.L.av.at' q).cf
 cm:∀q,(Y.L.av.at' q).dG=(X.L.av.at' q).dG
 eo:ef X.S Y.S
 at':∀j,0<=j->j∉l->Y.S.at' j=X.S.at' j
 sz:Y.S.size=X.S.size
 tk:Y.R.dx=X.R.dx
 Xq:Y.R.gw=X.R.gw
def aaw{c p:Int}:∀(l:aO) (X:aL),AS X.L X.S X.R.line->X.L.bo c=0->X.L.place c=p->l.Nodup->(∀i∈l,X.S.ok i=true/\(X.S.at' i).ph=1/\(X.S.at' i).own=p+1)->(dH c p l X).2=0/\I2 l X (dH c p l X).1:=by
 intro l
 induction l with
 |nil=>intro X h _ _ _ _;exact⟨rfl,⟨h,rfl,rfl,λ_=>rfl,λ_=>rfl,ef.refl h.inv,λ_ _ _=>rfl,rfl,rfl,rfl⟩⟩
 |cons i l v=>
  intro X h hf o m hl;obtain⟨U,s,w⟩:=hl i kG;obtain⟨n,x,y,z,f⟩:=h.eL hf o U s w;have A:X.R.gh X.S i (p+1)=0:=by unfold Rec.gh;rw[ah n];exact x
  have B:X.R.put X.S i (p+1)={X.R with line:=X.R.line.put i}:=by unfold Rec.put;rw[ah n]
  have C:hW c p i X=({X with R:={X.R with line:=X.R.line.put i},S:=X.S.defer i (p+1),L:=X.L.bM .eL c 1},0):=by unfold hW;rw[ah A,B,y]
  rw[vD,C];simp only[dT];obtain⟨st,_,_,_⟩:=h.inv.defer n;have D:=st.eo h.inv (Un s (h.inv.cE U).2.2.2.2.1);rw[fp]at m
  have:=v {X with R:={X.R with line:=X.R.line.put i},S:=X.S.defer i (p+1),L:=X.L.bM .eL c 1} z (by rw[f];exact hf) (by rw[f];exact o) m.2 (λj k=>by obtain⟨a,b,d⟩:=hl j (iJ _ k);have t:j≠i:=λe=>m.1 (e▸k);exact⟨by rw[st.gf];exact a,by rw[st.jR (eQ.1 a).1 t];exact b,by rw[st.jR (eQ.1 a).1 t];exact d⟩)
  obtain⟨r,g⟩:=this;refine⟨r,⟨g.ac,g.sl.trans (by rw[f]),g.ch.trans (by rw[f]),λq=>(g.ux q).trans ?_,λq=>(g.cm q).trans ?_,D.trans g.eo,λj k u=>?_,g.sz.trans st.sz,g.tk,g.Xq⟩⟩
  ·show((X.L.bM .eL c 1).av.at' q).cf=_
   rw[f,jE h.av];split
   ·rename_i e;subst e;rfl
   ·rfl
  ·show((X.L.bM .eL c 1).av.at' q).dG=_
   rw[f,jE h.av];split
   ·rename_i e;subst e;rfl
   ·rfl
  ·rw[g.at' j k λE=>u (iJ _ E)]
   exact st.jR k (λe=>u (e▸kG))
def pY(T:a6)(p:Int):Int:=((bb T.bD).map λi=>if(T.at' i).aM=p then(T.at' i).count else 0).sum
structure TS(L:bG)(T:a6)(Q:Qu):Prop where
 ps:bS T.bD
 tk:∀i,i∈bb T.bD↔T.has i=true/\(T.at' i).state=1
 tid:∀i,T.has i=true->(T.at' i).id=i
 tr:∀i∈bb T.bD,right (T.at' i)=true/\(T.at' i).aM∈L.ks
 q:Q.L=(bb T.bD).map λi=>(i,(T.at' i).aM)
 cf:∀p∈L.ks,(L.av.at' p).cf=pY T p
section
variable {L L':bG}{S S':aH}{N:ea}{T:a6}{Q:Qu}{p q i c n:Int}{a:Acc}
def TS.congr(h:TS L T Q)(I:L'.ks=L.ks)(hc:∀q,(L'.av.at' q).cf=(L.av.at' q).cf):TS L' T Q:=⟨h.ps,h.tk,h.tid,λi hi=>by rw[I];exact h.tr i hi,h.q,λp a=>by rw[hc];exact h.cf p (I▸a)⟩
def AS.cf(h:AS L S N)(d:p∈L.ks)(ha:bZ a=true)(U:a.dG=(L.av.at' p).dG)(b:a.held=(L.av.at' p).held):AS (L.bN p a) S N:=by
 refine⟨h.inv,Ce h.av ha,h.sl,h.lU,h.ch,h.n,h.ln,Cd h.av h.keys d,?_,h.own,?_⟩
 ·intro q c
  rw[jE h.av];split
  ·rename_i e;subst e;rw[b];exact h.held q c
  ·exact h.held q c
 ·have e:(L.bN p a).oZ=L.oZ:=by
   unfold bG.oZ;refine hX λq c=>?_;rw[jE h.av];split
   ·rename_i e;subst e;exact v7 (by show a.dG-a.held=_;rw[U,b]) b
   ·rfl
  rw[e];exact h.safe
def UM(h:AS L S N):(p8 L.oZ:Int)=S.many 1:=by
 have key:∀(ks:aO),ks.Nodup->∀(cs:List bA),(ks.map λp=>((cs.countP λc=>c.own==p+1:Nat):Int)).sum=(cs.countP λc=>decide (c.own-1∈ks):Nat):=by
  intro ks b cs
  induction cs with
  |nil=>simp;induction ks with|nil=>rfl|cons a l d=>simp at b⊢;exact d b.2
  |cons c cs d=>
   simp only[py]
   have:(ks.map λp=>((cs.countP (λc=>c.own==p+1)+(if(c.own==p+1)=true then 1 else 0):Nat):Int)).sum=(ks.map λp=>((cs.countP λc=>c.own==p+1:Nat):Int)).sum+if c.own-1∈ks then 1 else 0:=by
    clear d
    induction ks with
    |nil=>simp
    |cons k ks m=>
     rw[fp]at b;simp only[c4,jK];rw[m b.2];by_cases e:c.own=k+1
     ·have g:c.own-1=k:=by omega
      have:¬c.own-1∈ks:=by rw[g];exact b.1
      rw[ak this,ah (by simpa using e),ah (by rw[g];exact kG)]
      push_cast;omega
     ·have i:(c.own-1∈k::ks)↔c.own-1∈ks:=by rw[cR];exact⟨λh=>h.elim (λg=>absurd (by omega) e) id,.inr⟩
      rw[ak (by simpa using e)];by_cases f:c.own-1∈ks
      ·rw[ah f,ah (i.2 f)];push_cast;omega
      ·rw[ak f,ak λh=>f (i.1 h)];push_cast;omega
   rw[this,d];by_cases e:c.own-1∈ks
   ·rw[ah e,ah (by simpa using e)];push_cast;omega
   ·rw[ak e,ak (by simpa using e)];push_cast;omega
 unfold p8 bG.oZ;rw[nj];have e:(L.ks.map ((λx:NH=>x.2)∘λp=>nh (p,L.av.at' p)))=L.ks.map λp=>((S.cs.countP λc=>c.own==p+1:Nat):Int):=hX λp n=>h.held p n;rw[e,key _ h.nd];unfold aH.many;congr 1;refine List.countP_congr λc hc=>?_;have j:=h.inv.ph c hc;simp only[bz,gB];constructor
 ·intro hm
  have:=(h.sl.lt (mQ h.sl hm)).1;refine tE λo=>?_;have:=j.2.2.1 o;omega
 ·intro he
  have:=j.2.2.2.1 he;exact h.own c hc (by omega)
def sS(h:S.Inv):S.many 0+S.many 1+S.many 2=S.cs.length:=F2 S.cs λi c hc=>(h.ph c (cz hc)).1
end
end
section
open Go.XS Go.bn aL
def UX{x:Int}{xs:aO}(hr:eu xs)(h:∀y∈xs,y<x):jq x xs=xs++[x]:=vk (ya hr) (Yh hr h) λz=>by rw[nL,dL,fB];exact⟨λh=>h.symm,λh=>h.symm⟩
def FG{α:Type}{k:Int}{m:ML α}:bb (bO k m)=(bb m).filter (λj=>j !=k):=by unfold bb bO;rw[vN];rfl
def xn{α:Type}{k:Int}{m:ML α}(h:bS m):bb (bO k m)=(bb m).erase k:=by rw[FG,(l7 h).erase_eq_filter]
def WK{S:aV}(h:S.gg=true):S.opened.cP=bE S.cM true S.cP:=by have a:S.pick.2.2=true:=h;unfold aV.opened aV.cM;rw[ah a,ah a]
section
variable {L L':bG}{S S':aH}{N:ea}{T T':a6}{Q:Qu}{p q i c n:Int}{a:Acc}
def XZ(h:AS L S N)(a:TS L T Q):AS (L.bT c) S N/\TS (L.bT c) T Q/\(L.bT c).chunks=L.chunks:=by
 unfold bG.bT;by_cases hc:L.ug c
 ·rw[ah hc]
  unfold bK.opened;by_cases hr:bZ ⟨c,0,0⟩=true
  ·rw[ah hr]
   by_cases d:L.av.aX.gg=true
   ·rw[ah d]
    have m:L.av.aX.b7 L.av.aX.cM=false:=by have:=h.sl.xS d;unfold aV.cM;rw[ah (show L.av.aX.pick.2.2=true from d)];exact this
    generalize p:L.av.aX.cM=p0 at m;have k:p0∉L.ks:=λhm=>by rw[mQ h.sl hm]at m;cases m
    have f:bb L.av.aX.opened.cP=jq p0 L.ks:=by rw[WK d,p,oT]
    have l:∀q,bK.at' ⟨L.av.aX.opened,bE p0 ⟨c,0,0⟩ L.av.all⟩ q=if q=p0 then⟨c,0,0⟩else L.av.at' q:=λq=>by
     show(aS (bE p0 ⟨c,0,0⟩ L.av.all) q).getD eJ=_;rw[gR h.av.bV];split
     ·rfl
     ·rfl
    refine⟨⟨h.inv,⟨?_,?_,fA h.av.bV⟩,h.sl.GC,h.lU,h.ch,h.n,h.ln,?_,?_,?_,?_⟩,⟨a.ps,a.tk,a.tid,?_,a.q,?_⟩,rfl⟩
    ·show L.av.aX.opened.b6.length=64
     rw[aV.xH];exact h.av.n
    ·intro e he
     rcases(oX h.av.bV).1 he with rfl|g
     ·exact hr
     ·exact h.av.all e g.1
    ·show bb (bE p0 _ L.av.all)=bb L.av.aX.opened.cP
     rw[oT,f,h.keys]
    ·intro q b
     have b:q∈jq p0 L.ks:=f▸b;show(bK.at' _ q).held=_;rw[l];by_cases e:q=p0
     ·subst e
      rw[ah rfl]
      have:S.cs.countP (λc=>c.own==q+1)=0:=by
       rw[vM];intro z hz o;have o:z.own=q+1:=by simpa using o
       have r:=h.inv.ph z hz;by_cases s:z.ph=1
       ·have:=r.2.2.2.1 s
        exact k (by have:=h.own z hz (by omega);rwa [o,show q+1-1=q from by omega]at this)
       ·have h0:=r.2.2.1 s
        have w:q=-1:=by omega
        have:=h.sl.xR d;have j:L.av.aX.cM=L.av.aX.pick.2.1:=by unfold aV.cM;rw[ah (show L.av.aX.pick.2.2=true from d)]
        rw[<-j,p]at this;omega
      rw[this];rfl
     ·rw[ak e]
      exact h.held q (by rcases nL.1 b with j|g;exact absurd j e;exact g)
    ·intro z hz t
     show _∈bb L.av.aX.opened.cP;rw[f];exact nL.2 (.inr (h.own z hz t))
    ·have u:=bn.Ends.more h.safe (c:=c) (by have U:=UM h;have g:=sS h.inv;unfold bG.ug at hc;simp only[bz]at hc;have:=h.ch;omega)
     refine u.perm (List.Perm.symm ?_);show(List.map _ (bb L.av.aX.opened.cP)).Perm _;rw[f];refine((Av k).map _).trans ?_;rw[c4];show(List.Perm (nh (p0,bK.at' _ p0)::_) _);rw[l,ah rfl];have e:nh (p0,⟨c,0,0⟩)=(c,0):=v7 (by show c-0=c;omega) rfl;rw[e];refine mm _ (List.Perm.of_eq ?_);refine hX λq b=>?_;show nh (q,bK.at' _ q)=_;rw[l,ak (λe:q=p0=>k (e▸b))]
    ·intro i hi
     refine⟨(a.tr i hi).1,?_⟩;show _∈bb L.av.aX.opened.cP;rw[f];exact nL.2 (.inr (a.tr i hi).2)
    ·intro q b
     have b:q∈jq p0 L.ks:=f▸b;show(bK.at' _ q).cf=_;rw[l];by_cases e:q=p0
     ·rw[ah e]
      subst e;have:(bb T.bD).map (λi=>if(T.at' i).aM=q then(T.at' i).count else 0)=(bb T.bD).map λ_=>0:=hX λi hi=>ak λe:(T.at' i).aM=q=>k (e▸(a.tr i hi).2);unfold pY;rw[this];clear this;show(0:Int)=_
      induction bb T.bD with
      |nil=>rfl
      |cons _ _ v=>simpa using v
     ·rw[ak e]
      exact a.cf q (by rcases nL.1 b with j|g;exact absurd j e;exact g)
   ·rw[ak d];exact⟨h,a,rfl⟩
  ·rw[ak hr];exact⟨h,a,rfl⟩
 ·rw[ak hc];exact⟨h,a,rfl⟩
def HN{l c:aO}(h:l.Perm c):l.sum=c.sum:=by
 induction h with
 |nil=>rfl
 |cons _ _ d=>simp only[jK,d]
 |swap x y l=>simp only[jK];omega
 |trans _ _ a b=>exact a.trans b
def Ev(c:TS L T Q)(hi:i∈bb T.bD):(T.at' i).count<=pY T (T.at' i).aM:=by
 unfold pY
 have d:∀j∈(bb T.bD).erase i,0<=(if(T.at' j).aM=(T.at' i).aM then(T.at' j).count else 0):=λj b=>by
  have:=(c.tr j (r3 b)).1;unfold right at this;simp only[bz]at this;split
  ·omega
  ·omega
 have hs:∀(l:aO) (f:Int->Int),(∀j∈l,0<=f j)->0<=(l.map f).sum:=λl f=>by
  induction l with
  |nil=>intro _;simp
  |cons a l e=>intro h;rw[c4,jK];have:=e λj b=>h j (iJ _ b);have:=h a kG;omega
 have:=(uS (f:=λj=>if(T.at' j).aM=(T.at' i).aM then(T.at' j).count else 0) (l7 c.ps) hi);have this:=HN this;rw[this,jK,ah rfl];have:=hs _ _ d;omega
def Yd(h:AS L S N)(b:TS L T Q):AS (L.ret c) S N/\TS (L.ret c) T Q/\(L.ret c).chunks=L.chunks:=by
 unfold bG.ret;by_cases hf:L.bo c=0
 ·rw[ah hf]
  unfold bK.close;by_cases hc:L.av.sx (gP c) (gG c)=0
  ·rw[ah hc]
   obtain⟨_,_,_,hr,u,f⟩:=p6 hf;have m:L.av.get (gP c) (gG c)=L.av.at' (gP c):=by unfold bK.get;rw[ah hr]
   unfold bK.sx at hc;rw[ah (by unfold bK.e8;rw[ah hr]),m]at hc;have k:=(pP h.av h.keys f).1
   have h0:(L.av.at' (gP c)).held=0/\(L.av.at' (gP c)).cf=0:=by
    unfold bZ at k;simp only[bz]at k;split at hc
    ·cases hc
    ·omega
   have o:L.av.aX.close (gP c) (gG c)=L.av.aX.shut (gP c):=by unfold aV.close;rw[ah hr]
   rw[o];generalize gP c=p0 at*;have p:L.av.aX.b7 p0=true:=mQ h.sl f;have d:bb (L.av.aX.shut p0).cP=L.ks.erase p0:=xn h.sl.bV
   have g:∀q,q≠p0->bK.at' ⟨L.av.aX.shut p0,bO p0 L.av.all⟩ q=L.av.at' q:=λq a=>by show(aS (bO p0 L.av.all) q).getD eJ=_;rw[mR,ak a];rfl
   have j:∀q∈L.ks.erase p0,q≠p0:=λq a e=>(CG h.nd) (e▸a);refine⟨⟨h.inv,⟨?_,λe he=>h.av.all e (sW.1 he).1,ma h.av.bV⟩,h.sl.Hw p,h.lU,h.ch,h.n,h.ln,?_,?_,?_,?_⟩,⟨b.ps,b.tk,b.tid,?_,b.q,?_⟩,rfl⟩
   ·show(List.set _ _ _).length=64
    rw[hg];exact h.av.n
   ·show bb (bO p0 L.av.all)=bb (L.av.aX.shut p0).cP
    rw[d,xn h.av.bV,h.keys]
   ·intro q a
    have a:q∈L.ks.erase p0:=d▸a;show(bK.at' _ q).held=_;rw[g q (j q a)];exact h.held q (r3 a)
   ·intro z hz r
    show _∈bb (L.av.aX.shut p0).cP;rw[d,h.nd.mem_erase_iff];refine⟨λe=>?_,h.own z hz r⟩;have U:=h.held p0 f;rw[h0.1]at U;have:0<S.cs.countP λc=>c.own==p0+1:=CH.2 ⟨z,hz,by simp;omega⟩;omega
   ·have l:=h.safe.perm (uS h.nd f)
    have e:nh (p0,L.av.at' p0)=((L.av.at' p0).dG-0,0):=v7 (by show _-(L.av.at' p0).held=_;rw[h0.1]) h0.1;rw[e]at l;have:=l.Ua;show bn.Ends _ (List.map _ (bb (L.av.aX.shut p0).cP));rw[d];have s:(L.ks.erase p0).map (λq=>nh (q,bK.at' ⟨L.av.aX.shut p0,bO p0 L.av.all⟩ q))=(L.ks.erase p0).map λq=>nh (q,L.av.at' q):=hX λq a=>by rw[g q (j q a)]
    show bn.Ends _ ((L.ks.erase p0).map λq=>nh (q,bK.at' ⟨L.av.aX.shut p0,bO p0 L.av.all⟩ q));rw[s];exact this
   ·intro i hi
    refine⟨(b.tr i hi).1,?_⟩;show _∈bb (L.av.aX.shut p0).cP;rw[d,h.nd.mem_erase_iff];refine⟨λe=>?_,(b.tr i hi).2⟩;have U:=b.cf p0 f;have t:=Ev b hi;rw[e]at t;have:=(b.tr i hi).1;unfold right at this;simp only[bz]at this;omega
   ·intro q a
    have a:q∈L.ks.erase p0:=d▸a;show(bK.at' _ q).cf=_;rw[g q (j q a)];exact b.cf q (r3 a)
  ·rw[ak hc];exact⟨h,b,rfl⟩
 ·rw[ak hf];exact⟨h,b,rfl⟩
end
end
section
open Go.XS Go.bn aL
def hx{T:a6}{i:Int}:T.has i=true↔1<=i/\i<=(T.all.length:Int):=by unfold a6.has;exact decide_eq_true_iff
def Hc{t:Tk}(h:right t=true):1<=t.id/\0<=t.aM/\t.aM<64/\1<=t.count/\t.count<=1048576/\(t.state=1\/t.state=2\/t.state=3)/\0<=t.b1:=by unfold right at h;simpa using h
def zS{t:Tk}(h:check t=0):right t=true/\t.state=1:=by
 unfold check at h;split at h
 ·rename_i hr
  split at h
  ·rename_i hs;exact⟨hr,hs⟩
  ·cases h
 ·cases h
def Tm{t:Tk}(h:right t=true)(U:t.state=1):check t=0:=by unfold check;rw[ah h,ah U]
section
variable {L L':bG}{S S':aH}{N:ea}{T T':a6}{Q:Qu}{p q i c n:Int}{a:Acc}
def TS.Fs(h:TS L T Q)(hi:i∈bb T.bD):T.has i=true/\check (T.at' i)=0:=⟨((h.tk i).1 hi).1,Tm (h.tr i hi).1 ((h.tk i).1 hi).2⟩
def TS.out{k:Tk}(h:TS L T Q)(hi:i∈bb T.bD)(hid:k.id=i)(s:k.state≠1)(I:L'.ks=L.ks)(hc:∀q∈L.ks,(L'.av.at' q).cf=(L.av.at' q).cf-if q=(T.at' i).aM then(T.at' i).count else 0):TS L' ⟨T.all.set (i-1).toNat k,bO i T.bD⟩ (Q.drop i):=by
 obtain⟨t,_⟩:=h.Fs hi;have u:=hx.1 t;have r:∀j,a6.has ⟨T.all.set (i-1).toNat k,bO i T.bD⟩ j=T.has j:=λj=>by unfold a6.has;simp only[hg]
 have l:∀j,1<=j->a6.at' ⟨T.all.set (i-1).toNat k,bO i T.bD⟩ j=if j=i then k else T.at' j:=λj c=>by
  unfold a6.at';simp only[ei];split
  ·rename_i e;subst e;rw[tK (by omega)];rfl
  ·rw[oh (by omega)]
 have m:=l7 h.ps;have o:bb (bO i T.bD)=(bb T.bD).erase i:=xn h.ps
 have p:∀j∈(bb T.bD).erase i,a6.at' ⟨T.all.set (i-1).toNat k,bO i T.bD⟩ j=T.at' j:=λj c=>by have U:=(m.mem_erase_iff).1 c;rw[l j (hx.1 ((h.tk j).1 U.2).1).1,ak U.1]
 refine⟨ma h.ps,λj=>?_,λj c=>?_,λj c=>?_,?_,λq n=>?_⟩
 ·rw[r]
  show j∈bb (bO i T.bD)↔_;rw[o,m.mem_erase_iff,h.tk];constructor
  ·rintro⟨a,b,d⟩
   exact⟨b,by rw[l j (hx.1 b).1,ak a];exact d⟩
  ·rintro⟨b,d⟩
   rw[l j (hx.1 b).1]at d;by_cases e:j=i
   ·rw[ah e]at d;exact absurd d s
   ·rw[ak e]at d;exact⟨e,b,d⟩
 ·rw[r]at c
  rw[l j (hx.1 c).1];split
  ·rename_i e;rw[e];exact hid
  ·exact h.tid j c
 ·have c:j∈(bb T.bD).erase i:=o▸c
  rw[p j c,I];exact h.tr j (r3 c)
 ·show Q.L.filter _=(bb (bO i T.bD)).map _
  rw[h.q,FG,vN];refine hX λj c=>?_;have c:j∈(bb T.bD).erase i:=by rw[m.erase_eq_filter];exact c
  rw[p j c]
 ·have n:q∈L.ks:=I▸n
  rw[hc q n,h.cf q n];unfold pY;have U:=HN (uS (f:=λj=>if(T.at' j).aM=q then(T.at' j).count else 0) m hi);rw[U,jK];show _=((bb (bO i T.bD)).map _).sum;rw[o,hX (f:=λj=>if(a6.at' ⟨T.all.set (i-1).toNat k,bO i T.bD⟩ j).aM=q then(a6.at' ⟨T.all.set (i-1).toNat k,bO i T.bD⟩ j).count else 0) (g:=λj=>if(T.at' j).aM=q then(T.at' j).count else 0) λj c=>by rw[p j c]];by_cases e:q=(T.at' i).aM
  ·rw[ah e,ah e.symm];omega
  ·rw[ak e,ak (Ne.symm e)];omega
def TS.i7(h:TS L T Q)(m:p∈L.ks)(h0:T.jr p n=0)(I:L'.ks=L.ks){d:Nat}(hc:∀q∈L.ks,(L'.av.at' q).cf=(L.av.at' q).cf+if q=p then n else 0):TS L' (T.i7 p n) ⟨Q.L++[(T.next,p)],d⟩:=by
 have e:T.i7 p n=⟨T.all++[iA T.next p n],bE T.next () T.bD⟩:=by unfold a6.i7;rw[ah h0]
 rw[e]
 have hr:right (iA T.next p n)=true:=by
  unfold a6.jr oY at h0
  cases hr:right (iA T.next p n)with
  |true=>rfl
  |false=>rw[hr]at h0;simp at h0
 have o:∀j∈bb T.bD,j<T.next:=λj c=>by have:=hx.1 ((h.tk j).1 c).1;unfold a6.next;omega
 have i:bb (bE T.next () T.bD)=bb T.bD++[T.next]:=by rw[oT,UX h.ps o]
 have l:∀j,a6.has ⟨T.all++[iA T.next p n],bE T.next () T.bD⟩ j=true↔T.has j=true\/j=T.next:=λj=>by rw[hx,hx];simp only[cr,vU];unfold a6.next;omega
 have f:∀j,T.has j=true->a6.at' ⟨T.all++[iA T.next p n],bE T.next () T.bD⟩ j=T.at' j:=λj c=>by have:=hx.1 c;unfold a6.at';simp only[ei];rw[hb (by omega)]
 have g:a6.at' ⟨T.all++[iA T.next p n],bE T.next () T.bD⟩ T.next=iA T.next p n:=by
  unfold a6.at' a6.next
  simp only[ei];rw[show((T.all.length:Int)+1-1).toNat=T.all.length from by omega];simp
 have r:T.has T.next=false:=by unfold a6.has a6.next;exact cD (by omega)
 refine⟨fA h.ps,λj=>?_,λj c=>?_,λj c=>?_,?_,λq k=>?_⟩
 ·show j∈bb (bE T.next () T.bD)↔_
  rw[i,dL,fB,l,h.tk];constructor
  ·rintro(⟨a,b⟩|rfl)
   ·exact⟨.inl a,by rw[f j a];exact b⟩
   ·exact⟨.inr rfl,by rw[g];rfl⟩
  ·rintro⟨a|a,b⟩
   ·rw[f j a]at b;exact .inl ⟨a,b⟩
   ·exact .inr a
 ·rcases(l j).1 c with a|rfl
  ·rw[f j a];exact h.tid j a
  ·rw[g];rfl
 ·have c:j∈bb T.bD++[T.next]:=i▸c
  rw[I];rcases dL.1 c with a|a
  ·rw[f j ((h.tk j).1 a).1];exact h.tr j a
  ·rw[fB.1 a,g];exact⟨hr,m⟩
 ·show Q.L++_=(bb (bE T.next () T.bD)).map _
  rw[i,e6,h.q];congr 1
  ·exact hX λj c=>by rw[f j ((h.tk j).1 c).1]
  ·simp only[c4,oj];rw[g];rfl
 ·have k:q∈L.ks:=I▸k
  rw[hc q k,h.cf q k];unfold pY;show _=((bb (bE T.next () T.bD)).map _).sum;rw[i,e6,vW];congr 1
  ·congr 1
   exact hX λj c=>by rw[f j ((h.tk j).1 c).1]
  ·simp only[c4,oj,jK,List.sum_nil]
   rw[g];show(if q=p then n else 0)=(if p=q then n else 0)+0;by_cases e:q=p
   ·rw[ah e,ah e.symm];omega
   ·rw[ak e,ak (Ne.symm e)];omega
end
def Ks{X:aL}{c n:Int}(h:AS X.L X.S X.R.line)(d:TS X.L X.T X.Q):AS (X.ask c n).L (X.ask c n).S (X.ask c n).R.line/\TS (X.ask c n).L (X.ask c n).T (X.ask c n).Q/\(X.ask c n).S=X.S/\(X.ask c n).R=X.R/\(X.ask c n).pu=X.pu/\(X.ask c n).L.av.aX=X.L.av.aX/\(X.ask c n).T.all.length<=X.T.all.length+1/\(X.ask c n).Q.f'<=X.Q.f'+1/\(X.ask c n).L.chunks=X.L.chunks:=by
 unfold aL.ask;by_cases hf:X.L.bo c=0
 ·rw[ah hf]
  by_cases hd:X.L.cN .ee c n=0
  ·rw[ah hd]
   obtain⟨_,_,_,_,s,f⟩:=p6 hf;rw[<-s]at f;obtain⟨e,g,t,i⟩:=uL hf hd;generalize u:X.L.place c=p at*;have j:AS (X.L.bM .ee c n) X.S X.R.line:=by rw[e];exact h.cf f i rfl rfl
   by_cases hi:X.T.jr p n=0
   ·rw[ah hi]
    refine⟨j,d.i7 f hi (by rw[e]) λq B=>?_,rfl,rfl,rfl,by rw[e],?_,d' _,by rw[e]⟩
    ·show((X.L.bM .ee c n).av.at' q).cf=_
     rw[e,jE h.av];split
     ·rename_i a;subst a;rfl
     ·omega
    ·show(X.T.i7 p n).all.length<=_
     unfold a6.i7;rw[ah hi];simp
   ·rw[ak hi]
    have m:X.T.i7 p n=X.T:=by unfold a6.i7;rw[ak hi]
    have o:(X.L.bM .ee c n).bo c=0:=by rw[e];exact hf
    have k:(X.L.bM .ee c n).place c=p:=by rw[e];exact u
    have b:(X.L.bM .ee c n).av.at' p=Ac.ee.ez (X.L.av.at' p) n:=by rw[e,jE h.av,ah rfl]
    have r:Ac.cancel.ez (Ac.ee.ez (X.L.av.at' p) n) n=X.L.av.at' p:=by show(⟨(X.L.av.at' p).dG,(X.L.av.at' p).held,(X.L.av.at' p).cf+n-n⟩:Acc)=_;rw[Int.add_sub_cancel]
    have v:n<=1048576:=by unfold bZ at g i;simp only[bz]at g i;have:(Ac.ee.ez (X.L.av.at' p) n).cf=(X.L.av.at' p).cf+n:=rfl;have:(Ac.ee.ez (X.L.av.at' p) n).held=(X.L.av.at' p).held:=rfl;have:(Ac.ee.ez (X.L.av.at' p) n).dG=(X.L.av.at' p).dG:=rfl;omega
    have w:(X.L.bM .ee c n).cN .cancel c n=0:=xq o (by rw[k,b];exact i) ⟨t,v⟩ (by rw[k,b,r];exact g);obtain⟨a,_⟩:=uL o w;rw[k,b,r]at a;have x:p∈(X.L.bM .ee c n).ks:=by rw[e];exact f
    have y:AS ((X.L.bM .ee c n).bM .cancel c n) X.S X.R.line:=by rw[a];exact j.cf x g (by rw[b];rfl) (by rw[b];rfl)
    have z:((X.L.bM .ee c n).bM .cancel c n).ks=X.L.ks:=by rw[a];show(X.L.bM .ee c n).ks=_;rw[e]
    have A:TS ((X.L.bM .ee c n).bM .cancel c n) X.T X.Q:=d.congr z λq=>by
     rw[a,jE j.av];split
     ·rename_i l;rw[l]
     ·rename_i l;rw[e,jE h.av,ak l]
    refine⟨y,by rw[m];exact A,rfl,rfl,rfl,by rw[a];show(X.L.bM .ee c n).av.aX=_;rw[e],by rw[m];exact j8 _,j8 _,by rw[a];show(X.L.bM .ee c n).chunks=_;rw[e]⟩
  ·rw[ak hd]
   have:=Vn hd;refine⟨by rw[this];exact h,by rw[this];exact d,rfl,rfl,rfl,by rw[this],j8 _,j8 _,by rw[this]⟩
 ·rw[ak hf]
  exact⟨h,d,rfl,rfl,rfl,rfl,j8 _,j8 _,rfl⟩
def S4{X:aL}{c i:Int}(h:AS X.L X.S X.R.line)(a:TS X.L X.T X.Q):AS (X.can c i).L (X.can c i).S (X.can c i).R.line/\TS (X.can c i).L (X.can c i).T (X.can c i).Q/\(X.can c i).S=X.S/\(X.can c i).R=X.R/\(X.can c i).pu=X.pu/\(X.can c i).L.av.aX=X.L.av.aX/\(X.can c i).T.all.length=X.T.all.length/\(X.can c i).Q.f'=X.Q.f'/\(X.can c i).L.chunks=X.L.chunks:=by
 unfold aL.can;by_cases hf:X.L.bo c=0
 ·rw[ah hf]
  by_cases g:X.T.e8 i=0/\(X.T.get i).aM=X.L.place c
  ·rw[ah g]
   by_cases hd:X.T.cN (c8 · 3) check i=0
   ·rw[ah hd]
    have n:=hd;unfold a6.cN at hd
    cases b:X.T.has i with
    |false=>rw[b]at hd;simp at hd
    |true=>
     rw[b,ah rfl]at hd;obtain⟨hr,hs⟩:=zS hd;have hi:i∈bb X.T.bD:=(a.tk i).2 ⟨b,hs⟩;have o:X.T.get i=X.T.at' i:=by unfold a6.get;rw[b,ah rfl]
     obtain⟨_,j⟩:=g;rw[o]at j⊢;obtain⟨_,_,_,_,r,f⟩:=p6 hf;rw[<-r]at f;generalize k:X.L.place c=p at*;have l:=(pP h.av h.keys f).1;have v:=a.cf p f;have s:=Ev a hi;rw[j]at s;have w:=Hc hr
     have m:bZ (Ac.cancel.ez (X.L.av.at' p) (X.T.at' i).count)=true:=by unfold bZ at l;simp only[bz]at l;apply cB;show 1<=(X.L.av.at' p).dG/\(X.L.av.at' p).dG<=1048576/\0<=(X.L.av.at' p).held/\0<=(X.L.av.at' p).cf-(X.T.at' i).count/\(X.L.av.at' p).held+((X.L.av.at' p).cf-(X.T.at' i).count)<=(X.L.av.at' p).dG;omega
     have t:X.L.cN .cancel c (X.T.at' i).count=0:=xq hf (by rw[k];exact l) (by omega) (by rw[k];exact m);obtain⟨e,_⟩:=uL hf t;rw[k]at e
     have d:X.T.bM (c8 · 3) check i=⟨X.T.all.set (i-1).toNat (c8 (X.T.at' i) 3),bO i X.T.bD⟩:=by
      unfold a6.bM;rw[ah n];have:(c8 (X.T.at' i) 3).state=3:=by unfold c8;rw[ah hd]
      rw[ak (by rw[this];decide)]
     refine⟨by rw[e];exact h.cf f m rfl rfl,?_,rfl,rfl,rfl,by rw[e],by rw[d];simp,rfl,by rw[e]⟩;show TS (X.L.bM .cancel c (X.T.at' i).count) (X.T.bM (c8 · 3) check i) (X.Q.drop i);rw[d];refine a.out hi (by unfold c8;rw[ah hd];exact a.tid i b) (by unfold c8;rw[ah hd];simp) (by rw[e]) λq x=>?_;rw[e,jE h.av,j];split
     ·rename_i u;subst u;rfl
     ·omega
   ·rw[ak hd]
    have d:X.T.bM (c8 · 3) check i=X.T:=by unfold a6.bM;rw[ak hd]
    exact⟨h,by rw[d];exact a,rfl,rfl,rfl,rfl,by rw[d],rfl,rfl⟩
  ·rw[ak g]
   exact⟨h,a,rfl,rfl,rfl,rfl,rfl,rfl,rfl⟩
 ·rw[ak hf]
  exact⟨h,a,rfl,rfl,rfl,rfl,rfl,rfl,rfl⟩
end
open Go.XS Go.bn aL
section
variable {L L':bG}{S S':aH}{N:ea}{T T':a6}{Q:Qu}{p q i c o:Int}{a:Acc}
def AS.fX{xs:aO}(h:AS L S N)(d:N.xs=i::xs):S.ok i=true/\(S.at' i).ph=2/\S.Step (S.fX i) i (pX S (S.at' i))/\AS L (S.fX i) {N with xs:=xs}:=by
 obtain⟨U,f⟩:=(h.ln i).1 (by rw[d];exact kG);have st:=h.inv.fX U f;have r:=(h.inv.cE U).2.2.1 (by omega);have g:=h.lU;rw[d,fp]at g;have k:=st.count;refine⟨U,f,st,st.inv,h.av,h.sl,g.2,by rw[st.len];exact h.ch,by rw[st.len];exact h.n,?_,h.keys,?_,?_,?_⟩
 ·intro j
  show j∈xs↔_;rw[st.gf];have:=h.ln j;rw[d,cR]at this;by_cases e:j=i
  ·subst e
   rw[st.sq];exact⟨λh=>absurd h g.1,λh=>by have:=h.2;simp at this⟩
  ·constructor
   ·intro o
    obtain⟨a,b⟩:=this.1 (.inr o);exact⟨a,by rw[st.jR (eQ.1 a).1 e];exact b⟩
   ·rintro⟨a,b⟩
    rw[st.jR (eQ.1 a).1 e]at b;exact(this.2 ⟨a,b⟩).resolve_left e
 ·intro q l
  have hc:=k λc=>c.own==q+1;have:=(h.sl.lt (mQ h.sl l)).1;rw[ak (by simp only[gB];omega),ak (by simp only[gB];omega)]at hc;have:=h.held q l;omega
 ·intro z hz m
  rw[st.cs]at hz;rcases j5 hz with hz|rfl
  ·exact h.own z hz m
  ·simp at m
 ·have c0:=k λc=>c.ph==0
  have c2:=k λc=>c.ph==2;simp only[f]at c0 c2;simp at c0 c2;have p:((S.fX i).many 0:Int)+(S.fX i).many 2=S.many 0+S.many 2:=by unfold aH.many;omega
  rw[p];exact h.safe
structure J7(l:aO)(S S':aH):Prop where
 eo:ef S S'
 at':∀j,0<=j->j∉l->S'.at' j=S.at' j
 sz:S'.size=S.size
 cE:S'.br=S.br+l.length
 m1:S'.many 1=S.many 1
def AS.gZ:∀(k:Nat) {S:aH} {N:ea},AS L S N->k<=N.xs.length->AS L (gZ S (N.xs.take k)) {N with xs:=N.xs.drop k}/\J7 (N.xs.take k) S (gZ S (N.xs.take k))/\∀i∈N.xs.take k,S.ok i=true/\(S.at' i).ph=2:=by
 intro k
 induction k with
 |zero=>intro S N h _;exact⟨h,⟨ef.refl h.inv,λ_ _ _=>rfl,rfl,rfl,rfl⟩,by simp⟩
 |succ k n=>
  intro S N h I
  cases f:N.xs with
  |nil=>rw[f]at I;simp at I
  |cons i xs=>
   obtain⟨U,g,st,o⟩:=h.fX f;rw[f]at I;obtain⟨g1,g2,g3⟩:=n o (by simpa using I);have m:=h.lU;rw[f,fp]at m;refine⟨g1,⟨(st.eo h.inv (Up g (h.inv.cE U).2.2.2.2.1)).trans g2.eo,λj d l=>?_,g2.sz.trans st.sz,?_,?_⟩,λj d=>?_⟩
   ·rw[tQ,cR]at l
    rw[tQ];have:=g2.at' j d (λh=>l (.inr h));exact this.trans (st.jR d λe=>l (.inl e))
   ·have:=g2.cE
    rw[tQ,dd];show(Go.Proofs.YtlmgompopkamfaaGreatDoor.gZ (S.fX i) (xs.take k)).br=_;rw[this,st.cE];show S.br+1+(xs.take k).length=_;omega
   ·have:=g2.m1
    have c1:=st.count λc=>c.ph==1;simp only[g]at c1;simp at c1;rw[tQ];show(Go.Proofs.YtlmgompopkamfaaGreatDoor.gZ (S.fX i) (xs.take k)).many 1=_;rw[this];unfold aH.many;omega
   ·rw[tQ,cR]at d
    rcases d with rfl|d
    ·exact⟨U,g⟩
    ·obtain⟨a,b⟩:=g3 j d
     rw[st.gf]at a;have p:j≠i:=λe=>m.1 (e▸kH d);rw[st.jR (eQ.1 a).1 p]at b;exact⟨a,b⟩
structure wz(o:Int)(n:Nat)(S:aH)(R:aH×aO):Prop where
 inv:R.1.Inv
 eo:ef S R.1
 nd:R.2.Nodup
 new:∀i∈R.2,S.ok i=true/\(S.at' i).ph=0/\(R.1.at' i).ph=1/\(R.1.at' i).own=o
 at':∀j,0<=j->j∉R.2->R.1.at' j=S.at' j
 sz:R.1.size=S.size
 m0:R.1.many 0+n=S.many 0
 m2:R.1.many 2=S.many 2
 own:∀q,1<=q->R.1.cs.countP (λc=>c.own==q)=S.cs.countP (λc=>c.own==q)+if q=o then n else 0
 mem:∀c∈R.1.cs,c∈S.cs\/c.own=o
def HU(v:1<=o)(h:S.Inv):∀n,n<=S.free.length->wz o n S (takeN o n S):=by
 intro n
 induction n with
 |zero=>intro _;exact⟨h,ef.refl h,by simp[takeN],by simp[takeN],λ_ _ _=>rfl,rfl,rfl,rfl,λq _=>by simp[takeN],λc hc=> .inl hc⟩
 |succ n w=>
  intro D;have g:=w (by omega);have m:=(vx o S n (by omega)).1;show wz o (n+1) S ((takeN o n S).1.take o,(takeN o n S).2++[(takeN o n S).1.du]);generalize E:takeN o n S=R at g m;have l:R.1.free≠[]:=λe=>by rw[e]at m;simp at m;omega
  obtain⟨st,k⟩:=g.inv.take l v;generalize R.1.du=i at st k;have u:=g.inv.cE st.ok;have p:i∉R.2:=λhm=>by have:=(g.new i hm).2.2.1;omega
  have x:=eQ.1 st.ok;have y:S.at' i=R.1.at' i:=(g.at' i x.1 p).symm;have A:∀j,R.1.ok j=S.ok j:=λj=>by unfold aH.ok;rw[g.eo.len]
  have r:=st.count;refine⟨st.inv,g.eo.trans (st.eo g.inv (Uo k u.2.2.2.2.1)),?_,?_,?_,st.sz.trans g.sz,?_,?_,?_,?_⟩
  ·rw[dZ]
   exact⟨g.nd,by simp,λa ha b B e=>p (by rw[fB.1 B]at e;exact e▸ha)⟩
  ·intro j f
   rcases dL.1 f with f|f
   ·obtain⟨a,b,d,e⟩:=g.new j f
    have l:j≠i:=λe=>p (e▸f);have:=(eQ.1 a).1;exact⟨a,b,by rw[st.jR this l];exact d,by rw[st.jR this l];exact e⟩
   ·rw[fB.1 f,st.sq,y]
    exact⟨by rw[<-A];exact st.ok,k,rfl,rfl⟩
  ·intro j f s
   rw[dL,fB]at s;rw[st.jR f λe=>s (.inr e)];exact g.at' j f λh=>s (.inl h)
  ·have c0:=r λc=>c.ph==0
   simp only[k]at c0;simp at c0;have:=g.m0;show(R.1.take o).many 0+_=_;unfold aH.many at this⊢;omega
  ·have c2:=r λc=>c.ph==2
   simp only[k]at c2;simp at c2;have:=g.m2;show(R.1.take o).many 2=_;unfold aH.many at this⊢;omega
  ·intro q C
   have t:=r λc=>c.own==q;have h0:=u.2.2.1 (by omega);rw[ak (by simp only[gB];omega)]at t;have:=g.own q C;by_cases e:q=o
   ·rw[ah (by simp only[gB];omega)]at t
    rw[ah e]at this⊢;show(R.1.take o).cs.countP _=_;omega
   ·rw[ak (by simp only[gB];omega)]at t
    rw[ak e]at this⊢;show(R.1.take o).cs.countP _=_;omega
  ·intro z hz
   have hz:z∈(R.1.take o).cs:=hz;rw[st.cs]at hz;rcases j5 hz with hz|rfl
   ·exact g.mem z hz
   ·exact .inr rfl
def AS.ct{n:Nat}(h:AS L S N)(hf:L.bo c=0)(i:L.place c=p)(m:n<=S.free.length)(hd:L.cN .ct c n=0)(r:bn.Ends ((S.many 0:Int)-n+S.many 2) (L.bN p (Ac.ct.ez (L.av.at' p) n)).oZ):L.bM .ct c n=L.bN p (Ac.ct.ez (L.av.at' p) n)/\AS (L.bM .ct c n) (takeN (p+1) n S).1 N/\wz (p+1) n S (takeN (p+1) n S):=by
 obtain⟨_,_,_,hr,s,d⟩:=p6 hf;rw[<-s,i]at d;have w:=(h.sl.lt (mQ h.sl d)).1;have g:=HU (o:=p+1) (by omega) h.inv n m;obtain⟨e,t,_,k⟩:=uL hf hd;rw[i]at e t k;refine⟨e,?_,g⟩;rw[e];refine⟨g.inv,Ce h.av k,h.sl,h.lU,by rw[<-g.eo.len];exact h.ch,by rw[<-g.eo.len];exact h.n,?_,Cd h.av h.keys d,?_,?_,?_⟩
 ·intro j
  rw[h.ln];have aP:(takeN (p+1) n S).1.ok j=S.ok j:=by unfold aH.ok;rw[g.eo.len]
  rw[aP];by_cases f:j∈(takeN (p+1) n S).2
  ·obtain⟨_,a,b,_⟩:=g.new j f
   exact⟨λh=>by have:=h.2;omega,λh=>by have:=h.2;omega⟩
  ·exact⟨λh=>⟨h.1,by rw[g.at' j (eQ.1 h.1).1 f];exact h.2⟩,λh=>⟨h.1,by rw[<-g.at' j (eQ.1 h.1).1 f];exact h.2⟩⟩
 ·intro q l
  have x:=(h.sl.lt (mQ h.sl l)).1;rw[jE h.av];have:=g.own (q+1) (by omega);have u:=h.held q l;by_cases e:q=p
  ·subst e
   rw[ah rfl]at this⊢;show(L.av.at' q).held+n=_;omega
  ·rw[ak (by omega)]at this
   rw[ak e];omega
 ·intro z hz v
  rcases g.mem z hz with hz|hz
  ·exact h.own z hz v
  ·rw[hz,show p+1-1=p from by omega];exact d
 ·have:=g.m0
  have u:=g.m2;rw[show(((takeN (p+1) n S).1.many 0:Nat):Int)+((takeN (p+1) n S).1.many 2:Nat)=(S.many 0:Int)-n+S.many 2 from by omega];exact r
def AS.yA(h:AS L S N):N.xs.length=S.many 2:=by
 have U:∀(cs:List bA) (f:bA->Bool),cs.countP f=((List.range cs.length).filter λi=>f (cs.getD i bA.zero)).length:=by
  intro cs f
  induction cs with
  |nil=>rfl
  |cons c cs d=>
   rw[dd,List.range_succ_eq_map,py,d];by_cases hc:f c=true
   ·rw[ah hc,mr (by simpa using hc),dd,vN,fe];rfl
   ·rw[ak hc,mq (by simpa using hc),vN,fe];rfl
 unfold aH.many;rw[U]
 have g:(N.xs.map Int.toNat).Nodup:=by apply mw.2;rw[lD];refine(mw.1 h.lU).imp_of_mem λ{a b} ha k l e=>l ?_;have:=(eQ.1 ((h.ln a).1 ha).1).1;have:=(eQ.1 ((h.ln b).1 k).1).1;omega
 have m:((List.range S.cs.length).filter λi=>(S.cs.getD i bA.zero).ph==2).Nodup:=List.nodup_range.filter _
 have hm:∀i:Nat,i∈N.xs.map Int.toNat↔i∈(List.range S.cs.length).filter λi=>(S.cs.getD i bA.zero).ph==2:=by
  intro i;rw[pB,om];constructor
  ·intro hi
   obtain⟨j,n,rfl⟩:=bQ.1 hi;obtain⟨a,b⟩:=(h.ln j).1 n;have:=eQ.1 a;exact⟨by omega,by unfold aH.at' at b;simpa using b⟩
  ·rintro⟨a,b⟩
   refine bQ.2 ⟨(i:Int),(h.ln i).2 ⟨eQ.2 ⟨by omega,by omega⟩,?_⟩,by omega⟩;unfold aH.at';rw[a7];simpa using b
 have a:=u1 g λi hi=>(hm i).1 hi;have b:=u1 m λi hi=>(hm i).2 hi;rw[fe]at a b;omega
end
