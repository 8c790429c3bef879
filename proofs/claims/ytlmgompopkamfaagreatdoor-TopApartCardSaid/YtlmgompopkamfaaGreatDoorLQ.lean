/- Lemmas that lead to TopApart (their names made short by a program); no condition. -/
import Derived.Test.YtlmgompopkamfaaGreatDoorLP
import Derived.Handed
import Derived.ShapedOpen
import Derived.Shelf.Vars
import Derived.Lib.LaidTab
set_option linter.all false
set_option maxRecDepth 20000
set_option synthInstance.checkSynthOrder false
namespace Go.Proofs.YtlmgompopkamfaaGreatDoor
section
open Go.XS Go.bm
instance ac3:fG P 119 4:=fG.of (e:=0) (by kernel_rfl)
structure PS where
 M:bx
 nums:aN
 t:Int
 g:Int
 ss:List Sh
def B4(S:Sh):Bool:=S.ms.all (λm=>cq m.2)&&S.ts.all (λt=>decide (0<=t.b4))&&decide (0<=S.f/\S.f<=1048576)&&decide (S.ms.length<=900)&&decide (S.ts.length<=900)
def YS{S:Sh}(h:B4 S=true):b5.Fit ⟨[],S.ts,S.ms,S.f⟩ 999/\S.ts.length<=900:=by unfold B4 at h;simp only[cg,bJ,iq]at h;obtain⟨⟨⟨⟨h1,a⟩,b⟩,d⟩,c⟩:=h;exact⟨⟨h1,a,b,by show S.ms.length<=1000;omega,by show 0+S.ts.length<=999;omega,by omega⟩,c⟩
def dc(n:Int):Bool:=decide (-9223372036854775808<=n/\n<=9223372036854775807)
def wT{n:Int}(h:dc n=true):aF n:=by unfold dc at h;simpa[aF]using h
def BA(x:ib)(p:PS):Bool:=
 decide ((p.M.b9 (cT p.nums x)).e=0)&&(p.M.b9 (cT p.nums x)).text.isEmpty&&decide ((cT p.nums x).kind≠14)&&(dc (cT p.nums x).a&&dc (cT p.nums x).b&&dc (cT p.nums x).c)&&
 (p.M.b9 (cT p.nums x)).list.all dc&&decide ((p.M.b9 (cT p.nums x)).list.length<=50)&&
 (if(cT p.nums x).kind=12 then ru (dd p.M.snap p.M.s).w (p.M.b9 (cT p.nums x)).list (dd p.M.snap p.M.s).ts (dd p.M.snap p.M.s).ms (dd p.M.snap p.M.s).f&&B4 (dd p.M.snap p.M.s)else true)
def fN(x:ib)(p:PS):PS:=
 ⟨(p.M.b9 (cT p.nums x)).M,p.nums++[(p.M.b9 (cT p.nums x)).n 0],if(cT p.nums x).kind=12 then p.t+1 else p.t,
  if(cT p.nums x).kind=12 then p.g+(p.M.b9 (cT p.nums x)).list.length else p.g,
  if(cT p.nums x).kind=12 then p.ss++[{dd p.M.snap p.M.s with gs:=(p.M.b9 (cT p.nums x)).list}]else p.ss⟩
def tn:List ib->PS->Bool
 |[],p=>decide (p.g=2)&&decide (p.M.snap.ts.length=0)&&qp p.ss []
 |x::l,p=>BA x p&&tn l (fN x p)
def Cn(R:eL):Prop:=∀w,R.n w=R.n 0
def oR{c:Prop}[Decidable c]{a b:eL}(ha:c->Cn a)(d:¬c->Cn b):Cn (if c then a else b):=by
 split
 ·rename_i h;exact ha h
 ·rename_i h;exact d h
def TN{M:bx}{o:Op}(h:o.kind≠14):Cn (M.b9 o):=by
 unfold bx.b9;repeat' (refine oR (λ_=>?_) λ_=>?_)
 all_goals first
  |exact λ_=>rfl
  |exact absurd ‹o.kind=14› h
  |(unfold bx.tu;repeat' (refine oR (λ_=>?_) λ_=>?_);all_goals exact λ_=>rfl)
  |(unfold bx.root;repeat' (refine oR (λ_=>?_) λ_=>?_);all_goals exact λ_=>rfl)
  |(unfold bx.child;repeat' (refine oR (λ_=>?_) λ_=>?_);all_goals exact λ_=>rfl)
  |(unfold bx.write;repeat' (refine oR (λ_=>?_) λ_=>?_);all_goals exact λ_=>rfl)
  |(unfold bx.vL;repeat' (refine oR (λ_=>?_) λ_=>?_);all_goals exact λ_=>rfl)
  |(unfold bx.free;repeat' (refine oR (λ_=>?_) λ_=>?_);all_goals exact λ_=>rfl)
  |(unfold bx.sZ;repeat' (refine oR (λ_=>?_) λ_=>?_);all_goals first|exact λ_=>rfl|(unfold bx.laid;repeat' (refine oR (λ_=>?_) λ_=>?_);all_goals exact λ_=>rfl))
section
variable {B:Heap}{H H0:au}{K:aK}{s:Setup}{b:Nat}{M:bx}{o:Op}
def nF{p:HP}{a:Value}(t:T B H p):T B H (λσ=>(a=a)/\p σ):=λσ o=>⟨rfl,t σ o⟩
def eT{b i:Nat}{cs:aw}[h:bZ B H b cs]{v:Value}{p:HP}(hc:cs[i]?=some v)(t:T B H p):T B H (c7 (λσ=>b0 σ (Addr.add ⟨b,0,none⟩ i)=some v) p):=e7 (λσ o=>by rw[aR,h.cell o,bI];exact hc) t
def zy{b n:Nat}{cs:aw}[h:bZ B H b cs]{p:HP}(a:cs.size=n)(t:T B H p):T B H (c7 (λσ=>∃ds,(Value.agg cs=Value.agg ds)/\((Array.size ds=n)/\(∀k,(k<n)->(b0 σ (Addr.add ⟨b,0,none⟩ k)=ds[k]?)))) p):=e7 (λσ o=>⟨cs,rfl,a,λk _=>by rw[aR,h.cell o,bI]⟩) t
def J3{a d:av}{b c e g:Nat}{f:av->Nat->Nat->av->Nat->Nat->HP}(t:T B H (f a b c d e g)):T B H (λσ=>∀a' i c' j k l,([Value.slice a b c,Value.slice d e g]=[Value.slice a' i c',Value.slice j k l])->f a' i c' j k l σ):=by intro σ o a' i c' j k l h;cases h;exact t σ o
def TO(d:M.Fit)(f:o.Fit)(he:(M.b9 o).e=0)(g:(M.b9 o).text=[])(h:o.kind≠14)(U:∀a:jO,a.n=(M.b9 o).n 0->a.list=(M.b9 o).list->Basic (M.b9 o).M->T B (ah 1 a.p a.list.length a.c (iv .i64 a.list)::bw b (M.b9 o).M::H) (K (.agg (cO a).toArray))):T B (bw b M::H) (ad P 14 #[pz b,.agg (b3 o)] K):=by
 refine xI d f λw p c hw=>aL (bw b) (u1 λi=>?_)
 have e:rQ (M.b9 o) w p c= .agg (cO ⟨(M.b9 o).n 0,(M.b9 o).list,p,c⟩).toArray:=by unfold rQ cO;rw[he,g,TN h w]
 rw[e];exact af (U ⟨(M.b9 o).n 0,(M.b9 o).list,p,c⟩ rfl rfl i)
abbrev od(kc ks kh:Nat):aw:=#[.iface 103 (c9 kc),.iface 106 (c9 ks),.iface 109 (c9 kh)]
abbrev nW(mb kc ks kh:Nat)(M:bx)(t g:Int)(S:Sh)(y:fz)(pa:av)(ca:Nat)(ys:List (Sh×fz))(Z:au):au:=
 bw mb M::cl kc (jT t g)::cl ks #[J 0]::cl kh (fF S y pa ys.length ca)::ah 5 y.pt S.ts.length y.de (S.ts.flatMap aD)::ah 4 y.pm S.ms.length y.cm (aW S.ms)::ah 5 pa ys.length ca (h2 ys)::Z
structure PF(B:Heap)(H:au)(s:Setup)(k:Nat)(p:PS)(rs:List jO)(ys:List (Sh×fz))(Z:au):Prop where
 kp:Kp s k p.M
 b:Basic p.M
 t:0<=p.t/\p.t<=k
 g:0<=p.g/\p.g<=50*k
 nl:p.nums.length=k
 vB:rs.length=k
 rr:∀y∈rs,bF B Z y.p (iv .i64 y.list)/\aF y.n/\(∀x∈y.list,aF x)/\y.list.length<=100
 ss:ys.map (·.1)=p.ss
 CH:ys.length<=k
 yr:∀y∈ys,y.1.gs≠[]->bF B Z y.2.pt (y.1.ts.flatMap aD)/\bF B Z y.2.pg (iv .i64 y.1.gs)
 CI:∀y∈ys,y.1.gs.length<1000/\y.1.ts.length<1000
 z:∀q,T B H q->T B Z q
def PF.Ws{k:Nat}{p:PS}{rs:List jO}{ys:List (Sh×fz)}{Z:au}{x:ib}{e:jO}(h:PF B H s k p rs ys Z)(U:k<50)(aM:BA x p=true)(gl:(cT p.nums x).kind≠12)(j:Basic (p.M.b9 (cT p.nums x)).M)(C:e.n=(p.M.b9 (cT p.nums x)).n 0)(hl:e.list=(p.M.b9 (cT p.nums x)).list)(l:Kp s (k+1) (p.M.b9 (cT p.nums x)).M)(m:aF e.n)(o:∀v∈e.list,aF v)(D:e.list.length<=50):PF B H s (k+1) (fN x p) (rs++[e]) ys (ah 1 e.p e.list.length e.c (iv .i64 e.list)::Z):=by
 have E:=h.t;have i:=h.g;have r:(fN x p).t=p.t:=by unfold fN;exact aj gl
 have u:(fN x p).g=p.g:=by unfold fN;exact aj gl
 have w:(fN x p).ss=p.ss:=by unfold fN;exact aj gl
 have A:(fN x p).nums.length=p.nums.length+1:=by unfold fN;simp
 refine⟨l,j,by rw[r];omega,by rw[u];omega,by rw[A,h.nl],by rw[b',h.vB];rfl,λy f=>?_,by rw[w];exact h.ss,by have:=h.CH;omega,λy f i=>⟨(h.yr y f i).1.tail,(h.yr y f i).2.tail⟩,h.CI,λq t=>dY (h.z q t)⟩;rcases dO.1 f with f|f
 ·obtain⟨a,b,c,d⟩:=h.rr y f
  exact⟨a.tail,b,c,d⟩
 ·rw[fw.1 f]
  exact⟨bF.j2,m,o,by omega⟩
def PF.Wt{k:Nat}{p:PS}{rs:List jO}{ys:List (Sh×fz)}{Z:au}{x:ib}{e:jO}{y:fz}(h:PF B H s k p rs ys Z)(U:k<50)(C:(dd p.M.snap p.M.s).ts.length<=900)(gl:(cT p.nums x).kind=12)(j:Basic (p.M.b9 (cT p.nums x)).M)(D:e.n=(p.M.b9 (cT p.nums x)).n 0)(hl:e.list=(p.M.b9 (cT p.nums x)).list)(l:Kp s (k+1) (p.M.b9 (cT p.nums x)).M)(m:aF e.n)(o:∀v∈e.list,aF v)(E:e.list.length<=50):PF B H s (k+1) (fN x p) (rs++[e]) (ys++[({dd p.M.snap p.M.s with gs:=e.list},{y with pg:=e.p,cw:=e.c})]) (ah 1 e.p e.list.length e.c (iv .i64 e.list)::ah 5 y.pt (dd p.M.snap p.M.s).ts.length y.de ((dd p.M.snap p.M.s).ts.flatMap aD)::ah 4 y.pm (dd p.M.snap p.M.s).ms.length y.cm (aW (dd p.M.snap p.M.s).ms)::Z):=by
 have F:=h.t;have i:=h.g;have r:(fN x p).t=p.t+1:=by unfold fN;exact ag gl
 have u:(fN x p).g=p.g+e.list.length:=by unfold fN;rw[hl];exact ag gl
 have w:(fN x p).ss=p.ss++[{dd p.M.snap p.M.s with gs:=e.list}]:=by unfold fN;rw[hl];exact ag gl
 have A:(fN x p).nums.length=p.nums.length+1:=by unfold fN;simp
 refine⟨l,j,by rw[r];omega,by rw[u];omega,by rw[A,h.nl],by rw[b',h.vB];rfl,λy f=>?_,by rw[w,eY,h.ss];rfl,by have:=h.CH;rw[b',sa];omega,λz hz i=>?_,λz hz=>?_,λq t=>dY (dY (dY (h.z q t)))⟩
 ·rcases dO.1 f with f|f
  ·obtain⟨a,b,c,d⟩:=h.rr y f
   exact⟨a.tail.tail.tail,b,c,d⟩
  ·rw[fw.1 f]
   exact⟨bF.j2,m,o,by omega⟩
 ·rcases dO.1 hz with hz|hz
  ·exact⟨(h.yr z hz i).1.tail.tail.tail,(h.yr z hz i).2.tail.tail.tail⟩
  ·rw[fw.1 hz]
   exact⟨bF.j2.tail,bF.j2⟩
 ·rcases dO.1 hz with hz|hz
  ·exact h.CI z hz
  ·rw[fw.1 hz]
   exact⟨by show e.list.length<1000;omega,by show(dd p.M.snap p.M.s).ts.length<1000;omega⟩
def Ko{p:av}{n:Int}{f:av->Int->HP}(t:T B H (f p n)):T B H (λσ=>∃a,∃b,(Value.tuple #[.pointer p,J n]=Value.tuple #[.pointer a,J b])/\f a b σ):=λσ o=>⟨p,n,rfl,t σ o⟩
def Kn{p n:aw}{f:aw->aw->HP}(t:T B H (f p n)):T B H (λσ=>∃a,∃b,(Value.tuple #[.agg p,.agg n]=Value.tuple #[.agg a,.agg b])/\f a b σ):=λσ o=>⟨p,n,rfl,t σ o⟩
abbrev jX(a b aa ak kc ks kh:Nat)(s:Setup)(lp:av)(N lc:Nat)(ls:List ib)(X:au):au:=
 cl a (od kc ks kh)::ah 8 lp N lc (ls.flatMap pd)::cl b #[J s.c,J s.z,J s.q,J s.l,.slice lp N lc]::cl aa (ij 0 0 0 false false 0 (ByteArray.mk #[]))::cl ak #[J 0,J 0]::X
def Xq{aU l0:ByteArray}{lns:List (ByteArray×ib)}(g:Gl B)(bd:oy aU (l0::lns.map (·.1)))(hs:uj l0 s.c s.z s.q s.l)(be:∀x∈lns,iU x.1 x.2)(hl:lns.length<=49)(bf:uA s.c s.z s.q s.l=true)(gl:s.c<=12/\s.z<=256)(A:∀n m q:Nat,s.c=n->s.z=m->s.q=q->tn (lns.map (·.2)) ⟨⟨s,aJ.new n m q,a6.new,Lv.new⟩,[],0,0,[]⟩=true)(U:∀t r,T B H (K (.tuple #[.agg (ij t 2 0 true true 0 r),.agg #[J 0,J 0]]))):T B H (ad P 17 #[.string aU] K):=by
 apply an (PB _);refine Sa.go λaa=>Sa.go λak=>?_;refine Yu g bd hs be (by omega) λlp lc=>?_;apply Kn;refine Sa.go λC=>Sa.go λbh=>?_;refine Sc.go ⟨rfl,rfl⟩ ?_;refine Sc.go ⟨rfl,rfl⟩ ?_;apply bV (b:=bh) (cs:=#[J 0,J 0]) rfl;apply qZ (.bool false) (λσ o w hw=>by kernel_rfl);apply St.go;apply aI rfl;rw[aR];refine iV (b:=C) (cs:=#[J s.c,J s.z,J s.q,J s.l,.slice lp lns.length lc]) (cH s) rfl (λj ac=>?_) ?_
 ·obtain rfl|rfl|rfl|rfl:j=0\/j=1\/j=2\/j=3:=by omega
  all_goals rfl
 refine Gt (λh=>by rw[bf]at h;cases h) λn m q' mb ae aV aX am bT bi bW bk bl=>?_;have ai:Kp s 0 ⟨s,aJ.new n m q',a6.new,Lv.new⟩:=(keeps s).new n m q' ae aV aX am (by omega) bi (by omega) bk bl;have A:=A n m q' ae aV aX;apply Ko;apply aI rfl;refine Sa.go λkc=>Sa.go λks=>Sa.go λkh=>Sa.go λe=>?_;have bm:(⟨⟨s.c,s.z,s.q,s.l⟩,aJ.new n m q',a6.new,Lv.new⟩:bx)=⟨s,aJ.new n m q',a6.new,Lv.new⟩:=rfl;obtain⟨M0,aY⟩:∃M0:bx,M0=⟨s,aJ.new n m q',a6.new,Lv.new⟩:=⟨_,rfl⟩;rw[bm,<-aY];rw[<-aY]at ai A;refine aL (bw mb) (u1 λaE=>?_);refine dL 5 ?_;generalize bn:lns.map (·.2)=ls at A;have bX:ls.length=lns.length:=by rw[<-bn];simp
 refine af (H':=jX e C aa ak kc ks kh s lp lns.length lc ls (bw mb M0::cl kc (jT 0 0)::cl ks #[J 0]::cl kh (B3 none 0 0)::ah 5 none 0 0 []::H)) ?_;have G:=(keeps s).fit 0 M0 (by omega) aE ai;have aG:=(keeps s).snd 0 M0 (by omega) aE ai|>.1;rw[<-ai.st]at aG
 refine dh 3 (by omega) (λk Y=>(k<=2/\Y=jX e C aa ak kc ks kh s lp lns.length lc ls (bw mb M0::cl kc (jT 0 0)::cl ks #[J 0]::cl kh (B3 none 0 0)::ah 5 none 0 0 []::H))\/
  (k=3/\∃y,Y=jX e C aa ak kc ks kh s lp lns.length lc ls (nW mb kc ks kh M0 0 0 (dd M0.snap M0.s) y none 0 [] H))) (.inl ⟨by omega,rfl⟩) ?_
 rintro k Y R bp ao aH;rcases ao with⟨bY,rfl⟩|⟨rfl,y,rfl⟩
 ·apply bo (by simp;omega)
  apply ba (by omega);rw[aR];obtain rfl|rfl|rfl:k=0\/k=1\/k=2:=by omega
  ·apply hT (b:=e) (cs:=od kc ks kh) (v:= .iface 103 (c9 kc)) rfl
   apply oH (by kernel_rfl) VD;apply TF;apply nF;exact aH (by omega) _ (.inl ⟨by omega,rfl⟩)
  ·apply hT (b:=e) (cs:=od kc ks kh) (v:= .iface 106 (c9 ks)) rfl
   apply oH (by kernel_rfl) VG;refine bL (q:=bw mb M0) (bL (q:=cl ks #[J 0]) (Ib aG ⟨G.nq,G.r0⟩ ?_));apply nF;exact af (aH (by omega) _ (.inl ⟨by omega,rfl⟩))
  ·apply hT (b:=e) (cs:=od kc ks kh) (v:= .iface 109 (c9 kh)) rfl
   apply oH (by kernel_rfl) VJ;refine bL (q:=bw mb M0) (bL (q:=cl kh (B3 none 0 0)) ?_);refine B5 (S:=⟨[],0,0,[],[]⟩) (y:=⟨none,0,none,0,none,0⟩) (pa:=none) (la:=0) (ca:=0) aG ⟨G.nq,G.r0⟩ λy=>?_;apply nF;have h:=aH (by omega) _ (.inr ⟨rfl,{y with pg:=none,cw:=0},rfl⟩)
   refine af (H':=jX e C aa ak kc ks kh s lp lns.length lc ls (bw mb M0::cl kc (jT 0 0)::cl ks #[J 0]::cl kh (fF (dd M0.snap M0.s) {y with pg:=none,cw:=0} none 0 0)::
    ah 5 y.pt M0.snap.ts.length y.de (M0.snap.ts.flatMap aD)::ah 4 y.pm M0.snap.ms.length y.cm (aW M0.snap.ms)::ah 5 none 0 0 []::H)) ?_
   exact h
 apply aI rfl;rw[aR];apply bU (b:=C) (cs:=#[J s.c,J s.z,J s.q,J s.l,.slice lp lns.length lc]) (p:=lp) (l:=lns.length) (c:=lc) rfl;refine dL 1 ?_;refine dL 4 ?_;clear aH R
 refine Ks lns.length (by omega) (λk ap aZ aq ar a0 ax Y=>∃(p:PS) (rs:List jO) (ys:List (Sh×fz)) (y:fz) (pa:av) (ca:Nat) (Z:au),PF B H s k p rs ys Z/\tn (ls.drop k) p=true/\aZ=rs.length/\a0=p.nums.length/\
  Y=ah 4 ap rs.length aq (rs.flatMap cO)::ah 1 ar p.nums.length ax (iv .i64 p.nums)::jX e C aa ak kc ks kh s lp lns.length lc ls (nW mb kc ks kh p.M p.t p.g (dd p.M.snap p.M.s) y pa ca ys Z)) ?_ ?_
 ·exact⟨⟨M0,[],0,0,[]⟩,[],[],y,none,0,H,⟨ai,aE,⟨fS _,fS _⟩,⟨fS _,fS _⟩,rfl,rfl,by simp,rfl,dQ _,by simp,by simp,λq t=>t⟩,A,rfl,rfl,rfl⟩
 clear A G aG ai aE;rintro k ap aZ aq ar a0 ax Y R1 bp ⟨p,rs,ys,y,pa,ca,Z,hf,A,rfl,rfl,rfl⟩ a1;have bZ:=hf.nl;have b0:=hf.vB;have b1:=hf.CH;have b2:=hf.t;have b4:=hf.g;refine S2.go (λaK=>?_) λaK=>?_
 ·have aK:k<lns.length:=by omega
  have a5:ls[k]?=some ls[k]:=bj (by omega);rw[tT (by omega)]at A;generalize ls[k]'(by omega)=x at a5 A;unfold tn at A;rw[cg]at A;obtain⟨aM,A⟩:=A;have aP:=aM;unfold BA at aP;simp only[cg,bJ,List.isEmpty_iff,iq]at aP;obtain⟨⟨⟨⟨⟨⟨he,bq⟩,br⟩,⟨⟨ha,bs⟩,hc⟩⟩,bt⟩,hlen⟩,aj⟩:=aP;have a7:(cT p.nums x).Fit:=⟨wT ha,wT bs,wT hc,by show 0<1000000;omega⟩;have G:=(keeps s).fit k p.M (by omega) hf.b hf.kp;show T B _ (dI lp lns.length (k:Int) 8 8 _);apply eD (f:=pd) (rs:=ls) Ys (by omega) k rfl aK a5;refine Sa.go λbu=>Sc.go ⟨rfl,rfl⟩ ?_;refine jP (ds:=lr x) rfl ?_;apply bV (b:=bu) (cs:=lr x) rfl;apply Yw (x:=x) (nums:=p.nums) (by omega);apply St.go;refine Sa.go λV=>Sc.go ⟨rfl,rfl⟩ ?_;apply bV (b:=V) (cs:=b3 (cT p.nums x)) rfl;refine aL (bw mb) (TO G a7 he bq br λd aN al ay=>?_);obtain⟨aO,_,az⟩:=(keeps s).step k p.M (cT p.nums x) (by omega) hf.b ay hf.kp a7 (by show 0<=9000;omega);have az:=az 0 (by omega);rw[<-aN]at az;have a8:∀v∈d.list,aF v:=by rw[al];exact λv bv=>wT (bt v bv)
  have a9:d.list.length<=50:=by rw[al];exact hlen
  have W:=(keeps s).fit (k+1) _ (by omega) ay aO;have aA:=(keeps s).snd (k+1) _ (by omega) ay aO|>.1;rw[<-aO.st]at aA;apply St.go;refine Sa.go λD=>Sc.go ⟨rfl,rfl⟩ ?_
  refine dU (α:=av×Nat×av×Nat) (λa=>ah 4 a.1 (rs.length+1) a.2.1 ((rs++[d]).flatMap cO)::ah 1 a.2.2.1 (p.nums.length+1) a.2.2.2 (iv .i64 (p.nums++[d.n]))::ah 1 d.p d.list.length d.c (iv .i64 d.list)::
   cl D (cO d).toArray::cl V (b3 (cT p.nums x))::jX e C aa ak kc ks kh s lp lns.length lc ls (nW mb kc ks kh (p.M.b9 (cT p.nums x)).M p.t p.g (dd p.M.snap p.M.s) y pa ca ys Z))
   (λa=>[.slice a.1 (rs.length+1) a.2.1,.slice a.2.2.1 (p.nums.length+1) a.2.2.2]) (λb5 body=>?_) λa=>?_
  ·have am:rs.flatMap cO++(cO d).toArray.toList=(rs++[d]).flatMap cO:=by simp
   have ae:iv .i64 p.nums++(#[J d.n]:aw).toList=iv .i64 (p.nums++[d.n]):=by simp[iv]
   apply bV (b:=D) (cs:=(cO d).toArray) rfl;apply bg (b:=D) (i:=1) (cs:=(cO d).toArray) (n:=d.n) rfl;refine e0 ?_ ?_
   ·apply ba rfl
    refine Sa.go λb6=>?_;refine jP (ds:=(cO d).toArray) rfl ?_;apply eT (b:=D) (cs:=(cO d).toArray) rfl;refine e0 ?_ ?_
    ·refine aL (ah 4 ap rs.length aq) (eZ (s:=4) rfl (by omega) λaB c'=>?_)
     rw[am];apply eT (b:=D) (cs:=(cO d).toArray) rfl;refine Sa.go λb7=>?_;apply zy (b:=D) (cs:=(cO d).toArray) rfl;refine aL (ah 1 ar p.nums.length ax) (eZ (s:=1) rfl (by omega) λp2 c2=>?_);rw[ae];exact af (body (aB,c',p2,c2))
    ·refine Sa.go λb8=>?_
     apply zy (b:=D) (cs:=(cO d).toArray) rfl;refine aL (ah 4 ap rs.length aq) (eZ (s:=4) rfl (by omega) λaB c'=>?_);rw[am];apply eT (b:=D) (cs:=(cO d).toArray) rfl;refine aL (ah 1 ar p.nums.length ax) (eZ (s:=1) rfl (by omega) λp2 c2=>?_);rw[ae];exact af (body (aB,c',p2,c2))
   ·refine Sa.go λcb=>?_
    apply zy (b:=D) (cs:=(cO d).toArray) rfl;apply ba rfl;refine Sa.go λcc=>?_;refine jP (ds:=(cO d).toArray) rfl ?_;apply eT (b:=D) (cs:=(cO d).toArray) rfl;refine aL (ah 4 ap rs.length aq) (eZ (s:=4) rfl (by omega) λaB c'=>?_);rw[am];apply eT (b:=D) (cs:=(cO d).toArray) rfl;refine aL (ah 1 ar p.nums.length ax) (eZ (s:=1) rfl (by omega) λp2 c2=>?_);rw[ae];exact af (body (aB,c',p2,c2))
  obtain⟨ab,a2,a3,a4⟩:=a;apply J3;generalize bz:(p.M.b9 (cT p.nums x)).M=M2 at W aA;have bA:(fN x p).M=M2:=by rw[<-bz];rfl
  have bb:(fN x p).nums=p.nums++[d.n]:=by rw[aN];rfl
  have bB:(fN x p).t=if(cT p.nums x).kind=12 then p.t+1 else p.t:=rfl;have bC:(fN x p).g=if(cT p.nums x).kind=12 then p.g+d.list.length else p.g:=by rw[al];rfl
  have bD:∀(u:fz) (E:av) (F:Nat) (I:List (Sh×fz)) (L:au),PF B H s (k+1) (fN x p) (rs++[d]) I L->
    T B (ah 4 ab (rs.length+1) a2 ((rs++[d]).flatMap cO)::ah 1 a3 (p.nums.length+1) a4 (iv .i64 (p.nums++[d.n]))::jX e C aa ak kc ks kh s lp lns.length lc ls
     (nW mb kc ks kh M2 (if(cT p.nums x).kind=12 then p.t+1 else p.t) (if(cT p.nums x).kind=12 then p.g+d.list.length else p.g) (dd M2.snap M2.s) u E F I L))
     (R1 [Value.slice ab (rs.length+1) a2,Value.slice a3 (p.nums.length+1) a4,Value.int IntKind.i64 (IntKind.wrap IntKind.i64 ((k:Int)+1))]):=λu E F I L aQ=>by
   refine a1 aK _ _ _ _ _ _ _ ⟨fN x p,rs++[d],I,u,E,F,L,aQ,A,by simp,by rw[bb];simp,?_⟩;rw[bA,bb,bB,bC];simp only[b',sa]
  clear a1
  refine dh 3 (by omega) (λj Y=>(j=0/\Y=ah 4 ab (rs.length+1) a2 ((rs++[d]).flatMap cO)::ah 1 a3 (p.nums.length+1) a4 (iv .i64 (p.nums++[d.n]))::ah 1 d.p d.list.length d.c (iv .i64 d.list)::
    cl D (cO d).toArray::cl V (b3 (cT p.nums x))::jX e C aa ak kc ks kh s lp lns.length lc ls (nW mb kc ks kh M2 p.t p.g (dd p.M.snap p.M.s) y pa ca ys Z))\/
   ((j=1\/j=2)/\Y=ah 4 ab (rs.length+1) a2 ((rs++[d]).flatMap cO)::ah 1 a3 (p.nums.length+1) a4 (iv .i64 (p.nums++[d.n]))::ah 1 d.p d.list.length d.c (iv .i64 d.list)::
    cl D (cO d).toArray::cl V (b3 (cT p.nums x))::jX e C aa ak kc ks kh s lp lns.length lc ls (nW mb kc ks kh M2 (if(cT p.nums x).kind=12 then p.t+1 else p.t) (if(cT p.nums x).kind=12 then p.g+d.list.length else p.g) (dd p.M.snap p.M.s) y pa ca ys Z))\/
   (j=3/\∃(u:fz) (E:av) (F:Nat) (I:List (Sh×fz)) (L:au),PF B H s (k+1) (fN x p) (rs++[d]) I L/\
    Y=ah 4 ab (rs.length+1) a2 ((rs++[d]).flatMap cO)::ah 1 a3 (p.nums.length+1) a4 (iv .i64 (p.nums++[d.n]))::jX e C aa ak kc ks kh s lp lns.length lc ls
     (nW mb kc ks kh M2 (if(cT p.nums x).kind=12 then p.t+1 else p.t) (if(cT p.nums x).kind=12 then p.g+d.list.length else p.g) (dd M2.snap M2.s) u E F I L))) (.inl ⟨rfl,rfl⟩) ?_
  rintro j Y bE bG ao N;rcases ao with⟨rfl,rfl⟩|⟨ac,rfl⟩|⟨rfl,u,E,F,I,L,aQ,rfl⟩
  ·apply bo rfl
   apply ba (by omega);rw[aR];apply hT (b:=e) (cs:=od kc ks kh) (v:= .iface 103 (c9 kc)) rfl;apply bV (b:=V) (cs:=b3 (cT p.nums x)) rfl;apply bV (b:=D) (cs:=(cO d).toArray) rfl;apply oH (by kernel_rfl) VE;refine bL (q:=cl kc (jT p.t p.g)) (TG (by omega) (by omega) (by omega) ?_);apply nF;exact af (N (by omega) _ (.inr (.inl ⟨.inl rfl,rfl⟩)))
  ·apply bo (by rcases ac with rfl|rfl<;>rfl)
   apply ba (by omega);rw[aR];rcases ac with rfl|rfl
   ·apply hT (b:=e) (cs:=od kc ks kh) (v:= .iface 106 (c9 ks)) rfl
    apply bV (b:=V) (cs:=b3 (cT p.nums x)) rfl;apply bV (b:=D) (cs:=(cO d).toArray) rfl;apply oH (by kernel_rfl) VH;refine bL (q:=bw mb M2) (bL (q:=cl ks #[J 0]) (ZH aA ⟨W.nq,W.r0⟩ ?_));apply nF;exact af (N (by omega) _ (.inr (.inl ⟨.inr rfl,rfl⟩)))
   ·apply hT (b:=e) (cs:=od kc ks kh) (v:= .iface 109 (c9 kh)) rfl
    apply bV (b:=V) (cs:=b3 (cT p.nums x)) rfl;apply bV (b:=D) (cs:=(cO d).toArray) rfl;apply oH (by kernel_rfl) VK;have bc:Kp s (k+1) (p.M.b9 (cT p.nums x)).M:=aO;by_cases aC:(cT p.nums x).kind=12
    ·rw[ag aC]at aj
     rw[cg]at aj;obtain⟨aj,bH⟩:=aj;rw[<-al]at aj;obtain⟨bI,bK⟩:=YS bH;refine bL (q:=ah 4 y.pm (dd p.M.snap p.M.s).ms.length y.cm (aW (dd p.M.snap p.M.s).ms)) (bL (q:=ah 5 y.pt (dd p.M.snap p.M.s).ts.length y.de ((dd p.M.snap p.M.s).ts.flatMap aD)) (bL (q:=ah 5 pa ys.length ca (h2 ys)) (bL (q:=bw mb M2) (bL (q:=cl kh (fF (dd p.M.snap p.M.s) y pa ys.length ca)) ?_))));refine YV (r:=d) aC aA ⟨W.nq,W.r0⟩ bI (by omega) aj rfl (by omega) λu E F=>?_;apply nF;have h:=N (by omega) _ (.inr (.inr ⟨rfl,{u with pg:=none,cw:=0},E,F,_,_,PF.Wt (y:=y) hf (by omega) bK aC ay aN al bc az a8 a9,rfl⟩));obtain⟨X,bM⟩:∃X:Sh×fz,X=({dd p.M.snap p.M.s with gs:=d.list},{y with pg:=d.p,cw:=d.c}):=⟨_,rfl⟩;rw[show ys.length+1=(ys++[X]).length from by simp]
     refine af (H':=ah 4 ab (rs.length+1) a2 ((rs++[d]).flatMap cO)::ah 1 a3 (p.nums.length+1) a4 (iv .i64 (p.nums++[d.n]))::jX e C aa ak kc ks kh s lp lns.length lc ls
      (bw mb M2::cl kc (jT (if(cT p.nums x).kind=12 then p.t+1 else p.t) (if(cT p.nums x).kind=12 then p.g+d.list.length else p.g))::cl ks #[J 0]::cl kh (fF (dd M2.snap M2.s) {u with pg:=none,cw:=0} E (ys++[X]).length F)::
       ah 5 u.pt M2.snap.ts.length u.de (M2.snap.ts.flatMap aD)::ah 4 u.pm M2.snap.ms.length u.cm (aW M2.snap.ms)::ah 5 E (ys++[X]).length F (h2 (ys++[({dd p.M.snap p.M.s with gs:=d.list},{y with pg:=d.p,cw:=d.c})]))::
       ah 1 d.p d.list.length d.c (iv .i64 d.list)::ah 5 y.pt (dd p.M.snap p.M.s).ts.length y.de ((dd p.M.snap p.M.s).ts.flatMap aD)::ah 4 y.pm (dd p.M.snap p.M.s).ms.length y.cm (aW (dd p.M.snap p.M.s).ms)::Z)) ?_
     subst bM;exact h
    ·refine bL (q:=bw mb M2) (bL (q:=cl kh (fF (dd p.M.snap p.M.s) y pa ys.length ca)) ?_)
     refine YU (r:=d) aC aA ⟨W.nq,W.r0⟩ λu=>?_;apply nF;have h:=N (by omega) _ (.inr (.inr ⟨rfl,{u with pg:=none,cw:=0},pa,ca,_,_,PF.Ws hf (by omega) aM aC ay aN al bc az a8 a9,rfl⟩))
     refine af (H':=ah 4 ab (rs.length+1) a2 ((rs++[d]).flatMap cO)::ah 1 a3 (p.nums.length+1) a4 (iv .i64 (p.nums++[d.n]))::jX e C aa ak kc ks kh s lp lns.length lc ls
      (bw mb M2::cl kc (jT (if(cT p.nums x).kind=12 then p.t+1 else p.t) (if(cT p.nums x).kind=12 then p.g+d.list.length else p.g))::cl ks #[J 0]::cl kh (fF (dd M2.snap M2.s) {u with pg:=none,cw:=0} pa ys.length ca)::
       ah 5 u.pt M2.snap.ts.length u.de (M2.snap.ts.flatMap aD)::ah 4 u.pm M2.snap.ms.length u.cm (aW M2.snap.ms)::ah 5 pa ys.length ca (h2 ys)::ah 1 d.p d.list.length d.c (iv .i64 d.list)::Z)) ?_
     exact h
  ·apply aI rfl
   exact bD u E F I L aQ
 ·have cd:k=lns.length:=by omega
  rw[C1 (by omega)]at A;unfold tn at A;simp only[cg,bJ]at A;obtain⟨⟨bN,bO⟩,bP⟩:=A;have G:=(keeps s).fit k p.M (by omega) hf.b hf.kp;refine Yv (rs:=rs) g (by omega) (λz hz=>?_) λO=>?_
  ·obtain⟨aS,aT,bQ,bR⟩:=hf.rr z hz
   refine⟨?_,aT,bQ,bR⟩;iterate 14 refine bF.tail ?_
   exact aS
  apply St.go;refine Sa.go λQ=>Sc.go ⟨rfl,rfl⟩ ?_;refine af (H':=cl Q (ij 0 0 0 false false 0 O)::jX e C aa ak kc ks kh s lp lns.length lc ls (nW mb kc ks kh p.M p.t p.g (dd p.M.snap p.M.s) y pa ca ys Z)) ?_
  refine dh 3 (by omega) (λj Y=>(j=0/\Y=cl Q (ij 0 0 0 false false 0 O)::jX e C aa ak kc ks kh s lp lns.length lc ls (nW mb kc ks kh p.M p.t p.g (dd p.M.snap p.M.s) y pa ca ys Z))\/
   ((j=1\/j=2)/\Y=cl Q (ij p.t p.g 0 false false p.M.snap.ts.length O)::jX e C aa ak kc ks kh s lp lns.length lc ls (nW mb kc ks kh p.M p.t p.g (dd p.M.snap p.M.s) y pa ca ys Z))\/
   (j=3/\Y=cl Q (ij p.t p.g 0 true true p.M.snap.ts.length O)::cl aa (ij 0 0 0 false false 0 (ByteArray.mk #[]))::cl ak #[J 0,J 0]::Z)) (.inl ⟨rfl,rfl⟩) ?_
  rintro j Y bE bG ao N;rcases ao with⟨rfl,rfl⟩|⟨ac,rfl⟩|⟨rfl,rfl⟩
  ·apply bo rfl
   apply ba (by omega);rw[aR];apply hT (b:=e) (cs:=od kc ks kh) (v:= .iface 103 (c9 kc)) rfl;apply oH (by kernel_rfl) VF;refine bL (q:=cl Q (ij 0 0 0 false false 0 O)) (bL (q:=bw mb p.M) (bL (q:=cl kc (jT p.t p.g)) (TH ⟨G.nq,G.r0⟩ ?_)));apply nF;exact af (N (by omega) _ (.inr (.inl ⟨.inl rfl,rfl⟩)))
  ·apply bo (by rcases ac with rfl|rfl<;>rfl)
   apply ba (by omega);rw[aR];rcases ac with rfl|rfl
   ·apply hT (b:=e) (cs:=od kc ks kh) (v:= .iface 106 (c9 ks)) rfl
    apply oH (by kernel_rfl) VI;refine bL (q:=cl Q (ij p.t p.g 0 false false p.M.snap.ts.length O)) (bL (q:=cl ks #[J 0]) (ZI ?_));apply nF;exact af (N (by omega) _ (.inr (.inl ⟨.inr rfl,rfl⟩)))
   ·apply hT (b:=e) (cs:=od kc ks kh) (v:= .iface 109 (c9 kh)) rfl
    apply oH (by kernel_rfl) VL;refine bL (q:=cl Q (ij p.t p.g 0 false false p.M.snap.ts.length O)) (bL (q:=ah 5 pa ys.length ca (h2 ys)) (bL (q:=cl kh (fF (dd p.M.snap p.M.s) y pa ys.length ca)) ?_));refine YW rfl (by omega) (λz hz bS=>?_) hf.CI (by rw[hf.ss];exact bP) ?_
    ·obtain⟨aS,aT⟩:=hf.yr z hz bS
     constructor
     ·repeat first|exact aS|refine bF.tail ?_
     ·repeat first|exact aT|refine bF.tail ?_
    apply nF;exact af (N (by omega) _ (.inr (.inr ⟨rfl,rfl⟩)))
  ·apply aI rfl
   refine bV (b:=Q) rfl ?_;refine Sc.go ⟨rfl,rfl⟩ ?_;refine Sc.go ⟨rfl,rfl⟩ ?_;refine bV (b:=aa) rfl ?_;refine bV (b:=ak) rfl ?_;have h:=U p.t O;rw[bN,bO];exact af (hf.z _ h)
end
end
section
open Go.XS Go.bm Go.RowKit Go.Lib
def wl0:iU (bt [114,101,103,105,115,116,101,114,32,50]) (1,[(2,0)]):=λB H K g U=>
 ma (i:=1) (m:=1) (a:=(bt [114,101,103,105,115,116,101,114])) (t:=[(bt [50])]) (q:=[(bt [50])]) (w:=((bt [114,101,103,105,115,116,101,114]),1)) g ⟨by decide,by decide⟩ (by kernel_rfl) (by decide) (by kernel_rfl) (by decide) (by decide) (by kernel_rfl) rfl (by decide)
  (.cons (x:=(bt [114,101,103,105,115,116,101,114])) (r:=(bt [50])) (a:=(bt [50])) (t:=[]) ⟨by decide,by decide⟩ (by kernel_rfl) (.inl ⟨by kernel_rfl,(⟨by decide,by kernel_rfl,by kernel_rfl,by unfold aF;omega⟩:fi (bt [50]) 2),rfl⟩:iS (bt [50]) 2 0) (.nil _)) rfl U
def wl1:iU (bt [114,101,103,105,115,116,101,114,32,51]) (1,[(3,0)]):=λB H K g U=>
 ma (i:=1) (m:=1) (a:=(bt [114,101,103,105,115,116,101,114])) (t:=[(bt [51])]) (q:=[(bt [51])]) (w:=((bt [114,101,103,105,115,116,101,114]),1)) g ⟨by decide,by decide⟩ (by kernel_rfl) (by decide) (by kernel_rfl) (by decide) (by decide) (by kernel_rfl) rfl (by decide)
  (.cons (x:=(bt [114,101,103,105,115,116,101,114])) (r:=(bt [51])) (a:=(bt [51])) (t:=[]) ⟨by decide,by decide⟩ (by kernel_rfl) (.inl ⟨by kernel_rfl,(⟨by decide,by kernel_rfl,by kernel_rfl,by unfold aF;omega⟩:fi (bt [51]) 3),rfl⟩:iS (bt [51]) 3 0) (.nil _)) rfl U
def wl2:iU (bt [97,115,107,32,35,49,32,50]) (3,[(0,1),(2,0)]):=λB H K g U=>
 ma (i:=3) (m:=2) (a:=(bt [97,115,107])) (t:=[(bt [35,49,32,50])]) (q:=[(bt [50])]) (w:=((bt [97,115,107]),2)) g ⟨by decide,by decide⟩ (by kernel_rfl) (by decide) (by kernel_rfl) (by decide) (by decide) (by kernel_rfl) rfl (by decide)
  (.cons (x:=(bt [97,115,107])) (r:=(bt [35,49,32,50])) (a:=(bt [35,49])) (t:=[(bt [50])]) ⟨by decide,by decide⟩ (by kernel_rfl) (.inr ⟨by kernel_rfl,rfl,by decide,(⟨by decide,by kernel_rfl,by kernel_rfl,by unfold aF;omega⟩:fi ((bt [35,49]).extract 1 (bt [35,49]).size) 1),by omega,by omega⟩:iS (bt [35,49]) 0 1) (.cons (x:=(bt [35,49])) (r:=(bt [50])) (a:=(bt [50])) (t:=[]) ⟨by decide,by decide⟩ (by kernel_rfl) (.inl ⟨by kernel_rfl,(⟨by decide,by kernel_rfl,by kernel_rfl,by unfold aF;omega⟩:fi (bt [50]) 2),rfl⟩:iS (bt [50]) 2 0) (.nil _))) rfl U
def wl3:iU (bt [97,115,107,32,35,50,32,51]) (3,[(0,2),(3,0)]):=λB H K g U=>
 ma (i:=3) (m:=2) (a:=(bt [97,115,107])) (t:=[(bt [35,50,32,51])]) (q:=[(bt [51])]) (w:=((bt [97,115,107]),2)) g ⟨by decide,by decide⟩ (by kernel_rfl) (by decide) (by kernel_rfl) (by decide) (by decide) (by kernel_rfl) rfl (by decide)
  (.cons (x:=(bt [97,115,107])) (r:=(bt [35,50,32,51])) (a:=(bt [35,50])) (t:=[(bt [51])]) ⟨by decide,by decide⟩ (by kernel_rfl) (.inr ⟨by kernel_rfl,rfl,by decide,(⟨by decide,by kernel_rfl,by kernel_rfl,by unfold aF;omega⟩:fi ((bt [35,50]).extract 1 (bt [35,50]).size) 2),by omega,by omega⟩:iS (bt [35,50]) 0 2) (.cons (x:=(bt [35,50])) (r:=(bt [51])) (a:=(bt [51])) (t:=[]) ⟨by decide,by decide⟩ (by kernel_rfl) (.inl ⟨by kernel_rfl,(⟨by decide,by kernel_rfl,by kernel_rfl,by unfold aF;omega⟩:fi (bt [51]) 3),rfl⟩:iS (bt [51]) 3 0) (.nil _))) rfl U
def wl4:iU (bt [116,105,99,107]) (12,[]):=λB H K g U=>
 ma (i:=12) (m:=0) (a:=(bt [116,105,99,107])) (t:=[]) (q:=[(bt [116,105,99,107])]) (w:=((bt [116,105,99,107]),0)) g ⟨by decide,by decide⟩ (by kernel_rfl) (by decide) (by kernel_rfl) (by decide) (by decide) (by kernel_rfl) rfl (by decide)
  (.nil _) rfl U
def wl5:iU (bt [114,111,111,116,32,35,49]) (5,[(0,1)]):=λB H K g U=>
 ma (i:=5) (m:=1) (a:=(bt [114,111,111,116])) (t:=[(bt [35,49])]) (q:=[(bt [35,49])]) (w:=((bt [114,111,111,116]),1)) g ⟨by decide,by decide⟩ (by kernel_rfl) (by decide) (by kernel_rfl) (by decide) (by decide) (by kernel_rfl) rfl (by decide)
  (.cons (x:=(bt [114,111,111,116])) (r:=(bt [35,49])) (a:=(bt [35,49])) (t:=[]) ⟨by decide,by decide⟩ (by kernel_rfl) (.inr ⟨by kernel_rfl,rfl,by decide,(⟨by decide,by kernel_rfl,by kernel_rfl,by unfold aF;omega⟩:fi ((bt [35,49]).extract 1 (bt [35,49]).size) 1),by omega,by omega⟩:iS (bt [35,49]) 0 1) (.nil _)) rfl U
def wl6:iU (bt [108,97,121,32,35,54,32,54,52,32,49]) (7,[(0,6),(64,0),(1,0)]):=λB H K g U=>
 ma (i:=7) (m:=3) (a:=(bt [108,97,121])) (t:=[(bt [35,54,32,54,52,32,49])]) (q:=[(bt [49])]) (w:=((bt [108,97,121]),3)) g ⟨by decide,by decide⟩ (by kernel_rfl) (by decide) (by kernel_rfl) (by decide) (by decide) (by kernel_rfl) rfl (by decide)
  (.cons (x:=(bt [108,97,121])) (r:=(bt [35,54,32,54,52,32,49])) (a:=(bt [35,54])) (t:=[(bt [54,52,32,49])]) ⟨by decide,by decide⟩ (by kernel_rfl) (.inr ⟨by kernel_rfl,rfl,by decide,(⟨by decide,by kernel_rfl,by kernel_rfl,by unfold aF;omega⟩:fi ((bt [35,54]).extract 1 (bt [35,54]).size) 6),by omega,by omega⟩:iS (bt [35,54]) 0 6) (.cons (x:=(bt [35,54])) (r:=(bt [54,52,32,49])) (a:=(bt [54,52])) (t:=[(bt [49])]) ⟨by decide,by decide⟩ (by kernel_rfl) (.inl ⟨by kernel_rfl,(⟨by decide,by kernel_rfl,by kernel_rfl,by unfold aF;omega⟩:fi (bt [54,52]) 64),rfl⟩:iS (bt [54,52]) 64 0) (.cons (x:=(bt [54,52])) (r:=(bt [49])) (a:=(bt [49])) (t:=[]) ⟨by decide,by decide⟩ (by kernel_rfl) (.inl ⟨by kernel_rfl,(⟨by decide,by kernel_rfl,by kernel_rfl,by unfold aF;omega⟩:fi (bt [49]) 1),rfl⟩:iS (bt [49]) 1 0) (.nil _)))) rfl U
def wl7:iU (bt [102,114,101,101,32,35,54]) (8,[(0,6)]):=λB H K g U=>
 ma (i:=8) (m:=1) (a:=(bt [102,114,101,101])) (t:=[(bt [35,54])]) (q:=[(bt [35,54])]) (w:=((bt [102,114,101,101]),1)) g ⟨by decide,by decide⟩ (by kernel_rfl) (by decide) (by kernel_rfl) (by decide) (by decide) (by kernel_rfl) rfl (by decide)
  (.cons (x:=(bt [102,114,101,101])) (r:=(bt [35,54])) (a:=(bt [35,54])) (t:=[]) ⟨by decide,by decide⟩ (by kernel_rfl) (.inr ⟨by kernel_rfl,rfl,by decide,(⟨by decide,by kernel_rfl,by kernel_rfl,by unfold aF;omega⟩:fi ((bt [35,54]).extract 1 (bt [35,54]).size) 6),by omega,by omega⟩:iS (bt [35,54]) 0 6) (.nil _)) rfl U
def wl8:iU (bt [103,105,118,101,32,35,49,32,49]) (9,[(0,1),(1,0)]):=λB H K g U=>
 ma (i:=9) (m:=2) (a:=(bt [103,105,118,101])) (t:=[(bt [35,49,32,49])]) (q:=[(bt [49])]) (w:=((bt [103,105,118,101]),2)) g ⟨by decide,by decide⟩ (by kernel_rfl) (by decide) (by kernel_rfl) (by decide) (by decide) (by kernel_rfl) rfl (by decide)
  (.cons (x:=(bt [103,105,118,101])) (r:=(bt [35,49,32,49])) (a:=(bt [35,49])) (t:=[(bt [49])]) ⟨by decide,by decide⟩ (by kernel_rfl) (.inr ⟨by kernel_rfl,rfl,by decide,(⟨by decide,by kernel_rfl,by kernel_rfl,by unfold aF;omega⟩:fi ((bt [35,49]).extract 1 (bt [35,49]).size) 1),by omega,by omega⟩:iS (bt [35,49]) 0 1) (.cons (x:=(bt [35,49])) (r:=(bt [49])) (a:=(bt [49])) (t:=[]) ⟨by decide,by decide⟩ (by kernel_rfl) (.inl ⟨by kernel_rfl,(⟨by decide,by kernel_rfl,by kernel_rfl,by unfold aF;omega⟩:fi (bt [49]) 1),rfl⟩:iS (bt [49]) 1 0) (.nil _))) rfl U
def wl9:iU (bt [116,105,99,107]) (12,[]):=λB H K g U=>
 ma (i:=12) (m:=0) (a:=(bt [116,105,99,107])) (t:=[]) (q:=[(bt [116,105,99,107])]) (w:=((bt [116,105,99,107]),0)) g ⟨by decide,by decide⟩ (by kernel_rfl) (by decide) (by kernel_rfl) (by decide) (by decide) (by kernel_rfl) rfl (by decide)
  (.nil _) rfl U
def aaS:iU (bt [116,105,99,107]) (12,[]):=λB H K g U=>
 ma (i:=12) (m:=0) (a:=(bt [116,105,99,107])) (t:=[]) (q:=[(bt [116,105,99,107])]) (w:=((bt [116,105,99,107]),0)) g ⟨by decide,by decide⟩ (by kernel_rfl) (by decide) (by kernel_rfl) (by decide) (by decide) (by kernel_rfl) rfl (by decide)
  (.nil _) rfl U
def aaT:iU (bt [115,116,97,116,101,32,35,50,32,35,52]) (13,[(0,2),(0,4)]):=λB H K g U=>
 ma (i:=13) (m:=2) (a:=(bt [115,116,97,116,101])) (t:=[(bt [35,50,32,35,52])]) (q:=[(bt [35,52])]) (w:=((bt [115,116,97,116,101]),2)) g ⟨by decide,by decide⟩ (by kernel_rfl) (by decide) (by kernel_rfl) (by decide) (by decide) (by kernel_rfl) rfl (by decide)
  (.cons (x:=(bt [115,116,97,116,101])) (r:=(bt [35,50,32,35,52])) (a:=(bt [35,50])) (t:=[(bt [35,52])]) ⟨by decide,by decide⟩ (by kernel_rfl) (.inr ⟨by kernel_rfl,rfl,by decide,(⟨by decide,by kernel_rfl,by kernel_rfl,by unfold aF;omega⟩:fi ((bt [35,50]).extract 1 (bt [35,50]).size) 2),by omega,by omega⟩:iS (bt [35,50]) 0 2) (.cons (x:=(bt [35,50])) (r:=(bt [35,52])) (a:=(bt [35,52])) (t:=[]) ⟨by decide,by decide⟩ (by kernel_rfl) (.inr ⟨by kernel_rfl,rfl,by decide,(⟨by decide,by kernel_rfl,by kernel_rfl,by unfold aF;omega⟩:fi ((bt [35,52]).extract 1 (bt [35,52]).size) 4),by omega,by omega⟩:iS (bt [35,52]) 0 4) (.nil _))) rfl U
def aaW:uj (bt [109,97,110,111,114,32,51,32,54,52,32,49,32,48]) 3 64 1 0:=λB H K g U=>Yz (x0:=(bt [109,97,110,111,114])) (x1:=(bt [51])) (x2:=(bt [54,52])) (x3:=(bt [49])) (x4:=(bt [48])) g ⟨by decide,by decide⟩ (by kernel_rfl) (by kernel_rfl) (by decide) rfl (⟨by decide,by kernel_rfl,by kernel_rfl,by unfold aF;omega⟩:fi (bt [51]) 3) (⟨by decide,by kernel_rfl,by kernel_rfl,by unfold aF;omega⟩:fi (bt [54,52]) 64) (⟨by decide,by kernel_rfl,by kernel_rfl,by unfold aF;omega⟩:fi (bt [49]) 1) (⟨by decide,by kernel_rfl,by kernel_rfl,by unfold aF;omega⟩:fi (bt [48]) 0) U
abbrev wSc:ByteArray:=ByteArray.mk (List.toArray (List.append [109,97,110,111,114,32,51,32,54,52,32,49,32,48,10,114,101,103,105,115,116,101,114,32,50,10,114,101,103,105,115,116,101,114,32,51,10,97,115,107,32,35,49,32,50,10,97,115,107,32,35,50,32,51,10,116,105,99,107,10] [114,111,111,116,32,35,49,10,108,97,121,32,35,54,32,54,52,32,49,10,102,114,101,101,32,35,54,10,103,105,118,101,32,35,49,32,49,10,116,105,99,107,10,116,105,99,107,10,115,116,97,116,101,32,35,50,32,35,52,10]))
def aaV:oy wSc [(bt [109,97,110,111,114,32,51,32,54,52,32,49,32,48]),(bt [114,101,103,105,115,116,101,114,32,50]),(bt [114,101,103,105,115,116,101,114,32,51]),(bt [97,115,107,32,35,49,32,50]),(bt [97,115,107,32,35,50,32,51]),(bt [116,105,99,107]),(bt [114,111,111,116,32,35,49]),(bt [108,97,121,32,35,54,32,54,52,32,49]),(bt [102,114,101,101,32,35,54]),(bt [103,105,118,101,32,35,49,32,49]),(bt [116,105,99,107]),(bt [116,105,99,107]),(bt [115,116,97,116,101,32,35,50,32,35,52])]:=
 .cons (r:=(bt [114,101,103,105,115,116,101,114,32,50,10,114,101,103,105,115,116,101,114,32,51,10,97,115,107,32,35,49,32,50,10,97,115,107,32,35,50,32,51,10,116,105,99,107,10,114,111,111,116,32,35,49,10,108,97,121,32,35,54,32,54,52,32,49,10,102,114,101,101,32,35,54,10,103,105,118,101,32,35,49,32,49,10,116,105,99,107,10,116,105,99,107,10,115,116,97,116,101,32,35,50,32,35,52,10])) (b:=true) (by decide) (by decide) (by kernel_rfl) (by decide) (by decide) (
 .cons (r:=(bt [114,101,103,105,115,116,101,114,32,51,10,97,115,107,32,35,49,32,50,10,97,115,107,32,35,50,32,51,10,116,105,99,107,10,114,111,111,116,32,35,49,10,108,97,121,32,35,54,32,54,52,32,49,10,102,114,101,101,32,35,54,10,103,105,118,101,32,35,49,32,49,10,116,105,99,107,10,116,105,99,107,10,115,116,97,116,101,32,35,50,32,35,52,10])) (b:=true) (by decide) (by decide) (by kernel_rfl) (by decide) (by decide) (
 .cons (r:=(bt [97,115,107,32,35,49,32,50,10,97,115,107,32,35,50,32,51,10,116,105,99,107,10,114,111,111,116,32,35,49,10,108,97,121,32,35,54,32,54,52,32,49,10,102,114,101,101,32,35,54,10,103,105,118,101,32,35,49,32,49,10,116,105,99,107,10,116,105,99,107,10,115,116,97,116,101,32,35,50,32,35,52,10])) (b:=true) (by decide) (by decide) (by kernel_rfl) (by decide) (by decide) (
 .cons (r:=(bt [97,115,107,32,35,50,32,51,10,116,105,99,107,10,114,111,111,116,32,35,49,10,108,97,121,32,35,54,32,54,52,32,49,10,102,114,101,101,32,35,54,10,103,105,118,101,32,35,49,32,49,10,116,105,99,107,10,116,105,99,107,10,115,116,97,116,101,32,35,50,32,35,52,10])) (b:=true) (by decide) (by decide) (by kernel_rfl) (by decide) (by decide) (
 .cons (r:=(bt [116,105,99,107,10,114,111,111,116,32,35,49,10,108,97,121,32,35,54,32,54,52,32,49,10,102,114,101,101,32,35,54,10,103,105,118,101,32,35,49,32,49,10,116,105,99,107,10,116,105,99,107,10,115,116,97,116,101,32,35,50,32,35,52,10])) (b:=true) (by decide) (by decide) (by kernel_rfl) (by decide) (by decide) (
 .cons (r:=(bt [114,111,111,116,32,35,49,10,108,97,121,32,35,54,32,54,52,32,49,10,102,114,101,101,32,35,54,10,103,105,118,101,32,35,49,32,49,10,116,105,99,107,10,116,105,99,107,10,115,116,97,116,101,32,35,50,32,35,52,10])) (b:=true) (by decide) (by decide) (by kernel_rfl) (by decide) (by decide) (
 .cons (r:=(bt [108,97,121,32,35,54,32,54,52,32,49,10,102,114,101,101,32,35,54,10,103,105,118,101,32,35,49,32,49,10,116,105,99,107,10,116,105,99,107,10,115,116,97,116,101,32,35,50,32,35,52,10])) (b:=true) (by decide) (by decide) (by kernel_rfl) (by decide) (by decide) (
 .cons (r:=(bt [102,114,101,101,32,35,54,10,103,105,118,101,32,35,49,32,49,10,116,105,99,107,10,116,105,99,107,10,115,116,97,116,101,32,35,50,32,35,52,10])) (b:=true) (by decide) (by decide) (by kernel_rfl) (by decide) (by decide) (
 .cons (r:=(bt [103,105,118,101,32,35,49,32,49,10,116,105,99,107,10,116,105,99,107,10,115,116,97,116,101,32,35,50,32,35,52,10])) (b:=true) (by decide) (by decide) (by kernel_rfl) (by decide) (by decide) (
 .cons (r:=(bt [116,105,99,107,10,116,105,99,107,10,115,116,97,116,101,32,35,50,32,35,52,10])) (b:=true) (by decide) (by decide) (by kernel_rfl) (by decide) (by decide) (
 .cons (r:=(bt [116,105,99,107,10,115,116,97,116,101,32,35,50,32,35,52,10])) (b:=true) (by decide) (by decide) (by kernel_rfl) (by decide) (by decide) (
 .cons (r:=(bt [115,116,97,116,101,32,35,50,32,35,52,10])) (b:=true) (by decide) (by decide) (by kernel_rfl) (by decide) (by decide) (
 .cons (r:=(bt [])) (b:=true) (by decide) (by decide) (by kernel_rfl) (by decide) (by decide) (
 .nil (by decide))))))))))))))
abbrev yJ:List (ByteArray×ib):=[((bt [114,101,103,105,115,116,101,114,32,50]),((1:Int),([(2,0)]:List (Int×Int)))),((bt [114,101,103,105,115,116,101,114,32,51]),((1:Int),([(3,0)]:List (Int×Int)))),((bt [97,115,107,32,35,49,32,50]),((3:Int),([(0,1),(2,0)]:List (Int×Int)))),((bt [97,115,107,32,35,50,32,51]),((3:Int),([(0,2),(3,0)]:List (Int×Int)))),((bt [116,105,99,107]),((12:Int),([]:List (Int×Int)))),((bt [114,111,111,116,32,35,49]),((5:Int),([(0,1)]:List (Int×Int)))),((bt [108,97,121,32,35,54,32,54,52,32,49]),((7:Int),([(0,6),(64,0),(1,0)]:List (Int×Int)))),((bt [102,114,101,101,32,35,54]),((8:Int),([(0,6)]:List (Int×Int)))),((bt [103,105,118,101,32,35,49,32,49]),((9:Int),([(0,1),(1,0)]:List (Int×Int)))),((bt [116,105,99,107]),((12:Int),([]:List (Int×Int)))),((bt [116,105,99,107]),((12:Int),([]:List (Int×Int)))),((bt [115,116,97,116,101,32,35,50,32,35,52]),((13:Int),([(0,2),(0,4)]:List (Int×Int))))]
def aaU:∀x∈yJ,iU x.1 x.2:=by
 intro x a;simp only[yJ,cL,jJ,jm]at a;rcases a with rfl|rfl|rfl|rfl|rfl|rfl|rfl|rfl|rfl|rfl|rfl|rfl
 ·exact wl0
 ·exact wl1
 ·exact wl2
 ·exact wl3
 ·exact wl4
 ·exact wl5
 ·exact wl6
 ·exact wl7
 ·exact wl8
 ·exact wl9
 ·exact aaS
 ·exact aaT
abbrev IC:Setup:=⟨3,64,1,0⟩
def aaF:tn (yJ.map (·.2)) ⟨⟨IC,aJ.new 3 64 1,a6.new,Lv.new⟩,[],0,0,[]⟩=true:=by kernel_rfl
def aao{B:Heap}(g:Gl B):D3 B:=by
 intro H K U;apply an (SO);unfold EE;refine Xq (s:=IC) (lns:=yJ) g aaV aaW aaU (by decide) (by kernel_rfl) ⟨by decide,by decide⟩ (λn m q h1 a b=>?_) λt r=>?_
 ·obtain rfl:n=3:=by simp only at h1;omega
  obtain rfl:m=64:=by simp only at a;omega
  obtain rfl:q=1:=by simp only at b;omega
  exact aaF
 exact St.go (Sa.go λc=>Sa.go λd=>Sc.go ⟨rfl,rfl⟩ (Sc.go ⟨rfl,rfl⟩ (bg rfl (bo rfl (bg rfl (bo rfl (bg rfl (bo rfl (bg rfl (bo rfl (iW rfl (bo rfl (iW rfl (bo rfl (bg rfl (af U))))))))))))))))
end
section
open Go.XS Go.bm
abbrev j4(l:Ld):Int:=dM 3 l.chunk l.gen l.at'
def ja(i:Nat):UInt8:=UInt8.ofNat (97+i%8)
def Wr(S:aE)(l:Ld)(c:UInt8):Prop:=∀p:Nat,p<l.len.toNat->(S.hV l.chunk)[l.at'.toNat+p]?=some c
def Up{l:List Pc}{p:Pc}(hd:l.Pairwise λa b=>a.at'+a.len<=b.at')(hl:∀a∈l,1<=a.len)(c:p∈l):(l.find? λq=>q.at'==p.at')=some p:=by
 induction l with
 |nil=>cases c
 |cons a l d=>
  rw[my]at hd;rw[C2];rcases cL.1 c with rfl|c
  ·simp
  ·have h1:=hd.1 p c
   have f:=hl a j';rw[show(a.at'==p.at')=false from by simp;omega];exact d hd.2 (λb e=>hl b (iw _ e)) c
def Wf{α:Type}{m:ML α}(h:bQ m){e:Int×α}(he:e∈m):aQ m e.1=some e.2:=by
 induction m with
 |nil=>cases he
 |cons a m b=>
  unfold bQ ed at h;rw[a7,cX,my]at h;unfold aQ;rcases cL.1 he with rfl|he
  ·rw[ag rfl]
  ·have:=h.1 e.1 (List.mem_map_of_mem he)
   rw[aj (by omega)];exact b h.2 he
section
variable {s:Setup}{k:Nat}{M:bx}{l l2:Ld}{t:List UInt8}{c c2:UInt8}
structure jq(M:bx)(l:Ld):Prop where
 Fx:M.V.bk (j4 l)=0
 f:M.V.find (j4 l)=l
 of:M.hY l.bR=0\/M.hY l.bR=8
 live:M.X.S.gC l.chunk l.gen=0
 ok:M.X.S.ok l.chunk=true
 dl:(M.X.S.hV l.chunk).length=M.X.S.size
 len:1<=l.len/\0<=l.at'/\l.at'+l.len<=(M.X.S.size:Int)/\M.X.S.size<=256
 i64:aF (j4 l)
 oP:0<=l.chunk/\l.chunk<=1048575/\0<=l.gen/\l.gen<=1048575/\l.at'<=1048575
def xZ(h:Kp s k M)(i:Basic M)(U:k<=200)(hl:l∈M.V.hU):jq M l:=by
 obtain⟨e,he,pc,c,rfl⟩:=Gb hl;obtain⟨aM,j,dG⟩:=i.yI e he;obtain⟨x,a2,q,a3,a4⟩:=h.li e he;obtain⟨d1,d2,d3,d4,d5⟩:=a4 pc c;obtain⟨s1,s2,t,s4,y,A⟩:=aM.sm pc c;obtain⟨g1,g2⟩:=aM.gen;obtain⟨v1,v2,v3,v4,v5⟩:=FT (k:=3) (p:=e.1) (g:=e.2.gen) (o:=pc.at') (by omega) ⟨j,dG⟩ ⟨g1,g2⟩ ⟨s1,s2⟩;have f:=Aq aM.R;unfold Lk.ss at f;rw[kR]at f
 have m:M.V.sR (dM 3 e.1 e.2.gen pc.at')=some ⟨e.1,e.2.gen,pc.bR,pc.at',pc.len⟩:=by unfold Lv.sR;rw[v3,v4,v5,Wf i.vs he];simp only[eb];rw[Up f (λa ha=>(aM.sm a ha).2.2.1) c]
 have n:M.V.bk (dM 3 e.1 e.2.gen pc.at')=0:=by unfold Lv.bk;rw[ag ⟨v1,v2⟩,m]
 obtain⟨b,i2,i3,i4⟩:=h.ip.ir q e.1 a3;have B:=h.ac.inv.ck b;have r:=aE.hG b;obtain⟨p1,p2,p3,p4,p5,C,u,v⟩:=h.ac.inv.ph _ (cr r.1);have D:=h.sz;have hz:=h.z;refine⟨n,?_,?_,?_,b,?_,⟨t,s1,by show pc.at'+pc.len<=_;omega,by omega⟩,by show aF (dM 3 e.1 e.2.gen pc.at');unfold aF dM;omega,⟨j,dG,g1,g2,s2⟩⟩
 ·unfold Lv.find
  rw[ag n,m];rfl
 ·show M.hY pc.bR=0\/M.hY pc.bR=8
  unfold bx.hY;rw[ag d2,d1]
  have w:(M.W.rg q).aO∈M.X.L.ks:=by
   have:=h.ac.own _ (cr r.1) (by rw[i3]at p4⊢;have:=p4 i2;omega)
   rwa [i3,show(M.W.rg q).aO+1-1=(M.W.rg q).aO from by omega]at this
  obtain⟨f1,f2,f3⟩:=AI h.ac.ar h.ac.sl (h.xn U) w;unfold aJ.e2;rw[ag f1];split
  ·exact .inr rfl
  ·exact .inl rfl
 ·show M.X.S.gC e.1 e.2.gen=0
  unfold aE.gC;rw[ag b,ag ⟨i2,a2.symm⟩]
 ·show(M.X.S.hV e.1).length=_
  unfold aE.hV
  cases hd:(M.X.S.at' e.1).data with
  |none=>have:=u hd;omega
  |some d=>exact v d hd
def GG(h:jq M l):kB M.V (j4 l) 0 l.len=0:=by obtain⟨a,b,c,d⟩:=h.len;unfold kB;rw[ag h.Fx,aj (by omega),h.f,aj (by omega)]
def yN(h:jq M l):within (M.X.S.hV l.chunk).length (l.at'+0) l.len:=by obtain⟨a,b,c,d⟩:=h.len;rw[h.dl];exact⟨by omega,by omega,by omega⟩
def Wo(h:jq M l)(a:(t.length:Int)=l.len):u6 M.X.S M.V (j4 l) 0 t=0/\l' M.X.S M.V (j4 l) 0 t=M.X.S.put l.chunk l.gen (l.at'+0) t:=by have hm:=GG h;unfold u6 l';rw[a,ag hm,ag hm,h.f];refine⟨?_,rfl⟩;unfold aE.fO hW;rw[ag h.live,a,ag (yN h)]
def Bf(h:jq M l):u5 M.X.S M.V (j4 l) 0 l.len=0/\rE M.X.S M.V (j4 l) 0 l.len=((M.X.S.hV l.chunk).drop l.at'.toNat).take l.len.toNat:=by have hm:=GG h;unfold u5 rE;rw[ag hm,ag hm,h.f];unfold aE.s5 aE.loadT hW uY;rw[ag h.live,ag h.live,ag (yN h),ag (yN h),CW];exact⟨rfl,rfl⟩
def Wl(h:jq M l):((rE M.X.S M.V (j4 l) 0 l.len).length:Int)=l.len:=by obtain⟨a,b,c,d⟩:=h.len;have hd:=h.dl;rw[(Bf h).2,fv,kN];omega
def Wk(h:jq M l)(hw:Wr M.X.S l c){p:Nat}(a:p<l.len.toNat):(rE M.X.S M.V (j4 l) 0 l.len)[p]?=some c:=by rw[(Bf h).2,ny,ag a,pF];exact hw p a
def put_eq{S:aE}{i g a:Int}(h:S.gC i g=0):S.put i g a t=⟨S.size,S.cs.set i.toNat (kF (S.at' i) a t),S.free,S.bl+1⟩:=by unfold aE.put;rw[ag h]
def BH{S:aE}{i g a:Int}(h:S.gC i g=0)(b:(S.put i g a t).Inv):S.Step (S.put i g a t) i (kF (S.at' i) a t):=by obtain⟨h1,c,d⟩:=Gi h;rw[put_eq h]at b⊢;exact⟨h1,rfl,rfl,rfl,b⟩
def XC{i g a:Int}(h:Kp s k M)(hl:M.X.S.gC i g=0)(d:(M.X.S.put i g a t).Inv)(hc:M.X.S.bl+1<=30*k):Kp s k {M with X:={M.X with S:=M.X.S.put i g a t}}:=by
 have st:=BH hl d;generalize M.X.S.put i g a t=S' at st d
 have c:∀j,M.X.S.ok j=true->(S'.at' j).ph=(M.X.S.at' j).ph/\(S'.at' j).own=(M.X.S.at' j).own/\(S'.at' j).gen=(M.X.S.at' j).gen:=λj b=>by
  by_cases e:j=i
  ·subst e;rw[st.pV];exact⟨rfl,rfl,rfl⟩
  ·rw[st.i6 (ez.1 b).1 e];exact⟨rfl,rfl,rfl⟩
 have f:=st.ck;exact⟨h.st,by show(S'.cs.length:Int)=_;rw[st.len];exact h.n,by show S'.cs.length<=_;rw[st.len];exact h.je,by show(S'.size:Int)=_;rw[st.sz];exact h.sz,h.z,h.ac.same st rfl rfl,h.ts,h.ip.congr st.len λj b _=>⟨(c j b).1,(c j b).2.1⟩,h.li.congr st.len λj q b _=>(c j b).2.2,h.ri,h.gs,by show S'.bl<=_;omega,h.nx,h.wc,h.vc,h.vl,h.ai,h.al,h.tk,h.tb⟩
def Hp{S:aE}{i g a:Int}(h:S.gC i g=0)(b:(S.put i g a t).Inv):(S.put i g a t).hV i=stored (S.hV i) a t/\∀j,0<=j->j≠i->(S.put i g a t).hV j=S.hV j:=by have st:=BH h b;unfold aE.hV;rw[st.pV];exact⟨rfl,λj c d=>by rw[st.i6 c d]⟩
def Hq{p:Nat}(h:jq M l)(e:(M.X.S.put l.chunk l.gen (l.at'+0) t).Inv)(f:(t.length:Int)=l.len):((M.X.S.put l.chunk l.gen (l.at'+0) t).hV l.chunk)[p]?=if l.at'.toNat<=p/\p<l.at'.toNat+t.length then t[p-l.at'.toNat]? else(M.X.S.hV l.chunk)[p]?:=by have hw:=yN h;obtain⟨a,b,c,d⟩:=h.len;have hd:=h.dl;rw[(Hp h.live e).1];unfold stored;rw[f,ag hw,CW,yG (by omega)]
def aa4(h:jq M l)(b:(M.X.S.put l.chunk l.gen (l.at'+0) (List.replicate l.len.toNat c)).Inv):Wr (M.X.S.put l.chunk l.gen (l.at'+0) (List.replicate l.len.toNat c)) l c:=λp d=>by obtain⟨a,_⟩:=h.len;rw[Hq h b (by rw[g'];omega),g',ag (by omega),r8,ag (by omega)]
def aa3(h:jq M l)(a:jq M l2)(b:(M.X.S.put l.chunk l.gen (l.at'+0) t).Inv)(d:(t.length:Int)=l.len)(hd:l.chunk=l2.chunk->h3 l.sp l2.sp=false)(hw:Wr M.X.S l2 c2):Wr (M.X.S.put l.chunk l.gen (l.at'+0) t) l2 c2:=λp c=>by
 by_cases e:l2.chunk=l.chunk
 ·have hd:=hd e.symm
  obtain⟨f,a2,_,_⟩:=h.len;obtain⟨g,dG,_,_⟩:=a.len
  have i:¬(l.at'<l2.at'+l2.len/\l2.at'<l.at'+l.len):=λj=>by have h1:=h.oP;have k:=a.oP;have m:=h.len;have n:=a.len;unfold h3 hI Ld.sp at hd;simp only[vZ,hg]at hd;omega
  rw[e,Hq h b d,aj (by omega),<-e];exact hw p c
 ·rw[(Hp h.live b).2 _ a.oP.1 e]
  exact hw p c
def V7{a b:Sp}(h:h3 a b=false):h3 b a=false:=by
 unfold h3 at h⊢;simp only[vZ,hg]at h⊢;rcases h with(h|h)|h
 ·exact .inl (.inr h)
 ·exact .inl (.inl h)
 ·exact .inr λc=>h ⟨c.2,c.1⟩
structure wv(s:Setup)(L:List Ld)(n0 i:Nat)(M:bx)(D:List Bool):Prop where
 kp:Kp s 180 M
 b:Basic M
 ck:M.X.S.bl<=n0+i
 v:M.V.hU=L
 dl:D.length=i
 done:∀(j:Nat) l,L[j]?=some l->D[j]?=some true->Wr M.X.S l (ja j)
abbrev kK(l:Ld)(c:UInt8):Op:=⟨10,j4 l,0,0,List.replicate l.len.toNat c⟩
abbrev j5(l:Ld):Op:=⟨11,j4 l,0,l.len,[]⟩
def IQ(h:jq M l):(M.b9 (kK l c)= .bad {M with X:={M.X with S:=M.X.S.put l.chunk l.gen (l.at'+0) (List.replicate l.len.toNat c)}} 0)\/M.b9 (kK l c)= .bad M 8:=by
 obtain⟨a,_⟩:=h.len;have e:M.b9 (kK l c)=M.write (kK l c):=rfl;rw[e];unfold bx.write;rw[ag h.Fx,h.f];obtain⟨d,w2⟩:=Wo h (t:=List.replicate l.len.toNat c) (by rw[g'];omega);rcases h.of with b|b
 ·rw[ag b,d,w2]
  exact .inl rfl
 ·rw[aj (by omega),b]
  exact .inr rfl
def KO{L:List Ld}{n0 i:Nat}{D:List Bool}(h:wv s L n0 i M D)(w:n0+L.length<=5400)(hl:L[i]?=some l)(f:Basic (M.b9 (kK l (ja i))).M):((M.b9 (kK l (ja i))).e=0\/(M.b9 (kK l (ja i))).e=8)/\wv s L n0 (i+1) (M.b9 (kK l (ja i))).M (D++[decide ((M.b9 (kK l (ja i))).e=0)]):=by
 have m:l∈M.V.hU:=by rw[h.v];exact cr hl
 have hi:=(bY.1 hl).1;have g:=(h.kp.snd h.b (by omega)).pp;have hf:=xZ h.kp h.b (by omega) m;have n:=h.dl;rcases IQ hf with e|e
 ·rw[e]at f⊢
  have d:=f.inv;have d:(M.X.S.put l.chunk l.gen (l.at'+0) (List.replicate l.len.toNat (ja i))).Inv:=d;have st:=BH hf.live d;have o:=h.ck;have x:=st.ck;refine⟨.inl rfl,XC h.kp hf.live d (by omega),f,by show(M.X.S.put _ _ _ _).bl<=_;omega,h.v,by rw[b',h.dl];rfl,λj l2 c a=>?_⟩;have a:(D++[true])[j]?=some true:=a;by_cases p:j=i
  ·subst p
   rw[hl]at c;cases c;exact aa4 hf d
  ·have k:j<i:=by have:=(bY.1 a).1;rw[b',sa]at this;omega
   rw[gx (by omega)]at a;have q:l2∈M.V.hU:=by rw[h.v];exact cr c
   have r:=xZ h.kp h.b (by omega) q;refine aa3 hf r d (by rw[g'];have:=hf.len;omega) (λhc=>?_) (h.done j l2 c a);have g:M.V.hU.Pairwise _:=g;rw[h.v,mz]at g;obtain⟨q1,q2⟩:=bY.1 c;obtain⟨t,u⟩:=bY.1 hl;have:=g j i q1 t k;rw[q2,u]at this;exact V7 (this.1 hc.symm)
 ·rw[e]at f⊢
  have o:=h.ck;refine⟨.inr rfl,h.kp,h.b,by show M.X.S.bl<=_;omega,h.v,by rw[b',h.dl];rfl,λj l2 c a=>?_⟩;have a:(D++[false])[j]?=some true:=a
  have k:j<i:=by have:=(bY.1 a).1;rw[b',sa]at this;refine Nat.lt_of_le_of_ne (by omega) λe=>?_;rw[e,iu (by omega),n,kS]at a;cases a
  rw[gx (by omega)]at a;exact h.done j l2 c a
def XP(h:jq M l):(M.b9 (j5 l)).M=M/\(M.b9 (j5 l)).e=0/\(M.b9 (j5 l)).list=[]/\((M.b9 (j5 l)).text.length:Int)=l.len/\∀c,Wr M.X.S l c->∀p:Nat,p<l.len.toNat->(M.b9 (j5 l)).text[p]?=some c:=⟨rfl,(Bf h).1,rfl,Wl h,λc hw p a=>Wk h hw a⟩
def U'(h:Kp s k M)(a:Basic M)(U:k<=60):M.V.hU.length<=3600:=by
 have vl:=h.vl;have vc:=h.vc
 have h1:∀e∈M.V.all,(ek e.1 e.2).length<=60:=λe he=>by have:=(a.yI e he).1.len;unfold ek;rw[eX];omega
 have b:=FA h1;have c:M.V.all.length*60<=60*60:=jk _ (by omega);have:M.V.hU.length<=M.V.all.length*60:=b;omega
def Kp.up(h:Kp s k M):∀j,Kp s (k+j) M
 |0=>h
 |j+1=>(h.up j).more
def KN(h:Kp s k M)(a:Basic M)(U:k<=60):wv s M.V.hU 1800 0 M []:=by have ck:=h.ck;have h1:=h.up (180-k);rw[show k+(180-k)=180 from by omega]at h1;exact⟨h1,a,by omega,rfl,rfl,λj l _ b=>by cases b⟩
end
end
section
open Go.XS Go.bm
instance ac9:fG P 60 1:=fG.of (e:=0) (by kernel_rfl)
abbrev D4:ByteArray:=ByteArray.mk #[97,98,99,100,101,102,103,104]
def Iv(k:Nat):Int.tmod (k:Int) 8=((k%8:Nat):Int):=rfl
def Kz{r:Nat}(h:r<8):ByteArray.extract D4 r (r+1)=ByteArray.mk #[UInt8.ofNat (97+r)]:=by
 obtain rfl|rfl|rfl|rfl|rfl|rfl|rfl|rfl:r=0\/r=1\/r=2\/r=3\/r=4\/r=5\/r=6\/r=7:=by omega
 all_goals kernel_rfl
def Z4{r:Nat}(h:r<8):gv D4 (r:Int)=((UInt8.ofNat (97+r)).toNat:Int):=by
 obtain rfl|rfl|rfl|rfl|rfl|rfl|rfl|rfl:r=0\/r=1\/r=2\/r=3\/r=4\/r=5\/r=6\/r=7:=by omega
 all_goals kernel_rfl
def X7(j:Nat)(c:UInt8):ByteArray.mk (List.replicate j c).toArray++ByteArray.mk #[c]=ByteArray.mk (List.replicate (j+1) c).toArray:=by apply ByteArray.ext;rw[ByteArray.data_append,C8];apply gE;simp
def Z5{T:List UInt8}{p:Nat}{c:UInt8}(h:T[p]?=some c):gv ⟨T.toArray⟩ (p:Int)=(c.toNat:Int):=by unfold gv;rw[aZ,dE,h];rfl
section
variable {B:Heap}{H H0:au}{K:aK}{s:Setup}{b:Nat}{M:bx}{o:Op}{p q:av}{a:Addr}{rs:List Ld}{l:Ld}{i:Nat}
def DZ{p:av}{n:Bool}{f:av->Bool->HP}(t:T B H (f p n)):T B H (λσ=>∃a,∃b,(Value.tuple #[.pointer p,.bool n]=Value.tuple #[.pointer a,.bool b])/\f a b σ):=λσ o=>⟨p,n,rfl,t σ o⟩
def DP{p:av}{f:av->HP}(t:T B H (f p)):T B H (λσ=>∀a,([Value.pointer p]=[Value.pointer a])->f a σ):=by intro σ o a h;cases h;exact t σ o
def DO{f:HP}(t:T B H f):T B H (λσ=>(([]:az)=[])->f σ):=λσ o _=>t σ o
def vw{ys:az}[h:Rd B H p ys](b:p=some a){σ:Heap}(o:Own B H σ){i:Nat}(hi:i<ys.length):b0 σ (a.add i)=ys[i]?:=by
 rcases h.rd σ o with⟨h1,_⟩|⟨a',h1,c⟩
 ·rw[h1]at b;cases b
 ·rw[h1]at b
  cases b;exact c i hi
def wI{ys:az}[h:Rd B H p ys](b:0<ys.length){f:Addr->HP}(t:∀a,p=some a->T B H (f a)):T B H (ay p f):=by
 intro σ o;rcases h.rd σ o with⟨h1,c⟩|⟨a',h1,c⟩
 ·rw[c]at b;cases b
 ·have:=t a' h1 σ o
  rw[h1];exact this
def lQ{f:Addr->HP}(e:p=some a)(t:T B H (f a)):T B H (ay p f):=by subst e;exact t
def J4{ys:az}[h:Rd B H p ys](b:p=some a){n:Bool}(hc:ys[i]?=some (.bool n)){f:Bool->HP}(t:T B H (f n)):T B H (gB (a.add (Int.toNat (i:Int))) f):=λσ o=>⟨n,by rw[aZ,vw b o (bY.1 hc).1];exact hc,t σ o⟩
def uT(hl:rs[i]?=some l){j:Nat}(a:j<5):(rs.flatMap cy)[i*5+j]?=(cy l)[j]?:=ht xA rs i l hl j a
def rC(hl:rs[i]?=some l){j:Nat}(a:j<5):i*5+j<(rs.flatMap cy).length:=by
 have h:=uT hl a
 have:(cy l)[j]?≠none:=by rw[bj (show j<(cy l).length from a)];exact λh=>by cases h
 rw[<-h]at this;exact Nat.lt_of_not_le λhle=>this (iN hle)
def DQ[h:Rd B H p (rs.flatMap cy)](c:p=some a)(hl:rs[i]?=some l){f:aw->HP}(t:T B H (f (cy l).toArray)):T B H (eQ (a.add (Int.toNat (i:Int)*5)) 5 f):=λσ o=>⟨(cy l).toArray,rfl,λj b=>by rw[aZ,add_add,vw c o (rC hl b),uT hl b,dE],t σ o⟩
def zF[h:Rd B H p (rs.flatMap cy)](b:p=some a)(hl:rs[i]?=some l){f:Int->HP}(t:T B H (f l.len)):T B H (bA .i64 ((a.add (Int.toNat (i:Int)*5)).add 4) f):=λσ o=>⟨l.len,by rw[aZ,add_add,vw b o (rC hl (by omega)),uT hl (by omega)];rfl,t σ o⟩
def so[h:Rd B H p (rs.flatMap cy)](c:p=some a)(hl:rs[i]?=some l){k:HP}(t:T B H k):T B H (c7 (λσ=>∃ds,(Value.agg (cy l).toArray=Value.agg ds)/\((Array.size ds=5)/\(∀j,(j<5)->(b0 σ ((a.add (Int.toNat (i:Int)*5)).add j)=ds[j]?)))) k):=e7 (λσ o=>⟨_,rfl,rfl,λj b=>by rw[aZ,add_add,vw c o (rC hl b),uT hl b,dE]⟩) t
def uk[h:Rd B H p (rs.flatMap cy)](b:p=some a)(hl:rs[i]?=some l){k:HP}(t:T B H k):T B H (c7 (λσ=>b0 σ ((a.add (Int.toNat (i:Int)*5)).add 4)=some (J l.len)) k):=e7 (λσ o=>by rw[aZ,add_add,vw b o (rC hl (by omega)),uT hl (by omega)];rfl) t
def sH(a:M.Fit)(d:o.Fit)(U:∀w q c,Basic (M.b9 o).M->T B (bw b (M.b9 o).M::H) (K (rQ (M.b9 o) w q c))):T B (bw b M::H) (ad P 14 #[pz b,.agg (b3 o)] K):=by refine xI a d λw p c hw=>aL (bw b) (u1 λe=>?_);exact af (U w p c e)
def yE(h:jq M l)(U:T B H (K (J (j4 l)))):T B H (ad P 15 #[.agg (cy l).toArray] K):=by
 obtain⟨a,dG,b,iB,c⟩:=h.oP;obtain⟨_,d,_,_⟩:=h.len;refine an (SM _) (Sa.go λaa=>bg rfl (ba (by omega) (bg rfl (ba (by omega) (bg rfl ?_)))))
 have e:IntKind.wrap .i64 (IntKind.wrap .i64 (IntKind.wrap .i64 (3458764513820540928+iG .i64 l.chunk 40)+iG .i64 l.gen 20)+l.at')=j4 l:=by
  rw[show iG .i64 l.chunk 40=IntKind.wrap .i64 (l.chunk*1099511627776)from rfl,show iG .i64 l.gen 20=IntKind.wrap .i64 (l.gen*1048576)from rfl,jh (n:=l.chunk*1099511627776) (by omega) (by omega),jh (n:=l.gen*1048576) (by omega) (by omega),
   jh (n:=3458764513820540928+l.chunk*1099511627776) (by omega) (by omega),jh (n:=3458764513820540928+l.chunk*1099511627776+l.gen*1048576) (by omega) (by omega),br (by omega)]
  unfold j4 dM;omega
 show T B _ (K (J (IntKind.wrap .i64 (IntKind.wrap .i64 (IntKind.wrap .i64 (3458764513820540928+iG .i64 l.chunk 40)+iG .i64 l.gen 20)+l.at'))));rw[e];exact af U
abbrev vE(R:eL)(w:Int)(q:av)(c:Nat):aw:=#[J R.e,J (R.n w),.slice q R.list.length c,.string ⟨R.text.toArray⟩]
def aaE(h:jq M l)(c:UInt8):(kK l c).Fit:=⟨h.i64,hA,hA,by obtain⟨a,b,d,e⟩:=h.len;show(List.replicate l.len.toNat c).length<1000000;rw[g'];omega⟩
def XL(h:jq M l):(j5 l).Fit:=⟨h.i64,hA,by obtain⟨a,b,d,e⟩:=h.len;show aF l.len;unfold aF;omega,by show 0<1000000;omega⟩
end
end
section
open Go.XS Go.bm
section
variable {B:Heap}{H H0:au}{K:aK}{n:Int}{q:av}{l c:Nat}{s:Setup}{ls:List jN}
def aal[hr:Rd B H q (ls.flatMap gD)](aB:D3 B)(hl:l=ls.length)(hf:∀v∈ls,aF v.o.kind/\aF v.o.a/\aF v.o.b/\aF v.o.c/\aF v.ref)(U:T B H (K (.bool true))):T B H (ad P 4 #[.agg (cH s),.slice q l c] K):=by
 subst hl;apply an (SK _ _ _ _);refine Sa.go λaa=>?_;apply bV (b:=aa) (cs:=cH s) rfl;have aC:∀{H':au},T B H' (K (.bool true))->T B H' (ad P 6 #[] λv=>dq v λb=>K (.bool b)):=λh=>aB (St.go h);have W:∀{H':au} [Sb H' H],T B H' (ad P 6 #[] λv=>dq v λb=>K (.bool b)):=λ{H'} _=>aC (af U);refine aan (s:=s) (ls:=ls) rfl (by omega) ?_ λbc hs aD=>?_
 ·apply St.go
  apply bo rfl;exact W
 have aE:∀v∈ls,v.Fit:=λv k=>by obtain⟨a,b,c,d,e⟩:=hf v k;exact⟨a,b,c,d,e,aD v k⟩
 apply St.go;apply aI rfl;apply bV (b:=aa) (cs:=cH s) rfl;refine aam (ls:=ls) (q:=q) (I:=Kp s) (keeps s) hs rfl (by omega) aE (λp=>?_) λr M0 nums x L=>?_
 ·apply DZ
  apply bo rfl;exact W
 apply DZ;apply aI rfl;apply lQ rfl;apply iX (b:=r) (i:=0) (cs:=hC nums x) (n:=some ⟨x.mb,0,none⟩) rfl;have Z:=L.i.fit L.b (by omega);refine aL (bw x.mb) (xJ ⟨Z.nq,Z.r0⟩ λX=>?_);have aG:=U' L.i L.b (by omega);have y:=KN L.i L.b (by omega);generalize ao:M0.snap=f;have ap:M0.V.hU=f.ls:=by rw[<-ao];rfl
 rw[ap]at aG y;apply St.go;refine Sa.go λm=>Sc.go ⟨rfl,rfl⟩ ?_;refine dL 1 ?_;refine af (H':=ah 1 none 0 0 []::cl m (cz f X)::ah 5 X.p5 f.ls.length X.fI (f.ls.flatMap cy)::hL r M0 nums x (cl aa (cH s)::H)) ?_
 refine nI f.ls.length (by omega) (λi z g C Y=>∃(M:bx) (D:List Bool),wv s f.ls 1800 i M D/\g=i/\
  Y=ah 1 z i C (D.map Value.bool)::cl m (cz f X)::ah 5 X.p5 f.ls.length X.fI (f.ls.flatMap cy)::hL r M nums x (cl aa (cH s)::H)) ⟨M0,[],y,rfl,rfl⟩ ?_
 clear y Z ao ap L;rintro i z g C Y R aH ⟨M,D,y,rfl,rfl⟩ aq;have bd:=y.dl;apply bU (b:=m) (i:=5) (cs:=cz f X) (p:=X.p5) (l:=f.ls.length) (c:=X.fI) rfl;refine S2.go (λG=>?_) λG=>?_
 ·have G:g<f.ls.length:=by omega
  have k:f.ls[g]?=some f.ls[g]:=bj G;generalize f.ls[g]=l at k;have ab:l∈M.V.hU:=by rw[y.v];exact cr k
  have F:=xZ y.kp y.b (by omega) ab;obtain⟨aJ,z2,z3,z4⟩:=F.len;have ac:g%8<8:=pJ _ (by omega);refine Kt l.len.toNat (by omega) (λj t Y=>t=ByteArray.mk (List.replicate j (ja g)).toArray/\Y=ah 1 z g C (D.map Value.bool)::cl m (cz f X)::ah 5 X.p5 f.ls.length X.fI (f.ls.flatMap cy)::hL r M nums x (cl aa (cH s)::H)) ⟨rfl,rfl⟩ ?_;rintro j t Y be aK ⟨rfl,rfl⟩ ar;apply bU (b:=m) (i:=5) (cs:=cz f X) (p:=X.p5) (l:=f.ls.length) (c:=X.fI) rfl;refine wI (ys:=f.ls.flatMap cy) (zo (nA _) (rC k (j:=0) (by omega))) λa5 u=>?_;refine ba ⟨by omega,by omega⟩ ?_;apply zF u k;refine S2.go (λO=>?_) λO=>?_
  ·apply ba (by decide)
   apply ba (by decide);rw[Iv,jh (n:=((g%8:Nat):Int)+1) (by omega) (by omega)];have aM:(((g%8:Nat):Int)+1).toNat=g%8+1:=by omega
   rw[aM,aZ,Kz ac];refine ba ⟨by omega,by show((g%8:Nat):Int)+1<=((8:Nat):Int);omega⟩ ?_;refine ba ⟨by omega,by omega⟩ ?_;refine DE ?_ ?_
   ·show(Array.size (List.toArray _))+1<=1000000
    rw[hP,g'];omega
   ·rw[show(ByteArray.mk #[UInt8.ofNat (97+g%8)])=ByteArray.mk #[ja g]from rfl,X7]
    apply St.go;exact ar (by omega) _ _ ⟨rfl,rfl⟩
  clear ar;have aN:j=l.len.toNat:=by omega
  subst aN;have N:=y.kp.fit y.b (by omega);have iF:=aaE F (ja g);obtain⟨Rs,Q⟩:∃Rs:eL,Rs=M.b9 (kK l (ja g)):=⟨_,rfl⟩
  have bf:Rs.list=[]/\Rs.text=[]:=by rw[Q];rcases IQ F (c:=ja g)with e|e<;>(rw[e];exact⟨rfl,rfl⟩)
  refine dU (α:={a:Nat×Int×av×Nat//Basic Rs.M}) (λa=>cl a.1.1 (vE Rs a.1.2.1 a.1.2.2.1 a.1.2.2.2)::ah 1 z g C (D.map Value.bool)::cl m (cz f X)::ah 5 X.p5 f.ls.length X.fI (f.ls.flatMap cy)::hL r Rs.M nums x (cl aa (cH s)::H))
   (λa=>[pz a.1.1]) (λae body=>?_) λ⟨⟨A,w,qr,ko⟩,E⟩=>?_
  ·apply lQ rfl
   apply iX (b:=r) (i:=0) (cs:=hC nums x) (n:=some ⟨x.mb,0,none⟩) rfl;apply bU (b:=m) (i:=5) (cs:=cz f X) (p:=X.p5) (l:=f.ls.length) (c:=X.fI) rfl;apply lQ u;refine ba ⟨by omega,by omega⟩ ?_;apply DQ u k;refine e0 ?_ ?_
   ·apply yE F
    apply St.go;apply eT (b:=r) (cs:=hC nums x) rfl;refine e0 ?_ ?_
    ·refine aL (bw x.mb) (sH (o:=kK l (ja g)) N iF λw q c E=>?_)
     rw[<-Q]at E⊢;apply St.go;refine Sa.go λaO=>?_;apply so u k;apply eT (b:=m) (cs:=cz f X) rfl;apply eT (b:=r) (cs:=hC nums x) rfl;refine Sc.go ⟨rfl,rfl⟩ ?_;exact af (body ⟨(aO,w,q,c),E⟩)
    ·refine Sa.go λaP=>?_
     apply so u k;apply eT (b:=m) (cs:=cz f X) rfl;apply eT (b:=r) (cs:=hC nums x) rfl;refine aL (bw x.mb) (sH (o:=kK l (ja g)) N iF λw q c E=>?_);rw[<-Q]at E⊢;apply St.go;refine Sc.go ⟨rfl,rfl⟩ ?_;exact af (body ⟨(aP,w,q,c),E⟩)
   ·refine Sa.go λaQ=>?_
    apply so u k;apply eT (b:=m) (cs:=cz f X) rfl;apply eT (b:=r) (cs:=hC nums x) rfl;apply yE F;apply St.go;apply eT (b:=r) (cs:=hC nums x) rfl;refine aL (bw x.mb) (sH (o:=kK l (ja g)) N iF λw q c E=>?_);rw[<-Q]at E⊢;apply St.go;refine Sc.go ⟨rfl,rfl⟩ ?_;exact af (body ⟨(aQ,w,q,c),E⟩)
  obtain⟨he,ax⟩:=KO y (by omega) k (by rw[<-Q];exact E);rw[<-Q]at he ax;apply DP;apply lQ rfl;apply bg (b:=A) (i:=0) (cs:=vE Rs w qr ko) (n:=Rs.e) rfl
  have fin:T B (cl A (vE Rs w qr ko)::ah 1 z g C (D.map Value.bool)::cl m (cz f X)::ah 5 X.p5 f.ls.length X.fI (f.ls.flatMap cy)::hL r Rs.M nums x (cl aa (cH s)::H))
    (ay (some ⟨A,0,none⟩) λaR=>bA .i64 (Addr.add aR 0) λaS=>al #[Value.bool (aS==0)] 4 λaz=>cC P #[60,60] z g C (some ⟨az,0,none⟩) 1 1 λaT aU aV=>R [Value.slice aT aU aV,Value.int IntKind.i64 (IntKind.wrap IntKind.i64 ((g:Int)+1))]):=by
   apply lQ rfl;apply bg (b:=A) (i:=0) (cs:=vE Rs w qr ko) (n:=Rs.e) rfl;refine Sa.go λaz=>?_;refine aL (ah 1 z g C) (eZ (s:=1) rfl (by omega) λaW c'=>?_);have h:=aq G aW (g+1) c' _ ⟨Rs.M,D++[decide (Rs.e=0)],ax,rfl,rfl⟩;have aX:D.map Value.bool++(#[Value.bool (Rs.e==0)]:aw).toList=(D++[decide (Rs.e=0)]).map Value.bool:=by rw[eY];rfl
   rw[aX];exact af h
  rcases he with aY|aA
  ·apply aI (by rw[aY];rfl)
   exact fin
  ·apply bo (by rw[aA];rfl)
   apply lQ rfl;apply bg (b:=A) (i:=0) (cs:=vE Rs w qr ko) (n:=Rs.e) rfl;apply aI (by rw[aA];rfl);exact fin
 ·clear aq
  have bh:g=f.ls.length:=by omega
  have N:=y.kp.fit y.b (by omega);apply dh f.ls.length (by omega) (λi Y=>Y=ah 1 z g C (D.map Value.bool)::cl m (cz f X)::ah 5 X.p5 f.ls.length X.fI (f.ls.flatMap cy)::hL r M nums x (cl aa (cH s)::H)) rfl;rintro i Y R1 aH rfl a0;apply bU (b:=m) (i:=5) (cs:=cz f X) (p:=X.p5) (l:=f.ls.length) (c:=X.fI) rfl;refine S2.go (λG=>?_) λG=>?_
  ·have G:i<f.ls.length:=by omega
   have k:f.ls[i]?=some f.ls[i]:=bj G;generalize f.ls[i]=l at k;have ab:l∈M.V.hU:=by rw[y.v];exact cr k
   have F:=xZ y.kp y.b (by omega) ab;obtain⟨aJ,z2,z3,z4⟩:=F.len;have ac:i%8<8:=pJ _ (by omega);have iF:=XL F;obtain⟨ag,yi,vB,rt,a1⟩:=XP F;obtain⟨Tx,ai⟩:∃Tx:List UInt8,(M.b9 (j5 l)).text=Tx:=⟨_,rfl⟩;rw[ai]at rt;have a2:i<D.length:=by omega
   have aj:D[i]?=some D[i]:=bj a2;generalize D[i]=dn at aj
   have a3:dn=true->∀p:Nat,p<l.len.toNat->Tx[p]?=some (ja i):=λak p a4=>by rw[<-ai];subst ak;exact a1 _ (y.done i l k aj) p a4
   refine dU (α:=Nat×Int×av×Nat) (λa=>cl a.1 #[J 0,J a.2.1,.slice a.2.2.1 0 a.2.2.2,.string ⟨Tx.toArray⟩]::ah 1 z g C (D.map Value.bool)::cl m (cz f X)::ah 5 X.p5 f.ls.length X.fI (f.ls.flatMap cy)::hL r M nums x (cl aa (cH s)::H))
    (λa=>[pz a.1]) (λae body=>?_) λ⟨A,w,qr,ko⟩=>?_
   ·have am:∀w q c,rQ (M.b9 (j5 l)) w q c= .agg #[J 0,J ((M.b9 (j5 l)).n w),.slice q 0 c,.string ⟨Tx.toArray⟩]:=λw q c=>by unfold rQ;rw[yi,vB,ai];rfl
    apply lQ rfl;apply iX (b:=r) (i:=0) (cs:=hC nums x) (n:=some ⟨x.mb,0,none⟩) rfl;apply bU (b:=m) (i:=5) (cs:=cz f X) (p:=X.p5) (l:=f.ls.length) (c:=X.fI) rfl;refine wI (ys:=f.ls.flatMap cy) (zo (nA _) (rC k (j:=0) (by omega))) λa5 u=>?_;refine ba ⟨by omega,by omega⟩ ?_;apply DQ u k;apply bU (b:=m) (i:=5) (cs:=cz f X) (p:=X.p5) (l:=f.ls.length) (c:=X.fI) rfl;apply lQ u;refine ba ⟨by omega,by omega⟩ ?_;apply zF u k;refine e0 ?_ ?_
    ·apply yE F
     apply St.go;apply uk u k;apply eT (b:=m) (cs:=cz f X) rfl;apply eT (b:=r) (cs:=hC nums x) rfl;refine e0 ?_ ?_
     ·refine aL (bw x.mb) (sH (o:=j5 l) N iF λw q c E=>?_)
      rw[ag,am];apply St.go;refine Sa.go λa6=>?_;apply uk u k;apply eT (b:=m) (cs:=cz f X) rfl;apply so u k;apply eT (b:=m) (cs:=cz f X) rfl;apply eT (b:=r) (cs:=hC nums x) rfl;refine Sc.go ⟨rfl,rfl⟩ ?_;exact af (body (a6,(M.b9 (j5 l)).n w,q,c))
     ·refine Sa.go λa7=>?_
      apply uk u k;apply eT (b:=m) (cs:=cz f X) rfl;apply so u k;apply eT (b:=m) (cs:=cz f X) rfl;apply eT (b:=r) (cs:=hC nums x) rfl;refine aL (bw x.mb) (sH (o:=j5 l) N iF λw q c E=>?_);rw[ag,am];apply St.go;refine Sc.go ⟨rfl,rfl⟩ ?_;exact af (body (a7,(M.b9 (j5 l)).n w,q,c))
    ·refine Sa.go λa8=>?_
     apply uk u k;apply eT (b:=m) (cs:=cz f X) rfl;apply so u k;apply eT (b:=m) (cs:=cz f X) rfl;apply eT (b:=r) (cs:=hC nums x) rfl;apply yE F;apply St.go;apply uk u k;apply eT (b:=m) (cs:=cz f X) rfl;apply eT (b:=r) (cs:=hC nums x) rfl;refine aL (bw x.mb) (sH (o:=j5 l) N iF λw q c E=>?_);rw[ag,am];apply St.go;refine Sc.go ⟨rfl,rfl⟩ ?_;exact af (body (a8,(M.b9 (j5 l)).n w,q,c))
   apply DP
   refine dU (α:=Unit) (λ_=>cl A #[J 0,J w,.slice qr 0 ko,.string ⟨Tx.toArray⟩]::ah 1 z g C (D.map Value.bool)::cl m (cz f X)::ah 5 X.p5 f.ls.length X.fI (f.ls.flatMap cy)::hL r M nums x (cl aa (cH s)::H))
    (λ_=>[]) (λae body=>?_) λ_=>?_
   ·apply lQ rfl
    apply bg (b:=A) (i:=0) (n:=0) rfl;apply aI rfl;apply lQ rfl;apply hS (b:=A) (i:=3) (n:=⟨Tx.toArray⟩) rfl;apply bU (b:=m) (i:=5) (cs:=cz f X) (p:=X.p5) (l:=f.ls.length) (c:=X.fI) rfl;refine wI (ys:=f.ls.flatMap cy) (zo (nA _) (rC k (j:=0) (by omega))) λa5 u=>?_;refine ba ⟨by omega,by omega⟩ ?_;apply zF u k
    have S:((ByteArray.size ⟨Tx.toArray⟩:Nat):Int)=l.len:=by show((Array.size (List.toArray Tx):Nat):Int)=_;rw[hP];exact rt
    apply aI (by rw[S];simp);exact body ()
   apply DO;apply dh l.len.toNat (by omega) (λj Y=>Y=cl A #[J 0,J w,.slice qr 0 ko,.string ⟨Tx.toArray⟩]::ah 1 z g C (D.map Value.bool)::cl m (cz f X)::ah 5 X.p5 f.ls.length X.fI (f.ls.flatMap cy)::hL r M nums x (cl aa (cH s)::H)) rfl;rintro j Y bi aK rfl a9
   have S:ByteArray.size ⟨Tx.toArray⟩=l.len.toNat:=by show Array.size (List.toArray Tx)=_;rw[hP];omega
   have fin:T B (cl A #[J 0,J w,.slice qr 0 ko,.string ⟨Tx.toArray⟩]::ah 1 z g C (D.map Value.bool)::cl m (cz f X)::ah 5 X.p5 f.ls.length X.fI (f.ls.flatMap cy)::hL r M nums x (cl aa (cH s)::H)) (R1 [Value.int IntKind.i64 (IntKind.wrap IntKind.i64 ((i:Int)+1))]):=af (a0 G _ rfl)
   refine dU (α:={bk:Unit//dn=true/\j<l.len.toNat}) (λ_=>cl A #[J 0,J w,.slice qr 0 ko,.string ⟨Tx.toArray⟩]::ah 1 z g C (D.map Value.bool)::cl m (cz f X)::ah 5 X.p5 f.ls.length X.fI (f.ls.flatMap cy)::hL r M nums x (cl aa (cH s)::H))
    (λ_=>[]) (λae body=>?_) λ⟨_,ak,O⟩=>?_
   ·refine wI (p:=z) (ys:=D.map Value.bool) (by simp;omega) λbl bb=>?_
    refine ba ⟨by omega,by omega⟩ ?_;refine J4 (ys:=D.map Value.bool) bb (n:=dn) (by rw[e6,aj];rfl) ?_
    cases dn with
    |false=>apply aI rfl;exact fin
    |true=>
     apply bo rfl;apply lQ rfl;apply hS (b:=A) (i:=3) (n:=⟨Tx.toArray⟩) rfl;rw[S];refine S2.go (λO=>?_) λO=>?_
     ·exact body ⟨(),rfl,by omega⟩
     ·exact fin
   apply DO;apply lQ rfl;rw[Iv];apply ba (by decide);refine ba ⟨by omega,by show((i%8:Nat):Int)<((8:Nat):Int);omega⟩ ?_;apply hS (b:=A) (i:=3) (n:=⟨Tx.toArray⟩) rfl;refine ba ⟨by omega,by rw[S];omega⟩ ?_;refine aI ?_ ?_
   ·rw[Z5 (a3 ak j O),Z4 ac]
    simp[ja]
   ·exact a9 O _ rfl
  ·exact W
end
end
open Go.XS Go.bm Go.RowKit Go.Lib
def abU{H:Type}{enc:TypeId×Value->H}{a:Assume}{C:Checked}{os:Os}{f:FuncId}{fn:Func}{s:ChangeSpec}{conds:List PathCond}{apart fresh handsOn again:Bool}{X:World->aw->Prop}(b:∀(w w':World) (args:aw),w.heap=w'.heap->X w args->X w' args)(own:ownKnob C.prog.godebug=none)(started:os.Started)(c:C.prog.inits.idxOf? f=none)(d:C.prog.funcs[f]?=some fn)(witness:∃(w:World) (tape:Tape) (i:Input),w.os=os/\(w.forCall tape i).Shaped C.prog/\i.vars=[]/\Input.okWide C.prog (w.forCall tape i) .any w.heap.size f i/\((s.pre enc C.prog fn conds apart (w.forCall tape i).memory i.args/\X (w.forCall tape i).memory i.args)/\sizedMet enc C.prog fn (OpenSpec.ofChange s) apart (w.forCall tape i).memory i.args)/\a.holds C.prog (lone (Frame.enter C.prog f i.args .normal) [] (w.forCall tape i)))(g:∀(W:World) (base:Nat) (args:aw) (ds gs:List (DataW H)) (before:List MemPlace),(∀(j:Nat) t v,fn.params[j]?=some t->args[j]?=some v->Value.okWide C.prog W .any base t v)->DataW.Whole enc C.prog fn.params.toList s.vars apart W args.toList ds gs before->X W args->W.ShapedOpen C.prog->Calls C.prog f args W λe W'=>∃v,e= .returned v/\s.post enc C.prog fn apart fresh handsOn again W args v W'):ReturnsInHanded a C os f .any (λw args=>(s.pre enc C.prog fn conds apart w args/\X w args)/\sizedMet enc C.prog fn (OpenSpec.ofChange s) apart w args) (s.post enc C.prog fn apart fresh handsOn again):=by apply returnsInHanded_of_calls own started c witness;intro w tape i _ h _ aM k _;obtain⟨_,_,_,l,m,_,_,_,_,n⟩:=aM;obtain rfl:l=fn:=qQ (m.symm.trans d);obtain⟨⟨⟨ds,gs,before,hw,_⟩,o⟩,_⟩:=k;refine(g (w.forCall tape i) w.heap.size i.args ds gs before n (DataW.Whole.of_heap (by rfl) hw) (b _ _ _ (by rfl) o) h).mono λe W' ⟨v,he,p⟩=>?_;subst he;exact ChangeSpec.post_blind p
def filter_none{L:List (String×DataW Unit)}(h:(L.filter λx=>x.2.handleName?.isSome)=[]):(L.filter λx=>x.2.handleName?.isNone)=L:=by
 rw[qM];intro x a;have:=I'.1 h x a
 cases b:x.2.handleName? with
 |none=>rfl
 |some s=>rw[b]at this;exact absurd rfl this
def abX{Q:Program}{L:List (String×DataW Unit)}{W:World}(h:laidMetH Q L W):laidMet Q (L.filter λx=>x.2.handleName?.isNone) W:=by
 unfold laidMetH at h;split at h
 ·rename_i e
  rw[filter_none e];exact h
 ·exact h.1
def abY{Q:Program}{L:List (String×DataW Unit)}{W:World}{name:String}{k:IntKind}{zs:aN}{g:Nat}{t e:TypeId}{n i:Nat}(h:laidMet Q L W)(hm:L[i]?=some (name,tabData k zs))(f:Q.globalNamed name=some g)(j:(Q.globals[g]?).map (·.type)=some t)(l:Q.underlying t=some (.array n e))(he:Q.underlying e=some (.int k))(m:Q.cellsOf e=1)(o:Q.cellsOf t=n):TabIs Q W name k zs:=by
 obtain⟨ps,h1,r⟩:=h;clear r
 induction L generalizing i ps with
 |nil=>cases hm
 |cons a L s=>
  cases i with
  |zero=>cases hm;obtain⟨u,v,cs,fuel,p,q,b,c,d,hd,_,_⟩:=h1;obtain rfl:=qQ (f.symm.trans b);obtain rfl:=qQ (j.symm.trans c);unfold TabIs;rw[d,<-cells_of_tab l he m o hd]
  |succ i=>obtain⟨u,v,cs,fuel,p,q,b,c,d,hd,hr,_⟩:=h1;exact s hm q hr
def abS{w:World}(a:TabIs P w "internal/strconv.uint64pow10" .u64 pow10Tab)(hm:∃m,w.cell? ⟨1,0,none⟩=some (.int .i64 m)):Gl w.heap:=by
 refine⟨by obtain⟨m,hm⟩:=hm;exact⟨m,by rw[<-k1];exact hm⟩,λw' hw hs=>?_⟩;unfold TabIs World.var? at a⊢
 cases b:P.globalNamed "internal/strconv.uint64pow10" with
 |none=>rw[b]at a;cases a
 |some g=>
  rw[b]at a;simp only[Di]at a⊢
  have c:g<w.heap.size:=by refine Nat.lt_of_not_le λhle=>?_;rw[y0 hle]at a;cases a
  rw[hw g c];exact a
def vV{a:Int}(h:(Lit.int .i64 a).wf=true):aF a:=by
 unfold aF;have h1:IntKind.i64.min=-9223372036854775808:=by decide
 have b:IntKind.i64.max=9223372036854775807:=by decide
 have:=h;simp only[Lit.wf,cg,bJ]at this;omega
section
variable {E:Type}{enc:TypeId×Value->E}{w:World}
def YR{cs:aw}(f:Fits enc P w [.int .i64,.int .i64,.int .i64,.int .i64] cs.toList):∃s:Setup,cs=cH s:=by obtain⟨a,vs,h0,_,f⟩:=f.int;obtain⟨b,vs,rfl,_,f⟩:=f.int;obtain⟨c,vs,rfl,_,f⟩:=f.int;obtain⟨d,vs,rfl,_,f⟩:=f.int;obtain rfl:=f.nil;exact⟨⟨a,b,c,d⟩,gE h0⟩
def W2{g:List az}(r:∀c∈g,c.length=P.cellsOf 49/\Tr enc P w 49 c):∃all:List jN,g=all.map gD/\∀v∈all,aF v.o.kind/\aF v.o.a/\aF v.o.b/\aF v.o.c/\aF v.ref:=by refine Ft g λc hc=>?_;have f:=Bm 9 (cts:=[.int .i64,.int .i64,.int .i64,.int .i64,.str,.int .i64]) (by kernel_rfl) (r c hc).2;obtain⟨a,vs,rfl,h,f⟩:=f.int;obtain⟨b,vs,rfl,i,f⟩:=f.int;obtain⟨c,vs,rfl,wc,f⟩:=f.int;obtain⟨d,vs,rfl,wd,f⟩:=f.int;obtain⟨t,vs,rfl,k,f⟩:=f.str;obtain⟨e,vs,rfl,j,f⟩:=f.int;obtain rfl:=f.nil;exact⟨⟨⟨a,b,c,d,t.data.toList⟩,e⟩,by simp[gD],vV h,vV i,vV wc,vV wd,vV j⟩
def XO{B:Heap}{H:au}{q:av}{xs ys:az}(h:bF B H q (xs++ys)):bF B H q xs:=by
 intro σ o;rcases h σ o with⟨h1,b⟩|⟨a,h1,b⟩
 ·exact .inl ⟨h1,(List.append_eq_nil_iff.1 b).1⟩
 ·exact .inr ⟨a,h1,λi hi=>by rw[b i (by rw[b'];omega),gx hi]⟩
theorem W3{all:List jN}{a:av}{len:Nat}(h:Arg w.heap a (all.map gD).flatten):Rd w.heap [] a ((all.take len).flatMap gD):=by
 rw[<-List.flatMap_def]at h;have e:all.flatMap gD=(all.take len).flatMap gD++(all.drop len).flatMap gD:=by rw[<-oo,kd]
 have:=h [];rw[e]at this;exact⟨XO this⟩
def adR(g:Gl w.heap)(bd:aw)(f0:Fits enc P w [.int .i64,.int .i64,.int .i64,.int .i64] bd.toList)(f:av)(a b:Nat)(d:List az)(l1:a<=b)(c1:d.length=b)(h:∀c∈d,c.length=P.cellsOf 49/\Tr enc P w 49 c)(h1:Arg w.heap f d.flatten):Calls P 4 #[.agg bd,.slice f a b] w λe w'=>e= .returned (.bool true)/\Below w.heap.size w w':=by obtain⟨s,rfl⟩:=YR f0;obtain⟨all,rfl,hf⟩:=W2 h;rw[eX]at c1;have:=W3 (len:=a) h1;exact Vb (aal (aao g) (by rw[fv];omega) (λv i=>hf v (kP i)) JX)
end
