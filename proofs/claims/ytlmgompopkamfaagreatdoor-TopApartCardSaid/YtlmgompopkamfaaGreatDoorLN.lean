/- Lemmas that lead to TopApart (their names made short by a program); no condition. -/
import Derived.Test.YtlmgompopkamfaaGreatDoorLM
set_option linter.all false
set_option maxRecDepth 20000
set_option synthInstance.checkSynthOrder false
namespace Go.Proofs.YtlmgompopkamfaaGreatDoor
section
open Go.XS Go.bm
structure jN.Fit(v:jN):Prop where
 k:aF v.o.kind
 a:aF v.o.a
 b:aF v.o.b
 c:aF v.o.c
 r:aF v.ref
 t:v.o.text.length<=9000
def Hv{v:jN}{nums:aN}(d:v.Fit)(e:∀n∈nums,aF n):(ni v nums).Fit:=by
 unfold ni;split
 ·refine⟨?_,d.b,d.c,by have:=d.t;simp only;omega⟩
  show aF (nums.getD _ 0);rw[eo]
  cases h:nums[(v.ref-1).toNat]? with
  |none=>exact by decide
  |some y=>exact e y (cr h)
 ·exact⟨d.a,d.b,d.c,by have:=d.t;omega⟩
section
variable {B:Heap}{H H0:au}{K:aK}{n:Int}{q:av}{l c:Nat}
instance ac7:fG P 38 2:=fG.of (e:=81) (by kernel_rfl)
abbrev n6(R:eL)(w:Int)(p:av)(c:Nat):aw:=#[J R.e,J (R.n w),.slice p R.list.length c,.string ⟨R.text.toArray⟩]
abbrev il:aw:=#[J 0,J 0,.slice none 0 0,.string ⟨#[]⟩]
def aak{d N:Nat}{M:bx}{nums:aN}{x:HX}{v:jN}(E:M.Fit)(F:v.Fit)(S:∀n∈nums,aF n)(Y:N<1000000)(n1:nums.length<=N)(n2:x.cl.length<=N)(n3:x.rt.length<=N)(U:∀f w z cs,0<=w/\w<=9223372036854775807->(z=nums\/z=nums++[(M.b9 (ni v nums)).n w])->f.cl.length<=N+1->f.rt.length<=N+1->T B (hL d (M.b9 (ni v nums)).M z f H) (K (.agg cs))):T B (hL d M nums x H) (ad P 9 #[pz d,.agg (gD v).toArray] K):=by
 apply an (SJ _ _);refine Sa.go λaa=>Sa.go λak=>?_;have hr:=F.r;refine dU (α:=Nat) (λk=>cl k (b3 (ni v nums))::cl aa (gD v).toArray::cl ak il::hL d M nums x H) (λk=>[.pointer (some (ai k 0))]) (λm body=>?_) λe=>?_
 ·apply St.go
  apply bV (b:=aa) (cs:=(gD v).toArray) rfl;apply St.go;unfold bH;refine e0 ?_ ?_
  ·apply Gd (nums:=nums) rfl (by omega) hr
   refine St.go (Sa.go λk=>?_);have hC:bZ B (cl k (#[J 0,J 0,J 0,J 0,.string ⟨#[]⟩])::cl ak il::cl aa (gD v).toArray::hL d M nums x H) aa (gD v).toArray:=inferInstance;apply St.go;refine e7 (λσ o=>⟨_,rfl,rfl,λj A=>?_⟩) ?_
   ·rw[aR,hC.cell o,bI]
   refine Sc.go ⟨rfl,rfl⟩ ?_;exact af (body k)
  ·refine Sa.go λk=>?_
   have hC:bZ B (cl k (#[J 0,J 0,J 0,J 0,.string ⟨#[]⟩])::cl ak il::cl aa (gD v).toArray::hL d M nums x H) aa (gD v).toArray:=inferInstance;apply St.go;refine e7 (λσ o=>⟨_,rfl,rfl,λj A=>?_⟩) ?_
   ·rw[aR,hC.cell o,bI]
   apply Gd (nums:=nums) rfl (by omega) hr;repeat first|apply St.go|refine Sc.go ⟨rfl,rfl⟩ ?_
   exact af (body k)
 have C:=Hv F S;generalize iF:ni v nums=O at U C;apply St.go;refine dU (α:={y:Nat×Int×av×Nat//0<=y.2.1/\y.2.1<=9223372036854775807}) (λy=>cl y.1.1 (n6 (M.b9 O) y.1.2.1 y.1.2.2.1 y.1.2.2.2)::cl e (b3 O)::cl ak il::hL d (M.b9 O).M nums x H) (λy=>[.pointer (some (ai y.1.1 0))]) (λm body=>?_) λ⟨⟨g,w,p,c⟩,hw⟩=>?_
 ·refine St.go (St.go (St.go ?_))
  apply bV (b:=e) (cs:=b3 O) rfl;unfold bH;refine e0 ?_ ?_
  ·refine af (H':=bw x.mb M::cl e (b3 O)::cl ak il::cl d (hC nums x)::ah 1 x.p1 nums.length x.c1 (iv .i64 nums)::ah 1 x.p2 x.cl.length x.c2 (iv .i64 x.cl)::ah 2 x.p3 x.rt.length x.c3 (x.rt.flatMap rU)::H) ?_
   refine xI E C λw p c hw=>?_;refine St.go (Sa.go λk=>?_);have D:bZ B (cl k il::ah 1 p (M.b9 O).list.length c (iv .i64 (M.b9 O).list)::bw x.mb (M.b9 O).M::cl e (b3 O)::cl ak il::cl d (hC nums x)::ah 1 x.p1 nums.length x.c1 (iv .i64 nums)::ah 1 x.p2 x.cl.length x.c2 (iv .i64 x.cl)::ah 2 x.p3 x.rt.length x.c3 (x.rt.flatMap rU)::H) e (b3 O):=inferInstance;refine e7 (λσ o=>⟨_,rfl,rfl,λj A=>?_⟩) ?_
   ·rw[aR,D.cell o,bI]
   repeat first|apply St.go|refine Sc.go ⟨rfl,rfl⟩ ?_
   exact af (body ⟨(k,w,p,c),hw⟩)
  ·refine Sa.go λk=>?_
   have D:bZ B (cl k il::cl e (b3 O)::cl aa (gD v).toArray::cl ak il::hL d M nums x H) e (b3 O):=inferInstance;refine e7 (λσ o=>⟨_,rfl,rfl,λj A=>?_⟩) ?_
   ·rw[aR,D.cell o,bI]
   apply St.go;refine af (H':=bw x.mb M::cl k il::cl e (b3 O)::cl ak il::cl d (hC nums x)::ah 1 x.p1 nums.length x.c1 (iv .i64 nums)::ah 1 x.p2 x.cl.length x.c2 (iv .i64 x.cl)::ah 2 x.p3 x.rt.length x.c3 (x.rt.flatMap rU)::H) ?_;refine xI E C λw p c hw=>?_;repeat first|apply St.go|refine Sc.go ⟨rfl,rfl⟩ ?_
   exact af (body ⟨(k,w,p,c),hw⟩)
 simp only;generalize Z:M.b9 O=R at U;simp only at hw;apply St.go;refine dU (α:={y:HX×aN//(y.2=nums\/y.2=nums++[R.n w])/\y.1.cl=x.cl/\y.1.rt=x.rt}) (λy=>cl g (n6 R w p c)::cl e (b3 O)::cl ak il::hL d R.M y.1.2 y.1.1 H) (λ_=>[]) (λm body=>?_) λ⟨⟨x2,i⟩,G,l,u⟩=>?_
 ·have q:T B (cl g (n6 R w p c)::cl e (b3 O)::cl ak il::hL d R.M nums x H) (m []):=body ⟨(x,nums),.inl rfl,rfl,rfl⟩
  refine dU (α:=Bool) (λ_=>cl g (n6 R w p c)::cl e (b3 O)::cl ak il::hL d R.M nums x H) (λb=>[.bool b]) (λI h=>?_) λb=>?_
  ·refine St.go (S2.go (λ_=>?_) λ_=>?_)
   ·apply St.go
    exact h _
   ·exact h _
  ·apply St.go
   cases b
   ·exact aI rfl q
   ·apply bo rfl
    refine St.go (St.go (St.go (St.go ?_)));refine Sa.go λL=>?_;apply St.go;refine eZ (s:=1) rfl (by omega) λt c'=>?_;apply St.go;have:=body ⟨({x with p1:=t,c1:=c'},nums++[R.n w]),.inr rfl,rfl,rfl⟩;dsimp only[hL,hC]at this;rw[show iv .i64 (nums++[R.n w])=iv .i64 nums++#[J (R.n w)].toList from by simp[iv],show(nums++[R.n w]).length=nums.length+1 from by simp]at this;exact af this
 simp only at G l u⊢;have n4:x2.cl.length<=N:=by rw[l];exact n2
 have u7:x2.rt.length<=N:=by rw[u];exact n3
 have V:∀f cs,f.cl.length<=N+1->f.rt.length<=N+1->T B (hL d R.M i f H) (K (.agg cs)):=λf cs=>U f w i cs hw G;clear U l u;apply St.go;refine dU (α:={y:HX//y.cl.length<=N+1/\y.rt.length<=N}) (λy=>cl g (n6 R w p c)::cl e (b3 O)::cl ak il::hL d R.M i y.1 H) (λ_=>[]) (λm body=>?_) λ⟨x3,l,u⟩=>?_
 ·have q:T B (cl g (n6 R w p c)::cl e (b3 O)::cl ak il::hL d R.M i x2 H) (m []):=body ⟨x2,by omega,u7⟩
  refine dU (α:=Bool) (λ_=>cl g (n6 R w p c)::cl e (b3 O)::cl ak il::hL d R.M i x2 H) (λb=>[.bool b]) (λI h=>?_) λb=>?_
  ·refine St.go (S2.go (λ_=>?_) λ_=>?_)
   ·apply St.go
    exact h _
   ·exact h _
  ·apply St.go
   cases b
   ·exact aI rfl q
   ·apply bo rfl
    refine St.go (St.go (St.go (St.go ?_)));refine Sa.go λL=>?_;apply St.go;refine eZ (s:=1) rfl (by omega) λt c'=>?_;apply St.go;have:=body ⟨{x2 with p2:=t,c2:=c',cl:=x2.cl++[R.n w]},by simp;omega,u7⟩;dsimp only[hL,hC]at this;rw[show iv .i64 (x2.cl++[R.n w])=iv .i64 x2.cl++#[J (R.n w)].toList from by simp[iv],show(x2.cl++[R.n w]).length=x2.cl.length+1 from by simp]at this;exact af this
 apply St.go;simp only
 have Q:∀f,f.cl.length<=N+1->f.rt.length<=N+1->T B (cl g (n6 R w p c)::cl e (b3 O)::cl ak il::hL d R.M i f H) (jW (some ⟨g,0,none⟩) 0 4 λW=>gW (ai ak 0) W 4 (eQ (ai ak 0) 4 λX=>K (Value.agg X))):=by
  intro f a b;unfold jW;apply St.go;apply bV (b:=g) (cs:=n6 R w p c) rfl;repeat refine Sc.go (by first|rfl|exact⟨rfl,rfl⟩) ?_
  exact af (V f _ a b)
 have q:=Q x3 l (by omega);refine dU (α:=Bool) (λ_=>cl g (n6 R w p c)::cl e (b3 O)::cl ak il::hL d R.M i x3 H) (λb=>[.bool b]) (λI h=>?_) λb=>?_
 ·refine St.go (S2.go (λ_=>?_) λ_=>?_)
  ·apply St.go
   exact h _
  ·exact h _
 ·apply St.go
  cases b
  ·exact aI rfl q
  ·apply bo rfl
   refine St.go (St.go (St.go (St.go (St.go (St.go ?_)))));apply ba rfl;refine Sa.go λL=>?_;apply St.go;refine eZ (s:=2) rfl (by omega) λt c'=>?_;apply St.go;have:=Q {x3 with p3:=t,c3:=c',rt:=x3.rt++[(O.a,R.n w)]} l (by simp;omega);dsimp only[hL,hC]at this;rw[show(x3.rt++[(O.a,R.n w)]).flatMap rU=x3.rt.flatMap rU++#[J O.a,J (R.n w)].toList from by simp[rU],show(x3.rt++[(O.a,R.n w)]).length=x3.rt.length+1 from by simp]at this;exact af this
end
end
section
open Go.XS Go.bm
structure a6.Fo(W:a6):Prop where
 sl:W.F.S.Ok
 b7:W.F.S.b7.length=4096
 op:∀p:Nat,W.F.S.b8 p=true↔∃k,p∈W.F.ls k
 nd:∀k,(W.F.ls k).Nodup
 mL:∀k k' n,n∈W.F.ls k->n∈W.F.ls k'->k=k'
 oP:∀k n,n∈W.F.ls k->k<4097/\n<4096
 deep:∀p:Nat,W.F.S.b8 p=true->deep W.F.ls W.bs p
 nil:∀m:Nat,m<4096->W.F.S.b8 m=false->W.F.ls m=[]
structure Basic(M:bx):Prop where
 inv:M.X.S.Inv
 ar:M.X.L.ar.Ok
 sl:M.X.L.ar.aU.Ok
 tk:M.X.T.Ok
 l9:M.X.R.line.xs.Nodup
 lin:∀i∈M.X.R.line.xs,0<=i/\i<(M.X.R.line.n:Int)
 ln:M.X.R.line.n<=1048576
 nx:0<=M.X.R.line.next
 gq:1<=M.X.R.gq/\M.X.R.gq<=1048576
 ry:M.W.Fo
 vs:bQ M.V.all
 yI:∀e∈M.V.all,e.2.Ok M.V.bs/\0<=e.1/\e.1<=1048575
section
variable {B:Heap}{H H0:au}{b:Nat}{M:bx}{q:HP}
def ZB{S:aE}(t:S.Inv->T B (cf b S::H) q):T B (cf b S::H) q:=pv λx ok=>h4 x ok (t ok.inv)
def XM{R:Rec}{sb:Nat}(t:R.line.xs.Nodup->(∀i∈R.line.xs,0<=i/\i<(R.line.n:Int))->R.line.n<=1048576->0<=R.line.next->(1<=R.gq/\R.gq<=1048576)->T B (dx b sb R::H) q):T B (dx b sb R::H) q:=by refine qw λx ok=>aL (hD x.lb) (uX λy a=>?_);refine af (H':=xE x.lb R.line y (cl b #[pz x.tb,pz sb,pz x.lb,pz x.mb,pz x.kb,J R.gq]::eU x.tb x.xs::cl x.mb (f' x.wm)::er x.kb 2 [R.du,x.f]::H)) (nQ y a ?_);exact af (H':=vv b sb R x H) (ng x ok (t a.nd a.xs a.n a.next ok.gq))
def aaw{T':a1}(t:T'.Ok->T B (dz b T'::H) q):T B (dz b T'::H) q:=tG λx ok=>mo x ok (t ok)
def VC{V:Lv}(t:bQ V.all->(∀e∈V.all,e.2.Ok V.bs/\0<=e.1/\e.1<=1048575)->T B (cF b V::H) q):T B (cF b V::H) q:=by
 refine qm λx ok=>k9 x ok (t ?_ ?_)
 ·rw[ok.all];exact rX ok.bX
 ·intro e he
  rw[ok.all]at he;unfold d' at he;obtain⟨a,ha,rfl⟩:=bP.1 he;exact ok.ok a ha
def aap{W:a6}(t:W.Fo->T B (cD b W::H) q):T B (cD b W::H) q:=by refine tF λh1 a c d e f=>lD λx ok=>jg x ok (t ⟨h1,a,c,d,e,f,ok.deep,ok.nil⟩)
def u1(t:Basic M->T B (bw b M::H) q):T B (bw b M::H) q:=by refine gO λx=>aL (bS x.dc) (e8 λy a=>?_);refine aL (bq y.lb) (uS λh1 c=>?_);refine aL (cf y.sb) (ZB λd=>?_);refine aL (dx y.rb y.sb) (XM λe f g h i=>?_);refine aL (dz y.tb) (aaw λj=>?_);refine af (H':=eh x.dc M.X y (cl b (jz M.s x)::cD x.tb M.W::cF x.pb M.V::H)) (dw y a ?_);refine aL (cD x.tb) (aap λk=>?_);refine aL (cF x.pb) (VC λl gl=>?_);exact af (H':=lf b M x H) (ew x (t ⟨d,h1,c,j,e,f,g,h,i,k,l,gl⟩))
end
end
section
open Go.XS Go.bm
structure zw(s:Setup)(I:Nat->bx->Prop):Prop where
 new:∀(n m q:Nat),s.c=n->s.z=m->s.q=q->1<=n->n<=12->64<=m->m<=256->1<=q->q<=1048576->I 0 ⟨s,aJ.new n m q,a6.new,Lv.new⟩
 fit:∀k M,k<=60->Basic M->I k M->M.Fit
 snd:∀k M,k<=60->Basic M->I k M->kW s M.snap/\(∀m∈M.snap.ms,m.2.held+m.2.cB<=m.2.dZ)/\∀(i:Nat) c,M.snap.cs[i]?=some c->c.ph<=2
 step:∀k M o,k<60->Basic M->Basic (M.b9 o).M->I k M->o.Fit->o.text.length<=9000->I (k+1) (M.b9 o).M/\Dr M.snap (M.b9 o).M.snap/\∀w,0<=w/\w<=9223372036854775807->aF ((M.b9 o).n w)
abbrev D3(B:Heap):Prop:=∀{H:au} {K:aK},T B H (K (.bool true))->T B H (ad P 6 #[] K)
structure Kept(I:Nat->bx->Prop)(k:Nat)(M:bx)(nums:aN)(x:HX):Prop where
 i:I k M
 b:Basic M
 n:∀n∈nums,aF n
 l1:nums.length<=k
 l2:x.cl.length<=k
 l3:x.rt.length<=k
def XQ{v:jN}{nums:aN}:(ni v nums).text=v.o.text:=by unfold ni;split<;>rfl
section
variable {B:Heap}{H H0:au}{K:aK}{n:Int}{q:av}{l c:Nat}{s:Setup}{I:Nat->bx->Prop}{ls:List jN}
def U9{e k:Nat}{M:bx}{nums:aN}{x:HX}{v:jN}(g:zw s I)(m:k<60)(a:Kept I k M nums x)(f:v.Fit)(U:∀M' d c cs,Kept I (k+1) M' d c->Dr M.snap M'.snap->T B (hL e M' d c H) (K (.agg cs))):T B (hL e M nums x H) (ad P 9 #[pz e,.agg (gD v).toArray] K):=by
 have iF:=Hv f a.n;refine aak (g.fit k M (by omega) a.b a.i) f a.n (by omega) a.l1 a.l2 a.l3 λc w d cs hw j o p=>aL (bw c.mb) (u1 λl=>?_);obtain⟨q,i2,i3⟩:=g.step k M (ni v nums) m a.b l a.i iF (by rw[XQ];exact f.t);refine af (U _ d c cs ⟨q,l,?_,?_,o,p⟩ i2)
 ·rcases j with rfl|rfl
  ·exact a.n
  ·intro y r
   rcases dO.1 r with h|h
   ·exact a.n y h
   ·rw[fw.1 h];exact i3 w hw
 ·have:=a.l1
  rcases j with rfl|rfl
  ·omega
  ·simp;omega
def Zj(h:qE s=true):(s.c<=1048576->s.c<=12)/\(s.z<=1048576->s.z<=256):=by unfold qE at h;simp only[ns,tN,hg]at h;omega
def aam[hr:Rd B H q (ls.flatMap gD)](f:zw s I)(hs:qE s=true)(hl:l=ls.length)(hlen:ls.length<=60)(hf:∀v∈ls,v.Fit)(h0:∀p,T B H (K (.tuple #[.pointer p,.bool false])))(h1:∀g M nums x,Kept I ls.length M nums x->T B (hL g M nums x H) (K (.tuple #[pz g,.bool true]))):T B H (ad P 7 #[.agg (cH s),.slice q l c] K):=by
 subst hl;apply an (SL _ _ _ _);refine Sa.go λaa=>?_;apply bV (b:=aa) (cs:=cH s) rfl;unfold i';refine Gt (λh=>?_) λn m q' b r t u w L y N A C=>?_
 ·repeat first|apply St.go|refine Sa.go λ_=>?_|refine bo (by with_reducible decide) ?_
  exact af (h0 _)
 ·have O:=Zj hs
  have hi:=f.new n m q' r t u w (by omega) y (by omega) A C;apply St.go;apply St.go;apply aI rfl;apply aI rfl;apply St.go;refine Sa.go λa=>?_;refine dL 1 ?_;refine dL 1 ?_;refine dL 2 ?_;refine af (H':=cl a #[pz b,.slice none 0 0,.slice none 0 0,.slice none 0 0]::ah 1 none 0 0 []::ah 1 none 0 0 []::ah 2 none 0 0 []::bw b ⟨⟨s.c,s.z,s.q,s.l⟩,aJ.new n m q',a6.new,Lv.new⟩::cl aa (cH s)::H) ?_;show T B (hL a ⟨s,aJ.new n m q',a6.new,Lv.new⟩ [] ⟨b,none,0,none,0,none,0,[],[]⟩ (cl aa (cH s)::H)) _;refine aL (bw b) (u1 λD=>?_);refine af (H':=hL a ⟨s,aJ.new n m q',a6.new,Lv.new⟩ [] ⟨b,none,0,none,0,none,0,[],[]⟩ (cl aa (cH s)::H)) (dh ls.length (by omega) (λk Y=>∃M nums x,Kept I k M nums x/\Y=hL a M nums x (cl aa (cH s)::H)) ⟨⟨s,aJ.new n m q',a6.new,Lv.new⟩,[],⟨b,none,0,none,0,none,0,[],[]⟩,⟨hi,D,by simp,by simp,by simp,by simp⟩,rfl⟩ ?_);rintro k Y R Q ⟨M,nums,x,i,rfl⟩ E;refine S2.go (λU=>?_) λU=>?_
  ·have d:k<ls.length:=by omega
   have j:ls[k]?=some ls[k]:=bj d;have o:=hf _ (eK d);generalize ls[k]=v at j o;apply eD Gk (by omega) k rfl d j;unfold bH;exact U9 f (by omega) i o λM' F G cs J _=>St.go (E d _ ⟨M',F,G,J,rfl⟩)
  ·have e:k=ls.length:=by omega
   subst e;exact af (h1 a M nums x i)
def V2(cs:List bD)(h:∀(i:Nat) c,cs[i]?=some c->c.ph<=2):dk cs 0+dk cs 1+dk cs 2=cs.length:=by
 have h:∀c∈cs,c.ph<=2:=λc hc=>by obtain⟨i,hi,rfl⟩:=qN hc;exact h i _ (bj hi)
 unfold dk
 induction cs with
 |nil=>rfl
 |cons c cs a=>
  have h1:=h c j';have:=a (by intro i c hc;exact h c (iw _ (cr hc))) λc hc=>h c (iw _ hc);simp only[r6,c8];obtain e|e|e:c.ph=0\/c.ph=1\/c.ph=2:=by omega
  all_goals (rw[e];simp;omega)
end
end
section
open Go.XS Go.bm
def AU{S:aE}(h:S.Inv):∃x,S.Ok x:=⟨⟨0,0,0,0,S.cs.map λc=>⟨c,0,none⟩,[],⟨S.many 0,S.many 1,S.many 2,0⟩⟩,by simp[nz,CV],by simp,rfl,rfl,rfl,rfl,by simp,h⟩
structure aE.Step(S S':aE)(i:Int)(c':bD):Prop where
 ok:S.ok i=true
 cs:S'.cs=S.cs.set i.toNat c'
 sz:S'.size=S.size
 ck:S'.bl=S.bl+1
 inv:S'.Inv
def aE.Inv.defer{S:aE}{i o:Int}(h:S.Inv)(h0:S.kq i o=0):S.Step (S.defer i o) i (oT (S.at' i))/\(S.at' i).ph=1/\(S.at' i).own=o/\(S.defer i o).free=S.free:=by
 obtain⟨x,b⟩:=AU h;have h1:=h0;unfold aE.kq at h1;split at h1
 ·rename_i hi
  split at h1
  ·rename_i a
   have:=(EZ b hi a.1 (q:=0) (ev':=[]) (by simp)).inv;have e:S.defer i o=⟨S.size,S.cs.set i.toNat (oT (S.at' i)),S.free,S.bl+1⟩:=by unfold aE.defer;rw[ag h0]
   rw[e];exact⟨⟨hi,rfl,rfl,rfl,this⟩,a.1,a.2,rfl⟩
  ·cases h1
 ·cases h1
def aE.Inv.fR{S:aE}{i:Int}(h:S.Inv)(hi:S.ok i=true)(a:(S.at' i).ph=2):S.Step (S.fR i) i (p9 S (S.at' i)):=by obtain⟨x,b⟩:=AU h;exact⟨hi,rfl,rfl,rfl,(IH b hi a (q:=0) (ev':=[]) (by simp)).inv⟩
def aE.Inv.take{S:aE}{o:Int}(h:S.Inv)(hf:S.free≠[])(b:1<=o):S.Step (S.take o) S.dp (pw S o (S.at' S.dp))/\(S.at' S.dp).ph=0:=by
 obtain⟨x,a⟩:=AU h;obtain⟨h1,c,d,f⟩:=Cl a hf;have:=(Iq a hf b (q:=0) (ev':=[]) (by simp)).inv;have e:S.take o=⟨S.size,S.cs.set S.dp.toNat (pw S o (S.at' S.dp)),S.free.dropLast,S.bl+1⟩:=by unfold aE.take;rw[aj hf]
 rw[e]at this⊢;exact⟨⟨h1,rfl,rfl,rfl,this⟩,c⟩
def aE.Inv.ck{S:aE}{i:Int}(h:S.Inv)(hi:S.ok i=true):(S.at' i).ph<=2/\0<=(S.at' i).own/\((S.at' i).ph≠1->(S.at' i).own=0)/\((S.at' i).ph=1->1<=(S.at' i).own)/\0<=(S.at' i).gen/\(S.at' i).gen<=S.bl:=by obtain⟨U,_,_⟩:=aE.hG hi;obtain⟨a,b,c,d,e,f,_⟩:=h.ph _ (cr U);exact⟨a,b,c,d,e,f⟩
def ez{S:aE}{i:Int}:S.ok i=true↔0<=i/\i<(S.cs.length:Int):=by unfold aE.ok;exact decide_eq_true_iff
section
variable {S S':aE}{i j:Int}{c':bD}
def aE.Step.len(h:S.Step S' i c'):S'.cs.length=S.cs.length:=by rw[h.cs,hb]
def aE.Step.fY(h:S.Step S' i c'):S'.ok j=S.ok j:=by unfold aE.ok;rw[h.len]
def aE.Step.pV(h:S.Step S' i c'):S'.at' i=c':=by have:=ez.1 h.ok;unfold aE.at';rw[h.cs,eo,tV (by omega)];rfl
def aE.Step.i6(h:S.Step S' i c')(a:0<=j)(b:j≠i):S'.at' j=S.at' j:=by have:=ez.1 h.ok;unfold aE.at';rw[h.cs,eo,oq (by omega),<-eo]
def aE.Step.count(h:S.Step S' i c')(f:bD->Bool):S'.cs.countP f+(if f (S.at' i)then 1 else 0)=S.cs.countP f+(if f c' then 1 else 0):=by rw[h.cs];exact ET f (aE.hG h.ok).1
end
structure dX(S S':aE):Prop where
 len:S.cs.length=S'.cs.length
 ch:∀i,S.ok i=true->jv (S.at' i) (S'.at' i)
def jv.refl{c:bD}(h1:c.ph<=2)(a:0<=c.gen):jv c c:=⟨by omega,by omega,a,by omega,λ_=>by omega,λ_ _ _=>rfl⟩
def jv.trans{a b c:bD}(h1:jv a b)(d:jv b c):jv a c:=by
 obtain⟨g,a2,a3,a4,a5,h⟩:=h1;obtain⟨l,dG,m,iB,f,i⟩:=d;refine⟨g,dG,a3,by omega,λe=>?_,λe j k=>?_⟩
 ·have:=a5 (by omega);have:=f (by omega);omega
 ·have h1:=a5 (by omega)
  have d:=f (by omega);exact(h (by omega) j (by omega)).trans (i (by omega) (by omega) k)
def dX.refl{S:aE}(h:S.Inv):dX S S:=⟨rfl,λi hi=>jv.refl (h.ck hi).1 (h.ck hi).2.2.2.2.1⟩
def dX.trans{S S' a:aE}(h1:dX S S')(b:dX S' a):dX S a:=⟨h1.len.trans b.len,λi hi=>(h1.ch i hi).trans (b.ch i (by rw[ez]at hi⊢;rw[<-h1.len];exact hi))⟩
def aE.Step.ee{S S':aE}{i:Int}{c':bD}(h:S.Step S' i c')(hi:S.Inv)(hc:jv (S.at' i) c'):dX S S':=by
 refine⟨h.len.symm,λj a=>?_⟩;by_cases e:j=i
 ·subst e;rw[h.pV];exact hc
 ·rw[h.i6 (ez.1 a).1 e]
  exact jv.refl (hi.ck a).1 (hi.ck a).2.2.2.2.1
def dX.ee{S S':aE}(h:dX S S')(i:Nat)(a b:bD)(ha:S.cs[i]?=some a)(c:S'.cs[i]?=some b):jv a b:=by have hl:=(bY.1 ha).1;have:=h.ch (i:Int) (ez.2 ⟨by omega,by omega⟩);unfold aE.at' at this;rw[eo,eo,aZ,ha,c]at this;exact this
def Uu{c:bD}(h1:c.ph=1)(a:0<=c.gen):jv c (oT c):=⟨by omega,by simp,a,by simp,λ_=>by simp;omega,λ_ _ h=>by simp at h⟩
def Uw{S:aE}{c:bD}(h1:c.ph=2)(a:0<=c.gen):jv c (p9 S c):=⟨by omega,by simp,a,by simp only;omega,λh=>by simp only at h;omega,λh=>by simp only at h;omega⟩
def Uv{S:aE}{o:Int}{c:bD}(h1:c.ph=0)(a:0<=c.gen):jv c (pw S o c):=⟨by omega,by simp,a,by simp,λ_=>by simp;omega,λ_ h=>by omega⟩
def ve{N:Nat}{l:aN}(h:l.Nodup)(c:∀i∈l,0<=i/\i<(N:Int)):l.length<=N:=by
 have h1:(l.map Int.toNat).Nodup:=by apply mx.2;rw[kR];refine(mx.1 h).imp_of_mem λ{a b} ha d f e=>f ?_;have:=c a ha;have:=c b d;omega
 have:=nT N h1 λx g=>by obtain⟨a,ha,rfl⟩:=bP.1 g;have:=c a ha;omega
 rwa [eX]at this
end
section
open Go.XS Go.bm
abbrev nh(m:Mem):NH:=(m.2.dZ-m.2.held,m.2.held)
def jD(d:List Bool)(ms:List Mem):List NH:=((d.zip ms).filter λx=>!x.1).map λx=>nh x.2
def HG(ms:List Mem):jD (List.replicate ms.length false) ms=ms.map nh:=by
 unfold jD
 induction ms with
 |nil=>rfl
 |cons m ms a=>simp only[c8,se,wo,cX];rw[nw (by rfl),cX,a]
def HI{d:List Bool}{ms:List Mem}{i:Nat}{m:Mem}(hd:d[i]?=some false)(hm:ms[i]?=some m):(jD d ms).Perm (nh m::jD (d.set i true) ms):=by
 induction d generalizing ms i with
 |nil=>cases hd
 |cons b d a=>
  cases ms with
  |nil=>cases hm
  |cons y ms=>
   cases i with
   |zero=>simp only[jI,iR]at hd hm;subst hd;subst hm;unfold jD;simp
   |succ i=>
    simp only[mw]at hd hm;have:=a hd hm;unfold jD at this⊢;simp only[wo,iO];cases b
    ·rw[nw (by rfl),nw (by rfl),cX,cX]
     exact(mu _ this).trans (cA _ _ _)
    ·rw[nu (by simp),nu (by simp)]
     exact this
def HH{d:List Bool}{ms:List Mem}{x:NH}(h:x∈jD d ms):∃(i:Nat) (m:Mem),d[i]?=some false/\ms[i]?=some m/\x=nh m:=by unfold jD at h;obtain⟨⟨b,m⟩,h1,rfl⟩:=bP.1 h;obtain⟨c,a⟩:=pG.1 h1;obtain⟨i,hi,he⟩:=qN c;have:=bj hi;rw[he,ze]at this;simp only[ns]at a;subst a;exact⟨i,m,this.1,this.2,rfl⟩
def BV{d:List Bool}{ms:List Mem}(h:d.length=ms.length):(jD d ms).length=d.count false:=by
 unfold jD;rw[eX]
 induction d generalizing ms with
 |nil=>rfl
 |cons b d a=>
  cases ms with
  |nil=>simp at h
  |cons m ms=>
   simp only[wo];have:=a (by simpa using h);cases b
   ·rw[nw (by rfl),c8,this];simp
   ·rw[nu (by simp),this];simp
def WJ{f:Int}{d:List Bool}{ms:List Mem}{i:Nat}{m:Mem}(h:hF f d ms<0)(hd:d[i]?=some false)(hm:ms[i]?=some m):¬j1 m<=f:=by unfold hF at h;rw[uR]at h;have:=h (false,m) (cr (ze.2 ⟨hd,hm⟩));simpa using this
def Bh{m:Mem}(h:cq m.2=true):j1 m=m.2.dZ-m.2.held:=by unfold j1;rw[ag h]
def AM{m:Mem}(h:cq m.2=true):0<=m.2.held:=by unfold cq at h;simp only[bJ]at h;omega
def UI{ms:List Mem}(b:∀m∈ms,cq m.2=true):∀(k:Nat) (f:Int) (d:List Bool),d.length=ms.length->d.count false<=k->bm.Ends f (jD d ms)->(l7 ms k f d).length=d.count false:=by
 intro k
 induction k with
 |zero=>intro f d _ U _;unfold l7;simp;omega
 |succ k g=>
  intro f d hl U he;by_cases a:hF f d ms<0
  ·rw[AF a]
   by_cases h0:jD d ms=[]
   ·rw[<-BV hl,h0];rfl
   ·obtain⟨x,c,h⟩:=bm.Ends.B9 he h0
    obtain⟨i,m,hd,hm,rfl⟩:=HH c;have:=WJ a hd hm;rw[Bh (b m (cr hm))]at this;exact absurd h this
  ·rw[AE a]
   obtain⟨i,m,e,hd,hm,hf⟩:=Bk a;rw[e,aZ,c8];have j:ms.getD i (0,eM)=m:=by rw[eo,hm];rfl
   rw[j];have hr:=Bh (b m (cr hm))
   have l:∀x∈jD d ms,0<=x.2:=λx c=>by obtain⟨i,m,_,hm,rfl⟩:=HH c;exact AM (b m (cr hm))
   have n:=bm.Ends.take he l (nh m) _ (HI hd hm) (by simp only;omega);have hc:=count_set hd;rw[g _ _ (by rw[hb];exact hl) (by omega) n];omega
def T1{ms:List Mem}(b:∀m∈ms,cq m.2=true):∀(k:Nat) (f:Int) (d:List Bool),d.length=ms.length->d.count false<=(l7 ms k f d).length->bm.Ends f (jD d ms):=by
 intro k
 induction k with
 |zero=>intro f d hl U;have:jD d ms=[]:=kO.1 (by rw[BV hl];unfold l7 at U;simp at U;simpa using U);rw[this];exact .nil f
 |succ k c=>
  intro f d hl U;by_cases a:hF f d ms<0
  ·rw[AF a]at U
   have:jD d ms=[]:=kO.1 (by rw[BV hl];simp at U;simpa using U);rw[this];exact .nil f
  ·rw[AE a]at U
   obtain⟨i,m,e,hd,hm,hf⟩:=Bk a;rw[e,aZ,c8]at U;have g:ms.getD i (0,eM)=m:=by rw[eo,hm];rfl
   rw[g]at U;have hr:=Bh (b m (cr hm));have hc:=count_set hd;exact bm.Ends.step (nh m) (HI hd hm) (by simp only;omega) (c (f+m.2.held) _ (by rw[hb];exact hl) (by omega))
def Yr{f:Int}{ms:List Mem}(hf:0<=f/\f<=1048576)(a:∀m∈ms,cq m.2=true)(h:bm.Ends f (ms.map nh)):kH f ms=true:=by unfold kH mZ;have:=UI a ms.length f (List.replicate ms.length false) (by simp) (by simp) (by rw[HG];exact h);rw[this,cM hf,iq.2 a];simp
def T2{f:Int}{ms:List Mem}(h:kH f ms=true):bm.Ends f (ms.map nh):=by unfold kH mZ at h;simp only[cg,bJ,iq]at h;rw[<-HG];exact T1 h.1.2 ms.length f _ (by simp) (by simpa using h.2)
end
section
open Go.XS Go.bm
abbrev bE.ks(L:bE):aN:=a7 L.ar.aU.cN
abbrev bE.o4(L:bE):List NH:=L.ks.map λp=>nh (p,L.ar.at' p)
def GO(L:bE):L.ar.members.map nh=L.o4:=by unfold bG.members;rw[nz];rfl
structure AS(L:bE)(S:aE)(N:dR):Prop where
 inv:S.Inv
 ar:L.ar.Ok
 sl:L.ar.aU.Ok
 l9:N.xs.Nodup
 ch:L.chunks=S.cs.length
 n:N.n=S.cs.length
 ln:∀i,i∈N.xs↔S.ok i=true/\(S.at' i).ph=2
 keys:a7 L.ar.all=L.ks
 held:∀p∈L.ks,(L.ar.at' p).held=(S.cs.countP λc=>c.own==p+1:Nat)
 own:∀c∈S.cs,0<c.own->c.own-1∈L.ks
 safe:bm.Ends ((S.many 0:Int)+S.many 2) L.o4
def U5{S:aT}{p:Int}(h:S.b8 p=true):p∈a7 S.cN:=by
 unfold aT.b8 at h
 cases a:aQ S.cN p with
 |none=>rw[a]at h;cases h
 |some b=>exact bP.2 ⟨_,jA a,rfl⟩
def mU{S:aT}{p:Int}(a:S.Ok)(h:p∈a7 S.cN):S.b8 p=true:=by obtain⟨e,he,rfl⟩:=bP.1 h;have:=(a.op e he).1;unfold aT.b8;rw[Ba a.bX he,this];rfl
def qd{L:bE}{c:Int}(h:L.bk c=0):mO c=true/\hv c=1/\iE c=0/\L.ar.aU.right (gP c) (gG c)=true/\L.place c=gP c/\gP c∈L.ks:=by
 have a:L.place c=gP c:=by unfold bE.place;rw[ag h]
 unfold bE.bk at h;split at h
 ·rename_i h1
  unfold bG.e1 at h;split at h
  ·rename_i hr
   refine⟨h1.1,h1.2.1,h1.2.2,hr,a,?_⟩;unfold aT.right at hr;simp only[cg]at hr;exact U5 hr.1
  ·cases h
 ·cases h
def pW{L:bE}{p:Int}(c:L.ar.Ok)(U:a7 L.ar.all=L.ks)(h:p∈L.ks):cq (L.ar.at' p)=true/\∃a,aQ L.ar.all p=some a/\L.ar.at' p=a:=by
 rw[<-U]at h
 cases b:aQ L.ar.all p with
 |none=>exact absurd h (kC.1 b)
 |some a=>
  have:L.ar.at' p=a:=by unfold bG.at';rw[b];rfl
  rw[this];exact⟨c.all _ (jA b),a,rfl,rfl⟩
abbrev bE.bM(L:bE)(p:Int)(a:Acc):bE:={L with ar:=⟨L.ar.aU,bC p a L.ar.all⟩}
def uV{L:bE}{w:Ac}{c n:Int}(h:L.bk c=0)(h0:L.cI w c n=0):L.bK w c n=L.bM (L.place c) (w.ej (L.ar.at' (L.place c)) n)/\cq (L.ar.at' (L.place c))=true/\1<=n/\cq (w.ej (L.ar.at' (L.place c)) n)=true:=by
 obtain⟨_,_,_,hr,e,_⟩:=qd h;rw[e];unfold bE.cI at h0;rw[ag h]at h0;unfold bE.bK;rw[ag h];unfold bG.bK;rw[ag h0];have f:L.ar.get (gP c) (gG c)=L.ar.at' (gP c):=by unfold bG.get;rw[ag hr]
 unfold bG.cI at h0;rw[ag (by unfold bG.e1;rw[ag hr])]at h0;rw[f]at h0⊢;obtain⟨a,b,d,_⟩:=Ac.As h0;exact⟨rfl,a,b,d⟩
def Vu{L:bE}{w:Ac}{c n:Int}(h0:L.cI w c n≠0):L.bK w c n=L:=by
 unfold bE.bK;split
 ·rename_i h
  unfold bE.cI at h0;rw[ag h]at h0;unfold bG.bK;rw[aj h0]
 ·rfl
def xC{L:bE}{w:Ac}{c n:Int}(h:L.bk c=0)(h1:cq (L.ar.at' (L.place c))=true)(a:1<=n/\n<=1048576)(b:cq (w.ej (L.ar.at' (L.place c)) n)=true):L.cI w c n=0:=by
 obtain⟨_,_,_,hr,d,_⟩:=qd h;rw[d]at h1 b;unfold bE.cI;rw[ag h];unfold bG.cI;rw[ag (by unfold bG.e1;rw[ag hr])];have e:L.ar.get (gP c) (gG c)=L.ar.at' (gP c):=by unfold bG.get;rw[ag hr]
 rw[e];unfold Ac.err;rw[ag ⟨h1,a.1⟩,ag ⟨a.2,b⟩]
def U2{x:Int}:∀{xs:aN},ed xs->x∈xs->jw x xs=xs:=by intro xs hr a;exact vA (yl hr) hr λz=>by rw[nR];exact⟨λh=>h.elim (λe=>e▸a) id,.inr⟩
section
variable {L:bE}{S S':aE}{N:dR}{p q i c n:Int}{a:Acc}
def jH(b:L.ar.Ok):(L.bM p a).ar.at' q=if q=p then a else L.ar.at' q:=by
 show(aQ (bC p a L.ar.all) q).getD eM=_;rw[gR b.bX];split
 ·rfl
 ·rfl
def Cx(b:L.ar.Ok)(ha:cq a=true):(L.bM p a).ar.Ok:=by
 refine⟨b.n,λe he=>?_,fu b.bX⟩;rcases(o2 b.bX).1 he with rfl|h
 ·exact ha
 ·exact b.all e h.1
def Cw(b:L.ar.Ok)(U:a7 L.ar.all=L.ks)(c:p∈L.ks):a7 (L.bM p a).ar.all=(L.bM p a).ks:=by show a7 (bC p a L.ar.all)=L.ks;rw[oX,U,U2 (U▸b.bX) c]
def u2{β:Type}{f:Int->β}{ks:aN}(b:ks.Nodup)(a:p∈ks):(ks.map f).Perm (f p::(ks.erase p).map f):=(zk a).map f
def aaB(b:L.ar.Ok)(c:L.ks.Nodup):(L.ks.erase p).map (λq=>nh (q,(L.bM p a).ar.at' q))=(L.ks.erase p).map λq=>nh (q,L.ar.at' q):=by
 refine h8 λq d=>?_;have:q≠p:=λe=>by subst e;exact(CZ c) d
 rw[jH b,aj this]
def AS.nd(h:AS L S N):L.ks.Nodup:=mg h.sl.bX
def AS.eG(h:AS L S N)(hf:L.bk c=0)(k:L.place c=p)(hi:S.ok i=true)(u:(S.at' i).ph=1)(o:(S.at' i).own=p+1):S.kq i (p+1)=0/\N.fO i=0/\L.cI .eG c 1=0/\AS (L.bK .eG c 1) (S.defer i (p+1)) (N.put i)/\L.bK .eG c 1=L.bM p (Ac.eG.ej (L.ar.at' p) 1):=by
 obtain⟨_,_,_,hr,D,d⟩:=qd hf;rw[<-D,k]at d;have h1:S.kq i (p+1)=0:=by unfold aE.kq;rw[ag hi,ag ⟨u,o⟩]
 have v:=ez.1 hi;have w:i∉N.xs:=λr=>by have:=((h.ln i).1 r).2;omega
 have y:N.fO i=0:=by unfold dR.fO;rw[ag ⟨v.1,by rw[h.n];exact v.2⟩,aj w]
 have J:=h.held p d;have K:0<S.cs.countP λc=>c.own==p+1:=C0.2 ⟨_,cr (aE.hG hi).1,by simpa using o⟩;have l:=(pW h.ar h.keys d).1
 have A:cq (Ac.eG.ej (L.ar.at' p) 1)=true:=by unfold cq at l;simp only[bJ]at l;apply cM;show 1<=(L.ar.at' p).dZ/\(L.ar.at' p).dZ<=1048576/\0<=(L.ar.at' p).held-1/\0<=(L.ar.at' p).cB/\(L.ar.at' p).held-1+(L.ar.at' p).cB<=(L.ar.at' p).dZ;omega
 have B:L.cI .eG c 1=0:=xC hf (by rw[k];exact l) (by omega) (by rw[k];exact A);obtain⟨e,_⟩:=uV hf B;rw[k]at e;obtain⟨st,_,_,_⟩:=h.inv.defer h1;refine⟨h1,y,B,?_,e⟩;rw[e];have s:N.put i=N.yd i:=by unfold dR.put;rw[ag y]
 rw[s];have t:=st.count;refine⟨st.inv,Cx h.ar A,h.sl,?_,by rw[st.len];exact h.ch,by rw[st.len];exact h.n,?_,Cw h.ar h.keys d,?_,?_,?_⟩
 ·show(N.xs++[i]).Nodup
  rw[dP];exact⟨h.l9,by simp,λa ha b E e=>w (by rw[fw.1 E]at e;exact e▸ha)⟩
 ·intro j
  show j∈N.xs++[i]↔_;rw[dO,fw,h.ln,st.fY];by_cases m:j=i
  ·subst m;rw[st.pV];simp[hi]
  ·constructor
   ·rintro(⟨a,b⟩|e)
    ·exact⟨a,by rw[st.i6 (ez.1 a).1 m];exact b⟩
    ·exact absurd e m
   ·rintro⟨a,b⟩
    rw[st.i6 (ez.1 a).1 m]at b;exact .inl ⟨a,b⟩
 ·intro q g
  rw[jH h.ar];have hc:=t λc=>c.own==q+1;by_cases e:q=p
  ·subst e
   rw[ag rfl];rw[ag (by simpa using o),aj (by simp only[hQ];have:=(h.sl.lt (mU h.sl g)).1;omega)]at hc;show(L.ar.at' q).held-1=_;omega
  ·rw[aj e]
   rw[aj (by simp;omega),aj (by simp;intro h0;have:=(h.sl.lt (mU h.sl g)).1;omega)]at hc;have:=h.held q g;omega
 ·intro z hz C
  rw[st.cs]at hz;rcases ka hz with hz|rfl
  ·exact h.own z hz C
  ·simp at C
 ·have c0:=t λc=>c.ph==0
  have c2:=t λc=>c.ph==2;simp only[u]at c0 c2;simp at c0 c2;have F:=h.safe.perm (u2 h.nd d)
  have G:=bm.Ends.eG (n:=1) F (by omega) (λx r=>by obtain⟨q,g,rfl⟩:=bP.1 r;exact AM (pW h.ar h.keys (sd g)).1) (AM l)
  have H:bm.Ends (((S.defer i (p+1)).many 0:Int)+(S.defer i (p+1)).many 2) (nh (p,Ac.eG.ej (L.ar.at' p) 1)::(L.ks.erase p).map λq=>nh (q,L.ar.at' q)):=by
   have I:((S.defer i (p+1)).many 0:Int)+(S.defer i (p+1)).many 2=S.many 0+S.many 2+1:=by unfold aE.many;omega
   have s:nh (p,Ac.eG.ej (L.ar.at' p) 1)=((nh (p,L.ar.at' p)).1+1,(nh (p,L.ar.at' p)).2-1):=by exact wu (by show(L.ar.at' p).dZ-((L.ar.at' p).held-1)=(L.ar.at' p).dZ-(L.ar.at' p).held+1;omega) rfl
   rw[I,s];exact G
  refine H.perm (List.Perm.symm ?_);have:=u2 (f:=λq=>nh (q,(L.bM p (Ac.eG.ej (L.ar.at' p) 1)).ar.at' q)) h.nd d;rw[aaB h.ar h.nd,jH h.ar,ag rfl]at this;exact this
end
end
section
open Go.XS Go.bm aJ
structure Jq(l:aN)(X Y:aJ):Prop where
 ac:AS Y.L Y.S Y.R.line
 sl:Y.L.ar.aU=X.L.ar.aU
 ch:Y.L.chunks=X.L.chunks
 ko:∀q,(Y.L.ar.at' q).cB=(X.L.ar.at' q).cB
 cm:∀q,(Y.L.ar.at' q).dZ=(X.L.ar.at' q).dZ
 ee:dX X.S Y.S
 at':∀j,0<=j->j∉l->Y.S.at' j=X.S.at' j
 sz:Y.S.size=X.S.size
 tk:Y.R.du=X.R.du
 XF:Y.R.gq=X.R.gq
def aaz{c p:Int}:∀(l:aN) (X:aJ),AS X.L X.S X.R.line->X.L.bk c=0->X.L.place c=p->l.Nodup->(∀i∈l,X.S.ok i=true/\(X.S.at' i).ph=1/\(X.S.at' i).own=p+1)->(dB c p l X).2=0/\Jq l X (dB c p l X).1:=by
 intro l
 induction l with
 |nil=>intro X h _ _ _ _;exact⟨rfl,⟨h,rfl,rfl,λ_=>rfl,λ_=>rfl,dX.refl h.inv,λ_ _ _=>rfl,rfl,rfl,rfl⟩⟩
 |cons i l v=>
  intro X h hf o m hl;obtain⟨h1,s,w⟩:=hl i j';obtain⟨n,x,y,z,f⟩:=h.eG hf o h1 s w;have A:X.R.fO X.S i (p+1)=0:=by unfold Rec.fO;rw[ag n];exact x
  have B:X.R.put X.S i (p+1)={X.R with line:=X.R.line.put i}:=by unfold Rec.put;rw[ag n]
  have C:h7 c p i X=({X with R:={X.R with line:=X.R.line.put i},S:=X.S.defer i (p+1),L:=X.L.bK .eG c 1},0):=by unfold h7;rw[ag A,B,y]
  rw[vT,C];simp only[eb];obtain⟨st,_,_,_⟩:=h.inv.defer n;have D:=st.ee h.inv (Uu s (h.inv.ck h1).2.2.2.2.1);rw[fg]at m
  have:=v {X with R:={X.R with line:=X.R.line.put i},S:=X.S.defer i (p+1),L:=X.L.bK .eG c 1} z (by rw[f];exact hf) (by rw[f];exact o) m.2 (λj k=>by obtain⟨a,b,d⟩:=hl j (iw _ k);have t:j≠i:=λe=>m.1 (e▸k);exact⟨by rw[st.fY];exact a,by rw[st.i6 (ez.1 a).1 t];exact b,by rw[st.i6 (ez.1 a).1 t];exact d⟩)
  obtain⟨r,g⟩:=this;refine⟨r,⟨g.ac,g.sl.trans (by rw[f]),g.ch.trans (by rw[f]),λq=>(g.ko q).trans ?_,λq=>(g.cm q).trans ?_,D.trans g.ee,λj k u=>?_,g.sz.trans st.sz,g.tk,g.XF⟩⟩
  ·show((X.L.bK .eG c 1).ar.at' q).cB=_
   rw[f,jH h.ar];split
   ·rename_i e;subst e;rfl
   ·rfl
  ·show((X.L.bK .eG c 1).ar.at' q).dZ=_
   rw[f,jH h.ar];split
   ·rename_i e;subst e;rfl
   ·rfl
  ·rw[g.at' j k λE=>u (iw _ E)]
   exact st.i6 k (λe=>u (e▸j'))
def p'(T:a1)(p:Int):Int:=((a7 T.bB).map λi=>if(T.at' i).aO=p then(T.at' i).count else 0).sum
structure TS(L:bE)(T:a1)(Q:Qu):Prop where
 ps:bQ T.bB
 tk:∀i,i∈a7 T.bB↔T.has i=true/\(T.at' i).state=1
 tid:∀i,T.has i=true->(T.at' i).id=i
 tr:∀i∈a7 T.bB,right (T.at' i)=true/\(T.at' i).aO∈L.ks
 q:Q.L=(a7 T.bB).map λi=>(i,(T.at' i).aO)
 cB:∀p∈L.ks,(L.ar.at' p).cB=p' T p
section
variable {L L':bE}{S S':aE}{N:dR}{T:a1}{Q:Qu}{p q i c n:Int}{a:Acc}
def TS.congr(h:TS L T Q)(U:L'.ks=L.ks)(hc:∀q,(L'.ar.at' q).cB=(L.ar.at' q).cB):TS L' T Q:=⟨h.ps,h.tk,h.tid,λi hi=>by rw[U];exact h.tr i hi,h.q,λp a=>by rw[hc];exact h.cB p (U▸a)⟩
def AS.cB(h:AS L S N)(d:p∈L.ks)(ha:cq a=true)(h1:a.dZ=(L.ar.at' p).dZ)(b:a.held=(L.ar.at' p).held):AS (L.bM p a) S N:=by
 refine⟨h.inv,Cx h.ar ha,h.sl,h.l9,h.ch,h.n,h.ln,Cw h.ar h.keys d,?_,h.own,?_⟩
 ·intro q c
  rw[jH h.ar];split
  ·rename_i e;subst e;rw[b];exact h.held q c
  ·exact h.held q c
 ·have e:(L.bM p a).o4=L.o4:=by
   unfold bE.o4;refine h8 λq c=>?_;rw[jH h.ar];split
   ·rename_i e;subst e;exact wu (by show a.dZ-a.held=_;rw[h1,b]) b
   ·rfl
  rw[e];exact h.safe
def UT(h:AS L S N):(qf L.o4:Int)=S.many 1:=by
 have key:∀(ks:aN),ks.Nodup->∀(cs:List bD),(ks.map λp=>((cs.countP λc=>c.own==p+1:Nat):Int)).sum=(cs.countP λc=>decide (c.own-1∈ks):Nat):=by
  intro ks b cs
  induction cs with
  |nil=>simp;induction ks with|nil=>rfl|cons a l d=>simp at b⊢;exact d b.2
  |cons c cs d=>
   simp only[r6]
   have:(ks.map λp=>((cs.countP (λc=>c.own==p+1)+(if(c.own==p+1)=true then 1 else 0):Nat):Int)).sum=(ks.map λp=>((cs.countP λc=>c.own==p+1:Nat):Int)).sum+if c.own-1∈ks then 1 else 0:=by
    clear d
    induction ks with
    |nil=>simp
    |cons k ks m=>
     rw[fg]at b;simp only[cX,jM];rw[m b.2];by_cases e:c.own=k+1
     ·have g:c.own-1=k:=by omega
      have:¬c.own-1∈ks:=by rw[g];exact b.1
      rw[aj this,ag (by simpa using e),ag (by rw[g];exact j')]
      push_cast;omega
     ·have i:(c.own-1∈k::ks)↔c.own-1∈ks:=by rw[cL];exact⟨λh=>h.elim (λg=>absurd (by omega) e) id,.inr⟩
      rw[aj (by simpa using e)];by_cases f:c.own-1∈ks
      ·rw[ag f,ag (i.2 f)];push_cast;omega
      ·rw[aj f,aj λh=>f (i.1 h)];push_cast;omega
   rw[this,d];by_cases e:c.own-1∈ks
   ·rw[ag e,ag (by simpa using e)];push_cast;omega
   ·rw[aj e,aj (by simpa using e)];push_cast;omega
 unfold qf bE.o4;rw[nz];have e:(L.ks.map ((λx:NH=>x.2)∘λp=>nh (p,L.ar.at' p)))=L.ks.map λp=>((S.cs.countP λc=>c.own==p+1:Nat):Int):=h8 λp n=>h.held p n;rw[e,key _ h.nd];unfold aE.many;congr 1;refine List.countP_congr λc hc=>?_;have j:=h.inv.ph c hc;simp only[bJ,hQ];constructor
 ·intro hm
  have:=(h.sl.lt (mU h.sl hm)).1;refine tP λo=>?_;have:=j.2.2.1 o;omega
 ·intro he
  have:=j.2.2.2.1 he;exact h.own c hc (by omega)
def s7(h:S.Inv):S.many 0+S.many 1+S.many 2=S.cs.length:=V2 S.cs λi c hc=>(h.ph c (cr hc)).1
end
end
section
open Go.XS Go.bm aJ
def U3{x:Int}{xs:aN}(hr:ed xs)(h:∀y∈xs,y<x):jw x xs=xs++[x]:=vA (yl hr) (Yg hr h) λz=>by rw[nR,dO,fw];exact⟨λh=>h.symm,λh=>h.symm⟩
def F9{α:Type}{k:Int}{m:ML α}:a7 (bN k m)=(a7 m).filter (λj=>j !=k):=by unfold a7 bN;rw[wb];rfl
def xy{α:Type}{k:Int}{m:ML α}(h:bQ m):a7 (bN k m)=(a7 m).erase k:=by rw[F9,(mg h).erase_eq_filter]
def WZ{S:aT}(h:S.fZ=true):S.opened.cN=bC S.cG true S.cN:=by have a:S.pick.2.2=true:=h;unfold aT.opened aT.cG;rw[ag a,ag a]
section
variable {L L':bE}{S S':aE}{N:dR}{T T':a1}{Q:Qu}{p q i c n:Int}{a:Acc}
def XX(h:AS L S N)(a:TS L T Q):AS (L.bR c) S N/\TS (L.bR c) T Q/\(L.bR c).chunks=L.chunks:=by
 unfold bE.bR;by_cases hc:L.uy c
 ·rw[ag hc]
  unfold bG.opened;by_cases hr:cq ⟨c,0,0⟩=true
  ·rw[ag hr]
   by_cases d:L.ar.aU.fZ=true
   ·rw[ag d]
    have m:L.ar.aU.b8 L.ar.aU.cG=false:=by have:=h.sl.x9 d;unfold aT.cG;rw[ag (show L.ar.aU.pick.2.2=true from d)];exact this
    generalize p:L.ar.aU.cG=p0 at m;have k:p0∉L.ks:=λhm=>by rw[mU h.sl hm]at m;cases m
    have f:a7 L.ar.aU.opened.cN=jw p0 L.ks:=by rw[WZ d,p,oX]
    have l:∀q,bG.at' ⟨L.ar.aU.opened,bC p0 ⟨c,0,0⟩ L.ar.all⟩ q=if q=p0 then⟨c,0,0⟩else L.ar.at' q:=λq=>by
     show(aQ (bC p0 ⟨c,0,0⟩ L.ar.all) q).getD eM=_;rw[gR h.ar.bX];split
     ·rfl
     ·rfl
    refine⟨⟨h.inv,⟨?_,?_,fu h.ar.bX⟩,h.sl.G6,h.l9,h.ch,h.n,h.ln,?_,?_,?_,?_⟩,⟨a.ps,a.tk,a.tid,?_,a.q,?_⟩,rfl⟩
    ·show L.ar.aU.opened.b7.length=64
     rw[aT.xS];exact h.ar.n
    ·intro e he
     rcases(o2 h.ar.bX).1 he with rfl|g
     ·exact hr
     ·exact h.ar.all e g.1
    ·show a7 (bC p0 _ L.ar.all)=a7 L.ar.aU.opened.cN
     rw[oX,f,h.keys]
    ·intro q b
     have b:q∈jw p0 L.ks:=f▸b;show(bG.at' _ q).held=_;rw[l];by_cases e:q=p0
     ·subst e
      rw[ag rfl]
      have:S.cs.countP (λc=>c.own==q+1)=0:=by
       rw[wa];intro z hz o;have o:z.own=q+1:=by simpa using o
       have r:=h.inv.ph z hz;by_cases s:z.ph=1
       ·have:=r.2.2.2.1 s
        exact k (by have:=h.own z hz (by omega);rwa [o,show q+1-1=q from by omega]at this)
       ·have h0:=r.2.2.1 s
        have w:q=-1:=by omega
        have:=h.sl.x8 d;have j:L.ar.aU.cG=L.ar.aU.pick.2.1:=by unfold aT.cG;rw[ag (show L.ar.aU.pick.2.2=true from d)]
        rw[<-j,p]at this;omega
      rw[this];rfl
     ·rw[aj e]
      exact h.held q (by rcases nR.1 b with j|g;exact absurd j e;exact g)
    ·intro z hz t
     show _∈a7 L.ar.aU.opened.cN;rw[f];exact nR.2 (.inr (h.own z hz t))
    ·have u:=bm.Ends.more h.safe (c:=c) (by have h1:=UT h;have g:=s7 h.inv;unfold bE.uy at hc;simp only[bJ]at hc;have:=h.ch;omega)
     refine u.perm (List.Perm.symm ?_);show(List.map _ (a7 L.ar.aU.opened.cN)).Perm _;rw[f];refine((AT k).map _).trans ?_;rw[cX];show(List.Perm (nh (p0,bG.at' _ p0)::_) _);rw[l,ag rfl];have e:nh (p0,⟨c,0,0⟩)=(c,0):=wu (by show c-0=c;omega) rfl;rw[e];refine mu _ (List.Perm.of_eq ?_);refine h8 λq b=>?_;show nh (q,bG.at' _ q)=_;rw[l,aj (λe:q=p0=>k (e▸b))]
    ·intro i hi
     refine⟨(a.tr i hi).1,?_⟩;show _∈a7 L.ar.aU.opened.cN;rw[f];exact nR.2 (.inr (a.tr i hi).2)
    ·intro q b
     have b:q∈jw p0 L.ks:=f▸b;show(bG.at' _ q).cB=_;rw[l];by_cases e:q=p0
     ·rw[ag e]
      subst e;have:(a7 T.bB).map (λi=>if(T.at' i).aO=q then(T.at' i).count else 0)=(a7 T.bB).map λ_=>0:=h8 λi hi=>aj λe:(T.at' i).aO=q=>k (e▸(a.tr i hi).2);unfold p';rw[this];clear this;show(0:Int)=_
      induction a7 T.bB with
      |nil=>rfl
      |cons _ _ v=>simpa using v
     ·rw[aj e]
      exact a.cB q (by rcases nR.1 b with j|g;exact absurd j e;exact g)
   ·rw[aj d];exact⟨h,a,rfl⟩
  ·rw[aj hr];exact⟨h,a,rfl⟩
 ·rw[aj hc];exact⟨h,a,rfl⟩
def Ij{l c:aN}(h:l.Perm c):l.sum=c.sum:=by
 induction h with
 |nil=>rfl
 |cons _ _ d=>simp only[jM,d]
 |swap x y l=>simp only[jM];omega
 |trans _ _ a b=>exact a.trans b
def EW(c:TS L T Q)(hi:i∈a7 T.bB):(T.at' i).count<=p' T (T.at' i).aO:=by
 unfold p'
 have d:∀j∈(a7 T.bB).erase i,0<=(if(T.at' j).aO=(T.at' i).aO then(T.at' j).count else 0):=λj b=>by
  have:=(c.tr j (sd b)).1;unfold right at this;simp only[bJ]at this;split
  ·omega
  ·omega
 have hs:∀(l:aN) (f:Int->Int),(∀j∈l,0<=f j)->0<=(l.map f).sum:=λl f=>by
  induction l with
  |nil=>intro _;simp
  |cons a l e=>intro h;rw[cX,jM];have:=e λj b=>h j (iw _ b);have:=h a j';omega
 have:=(u2 (f:=λj=>if(T.at' j).aO=(T.at' i).aO then(T.at' j).count else 0) (mg c.ps) hi);have this:=Ij this;rw[this,jM,ag rfl];have:=hs _ _ d;omega
def Yc(h:AS L S N)(b:TS L T Q):AS (L.ret c) S N/\TS (L.ret c) T Q/\(L.ret c).chunks=L.chunks:=by
 unfold bE.ret;by_cases hf:L.bk c=0
 ·rw[ag hf]
  unfold bG.close;by_cases hc:L.ar.sG (gP c) (gG c)=0
  ·rw[ag hc]
   obtain⟨_,_,_,hr,u,f⟩:=qd hf;have m:L.ar.get (gP c) (gG c)=L.ar.at' (gP c):=by unfold bG.get;rw[ag hr]
   unfold bG.sG at hc;rw[ag (by unfold bG.e1;rw[ag hr]),m]at hc;have k:=(pW h.ar h.keys f).1
   have h0:(L.ar.at' (gP c)).held=0/\(L.ar.at' (gP c)).cB=0:=by
    unfold cq at k;simp only[bJ]at k;split at hc
    ·cases hc
    ·omega
   have o:L.ar.aU.close (gP c) (gG c)=L.ar.aU.shut (gP c):=by unfold aT.close;rw[ag hr]
   rw[o];generalize gP c=p0 at*;have p:L.ar.aU.b8 p0=true:=mU h.sl f;have d:a7 (L.ar.aU.shut p0).cN=L.ks.erase p0:=xy h.sl.bX
   have g:∀q,q≠p0->bG.at' ⟨L.ar.aU.shut p0,bN p0 L.ar.all⟩ q=L.ar.at' q:=λq a=>by show(aQ (bN p0 L.ar.all) q).getD eM=_;rw[mV,aj a];rfl
   have j:∀q∈L.ks.erase p0,q≠p0:=λq a e=>(CZ h.nd) (e▸a);refine⟨⟨h.inv,⟨?_,λe he=>h.ar.all e (ta.1 he).1,ml h.ar.bX⟩,h.sl.HW p,h.l9,h.ch,h.n,h.ln,?_,?_,?_,?_⟩,⟨b.ps,b.tk,b.tid,?_,b.q,?_⟩,rfl⟩
   ·show(List.set _ _ _).length=64
    rw[hb];exact h.ar.n
   ·show a7 (bN p0 L.ar.all)=a7 (L.ar.aU.shut p0).cN
    rw[d,xy h.ar.bX,h.keys]
   ·intro q a
    have a:q∈L.ks.erase p0:=d▸a;show(bG.at' _ q).held=_;rw[g q (j q a)];exact h.held q (sd a)
   ·intro z hz r
    show _∈a7 (L.ar.aU.shut p0).cN;rw[d,h.nd.mem_erase_iff];refine⟨λe=>?_,h.own z hz r⟩;have h1:=h.held p0 f;rw[h0.1]at h1;have:0<S.cs.countP λc=>c.own==p0+1:=C0.2 ⟨z,hz,by simp;omega⟩;omega
   ·have l:=h.safe.perm (u2 h.nd f)
    have e:nh (p0,L.ar.at' p0)=((L.ar.at' p0).dZ-0,0):=wu (by show _-(L.ar.at' p0).held=_;rw[h0.1]) h0.1;rw[e]at l;have:=l.Uh;show bm.Ends _ (List.map _ (a7 (L.ar.aU.shut p0).cN));rw[d];have s:(L.ks.erase p0).map (λq=>nh (q,bG.at' ⟨L.ar.aU.shut p0,bN p0 L.ar.all⟩ q))=(L.ks.erase p0).map λq=>nh (q,L.ar.at' q):=h8 λq a=>by rw[g q (j q a)]
    show bm.Ends _ ((L.ks.erase p0).map λq=>nh (q,bG.at' ⟨L.ar.aU.shut p0,bN p0 L.ar.all⟩ q));rw[s];exact this
   ·intro i hi
    refine⟨(b.tr i hi).1,?_⟩;show _∈a7 (L.ar.aU.shut p0).cN;rw[d,h.nd.mem_erase_iff];refine⟨λe=>?_,(b.tr i hi).2⟩;have h1:=b.cB p0 f;have t:=EW b hi;rw[e]at t;have:=(b.tr i hi).1;unfold right at this;simp only[bJ]at this;omega
   ·intro q a
    have a:q∈L.ks.erase p0:=d▸a;show(bG.at' _ q).cB=_;rw[g q (j q a)];exact b.cB q (sd a)
  ·rw[aj hc];exact⟨h,b,rfl⟩
 ·rw[aj hf];exact⟨h,b,rfl⟩
end
end
section
open Go.XS Go.bm aJ
def hx{T:a1}{i:Int}:T.has i=true↔1<=i/\i<=(T.all.length:Int):=by unfold a1.has;exact decide_eq_true_iff
def HC{t:Tk}(h:right t=true):1<=t.id/\0<=t.aO/\t.aO<64/\1<=t.count/\t.count<=1048576/\(t.state=1\/t.state=2\/t.state=3)/\0<=t.b4:=by unfold right at h;simpa using h
def Ah{t:Tk}(h:check t=0):right t=true/\t.state=1:=by
 unfold check at h;split at h
 ·rename_i hr
  split at h
  ·rename_i hs;exact⟨hr,hs⟩
  ·cases h
 ·cases h
def Tu{t:Tk}(h:right t=true)(h1:t.state=1):check t=0:=by unfold check;rw[ag h,ag h1]
section
variable {L L':bE}{S S':aE}{N:dR}{T T':a1}{Q:Qu}{p q i c n:Int}{a:Acc}
def TS.FU(h:TS L T Q)(hi:i∈a7 T.bB):T.has i=true/\check (T.at' i)=0:=⟨((h.tk i).1 hi).1,Tu (h.tr i hi).1 ((h.tk i).1 hi).2⟩
def TS.out{k:Tk}(h:TS L T Q)(hi:i∈a7 T.bB)(hid:k.id=i)(s:k.state≠1)(U:L'.ks=L.ks)(hc:∀q∈L.ks,(L'.ar.at' q).cB=(L.ar.at' q).cB-if q=(T.at' i).aO then(T.at' i).count else 0):TS L' ⟨T.all.set (i-1).toNat k,bN i T.bB⟩ (Q.drop i):=by
 obtain⟨t,_⟩:=h.FU hi;have u:=hx.1 t;have r:∀j,a1.has ⟨T.all.set (i-1).toNat k,bN i T.bB⟩ j=T.has j:=λj=>by unfold a1.has;simp only[hb]
 have l:∀j,1<=j->a1.at' ⟨T.all.set (i-1).toNat k,bN i T.bB⟩ j=if j=i then k else T.at' j:=λj c=>by
  unfold a1.at';simp only[eo];split
  ·rename_i e;subst e;rw[tV (by omega)];rfl
  ·rw[oq (by omega)]
 have m:=mg h.ps;have o:a7 (bN i T.bB)=(a7 T.bB).erase i:=xy h.ps
 have p:∀j∈(a7 T.bB).erase i,a1.at' ⟨T.all.set (i-1).toNat k,bN i T.bB⟩ j=T.at' j:=λj c=>by have h1:=(m.mem_erase_iff).1 c;rw[l j (hx.1 ((h.tk j).1 h1.2).1).1,aj h1.1]
 refine⟨ml h.ps,λj=>?_,λj c=>?_,λj c=>?_,?_,λq n=>?_⟩
 ·rw[r]
  show j∈a7 (bN i T.bB)↔_;rw[o,m.mem_erase_iff,h.tk];constructor
  ·rintro⟨a,b,d⟩
   exact⟨b,by rw[l j (hx.1 b).1,aj a];exact d⟩
  ·rintro⟨b,d⟩
   rw[l j (hx.1 b).1]at d;by_cases e:j=i
   ·rw[ag e]at d;exact absurd d s
   ·rw[aj e]at d;exact⟨e,b,d⟩
 ·rw[r]at c
  rw[l j (hx.1 c).1];split
  ·rename_i e;rw[e];exact hid
  ·exact h.tid j c
 ·have c:j∈(a7 T.bB).erase i:=o▸c
  rw[p j c,U];exact h.tr j (sd c)
 ·show Q.L.filter _=(a7 (bN i T.bB)).map _
  rw[h.q,F9,wb];refine h8 λj c=>?_;have c:j∈(a7 T.bB).erase i:=by rw[m.erase_eq_filter];exact c
  rw[p j c]
 ·have n:q∈L.ks:=U▸n
  rw[hc q n,h.cB q n];unfold p';have h1:=Ij (u2 (f:=λj=>if(T.at' j).aO=q then(T.at' j).count else 0) m hi);rw[h1,jM];show _=((a7 (bN i T.bB)).map _).sum;rw[o,h8 (f:=λj=>if(a1.at' ⟨T.all.set (i-1).toNat k,bN i T.bB⟩ j).aO=q then(a1.at' ⟨T.all.set (i-1).toNat k,bN i T.bB⟩ j).count else 0) (g:=λj=>if(T.at' j).aO=q then(T.at' j).count else 0) λj c=>by rw[p j c]];by_cases e:q=(T.at' i).aO
  ·rw[ag e,ag e.symm];omega
  ·rw[aj e,aj (Ne.symm e)];omega
def TS.jc(h:TS L T Q)(m:p∈L.ks)(h0:T.jx p n=0)(U:L'.ks=L.ks){d:Nat}(hc:∀q∈L.ks,(L'.ar.at' q).cB=(L.ar.at' q).cB+if q=p then n else 0):TS L' (T.jc p n) ⟨Q.L++[(T.next,p)],d⟩:=by
 have e:T.jc p n=⟨T.all++[iI T.next p n],bC T.next () T.bB⟩:=by unfold a1.jc;rw[ag h0]
 rw[e]
 have hr:right (iI T.next p n)=true:=by
  unfold a1.jx o3 at h0
  cases hr:right (iI T.next p n)with
  |true=>rfl
  |false=>rw[hr]at h0;simp at h0
 have o:∀j∈a7 T.bB,j<T.next:=λj c=>by have:=hx.1 ((h.tk j).1 c).1;unfold a1.next;omega
 have i:a7 (bC T.next () T.bB)=a7 T.bB++[T.next]:=by rw[oX,U3 h.ps o]
 have l:∀j,a1.has ⟨T.all++[iI T.next p n],bC T.next () T.bB⟩ j=true↔T.has j=true\/j=T.next:=λj=>by rw[hx,hx];simp only[b',sa];unfold a1.next;omega
 have f:∀j,T.has j=true->a1.at' ⟨T.all++[iI T.next p n],bC T.next () T.bB⟩ j=T.at' j:=λj c=>by have:=hx.1 c;unfold a1.at';simp only[eo];rw[gx (by omega)]
 have g:a1.at' ⟨T.all++[iI T.next p n],bC T.next () T.bB⟩ T.next=iI T.next p n:=by
  unfold a1.at' a1.next
  simp only[eo];rw[show((T.all.length:Int)+1-1).toNat=T.all.length from by omega];simp
 have r:T.has T.next=false:=by unfold a1.has a1.next;exact cP (by omega)
 refine⟨fu h.ps,λj=>?_,λj c=>?_,λj c=>?_,?_,λq k=>?_⟩
 ·show j∈a7 (bC T.next () T.bB)↔_
  rw[i,dO,fw,l,h.tk];constructor
  ·rintro(⟨a,b⟩|rfl)
   ·exact⟨.inl a,by rw[f j a];exact b⟩
   ·exact⟨.inr rfl,by rw[g];rfl⟩
  ·rintro⟨a|a,b⟩
   ·rw[f j a]at b;exact .inl ⟨a,b⟩
   ·exact .inr a
 ·rcases(l j).1 c with a|rfl
  ·rw[f j a];exact h.tid j a
  ·rw[g];rfl
 ·have c:j∈a7 T.bB++[T.next]:=i▸c
  rw[U];rcases dO.1 c with a|a
  ·rw[f j ((h.tk j).1 a).1];exact h.tr j a
  ·rw[fw.1 a,g];exact⟨hr,m⟩
 ·show Q.L++_=(a7 (bC T.next () T.bB)).map _
  rw[i,eY,h.q];congr 1
  ·exact h8 λj c=>by rw[f j ((h.tk j).1 c).1]
  ·simp only[cX,ot];rw[g];rfl
 ·have k:q∈L.ks:=U▸k
  rw[hc q k,h.cB q k];unfold p';show _=((a7 (bC T.next () T.bB)).map _).sum;rw[i,eY,zm];congr 1
  ·congr 1
   exact h8 λj c=>by rw[f j ((h.tk j).1 c).1]
  ·simp only[cX,ot,jM,List.sum_nil]
   rw[g];show(if q=p then n else 0)=(if p=q then n else 0)+0;by_cases e:q=p
   ·rw[ag e,ag e.symm];omega
   ·rw[aj e,aj (Ne.symm e)];omega
end
def KU{X:aJ}{c n:Int}(h:AS X.L X.S X.R.line)(d:TS X.L X.T X.Q):AS (X.ask c n).L (X.ask c n).S (X.ask c n).R.line/\TS (X.ask c n).L (X.ask c n).T (X.ask c n).Q/\(X.ask c n).S=X.S/\(X.ask c n).R=X.R/\(X.ask c n).pu=X.pu/\(X.ask c n).L.ar.aU=X.L.ar.aU/\(X.ask c n).T.all.length<=X.T.all.length+1/\(X.ask c n).Q.fU<=X.Q.fU+1/\(X.ask c n).L.chunks=X.L.chunks:=by
 unfold aJ.ask;by_cases hf:X.L.bk c=0
 ·rw[ag hf]
  by_cases hd:X.L.cI .dW c n=0
  ·rw[ag hd]
   obtain⟨_,_,_,_,s,f⟩:=qd hf;rw[<-s]at f;obtain⟨e,g,t,i⟩:=uV hf hd;generalize u:X.L.place c=p at*;have j:AS (X.L.bK .dW c n) X.S X.R.line:=by rw[e];exact h.cB f i rfl rfl
   by_cases hi:X.T.jx p n=0
   ·rw[ag hi]
    refine⟨j,d.jc f hi (by rw[e]) λq B=>?_,rfl,rfl,rfl,by rw[e],?_,dQ _,by rw[e]⟩
    ·show((X.L.bK .dW c n).ar.at' q).cB=_
     rw[e,jH h.ar];split
     ·rename_i a;subst a;rfl
     ·omega
    ·show(X.T.jc p n).all.length<=_
     unfold a1.jc;rw[ag hi];simp
   ·rw[aj hi]
    have m:X.T.jc p n=X.T:=by unfold a1.jc;rw[aj hi]
    have o:(X.L.bK .dW c n).bk c=0:=by rw[e];exact hf
    have k:(X.L.bK .dW c n).place c=p:=by rw[e];exact u
    have b:(X.L.bK .dW c n).ar.at' p=Ac.dW.ej (X.L.ar.at' p) n:=by rw[e,jH h.ar,ag rfl]
    have r:Ac.cancel.ej (Ac.dW.ej (X.L.ar.at' p) n) n=X.L.ar.at' p:=by show(⟨(X.L.ar.at' p).dZ,(X.L.ar.at' p).held,(X.L.ar.at' p).cB+n-n⟩:Acc)=_;rw[Int.add_sub_cancel]
    have v:n<=1048576:=by unfold cq at g i;simp only[bJ]at g i;have:(Ac.dW.ej (X.L.ar.at' p) n).cB=(X.L.ar.at' p).cB+n:=rfl;have:(Ac.dW.ej (X.L.ar.at' p) n).held=(X.L.ar.at' p).held:=rfl;have:(Ac.dW.ej (X.L.ar.at' p) n).dZ=(X.L.ar.at' p).dZ:=rfl;omega
    have w:(X.L.bK .dW c n).cI .cancel c n=0:=xC o (by rw[k,b];exact i) ⟨t,v⟩ (by rw[k,b,r];exact g);obtain⟨a,_⟩:=uV o w;rw[k,b,r]at a;have x:p∈(X.L.bK .dW c n).ks:=by rw[e];exact f
    have y:AS ((X.L.bK .dW c n).bK .cancel c n) X.S X.R.line:=by rw[a];exact j.cB x g (by rw[b];rfl) (by rw[b];rfl)
    have z:((X.L.bK .dW c n).bK .cancel c n).ks=X.L.ks:=by rw[a];show(X.L.bK .dW c n).ks=_;rw[e]
    have A:TS ((X.L.bK .dW c n).bK .cancel c n) X.T X.Q:=d.congr z λq=>by
     rw[a,jH j.ar];split
     ·rename_i l;rw[l]
     ·rename_i l;rw[e,jH h.ar,aj l]
    refine⟨y,by rw[m];exact A,rfl,rfl,rfl,by rw[a];show(X.L.bK .dW c n).ar.aU=_;rw[e],by rw[m];exact kf _,kf _,by rw[a];show(X.L.bK .dW c n).chunks=_;rw[e]⟩
  ·rw[aj hd]
   have:=Vu hd;refine⟨by rw[this];exact h,by rw[this];exact d,rfl,rfl,rfl,by rw[this],kf _,kf _,by rw[this]⟩
 ·rw[aj hf]
  exact⟨h,d,rfl,rfl,rfl,rfl,kf _,kf _,rfl⟩
def Tb{X:aJ}{c i:Int}(h:AS X.L X.S X.R.line)(a:TS X.L X.T X.Q):AS (X.can c i).L (X.can c i).S (X.can c i).R.line/\TS (X.can c i).L (X.can c i).T (X.can c i).Q/\(X.can c i).S=X.S/\(X.can c i).R=X.R/\(X.can c i).pu=X.pu/\(X.can c i).L.ar.aU=X.L.ar.aU/\(X.can c i).T.all.length=X.T.all.length/\(X.can c i).Q.fU=X.Q.fU/\(X.can c i).L.chunks=X.L.chunks:=by
 unfold aJ.can;by_cases hf:X.L.bk c=0
 ·rw[ag hf]
  by_cases g:X.T.e1 i=0/\(X.T.get i).aO=X.L.place c
  ·rw[ag g]
   by_cases hd:X.T.cI (c6 · 3) check i=0
   ·rw[ag hd]
    have n:=hd;unfold a1.cI at hd
    cases b:X.T.has i with
    |false=>rw[b]at hd;simp at hd
    |true=>
     rw[b,ag rfl]at hd;obtain⟨hr,hs⟩:=Ah hd;have hi:i∈a7 X.T.bB:=(a.tk i).2 ⟨b,hs⟩;have o:X.T.get i=X.T.at' i:=by unfold a1.get;rw[b,ag rfl]
     obtain⟨_,j⟩:=g;rw[o]at j⊢;obtain⟨_,_,_,_,r,f⟩:=qd hf;rw[<-r]at f;generalize k:X.L.place c=p at*;have l:=(pW h.ar h.keys f).1;have v:=a.cB p f;have s:=EW a hi;rw[j]at s;have w:=HC hr
     have m:cq (Ac.cancel.ej (X.L.ar.at' p) (X.T.at' i).count)=true:=by unfold cq at l;simp only[bJ]at l;apply cM;show 1<=(X.L.ar.at' p).dZ/\(X.L.ar.at' p).dZ<=1048576/\0<=(X.L.ar.at' p).held/\0<=(X.L.ar.at' p).cB-(X.T.at' i).count/\(X.L.ar.at' p).held+((X.L.ar.at' p).cB-(X.T.at' i).count)<=(X.L.ar.at' p).dZ;omega
     have t:X.L.cI .cancel c (X.T.at' i).count=0:=xC hf (by rw[k];exact l) (by omega) (by rw[k];exact m);obtain⟨e,_⟩:=uV hf t;rw[k]at e
     have d:X.T.bK (c6 · 3) check i=⟨X.T.all.set (i-1).toNat (c6 (X.T.at' i) 3),bN i X.T.bB⟩:=by
      unfold a1.bK;rw[ag n];have:(c6 (X.T.at' i) 3).state=3:=by unfold c6;rw[ag hd]
      rw[aj (by rw[this];decide)]
     refine⟨by rw[e];exact h.cB f m rfl rfl,?_,rfl,rfl,rfl,by rw[e],by rw[d];simp,rfl,by rw[e]⟩;show TS (X.L.bK .cancel c (X.T.at' i).count) (X.T.bK (c6 · 3) check i) (X.Q.drop i);rw[d];refine a.out hi (by unfold c6;rw[ag hd];exact a.tid i b) (by unfold c6;rw[ag hd];simp) (by rw[e]) λq x=>?_;rw[e,jH h.ar,j];split
     ·rename_i u;subst u;rfl
     ·omega
   ·rw[aj hd]
    have d:X.T.bK (c6 · 3) check i=X.T:=by unfold a1.bK;rw[aj hd]
    exact⟨h,by rw[d];exact a,rfl,rfl,rfl,rfl,by rw[d],rfl,rfl⟩
  ·rw[aj g]
   exact⟨h,a,rfl,rfl,rfl,rfl,rfl,rfl,rfl⟩
 ·rw[aj hf]
  exact⟨h,a,rfl,rfl,rfl,rfl,rfl,rfl,rfl⟩
end
section
open Go.XS Go.bm aJ
section
variable {L L':bE}{S S':aE}{N:dR}{T T':a1}{Q:Qu}{p q i c o:Int}{a:Acc}
def AS.fR{xs:aN}(h:AS L S N)(d:N.xs=i::xs):S.ok i=true/\(S.at' i).ph=2/\S.Step (S.fR i) i (p9 S (S.at' i))/\AS L (S.fR i) {N with xs:=xs}:=by
 obtain⟨h1,f⟩:=(h.ln i).1 (by rw[d];exact j');have st:=h.inv.fR h1 f;have r:=(h.inv.ck h1).2.2.1 (by omega);have g:=h.l9;rw[d,fg]at g;have k:=st.count;refine⟨h1,f,st,st.inv,h.ar,h.sl,g.2,by rw[st.len];exact h.ch,by rw[st.len];exact h.n,?_,h.keys,?_,?_,?_⟩
 ·intro j
  show j∈xs↔_;rw[st.fY];have:=h.ln j;rw[d,cL]at this;by_cases e:j=i
  ·subst e
   rw[st.pV];exact⟨λh=>absurd h g.1,λh=>by have:=h.2;simp at this⟩
  ·constructor
   ·intro o
    obtain⟨a,b⟩:=this.1 (.inr o);exact⟨a,by rw[st.i6 (ez.1 a).1 e];exact b⟩
   ·rintro⟨a,b⟩
    rw[st.i6 (ez.1 a).1 e]at b;exact(this.2 ⟨a,b⟩).resolve_left e
 ·intro q l
  have hc:=k λc=>c.own==q+1;have:=(h.sl.lt (mU h.sl l)).1;rw[aj (by simp only[hQ];omega),aj (by simp only[hQ];omega)]at hc;have:=h.held q l;omega
 ·intro z hz m
  rw[st.cs]at hz;rcases ka hz with hz|rfl
  ·exact h.own z hz m
  ·simp at m
 ·have c0:=k λc=>c.ph==0
  have c2:=k λc=>c.ph==2;simp only[f]at c0 c2;simp at c0 c2;have p:((S.fR i).many 0:Int)+(S.fR i).many 2=S.many 0+S.many 2:=by unfold aE.many;omega
  rw[p];exact h.safe
structure Kw(l:aN)(S S':aE):Prop where
 ee:dX S S'
 at':∀j,0<=j->j∉l->S'.at' j=S.at' j
 sz:S'.size=S.size
 ck:S'.bl=S.bl+l.length
 m1:S'.many 1=S.many 1
def AS.gZ:∀(k:Nat) {S:aE} {N:dR},AS L S N->k<=N.xs.length->AS L (gZ S (N.xs.take k)) {N with xs:=N.xs.drop k}/\Kw (N.xs.take k) S (gZ S (N.xs.take k))/\∀i∈N.xs.take k,S.ok i=true/\(S.at' i).ph=2:=by
 intro k
 induction k with
 |zero=>intro S N h _;exact⟨h,⟨dX.refl h.inv,λ_ _ _=>rfl,rfl,rfl,rfl⟩,by simp⟩
 |succ k n=>
  intro S N h U
  cases f:N.xs with
  |nil=>rw[f]at U;simp at U
  |cons i xs=>
   obtain⟨h1,g,st,o⟩:=h.fR f;rw[f]at U;obtain⟨g1,g2,g3⟩:=n o (by simpa using U);have m:=h.l9;rw[f,fg]at m;refine⟨g1,⟨(st.ee h.inv (Uw g (h.inv.ck h1).2.2.2.2.1)).trans g2.ee,λj d l=>?_,g2.sz.trans st.sz,?_,?_⟩,λj d=>?_⟩
   ·rw[t',cL]at l
    rw[t'];have:=g2.at' j d (λh=>l (.inr h));exact this.trans (st.i6 d λe=>l (.inl e))
   ·have:=g2.ck
    rw[t',c8];show(Go.Proofs.YtlmgompopkamfaaGreatDoor.gZ (S.fR i) (xs.take k)).bl=_;rw[this,st.ck];show S.bl+1+(xs.take k).length=_;omega
   ·have:=g2.m1
    have c1:=st.count λc=>c.ph==1;simp only[g]at c1;simp at c1;rw[t'];show(Go.Proofs.YtlmgompopkamfaaGreatDoor.gZ (S.fR i) (xs.take k)).many 1=_;rw[this];unfold aE.many;omega
   ·rw[t',cL]at d
    rcases d with rfl|d
    ·exact⟨h1,g⟩
    ·obtain⟨a,b⟩:=g3 j d
     rw[st.fY]at a;have p:j≠i:=λe=>m.1 (e▸kP d);rw[st.i6 (ez.1 a).1 p]at b;exact⟨a,b⟩
structure wN(o:Int)(n:Nat)(S:aE)(R:aE×aN):Prop where
 inv:R.1.Inv
 ee:dX S R.1
 nd:R.2.Nodup
 new:∀i∈R.2,S.ok i=true/\(S.at' i).ph=0/\(R.1.at' i).ph=1/\(R.1.at' i).own=o
 at':∀j,0<=j->j∉R.2->R.1.at' j=S.at' j
 sz:R.1.size=S.size
 m0:R.1.many 0+n=S.many 0
 m2:R.1.many 2=S.many 2
 own:∀q,1<=q->R.1.cs.countP (λc=>c.own==q)=S.cs.countP (λc=>c.own==q)+if q=o then n else 0
 mem:∀c∈R.1.cs,c∈S.cs\/c.own=o
def Ip(v:1<=o)(h:S.Inv):∀n,n<=S.free.length->wN o n S (takeN o n S):=by
 intro n
 induction n with
 |zero=>intro _;exact⟨h,dX.refl h,by simp[takeN],by simp[takeN],λ_ _ _=>rfl,rfl,rfl,rfl,λq _=>by simp[takeN],λc hc=> .inl hc⟩
 |succ n w=>
  intro D;have g:=w (by omega);have m:=(vN o S n (by omega)).1;show wN o (n+1) S ((takeN o n S).1.take o,(takeN o n S).2++[(takeN o n S).1.dp]);generalize E:takeN o n S=R at g m;have l:R.1.free≠[]:=λe=>by rw[e]at m;simp at m;omega
  obtain⟨st,k⟩:=g.inv.take l v;generalize R.1.dp=i at st k;have u:=g.inv.ck st.ok;have p:i∉R.2:=λhm=>by have:=(g.new i hm).2.2.1;omega
  have x:=ez.1 st.ok;have y:S.at' i=R.1.at' i:=(g.at' i x.1 p).symm;have A:∀j,R.1.ok j=S.ok j:=λj=>by unfold aE.ok;rw[g.ee.len]
  have r:=st.count;refine⟨st.inv,g.ee.trans (st.ee g.inv (Uv k u.2.2.2.2.1)),?_,?_,?_,st.sz.trans g.sz,?_,?_,?_,?_⟩
  ·rw[dP]
   exact⟨g.nd,by simp,λa ha b B e=>p (by rw[fw.1 B]at e;exact e▸ha)⟩
  ·intro j f
   rcases dO.1 f with f|f
   ·obtain⟨a,b,d,e⟩:=g.new j f
    have l:j≠i:=λe=>p (e▸f);have:=(ez.1 a).1;exact⟨a,b,by rw[st.i6 this l];exact d,by rw[st.i6 this l];exact e⟩
   ·rw[fw.1 f,st.pV,y]
    exact⟨by rw[<-A];exact st.ok,k,rfl,rfl⟩
  ·intro j f s
   rw[dO,fw]at s;rw[st.i6 f λe=>s (.inr e)];exact g.at' j f λh=>s (.inl h)
  ·have c0:=r λc=>c.ph==0
   simp only[k]at c0;simp at c0;have:=g.m0;show(R.1.take o).many 0+_=_;unfold aE.many at this⊢;omega
  ·have c2:=r λc=>c.ph==2
   simp only[k]at c2;simp at c2;have:=g.m2;show(R.1.take o).many 2=_;unfold aE.many at this⊢;omega
  ·intro q C
   have t:=r λc=>c.own==q;have h0:=u.2.2.1 (by omega);rw[aj (by simp only[hQ];omega)]at t;have:=g.own q C;by_cases e:q=o
   ·rw[ag (by simp only[hQ];omega)]at t
    rw[ag e]at this⊢;show(R.1.take o).cs.countP _=_;omega
   ·rw[aj (by simp only[hQ];omega)]at t
    rw[aj e]at this⊢;show(R.1.take o).cs.countP _=_;omega
  ·intro z hz
   have hz:z∈(R.1.take o).cs:=hz;rw[st.cs]at hz;rcases ka hz with hz|rfl
   ·exact g.mem z hz
   ·exact .inr rfl
def AS.cu{n:Nat}(h:AS L S N)(hf:L.bk c=0)(i:L.place c=p)(m:n<=S.free.length)(hd:L.cI .cu c n=0)(r:bm.Ends ((S.many 0:Int)-n+S.many 2) (L.bM p (Ac.cu.ej (L.ar.at' p) n)).o4):L.bK .cu c n=L.bM p (Ac.cu.ej (L.ar.at' p) n)/\AS (L.bK .cu c n) (takeN (p+1) n S).1 N/\wN (p+1) n S (takeN (p+1) n S):=by
 obtain⟨_,_,_,hr,s,d⟩:=qd hf;rw[<-s,i]at d;have w:=(h.sl.lt (mU h.sl d)).1;have g:=Ip (o:=p+1) (by omega) h.inv n m;obtain⟨e,t,_,k⟩:=uV hf hd;rw[i]at e t k;refine⟨e,?_,g⟩;rw[e];refine⟨g.inv,Cx h.ar k,h.sl,h.l9,by rw[<-g.ee.len];exact h.ch,by rw[<-g.ee.len];exact h.n,?_,Cw h.ar h.keys d,?_,?_,?_⟩
 ·intro j
  rw[h.ln];have aM:(takeN (p+1) n S).1.ok j=S.ok j:=by unfold aE.ok;rw[g.ee.len]
  rw[aM];by_cases f:j∈(takeN (p+1) n S).2
  ·obtain⟨_,a,b,_⟩:=g.new j f
   exact⟨λh=>by have:=h.2;omega,λh=>by have:=h.2;omega⟩
  ·exact⟨λh=>⟨h.1,by rw[g.at' j (ez.1 h.1).1 f];exact h.2⟩,λh=>⟨h.1,by rw[<-g.at' j (ez.1 h.1).1 f];exact h.2⟩⟩
 ·intro q l
  have x:=(h.sl.lt (mU h.sl l)).1;rw[jH h.ar];have:=g.own (q+1) (by omega);have u:=h.held q l;by_cases e:q=p
  ·subst e
   rw[ag rfl]at this⊢;show(L.ar.at' q).held+n=_;omega
  ·rw[aj (by omega)]at this
   rw[aj e];omega
 ·intro z hz v
  rcases g.mem z hz with hz|hz
  ·exact h.own z hz v
  ·rw[hz,show p+1-1=p from by omega];exact d
 ·have:=g.m0
  have u:=g.m2;rw[show(((takeN (p+1) n S).1.many 0:Nat):Int)+((takeN (p+1) n S).1.many 2:Nat)=(S.many 0:Int)-n+S.many 2 from by omega];exact r
def AS.yO(h:AS L S N):N.xs.length=S.many 2:=by
 have h1:∀(cs:List bD) (f:bD->Bool),cs.countP f=((List.range cs.length).filter λi=>f (cs.getD i bD.zero)).length:=by
  intro cs f
  induction cs with
  |nil=>rfl
  |cons c cs d=>
   rw[c8,List.range_succ_eq_map,r6,d];by_cases hc:f c=true
   ·rw[ag hc,nw (by simpa using hc),c8,wb,eX];rfl
   ·rw[aj hc,nu (by simpa using hc),wb,eX];rfl
 unfold aE.many;rw[h1]
 have g:(N.xs.map Int.toNat).Nodup:=by apply mx.2;rw[kR];refine(mx.1 h.l9).imp_of_mem λ{a b} ha k l e=>l ?_;have:=(ez.1 ((h.ln a).1 ha).1).1;have:=(ez.1 ((h.ln b).1 k).1).1;omega
 have m:((List.range S.cs.length).filter λi=>(S.cs.getD i bD.zero).ph==2).Nodup:=List.nodup_range.filter _
 have hm:∀i:Nat,i∈N.xs.map Int.toNat↔i∈(List.range S.cs.length).filter λi=>(S.cs.getD i bD.zero).ph==2:=by
  intro i;rw[pG,ou];constructor
  ·intro hi
   obtain⟨j,n,rfl⟩:=bP.1 hi;obtain⟨a,b⟩:=(h.ln j).1 n;have:=ez.1 a;exact⟨by omega,by unfold aE.at' at b;simpa using b⟩
  ·rintro⟨a,b⟩
   refine bP.2 ⟨(i:Int),(h.ln i).2 ⟨ez.2 ⟨by omega,by omega⟩,?_⟩,by omega⟩;unfold aE.at';rw[aZ];simpa using b
 have a:=vg g λi hi=>(hm i).1 hi;have b:=vg m λi hi=>(hm i).2 hi;rw[eX]at a b;omega
end
end
section
open Go.XS Go.bm aJ
def TB(b:Int)(T:a1):Prop:=∀i,T.has i=true->0<=(T.at' i).b4/\(T.at' i).b4<=b
structure PE(b:Int)(T T':a1):Prop where
 len:T'.all.length=T.all.length
 bB:T'.bB=T.bB
 at':∀i,T.has i=true->∃w,T'.at' i={T.at' i with b4:=w}/\((0<=(T.at' i).b4/\(T.at' i).b4<=b)->0<=w/\w<=b)
section
variable {L L':bE}{S S':aE}{N:dR}{T T' Dy:a1}{Q:Qu}{p q i c o b:Int}{a:Acc}
def PE.has(h:PE b T T'):T'.has i=T.has i:=by unfold a1.has;rw[h.len]
def PE.refl:PE b T T:=⟨rfl,rfl,λi _=>⟨_,rfl,id⟩⟩
def PE.trans(h1:PE b T T')(a:PE b T' Dy):PE b T Dy:=⟨a.len.trans h1.len,a.bB.trans h1.bB,λi hi=>by obtain⟨w,e,hw⟩:=h1.at' i hi;obtain⟨v,c,d⟩:=a.at' i (by rw[h1.has];exact hi);rw[e]at c d;exact⟨v,c,λh=>d (hw h)⟩⟩
def PE.tb(h:PE b T T')(a:TB b T):TB b T':=λi hi=>by
 have hi:T.has i=true:=by rw[<-h.has];exact hi
 obtain⟨w,e,hw⟩:=h.at' i hi;rw[e];exact hw (a i hi)
def TB.get(h:TB b T)(a:0<=b)(i:Int):0<=(T.get i).b4/\(T.get i).b4<=b:=by
 unfold a1.get;split
 ·rename_i hi;exact h i hi
 ·exact⟨by decide,a⟩
def TS.pass(h:TS L T Q)(j:TB b T)(c:PE b T T'):TS L T' Q:=by
 have f:∀i∈a7 T.bB,∃w,T'.at' i={T.at' i with b4:=w}/\0<=w:=λi hi=>by have g:=((h.tk i).1 hi).1;obtain⟨w,e,hw⟩:=c.at' i g;exact⟨w,e,(hw (j i g)).1⟩
 refine⟨by rw[c.bB];exact h.ps,λi=>?_,λi hi=>?_,λi hi=>?_,?_,λq k=>?_⟩
 ·rw[c.bB,c.has,h.tk]
  constructor
  ·rintro⟨a,d⟩
   obtain⟨w,e,_⟩:=c.at' i a;exact⟨a,by rw[e];exact d⟩
  ·rintro⟨a,d⟩
   obtain⟨w,e,_⟩:=c.at' i a;rw[e]at d;exact⟨a,d⟩
 ·rw[c.has]at hi
  obtain⟨w,e,_⟩:=c.at' i hi;rw[e];exact h.tid i hi
 ·rw[c.bB]at hi
  obtain⟨w,e,hw⟩:=f i hi;rw[e];obtain⟨a,d⟩:=h.tr i hi;refine⟨?_,d⟩;unfold right at a⊢;simp only[bJ]at a⊢;exact⟨a.1,a.2.1,a.2.2.1,a.2.2.2.1,a.2.2.2.2.1,a.2.2.2.2.2.1,hw⟩
 ·rw[h.q,c.bB]
  refine h8 λi hi=>?_;obtain⟨w,e,_⟩:=f i hi;rw[e]
 ·rw[h.cB q k]
  unfold p';rw[c.bB];congr 1;refine h8 λi hi=>?_;obtain⟨w,e,_⟩:=f i hi;rw[e]
def Xm(T:a1)(i:Int):T.bK j3 kE i=T\/(T.has i=true/\T.bK j3 kE i=⟨T.all.set (i-1).toNat {T.at' i with b4:=(T.at' i).b4+1},T.bB⟩):=by
 unfold a1.bK;by_cases hd:T.cI j3 kE i=0
 ·rw[ag hd]
  unfold a1.cI at hd
  cases a:T.has i with
  |false=>rw[a]at hd;simp at hd
  |true=>
   rw[a,ag rfl]at hd;right;unfold kE at hd;split at hd
   ·rename_i hc
    split at hd
    ·cases hd
    ·rename_i b
     have e:j3 (T.at' i)={T.at' i with b4:=(T.at' i).b4+1}:=by unfold j3;rw[ag hc,aj b]
     rw[e];have hs:=(Ah hc).2;refine⟨rfl,?_⟩;rw[ag (by exact hs)]
   ·rename_i hc;exact absurd hd hc
 ·rw[aj hd];exact .inl rfl
structure PN(T T':a1)(i:Int)(n:Nat):Prop where
 len:T'.all.length=T.all.length
 bB:T'.bB=T.bB
 Bp:∀j,T.has j=true->j≠i->T'.at' j=T.at' j
 at':T.has i=true->∃w,T'.at' i={T.at' i with b4:=w}/\(T.at' i).b4<=w/\w<=(T.at' i).b4+n
def Xl(T:a1)(i:Int):∀n,PN T (T.rJ i n) i n:=by
 intro n
 induction n with
 |zero=>exact⟨rfl,rfl,λ_ _ _=>rfl,λ_=>⟨(T.at' i).b4,rfl,fS _,by simp⟩⟩
 |succ n c=>
  show PN T ((T.rJ i n).bK j3 kE i) i (n+1);generalize T.rJ i n=T' at c;have l:∀j,T'.has j=T.has j:=λj=>by unfold a1.has;rw[c.len]
  rcases Xm T' i with e|⟨g,e⟩
  ·rw[e]
   exact⟨c.len,c.bB,c.Bp,λh=>by obtain⟨w,a,b,d⟩:=c.at' h;exact⟨w,a,b,by omega⟩⟩
  ·rw[e]
   have m:=hx.1 g;refine⟨by simp only[hb];exact c.len,c.bB,λj f k=>?_,λh=>?_⟩
   ·rw[<-c.Bp j f k]
    have:=hx.1 f;unfold a1.at';simp only[eo];rw[oq (by omega)]
   ·obtain⟨w,a,b,d⟩:=c.at' h
    refine⟨w+1,?_,by omega,by omega⟩
    have:a1.at' ⟨T'.all.set (i-1).toNat {T'.at' i with b4:=(T'.at' i).b4+1},T'.bB⟩ i={T'.at' i with b4:=(T'.at' i).b4+1}:=by show List.getD _ _ _=_;rw[eo,tV (by omega)];rfl
    rw[this,a]
def Xj{t:Tk}(g:t.b4<=b):PE b T (T.vn t):=by
 have h:=Xl T t.id (t.b4-(T.get t.id).b4).toNat;refine⟨h.len,h.bB,λj c=>?_⟩;by_cases e:j=t.id
 ·subst e
  obtain⟨w,a,d,f⟩:=h.at' c;refine⟨w,a,λi=>?_⟩;have:T.get t.id=T.at' t.id:=by unfold a1.get;rw[ag c]
  rw[this]at f;omega
 ·exact⟨_,h.Bp j c e,id⟩
def He{l:List Tk}(hl:∀t∈l,t.b4<=b):PE b T (T.iJ l):=by
 induction l generalizing T with
 |nil=>exact PE.refl
 |cons t l a=>show PE b T ((T.vn t).iJ l);exact(Xj (hl t j')).trans (a λu hu=>hl u (iw _ hu))
end
def RB(b:Int)(R:b5):Prop:=∀t,t∈R.gs\/t∈R.ls->0<=t.b4/\t.b4<=b/\0<=t.id/\t.id<=100000
def RB.cu{b:Int}{R:b5}{i:Nat}(h:RB b R)(hi:i<R.ls.length):RB (b+1) (R.cu i)/\(R.cu i).gs.length+(R.cu i).ls.length=R.gs.length+R.ls.length:=by
 have c:R.at' i∈R.ls:=by unfold b5.at';rw[eo,bj hi];exact eK hi
 refine⟨λt a=>?_,?_⟩
 ·rcases a with a|a
  ·rcases dO.1 a with a|a
   ·have:=h t (.inl a);omega
   ·rw[fw.1 a]
    have:=h _ (.inr c);simp only;omega
  ·have a:=Jd a
   rcases dO.1 a with a|a
   ·obtain⟨u,hu,rfl⟩:=bP.1 a
    have:=h u (.inr (kP hu));unfold gS;split
    ·simp only;omega
    ·omega
   ·have:=h t (.inr (tW a));omega
 ·show(R.gs++[_]).length+(List.eraseIdx _ i).length=_
  rw[b',sa,wj (by simp;omega)];simp;omega
def RB.run{w:Int}:∀(k:Nat) {b:Int} {R:b5},0<=b->RB b R->RB (b+k) (b5.run w k R)/\(b5.run w k R).gs.length+(b5.run w k R).ls.length=R.gs.length+R.ls.length:=by
 intro k
 induction k with
 |zero=>intro b R _ h;exact⟨λt a=>by have:=h t a;omega,rfl⟩
 |succ k d=>
  intro b R j h;unfold b5.run;by_cases c:ih R.free w R.ls R.ms<0
  ·rw[ag c]
   exact⟨λt a=>by have:=h t a;omega,rfl⟩
  ·rw[aj c]
   obtain⟨i,e,hi,_⟩:=tc c;rw[e,aZ];obtain⟨g1,g2⟩:=h.cu hi;obtain⟨f,g⟩:=d (by omega) g1;exact⟨λt a=>by have:=f t a;omega,g.trans g2⟩
end
section
open Go.XS Go.bm aJ
def FT{k p g o:Int}(U:1<=k/\k<=3)(e:0<=p/\p<=1048575)(f:0<=g/\g<=1048575)(h:0<=o/\o<=1048575):mO (dM k p g o)=true/\hv (dM k p g o)=k/\gP (dM k p g o)=p/\gG (dM k p g o)=g/\iE (dM k p g o)=o:=by
 have a:hv (dM k p g o)=k:=by unfold hv dM;omega
 have b:gP (dM k p g o)=p:=by unfold gP dM;omega
 have c:gG (dM k p g o)=g:=by unfold gG dM;omega
 have d:iE (dM k p g o)=o:=by unfold iE dM;omega
 refine⟨?_,a,b,c,d⟩;unfold mO;rw[a];refine cM ⟨?_,U⟩;unfold dM;omega
def GS(S:aT):Prop:=∀g∈S.b7,0<=g/\g<=1000
def GS.gen{S:aT}(h:GS S)(p:Int):0<=S.gen p/\S.gen p<=1000:=by
 unfold aT.gen;rw[eo]
 cases a:S.b7[p.toNat]? with
 |none=>exact by decide
 |some g=>exact h g (cr a)
def AI{L:bE}{p:Int}(e:L.ar.Ok)(a:L.ar.aU.Ok)(f:GS L.ar.aU)(b:p∈L.ks):L.bk (L.handle p)=0/\L.place (L.handle p)=p/\aF (L.handle p):=by
 have c:=mU a b;have h:=a.lt c;rw[e.n]at h;have m:=f.gen p;have hm:(p,L.ar.at' p)∈L.ar.members:=bP.2 ⟨p,b,rfl⟩
 have he:L.handle p=dM 1 p (L.ar.aU.gen p) 0:=by unfold bE.handle;rw[aj (FX hm (by simp)),ag (by unfold fK;repeat rw[aj (by omega)])]
 rw[he];obtain⟨h1,i,d,j,l⟩:=FT (k:=1) (p:=p) (g:=L.ar.aU.gen p) (o:=0) (by omega) (by omega) (by omega) (by omega)
 have hf:L.bk (dM 1 p (L.ar.aU.gen p) 0)=0:=by unfold bE.bk;rw[ag ⟨h1,i,l⟩,d,j];unfold bG.e1 aT.right;rw[c,ag (by simp)]
 refine⟨hf,?_,by unfold aF dM;omega⟩;unfold bE.place;rw[ag hf,d]
abbrev lB(t:Tk):Int×Int×Int:=(t.id,t.aO,t.count)
structure sk(w:Int)(Y:aJ)(R:b5):Prop where
 ac:AS Y.L Y.S Y.R.line
 ts:TS Y.L Y.T Y.Q
 ms:Y.L.ar.members=R.ms
 fr:(Y.S.many 0:Int)=R.free
 w:(Y.S.many 2:Int)=w
 ls:Y.T.cY.map lB=R.ls.map lB
 gs:GS Y.L.ar.aU
 ck:Y.S.bl+Y.S.free.length<800000
 al:Y.T.all.length<=100000
def T6{α:Type}[BEq α][LawfulBEq α]{l:List α}(h:l.Nodup){i:Nat}{x:α}(a:l[i]?=some x):l.eraseIdx i=l.erase x:=by
 induction l generalizing i with
 |nil=>cases a
 |cons y l b=>
  rw[fg]at h
  cases i with
  |zero=>simp only[jI,iR]at a;subst a;simp
  |succ i=>simp only[mw]at a;have c:y≠x:=λe=>h.1 (e▸cr a);rw[I9,b h.2 a,List.erase_cons_tail (by simpa using c)]
def x5{L:bE}{T:a1}{Q:Qu}(h:TS L T Q):T.cY.map lB=(a7 T.bB).map λj=>(j,(T.at' j).aO,(T.at' j).count):=by unfold a1.cY;rw[nz];refine h8 λj a=>?_;show((T.at' j).id,_,_)=_;rw[h.tid j ((h.tk j).1 a).1]
def V5(l:List Tk):(l.map gS).map lB=l.map lB:=by
 rw[nz];refine h8 λt _=>?_;show lB (gS t)=_;unfold gS;split
 ·rfl
 ·rfl
def Gw{α β:Type}(f:α->β):∀(l:List α) (i:Nat),(l.eraseIdx i).map f=(l.map f).eraseIdx i:=by
 intro l
 induction l with
 |nil=>intro i;rfl
 |cons a l b=>
  intro i
  cases i with
  |zero=>rfl
  |succ i=>simp only[I9,cX,b]
def V6{β:Type}{f g:Int->β}{p:Int}:∀{ks:aN} {i:Nat},ks.Nodup->ks[i]?=some p->(∀q∈ks,q≠p->g q=f q)->ks.map g=(ks.map f).set i (g p):=by
 intro ks
 induction ks with
 |nil=>intro i _ h;cases h
 |cons k ks c=>
  intro i a hi h;rw[fg]at a
  cases i with
  |zero=>simp only[jI,iR]at hi;subst hi;rw[cX,cX,jL];congr 1;exact h8 λq b=>h q (iw _ b) λe=>a.1 (e▸b)
  |succ i=>simp only[mw]at hi;rw[cX,cX,iO,<-c a.2 hi λq b d=>h q (iw _ b) d];rw[h k j' λe=>a.1 (e▸cr hi)]
def sk.step{w:Int}{Y:aJ}{R:b5}{i:Nat}(h:sk w Y R)(hi:i<R.ls.length)(X:goes R.free w R.ls R.ms i=true):ue Y {R.at' i with state:=2} (Y.L.handle (R.at' i).aO)/\sk w (Y.xl {R.at' i with state:=2}) (R.cu i):=by
 have B:R.ls[i]?=some (R.at' i):=by unfold b5.at';rw[eo,bj hi];rfl
 generalize l:R.at' i=t at B;have Z:R.ls.getD i dy=t:=l;obtain⟨s,n⟩:=xm X;rw[Z]at s n;have U:=x5 h.ts
 have hlen:(a7 Y.T.bB).length=R.ls.length:=by have:=congrArg List.length h.ls;rw[eX,eX,a1.x6]at this;rw[eX];exact this
 have hid:(a7 Y.T.bB)[i]?=some t.id/\(Y.T.at' t.id).aO=t.aO/\(Y.T.at' t.id).count=t.count:=by
  have h1:(R.ls.map lB)[i]?=some (lB t):=by rw[e6,B];rfl
  rw[<-h.ls,U,e6]at h1
  cases k:(a7 Y.T.bB)[i]? with
  |none=>rw[k]at h1;cases h1
  |some j=>rw[k]at h1;simp only[iy,iR,lB,zr]at h1;obtain⟨rfl,b,c⟩:=h1;exact⟨rfl,b,c⟩
 obtain⟨hid,C,D⟩:=hid;have o:t.id∈a7 Y.T.bB:=cr hid;obtain⟨u,p⟩:=h.ts.FU o;obtain⟨aa,E⟩:=h.ts.tr t.id o;have F:=HC aa;rw[C]at E F;rw[D]at F;have ao:=hx.1 u;have ap:=h.al;obtain⟨ab,aq⟩:=Gz (by rw[l];exact s);rw[l]at ab;obtain⟨d,v,G,a,ad⟩:=rB s
 have H:R.mT i=d:=by have:gQ R.ms t=(d:Int):=G;omega
 have I:v.1=t.aO:=by simpa using ad
 have ae:v=(t.aO,Y.L.ar.at' t.aO):=by have:v∈R.ms:=cr a;rw[<-h.ms]at this;obtain⟨q,m,rfl⟩:=bP.1 this;simp only at I;rw[I]
 subst ae;have x:R.ms.getD d (0,eM)=(t.aO,Y.L.ar.at' t.aO):=by rw[eo,a];rfl
 have af:gQ R.ms t=(d:Int):=G;unfold qn at n;simp only[cg,bJ]at n;obtain⟨⟨⟨au,hle⟩,r⟩,_,J⟩:=n;rw[af]at r J;unfold lW at r;simp only[cg,bJ]at r;have K:=r.2;rw[aZ,x]at K;obtain⟨ah,a2,a3,a4⟩:=Ac.As K;obtain⟨f1,f2,f3⟩:=AI h.ac.ar h.ac.sl h.gs E
 have ai:after R.ms (d:Int) t.count=R.ms.set d (t.aO,Ac.cu.ej (Y.L.ar.at' t.aO) t.count):=by unfold after AG;rw[aZ,x]
 have M:Y.L.cI .cu (Y.L.handle t.aO) t.count=0:=xC f1 (by rw[f2];exact ah) (by omega) (by rw[f2];exact a3)
 have y:t.count.toNat<=Y.S.free.length:=by have:=h.fr;have:=h.ac.inv.xh;omega
 have z:((t.count.toNat:Nat):Int)=t.count:=by omega
 have N:(Y.L.bM t.aO (Ac.cu.ej (Y.L.ar.at' t.aO) t.count)).ar.members=R.ms.set d (t.aO,Ac.cu.ej (Y.L.ar.at' t.aO) t.count):=by
  rw[<-h.ms]
  have ak:Y.L.ks[d]?=some t.aO:=by
   rw[<-h.ms]at a;unfold bG.members at a;rw[e6]at a
   cases m:(a7 Y.L.ar.aU.cN)[d]? with
   |none=>rw[m]at a;cases a
   |some q=>rw[m]at a;simp only[iy,iR,zr]at a;rw[a.1]
  have hm:=V6 h.ac.nd (f:=λq=>(q,Y.L.ar.at' q)) (g:=λq=>(q,(Y.L.bM t.aO (Ac.cu.ej (Y.L.ar.at' t.aO) t.count)).ar.at' q)) ak λq m O=>by rw[jH h.ac.ar,aj O]
  rw[jH h.ac.ar,ag rfl]at hm;exact hm
 have am:bm.Ends ((Y.S.many 0:Int)-(t.count.toNat:Nat)+Y.S.many 2) (Y.L.bM t.aO (Ac.cu.ej (Y.L.ar.at' t.aO) (t.count.toNat:Nat))).o4:=by rw[z,<-GO,N,<-ai,h.fr,h.w];exact T2 J
 obtain⟨g1,g2,g3⟩:=h.ac.cu f1 f2 y (by rw[z];exact M) am;rw[z]at g1 g2;have P:Y.T.cI (c6 · 2) check t.id=0:=by unfold a1.cI;rw[ag u];exact p
 have an:∃e∈Y.Q.L,e.1=t.id:=⟨(t.id,(Y.T.at' t.id).aO),by rw[h.ts.q];exact bP.2 ⟨t.id,o,rfl⟩,rfl⟩;have av:=h.ck;refine⟨⟨⟨by show 0<=t.count;omega,y⟩,⟨by show 0<=t.aO;omega,by show t.aO<64;omega⟩,by show Y.S.bl+t.count.toNat<900000;omega,by show aF t.id;unfold aF;omega,f3,M,an,P⟩,?_⟩
 have A:Y.T.bK (c6 · 2) check t.id=⟨Y.T.all.set (t.id-1).toNat (c6 (Y.T.at' t.id) 2),bN t.id Y.T.bB⟩:=by
  unfold a1.bK;rw[ag P];have:(c6 (Y.T.at' t.id) 2).state=2:=by unfold c6;rw[ag p]
  rw[aj (by rw[this];decide)]
 have V:TS (Y.L.bK .cu (Y.L.handle t.aO) t.count) (Y.T.bK (c6 · 2) check t.id) (Y.Q.drop t.id):=by
  rw[A];refine h.ts.out o (by unfold c6;rw[ag p];exact h.ts.tid _ u) (by unfold c6;rw[ag p];simp) (by rw[g1]) λq m=>?_;rw[g1,jH h.ac.ar,C,D];split
  ·rename_i e;subst e;rfl
  ·omega
 have aw:=vN (t.aO+1) Y.S t.count.toNat y;refine⟨g2,V,?_,?_,?_,?_,?_,?_,?_⟩
 ·show(Y.L.bK .cu (Y.L.handle t.aO) t.count).ar.members=R.ms.set (R.mT i) ((R.mem i).1,Ac.cu.val (R.mem i).2 (R.at' i).count)
  have:R.mem i=(t.aO,Y.L.ar.at' t.aO):=by unfold b5.mem;rw[H,x]
  rw[g1,N,H,this,l];simp only;rw[a4]
 ·show((takeN (t.aO+1) t.count.toNat Y.S).1.many 0:Int)=R.free-(R.at' i).count
  rw[l,<-h.fr];have:=g3.m0;omega
 ·show((takeN (t.aO+1) t.count.toNat Y.S).1.many 2:Int)=w
  rw[g3.m2];exact h.w
 ·show(Y.T.bK (c6 · 2) check t.id).cY.map lB=(((R.ls.take i).map gS++R.ls.drop i).eraseIdx i).map lB
  rw[Gw,eY,V5,<-eY,kd,<-h.ls,U,x5 V];have W:=mg h.ts.ps;rw[<-Gw,T6 W hid];rw[A];show(a7 (bN t.id Y.T.bB)).map _=_;rw[xy h.ts.ps];refine h8 λj k=>?_;obtain⟨O,k⟩:=(W.mem_erase_iff).1 k;have ax:=hx.1 ((h.ts.tk j).1 k).1
  have:a1.at' ⟨Y.T.all.set (t.id-1).toNat (c6 (Y.T.at' t.id) 2),bN t.id Y.T.bB⟩ j=Y.T.at' j:=by unfold a1.at';simp only[eo];rw[oq (by omega)]
  rw[this]
 ·show GS (Y.L.bK .cu (Y.L.handle t.aO) t.count).ar.aU
  rw[g1];exact h.gs
 ·show(takeN (t.aO+1) t.count.toNat Y.S).1.bl+(takeN (t.aO+1) t.count.toNat Y.S).1.free.length<800000
  omega
 ·show(Y.T.bK (c6 · 2) check t.id).all.length<=100000
  rw[A];simp only[hb];exact h.al
structure Ds(Y:aJ)(l:List Tk):Prop where
 ok:∀(k:Nat) t,l[k]?=some t->ue (Y.ig (l.take k)) t ((Y.ig (l.take k)).L.handle t.aO)
 ac:∀k,AS (Y.ig (l.take k)).L (Y.ig (l.take k)).S (Y.ig (l.take k)).R.line
def Yq{w:Int}:∀(k:Nat) {Y:aJ} {R:b5},sk w Y R->∃l,(b5.run w k R).gs=R.gs++l/\Ds Y l/\sk w (Y.ig l) (b5.run w k R):=by
 intro k
 induction k with
 |zero=>intro Y R h;exact⟨[],by simp[b5.run],⟨by simp,λk=>by rw[List.take_nil];exact h.ac⟩,h⟩
 |succ k d=>
  intro Y R h;unfold b5.run;by_cases a:ih R.free w R.ls R.ms<0
  ·rw[ag a]
   exact⟨[],by simp,⟨by simp,λk=>by rw[List.take_nil];exact h.ac⟩,h⟩
  ·rw[aj a]
   obtain⟨i,e,hi,f⟩:=tc a;rw[e,aZ];obtain⟨s1,s2⟩:=h.step hi f;obtain⟨l,g,c,m⟩:=d s2;refine⟨{R.at' i with state:=2}::l,?_,⟨λj t b=>?_,λj=>?_⟩,m⟩
   ·rw[g]
    show R.gs++[_]++l=_;rw[el];rfl
   ·cases j with
    |zero=>simp only[jI,iR]at b;subst b;exact s1
    |succ j=>exact c.ok j t (by simpa using b)
   ·cases j with
    |zero=>exact h.ac
    |succ j=>exact c.ac j
end
section
open Go.XS Go.bm
structure PI(S:aE)(pu:Int->aN)(rg:Int->ui):Prop where
 ip:∀p i,i∈pu p->S.ok i=true/\(S.at' i).ph=1/\(S.at' i).own=p+1
 pn:∀p,(pu p).Nodup
 ir:∀q i,i∈(rg q).xs->S.ok i=true/\(S.at' i).ph=1/\(S.at' i).own=(rg q).aO+1/\∀p,i∉pu p
 rn:∀q,(rg q).xs.Nodup
 mL:∀q q' i,i∈(rg q).xs->i∈(rg q').xs->q=q'
def LI(S:aE)(z:Int)(W:a6)(V:Lv):Prop:=∀e∈V.all,S.ok e.1=true/\e.2.gen=(S.at' e.1).gen/\
 ∃q,e.1∈(W.rg q).xs/\∀pc∈e.2.ps,gP pc.bR=q/\W.bk pc.bR=0/\0<=pc.at'/\1<=pc.len/\pc.at'+pc.len<=z
structure RI(z:Int)(W:a6):Prop where
 op:∀q,(W.rg q).xs≠[]->W.F.S.b8 q=true
 cur:∀q,0<=(W.rg q).cur/\(W.rg q).cur<=z
section
variable {S S':aE}{pu:Int->aN}{rg:Int->ui}{z p i:Int}{W W':a6}{V V':Lv}
def PI.congr(h:PI S pu rg)(hl:S'.cs.length=S.cs.length)(ha:∀i,S.ok i=true->((∃p,i∈pu p)\/∃q,i∈(rg q).xs)->(S'.at' i).ph=(S.at' i).ph/\(S'.at' i).own=(S.at' i).own):PI S' pu rg:=by
 have aM:∀i,S'.ok i=S.ok i:=λi=>by unfold aE.ok;rw[hl]
 refine⟨λp i hi=>?_,h.pn,λq i hi=>?_,h.rn,h.mL⟩
 ·obtain⟨a,b,c⟩:=h.ip p i hi
  obtain⟨d,e⟩:=ha i a (.inl ⟨p,hi⟩);exact⟨by rw[aM];exact a,by rw[d];exact b,by rw[e];exact c⟩
 ·obtain⟨a,b,c,f⟩:=h.ir q i hi
  obtain⟨d,e⟩:=ha i a (.inr ⟨q,hi⟩);exact⟨by rw[aM];exact a,by rw[d];exact b,by rw[e];exact c,f⟩
def LI.congr(h:LI S z W V)(hl:S'.cs.length=S.cs.length)(ha:∀i q,S.ok i=true->i∈(W.rg q).xs->(S'.at' i).gen=(S.at' i).gen):LI S' z W V:=λe he=>by obtain⟨a,b,q,c,d⟩:=h e he;exact⟨by unfold aE.ok at a⊢;rw[hl];exact a,by rw[ha e.1 q a c];exact b,q,c,d⟩
def PI.FY(h:PI S pu rg)(hi:(∃p,i∈pu p)\/∃q,i∈(rg q).xs):(S.at' i).ph=1:=by
 rcases hi with⟨p,a⟩|⟨q,b⟩
 ·exact(h.ip p i a).2.1
 ·exact(h.ir q i b).2.1
def PI.cut(h:PI S pu rg)(k:Nat):PI S (b1 pu p ((pu p).drop k)) rg:=by
 have hm:∀q i,i∈b1 pu p ((pu p).drop k) q->i∈pu q:=λq i hi=>by
  unfold b1 at hi;split at hi
  ·rename_i e;subst e;exact tW hi
  ·exact hi
 refine⟨λq i hi=>h.ip q i (hm q i hi),λq=>?_,λq i hi=>?_,h.rn,h.mL⟩
 ·unfold b1
  split
  ·exact(h.pn p).sublist (List.drop_sublist _ _)
  ·exact h.pn q
 ·obtain⟨a,b,c,d⟩:=h.ir q i hi
  exact⟨a,b,c,λp f=>d p (hm p i f)⟩
def PI.aaj(h:PI S pu rg){n:Nat}{R:aE×aN}(g:wN (p+1) n S R):PI R.1 (b1 pu p (pu p++R.2)) rg:=by
 have hy:∀i∈R.2,¬((∃p,i∈pu p)\/∃q,i∈(rg q).xs):=λi hi j=>by have:=h.FY j;have:=(g.new i hi).2.1;omega
 have l:PI R.1 pu rg:=h.congr g.ee.len.symm λi hi j=>by rw[g.at' i (ez.1 hi).1 λhm=>hy i hm j];exact⟨rfl,rfl⟩
 have aM:∀i,R.1.ok i=S.ok i:=λi=>by unfold aE.ok;rw[g.ee.len]
 have hm:∀q i,i∈b1 pu p (pu p++R.2) q->i∈pu q\/(q=p/\i∈R.2):=λq i hi=>by
  unfold b1 at hi;split at hi
  ·rename_i e;subst e
   exact(dO.1 hi).imp id λh=>⟨rfl,h⟩
  ·exact .inl hi
 refine⟨λq i hi=>?_,λq=>?_,λq i hi=>?_,h.rn,h.mL⟩
 ·rcases hm q i hi with k|⟨e,k⟩
  ·exact l.ip q i k
  ·subst e
   obtain⟨a,b,c,d⟩:=g.new i k;exact⟨by rw[aM];exact a,c,d⟩
 ·unfold b1
  split
  ·rw[dP]
   exact⟨h.pn p,g.nd,λa ha b o e=>hy b o (.inl ⟨p,e▸ha⟩)⟩
  ·exact h.pn q
 ·obtain⟨a,b,c,d⟩:=l.ir q i hi
  refine⟨a,b,c,λm f=>?_⟩;rcases hm m i f with f|⟨_,f⟩
  ·exact d m f
  ·exact hy i f (.inr ⟨q,hi⟩)
def PI.Xd(h:PI S pu rg){q:Int}{cur:Int}{xs:aN}(b:xs=(rg q).xs):PI S pu (b1 rg q ⟨(rg q).aO,xs,cur⟩):=by
 subst b
 have e:∀k,(b1 rg q ⟨(rg q).aO,(rg q).xs,cur⟩ k).xs=(rg k).xs/\(b1 rg q ⟨(rg q).aO,(rg q).xs,cur⟩ k).aO=(rg k).aO:=λk=>by
  unfold b1;split
  ·rename_i e;subst e;exact⟨rfl,rfl⟩
  ·exact⟨rfl,rfl⟩
 refine⟨h.ip,h.pn,λk i hi=>?_,λk=>?_,λk k' i hi a=>?_⟩
 ·rw[(e k).1]at hi;rw[(e k).2];exact h.ir k i hi
 ·rw[(e k).1];exact h.rn k
 ·rw[(e k).1]at hi;rw[(e k').1]at a;exact h.mL k k' i hi a
def PI.empty(h:PI S pu rg){q c cur:Int}:PI S pu (b1 rg q ⟨c,[],cur⟩):=by
 have e:∀k i,i∈(b1 rg q ⟨c,[],cur⟩ k).xs->k≠q/\i∈(rg k).xs/\b1 rg q ⟨c,[],cur⟩ k=rg k:=λk i hi=>by
  unfold b1 at hi⊢;split at hi
  ·cases hi
  ·rename_i d;exact⟨d,hi,by rw[aj d]⟩
 refine⟨h.ip,h.pn,λk i hi=>?_,λk=>?_,λk k' i hi f=>?_⟩
 ·obtain⟨_,a,b⟩:=e k i hi;rw[b];exact h.ir k i a
 ·unfold b1
  split
  ·exact tX
  ·exact h.rn k
 ·exact h.mL k k' i (e k i hi).2.1 (e k' i f).2.1
def PI.add(h:PI S pu rg){q i cur:Int}(aM:S.ok i=true)(m:(S.at' i).ph=1)(n:(S.at' i).own=(rg q).aO+1)(o:∀p,i∉pu p)(f:∀k,i∉(rg k).xs):PI S pu (b1 rg q ⟨(rg q).aO,(rg q).xs++[i],cur⟩):=by
 have e:∀k j,j∈(b1 rg q ⟨(rg q).aO,(rg q).xs++[i],cur⟩ k).xs->j∈(rg k).xs\/(k=q/\j=i):=λk j c=>by
  unfold b1 at c;split at c
  ·rename_i e;subst e
   exact(dO.1 c).imp id λh=>⟨rfl,fw.1 h⟩
  ·exact .inl c
 have r:∀k,(b1 rg q ⟨(rg q).aO,(rg q).xs++[i],cur⟩ k).aO=(rg k).aO:=λk=>by
  unfold b1;split
  ·rename_i e;subst e;rfl
  ·rfl
 refine⟨h.ip,h.pn,λk j c=>?_,λk=>?_,λk k' j c g=>?_⟩
 ·rw[r]
  rcases e k j c with c|⟨rfl,rfl⟩
  ·exact h.ir k j c
  ·exact⟨aM,m,n,o⟩
 ·unfold b1
  split
  ·rw[dP]
   exact⟨h.rn q,by simp,λa ha b s e=>f q (by rw[fw.1 s]at e;exact e▸ha)⟩
  ·exact h.rn k
 ·rcases e k j c with h1|⟨t,u⟩
  ·rcases e k' j g with d|⟨l,v⟩
   ·exact h.mL k k' j h1 d
   ·rw[v]at h1;exact absurd h1 (f k)
  ·rcases e k' j g with d|⟨l,_⟩
   ·rw[u]at d;exact absurd d (f k')
   ·rw[t,l]
end
section
variable {S S':aE}{pu:Int->aN}{z c i r:Int}{W:a6}{V V':Lv}
def Gs{k:Nat}(o:W.F.S.Ok)(x:W.F.S.b7.length=4096)(hz:0<=z)(p:PI S pu W.rg)(hL:LI S z W V)(m:RI z W):PI S pu (W.made k c).rg/\LI S z (W.made k c) V/\RI z (W.made k c)/\(W.made k c).bs<=W.bs+1:=by
 unfold a6.made;by_cases g:W.F.S.fZ=true
 ·rw[ag g]
  have t:W.F.S.b8 W.F.S.cG=false:=by have:=o.x9 g;unfold aT.cG;rw[ag (show W.F.S.pick.2.2=true from g)];exact this
  have r:=λj=>o.Bn g j;have s:(W.F.add k).S=W.F.S.opened:=by unfold For.add;rw[ag g]
  have u:(W.rg W.F.S.cG).xs=[]:=tP λh=>by have:=m.op _ h;rw[t]at this;cases this
  have v:∀q i,i∈(W.rg q).xs->b1 W.rg W.F.S.cG ⟨c,[],0⟩ q=W.rg q:=λq i hi=>by unfold b1;rw[aj λe=>by rw[e,u]at hi;cases hi]
  refine⟨p.empty,λe he=>?_,⟨λq l=>?_,λq=>?_⟩,dQ _⟩
  ·obtain⟨a,b,q,d,f⟩:=hL e he
   refine⟨a,b,q,by show _∈(b1 W.rg W.F.S.cG ⟨c,[],0⟩ q).xs;rw[v q _ d];exact d,λpc w=>?_⟩;obtain⟨f1,f2,f3⟩:=f pc w;refine⟨f1,?_,f3⟩;unfold a6.bk at f2⊢;split at f2
   ·rename_i h1
    rw[ag h1];split at f2
    ·rename_i n
     rw[ag];show aT.right (W.F.add k).S _ _=true;rw[s];unfold aT.right at n⊢;rw[r];simp only[cg]at n⊢;refine⟨by rw[n.1];simp,?_⟩;have:W.F.S.opened.gen (gP pc.bR)=W.F.S.gen (gP pc.bR):=by unfold aT.gen;rw[aT.xS]
     rw[this];exact n.2
    ·cases f2
   ·cases f2
  ·show(W.F.add k).S.b8 q=true
   rw[s,r];have l:(b1 W.rg W.F.S.cG ⟨c,[],0⟩ q).xs≠[]:=l;unfold b1 at l;split at l
   ·exact absurd rfl l
   ·rw[m.op q l];simp
  ·show 0<=(b1 W.rg W.F.S.cG ⟨c,[],0⟩ q).cur/\(b1 W.rg W.F.S.cG ⟨c,[],0⟩ q).cur<=z
   unfold b1;split
   ·exact⟨fS _,hz⟩
   ·exact m.cur q
 ·rw[aj g]
  exact⟨p,hL,m,kf _⟩
def Fz(h:W.bk r=0):mO r=true/\hv r=2/\iE r=0/\W.F.S.b8 (gP r)=true/\W.F.S.gen (gP r)=gG r:=by
 unfold a6.bk at h;split at h
 ·rename_i h1
  split at h
  ·rename_i a
   unfold aT.right at a;simp only[cg,hQ]at a;exact⟨h1.1,h1.2.1,h1.2.2,a.1,a.2⟩
  ·cases h
 ·cases h
end
end
open Go.XS Go.bm
def TU{F:For}{n:Int}(b:0<=n)(q:Int)(a:q≠n)(c:0<=q):(F.drop n).S.b8 q=F.S.b8 q/\(F.drop n).S.gen q=F.S.gen q:=by
 unfold For.drop;split
 ·refine⟨by rw[aT.yw];simp[a],?_⟩
  unfold aT.gen aT.shut;rw[eo,oq (by omega),<-eo]
 ·exact⟨rfl,rfl⟩
def TY:∀(l:List Nat) (W:a6),(∀q:Int,(l.foldl a6.jU W).rg q=if∃k∈l,(k:Int)=q then vx else W.rg q)/\(l.foldl a6.jU W).bs=W.bs/\(∀q:Int,0<=q->(¬∃k∈l,(k:Int)=q)->(l.foldl a6.jU W).F.S.b8 q=W.F.S.b8 q/\(l.foldl a6.jU W).F.S.gen q=W.F.S.gen q):=by
 intro l
 induction l with
 |nil=>intro W;exact⟨λq=>by simp,rfl,λq _ _=>⟨rfl,rfl⟩⟩
 |cons n l j=>
  intro W;obtain⟨h1,m,o⟩:=j (W.jU n);refine⟨λq=>?_,m,λq g h=>?_⟩
  ·show(l.foldl a6.jU (W.jU n)).rg q=_
   rw[h1];by_cases e:∃k∈l,(k:Int)=q
   ·obtain⟨k,U,f⟩:=e
    rw[ag ⟨k,U,f⟩,ag ⟨k,iw _ U,f⟩]
   ·rw[aj e]
    show b1 W.rg n vx q=_;unfold b1;by_cases f:q=(n:Int)
    ·rw[ag f,ag ⟨n,j',f.symm⟩]
    ·rw[aj f,aj]
     rintro⟨k,U,i⟩;rcases cL.1 U with rfl|U
     ·exact f i.symm
     ·exact e ⟨k,U,i⟩
  ·have p:q≠(n:Int):=λe=>h ⟨n,j',e.symm⟩
   obtain⟨a,b⟩:=o q g λ⟨k,U,e⟩=>h ⟨k,iw _ U,e⟩;obtain⟨c,d⟩:=TU (by omega) q p g;exact⟨a.trans c,b.trans d⟩
def E4:∀(l:aN) (V:Lv),(∀e,e∈(l.foldl Lv.drop V).all↔e∈V.all/\e.1∉l)/\(l.foldl Lv.drop V).bs=V.bs/\(l.foldl Lv.drop V).all.length<=V.all.length:=by
 intro l
 induction l with
 |nil=>intro V;exact⟨λe=>by simp,rfl,dQ _⟩
 |cons i l d=>
  intro V;obtain⟨h1,f,g⟩:=d (V.drop i);refine⟨λe=>?_,f,lN g (zh _ _)⟩;show e∈(l.foldl Lv.drop (V.drop i)).all↔_;rw[h1];show e∈bN i V.all/\_↔_;rw[ta,cL];constructor
  ·rintro⟨⟨a,b⟩,c⟩;exact⟨a,λh=>h.elim b c⟩
  ·rintro⟨a,b⟩;exact⟨⟨a,λh=>b (.inl h)⟩,λh=>b (.inr h)⟩
section
variable {S S':aE}{pu:Int->aN}{z c i r p:Int}{W:a6}{V V':Lv}
def Hm{k:Nat}:k∈W.pre p↔k∈W.post p:=by
 unfold a6.pre a6.post For.walk;split
 ·rw[rV,rV];exact Au k
 ·exact Iff.rfl
def Cu{i:Int}:i∈W.under p↔∃k∈W.pre p,i∈(W.rg (k:Int)).xs:=by unfold a6.under;rw[lL]
def Ix(a:W.Fo)(h:∀q,(W.rg q).xs.length<=12):(W.under p).length<400000:=by
 have h1:=Cz (n:=p) (come:=true) a.sl a.b7 a.nd a.mL a.oP (uJ a.sl a.deep);have b:(W.pre p).length<=4096:=h1;unfold a6.under
 have:∀l:List Nat,(l.flatMap λk:Nat=>(W.rg (k:Int)).xs).length<=12*l.length:=λl=>by
  induction l with
  |nil=>simp
  |cons k l c=>rw[gw,b',c8];have:=h (k:Int);omega
 have:=this (W.pre p);omega
def UE(o:W.Fo)(hz:0<=z)(j:PI S pu W.rg)(hL:LI S z W V)(l:RI z W):PI S pu (W.free r).rg/\LI S z (W.free r) ((W.under (gP r)).foldl Lv.drop V)/\RI z (W.free r)/\(W.free r).bs=W.bs/\(W.bk r=0->∀i∈W.under (gP r),(∀q,i∉((W.free r).rg q).xs)/\∀p,i∉pu p):=by
 obtain⟨v1,v2,v3⟩:=E4 (W.under (gP r)) V;unfold a6.free;by_cases hf:W.bk r=0
 ·rw[ag hf]
  obtain⟨d1,d2,d3⟩:=TY (W.post (gP r)) W;generalize x:(W.post (gP r)).foldl a6.jU W=W' at d1 d2 d3
  have m:∀q i,i∈(W'.rg q).xs->(¬∃k∈W.post (gP r),(k:Int)=q)/\i∈(W.rg q).xs/\W'.rg q=W.rg q:=λq i hi=>by
   rw[d1]at hi⊢;split at hi
   ·cases hi
   ·rename_i c;rw[aj c];exact⟨c,hi,rfl⟩
  have h0:∀q,(W.rg q).xs≠[]->0<=q:=λq g=>(o.sl.lt (l.op q g)).1
  have s:∀q i,i∈(W.rg q).xs->(¬∃k∈W.post (gP r),(k:Int)=q)->i∉W.under (gP r):=λq i hi c hu=>by obtain⟨k,U,n⟩:=Cu.1 hu;have:=j.mL q k i hi n;exact c ⟨k,Hm.1 U,this.symm⟩
  refine⟨⟨j.ip,j.pn,λq i hi=>?_,λq=>?_,λq q' i hi t=>j.mL q q' i (m q i hi).2.1 (m q' i t).2.1⟩,λe he=>?_,⟨λq g=>?_,λq=>?_⟩,d2,λ_ i hi=>⟨λq g=>?_,?_⟩⟩
  ·obtain⟨_,a,b⟩:=m q i hi;rw[b];exact j.ir q i a
  ·rw[d1]
   split
   ·exact tX
   ·exact j.rn q
  ·obtain⟨he,hu⟩:=(v1 e).1 he
   obtain⟨a,b,q,d,f⟩:=hL e he;have u:=h0 q (λh=>by rw[h]at d;cases d);have c:¬∃k∈W.post (gP r),(k:Int)=q:=λ⟨k,U,v⟩=>hu (Cu.2 ⟨k,Hm.2 U,by rw[v];exact d⟩);obtain⟨s1,s2⟩:=d3 q u c;refine⟨a,b,q,by rw[d1,aj c];exact d,λpc w=>?_⟩;obtain⟨f1,f2,f3⟩:=f pc w;refine⟨f1,?_,f3⟩;obtain⟨g1,g2,g3,g4,g5⟩:=Fz f2;unfold a6.bk;rw[ag ⟨g1,g2,g3⟩];unfold aT.right;rw[f1]at g4 g5⊢;rw[s1,s2,g4,g5,ag (by simp)]
  ·rw[d1]at g
   split at g
   ·exact absurd rfl g
   ·rename_i c
    rw[(d3 q (h0 q g) c).1];exact l.op q g
  ·rw[d1]
   split
   ·exact⟨fS _,hz⟩
   ·exact l.cur q
  ·obtain⟨a,b,_⟩:=m q i g
   exact s q i b a hi
  ·obtain⟨k,_,n⟩:=Cu.1 hi
   exact(j.ir k i n).2.2.2
 ·rw[aj hf]
  refine⟨j,λe he=>?_,l,rfl,λh=>absurd h hf⟩;obtain⟨a,b,q,d,f⟩:=hL e ((v1 e).1 he).1;exact⟨a,b,q,d,f⟩
def Vd{s a:Int}(g:PI S pu W.rg)(hL:LI S z W V)(d:RI z W):PI S pu (W.lay r s a z).rg/\LI S z (W.lay r s a z) V/\RI z (W.lay r s a z)/\(W.lay r s a z).bs<=W.bs+1:=by
 unfold a6.lay;by_cases h:W.e3 r s a z=0
 ·rw[ag h]
  have j:0<=o9 (W.rg (gP r)).cur s a z/\o9 (W.rg (gP r)).cur s a z<=z:=by
   unfold a6.e3 at h;split at h
   ·unfold Go.Proofs.YtlmgompopkamfaaGreatDoor.e3 at h
    split at h
    ·rename_i hr
     split at h
     ·rename_i he
      unfold o9;rw[ag he];unfold qt at he;split at he
      ·cases he
      ·rename_i h1
       split at he
       ·cases he
       ·split at he
        ·cases he
        ·rename_i k
         split at he
         ·cases he
         ·split at he
          ·cases he
          ·rename_i l
           have b:kl (W.rg (gP r)).cur a=true:=by simpa using k
           have m:iY (W.rg (gP r)).cur a=nK (W.rg (gP r)).cur a:=by unfold iY;rw[ag b]
           unfold kl at b;simp only[cg,bJ]at b;have f:=b.1.2;unfold nY at f;simp only[cg,bJ]at f
           have h0:0<=nK (W.rg (gP r)).cur a:=by unfold nK;have:=y4 ((W.rg (gP r)).cur+a-1) f.1;omega
           rw[m]at l⊢;omega
     ·rename_i he;exact absurd h he
    ·cases h
   ·rename_i he;exact absurd h he
  have i:∀q,(b1 W.rg (gP r) ⟨(W.rg (gP r)).aO,(W.rg (gP r)).xs,o9 (W.rg (gP r)).cur s a z⟩ q).xs=(W.rg q).xs:=λq=>by
   unfold b1;split
   ·rename_i e;subst e;rfl
   ·rfl
  refine⟨g.Xd rfl,λe he=>?_,⟨λq c=>?_,λq=>?_⟩,dQ _⟩
  ·obtain⟨x1,x2,q,x3,x4⟩:=hL e he
   exact⟨x1,x2,q,by show _∈(b1 W.rg _ _ q).xs;rw[i];exact x3,x4⟩
  ·have c:(b1 W.rg (gP r) _ q).xs≠[]:=c
   rw[i]at c;exact d.op q c
  ·show 0<=(b1 W.rg (gP r) _ q).cur/\(b1 W.rg (gP r) _ q).cur<=z
   unfold b1;split
   ·exact j
   ·exact d.cur q
 ·rw[aj h]
  exact⟨g,hL,d,kf _⟩
def KK(hz:0<=z)(c:PI S pu W.rg)(hL:LI S z W V)(b:RI z W)(aM:S.ok i=true)(f:(S.at' i).ph=1)(g:W.bk r=0->(S.at' i).own=(W.rg (gP r)).aO+1)(l:∀p,i∉pu p)(m:∀k,i∉(W.rg k).xs):PI S pu (W.add r i).rg/\LI S z (W.add r i) V/\RI z (W.add r i)/\(W.add r i).bs<=W.bs+1/\(W.add r i).F=W.F/\∀q,((W.add r i).rg q).aO=(W.rg q).aO:=by
 unfold a6.add;by_cases h:W.gh r i=0
 ·rw[ag h]
  have hf:W.bk r=0:=by
   unfold a6.gh at h;split at h
   ·assumption
   ·rename_i he;exact absurd h he
  have hm:∀q j,j∈(W.rg q).xs->j∈(b1 W.rg (gP r) ⟨(W.rg (gP r)).aO,(W.rg (gP r)).xs++[i],0⟩ q).xs:=λq j d=>by
   unfold b1;split
   ·rename_i e;subst e;exact List.mem_append_left _ d
   ·exact d
  refine⟨c.add aM f (g hf) l m,λe he=>?_,⟨λq a=>?_,λq=>?_⟩,dQ _,rfl,λq=>?_⟩
  ·obtain⟨x1,x2,q,x3,x4⟩:=hL e he
   exact⟨x1,x2,q,hm q _ x3,x4⟩
  ·have a:(b1 W.rg (gP r) ⟨(W.rg (gP r)).aO,(W.rg (gP r)).xs++[i],0⟩ q).xs≠[]:=a
   unfold b1 at a;split at a
   ·rename_i e;subst e;exact(Fz hf).2.2.2.1
   ·exact b.op q a
  ·show 0<=(b1 W.rg (gP r) _ q).cur/\(b1 W.rg (gP r) _ q).cur<=z
   unfold b1;split
   ·exact⟨fS _,hz⟩
   ·exact b.cur q
  ·show(b1 W.rg (gP r) _ q).aO=_
   unfold b1;split
   ·rename_i e;subst e;rfl
   ·rfl
 ·rw[aj h]
  exact⟨c,hL,b,kf _,rfl,λ_=>rfl⟩
end
