/- Lemmas that lead to TopApart (their names made short by a program); no condition. -/
import Derived.Test.YtlmgompopkamfaaGreatDoorLK
set_option linter.all false
set_option maxRecDepth 20000
set_option synthInstance.checkSynthOrder false
namespace Go.Proofs.YtlmgompopkamfaaGreatDoor
section
open Go.XS Go.bm
def takeN(o:Int):Nat->aE->aE×aN
 |0,S=>(S,[])
 |n+1,S=>((takeN o n S).1.take o,(takeN o n S).2++[(takeN o n S).1.dp])
def vN(o:Int)(S:aE):∀n,n<=S.free.length->(takeN o n S).1.free.length=S.free.length-n/\(takeN o n S).1.bl=S.bl+n/\(takeN o n S).2.length=n
 |0,h=>⟨rfl,rfl,rfl⟩
 |n+1,h=>by
  obtain⟨h1,b,c⟩:=vN o S n (by omega);have a:(takeN o n S).1.free≠[]:=by intro e;rw[e]at h1;simp at h1;omega
  unfold takeN;unfold aE.take;rw[aj a];simp only[List.length_dropLast,b',c8,gH];omega
def aJ.mN(X:aJ)(t:Tk)(c:Int):aJ:=
 {X with S:=(takeN (t.aO+1) t.count.toNat X.S).1,pu:=b1 X.pu t.aO (X.pu t.aO++(takeN (t.aO+1) t.count.toNat X.S).2),L:=X.L.bK .cu c t.count,Q:=X.Q.drop t.id,T:=X.T.bK (c6 · 2) check t.id}
structure aJ.ue(X:aJ)(t:Tk)(c:Int):Prop where
 bs:0<=t.count/\t.count.toNat<=X.S.free.length
 cl:0<=t.aO/\t.aO<64
 bl:X.S.bl+t.count.toNat<900000
 id:aF t.id
 hc:aF c
 ld:X.L.cI .cu c t.count=0
 q:∃e∈X.Q.L,e.1=t.id
 tk:X.T.cI (c6 · 2) check t.id=0
instance {z:Pz}:nC fP (.slice z.ptr z.xs.length z.c) z:=⟨rfl⟩
section
variable {B:Heap}{H H0:au}{K:aK}{b:Nat}{X:aJ}{c n i:Int}{t:Tk}
def Lo(g:X.ue t c)(U:T B (bS b (X.mN t c)::H) (K (J 0))):T B (bS b X::H) (ad P 207 #[pz b,.agg (aD t).toArray,J c] K):=by
 apply an (MI _ _ _);have u:=g.bl;have G:=g.cl;obtain⟨N,v⟩:∃N:Nat,t.count=N:=⟨t.count.toNat,by have:=g.bs.1;omega⟩;have w:=g.bs.2;refine e8 λx ok=>Sa.go λaa=>St.go ?_;have h:t.count.toNat=N:=by omega
 rw[h]at w u
 conv=>rw[v]
 refine dh N (by omega) (λk H'=>∃a:ML Pz,bQ a/\(∀j,((aQ a j).getD dV).xs=b1 X.pu t.aO (X.pu t.aO++(takeN (t.aO+1) k X.S).2) j)/\
  H'=cl aa (aD t).toArray::cl b (hk x)::bq x.lb X.L::cf x.sb (takeN (t.aO+1) k X.S).1::dx x.rb x.sb X.R::dz x.tb X.T::eH x.qb X.Q::MP fP x.r a::dJ a::H) ?_ ?_
 ·refine⟨x.m,ok.bX,λj=>?_,rfl⟩
  unfold b1 takeN;rw[j9,<-ok.pu];split
  ·rename_i e;rw[e]
  ·rfl
 rintro k H' R I ⟨a,hs,i,rfl⟩ y;obtain⟨h1,z,A⟩:=vN (t.aO+1) X.S k (by omega);have hlen:=ok.len t.aO;repeat' first|apply St.go|refine S2.go (λ_=>?_) λ_=>?_|done
 ·have C:k<N:=by omega
  have o:(takeN (t.aO+1) k X.S).1.free≠[]:=by intro e;rw[e]at h1;simp at h1;omega
  rw[br (by omega)];refine Sc.go ⟨by omega,by omega⟩ ?_;rw[aj o,aj o];have p:((aQ a t.aO).getD dV).xs=X.pu t.aO++(takeN (t.aO+1) k X.S).2:=by rw[i];unfold b1;rw[ag rfl]
  have s:((aQ a t.aO).getD dV).xs.length<1000000:=by rw[p,b'];omega
  have fin:∀d:Pz,d.xs=((aQ a t.aO).getD dV).xs++[(takeN (t.aO+1) k X.S).1.dp]->
    T B (dJ (bC t.aO d a)::cl aa (aD t).toArray::cl b (hk x)::bq x.lb X.L::cf x.sb ((takeN (t.aO+1) k X.S).1.take (t.aO+1))::dx x.rb x.sb X.R::dz x.tb X.T::eH x.qb X.Q::MP fP x.r (bC t.aO d a)::H) (R [J (IntKind.wrap .i64 ((k:Int)+1))]):=by
   intro d f;refine af (H':=cl aa (aD t).toArray::cl b (hk x)::bq x.lb X.L::cf x.sb ((takeN (t.aO+1) k X.S).1.take (t.aO+1))::dx x.rb x.sb X.R::dz x.tb X.T::eH x.qb X.Q::MP fP x.r (bC t.aO d a)::dJ (bC t.aO d a)::H) ?_;refine y C _ ⟨_,fu hs,λj=>?_,rfl⟩;rw[gR hs];unfold b1;split
   ·rw[fx,f,p,el];rfl
   ·rename_i e;rw[i];unfold b1;rw[aj e]
  repeat apply St.go
  refine e0 ?_ ?_
  ·repeat first|apply St.go|refine Sa.go λ_=>?_
   rename_i l;refine af (H':=dJ a::cl l #[J (takeN (t.aO+1) k X.S).1.dp]::cl aa (aD t).toArray::cl b (hk x)::bq x.lb X.L::cf x.sb ((takeN (t.aO+1) k X.S).1.take (t.aO+1))::dx x.rb x.sb X.R::dz x.tb X.T::eH x.qb X.Q::MP fP x.r a::H) (Hr hs s λd f=>?_);repeat apply St.go
   exact af (H':=hZ d::dJ (bN t.aO a)::cl aa (aD t).toArray::cl b (hk x)::bq x.lb X.L::cf x.sb ((takeN (t.aO+1) k X.S).1.take (t.aO+1))::dx x.rb x.sb X.R::dz x.tb X.T::eH x.qb X.Q::MP fP x.r (bC t.aO d a)::H) (BF hs (fin d f))
  ·repeat first|apply St.go|refine Sa.go λ_=>?_
   rename_i l;refine af (H':=dJ a::cl l #[J (takeN (t.aO+1) k X.S).1.dp]::cl aa (aD t).toArray::cl b (hk x)::bq x.lb X.L::cf x.sb ((takeN (t.aO+1) k X.S).1.take (t.aO+1))::dx x.rb x.sb X.R::dz x.tb X.T::eH x.qb X.Q::MP fP x.r a::H) (Hr hs s λd f=>?_);repeat apply St.go
   exact af (H':=hZ d::dJ (bN t.aO a)::cl aa (aD t).toArray::cl b (hk x)::bq x.lb X.L::cf x.sb ((takeN (t.aO+1) k X.S).1.take (t.aO+1))::dx x.rb x.sb X.R::dz x.tb X.T::eH x.qb X.Q::MP fP x.r (bC t.aO d a)::H) (BF hs (fin d f))
 ·have hl:k=N:=by omega
  subst hl;have hc:=g.hc;have hid:=g.id;have D:=g.ld;have M:=g.q;have E:=g.tk;rw[show aD t=[J t.id,J t.aO,J t.count,J t.state,J t.b4]from rfl];repeat' first|apply St.go|refine S2.go (λ_=>?_) λ_=>?_|refine Sc.go (by omega) ?_|done
  ·rename_i F
   exact absurd D F
  rw[E]
  have n:(X.mN t c).Ok {x with m:=a}:=by
   refine⟨hs,λj=>?_,λj=>?_⟩
   ·rw[i];unfold aJ.mN;rw[h]
   ·unfold aJ.mN
    rw[h];simp only[z];unfold b1;split
    ·rw[b',A];omega
    ·have:=ok.len j;omega
  unfold aJ.mN at U n;rw[h]at U n;exact af (dw {x with m:=a} n U)
end
end
section
open Go.XS Go.bm
def a1.rJ(T:a1)(i:Int):Nat->a1
 |0=>T
 |n+1=>(T.rJ i n).bK j3 kE i
abbrev a1.vn(T:a1)(t:Tk):a1:=T.rJ t.id (t.b4-(T.get t.id).b4).toNat
def a1.iJ(T:a1)(l:List Tk):a1:=l.foldl a1.vn T
def a1.Xk(T:a1)(l:List Tk)(t:Tk):T.iJ (l++[t])=(T.iJ l).vn t:=by simp[a1.iJ]
abbrev aJ.xl(X:aJ)(t:Tk):aJ:=X.mN t (X.L.handle t.aO)
def aJ.ig(X:aJ)(l:List Tk):aJ:=l.foldl aJ.xl X
def aJ.FI(X:aJ)(l:List Tk)(t:Tk):X.ig (l++[t])=(X.ig l).xl t:=by simp[aJ.ig]
namespace aJ
abbrev bn(X:aJ):aJ:={X with R:=X.R.tick,S:=vQ X.R X.S}
def cn(X:aJ):b5:=roundOf X.T.cY (X.S.many 0) X.R.line.xs.length X.L.ar.members
abbrev tE(X:aJ)(r:b5):aJ:={X with T:=X.T.iJ (r.gs++r.ls)}
def tick(X:aJ):aJ:=(X.bn.tE X.bn.cn).ig X.bn.cn.gs
structure zJ(X:aJ):Prop where
 fits:X.R.line.Fits X.S
 bl:X.S.bl+X.R.line.xs.length<800000
 du:0<=X.R.du/\X.R.du<1000000
 cn:∃n,b5.Fit ⟨[],X.T.cY,X.L.ar.members,X.bn.S.many 0⟩ n
 len:X.bn.cn.gs.length+X.bn.cn.ls.length<100000
 pass:∀k t,(X.bn.cn.gs++X.bn.cn.ls)[k]?=some t->aF t.id/\0<=t.b4/\t.b4<2000000000000/\0<=((X.T.iJ ((X.bn.cn.gs++X.bn.cn.ls).take k)).get t.id).b4/\((X.T.iJ ((X.bn.cn.gs++X.bn.cn.ls).take k)).get t.id).b4<2000000000000
 mN:∀k t,X.bn.cn.gs[k]?=some t->ue ((X.bn.tE X.bn.cn).ig (X.bn.cn.gs.take k)) t (((X.bn.tE X.bn.cn).ig (X.bn.cn.gs.take k)).L.handle t.aO)
end aJ
section
variable {B:Heap}{H H0:au}{K:aK}{b:Nat}{X:aJ}{c n i:Int}{t:Tk}
def Lm(g:X.zJ)(U:∀q c',T B (bS b X.tick::ah 1 q X.bn.cn.gs.length c' (iv .i64 (X.bn.cn.gs.map (·.id)))::H) (K (.tuple #[.slice q X.bn.cn.gs.length c',J X.R.many,J 0]))):T B (bS b X::H) (ad P 120 #[pz b] K):=by
 apply an (MC _);have aq:=g.bl;obtain⟨au,w⟩:=g.cn;repeat apply St.go
 refine aL (bS b) (e8 λx ok=>?_);refine St.go (Ln ok λq l c' ys hl V=>St.go (St.go ?_));refine af (H':=dx x.rb x.sb X.R::cf x.sb X.S::ah 1 q l c' (iv .i64 ys)::cl b (hk x)::bq x.lb X.L::dz x.tb X.T::eH x.qb X.Q::MP fP x.r x.m::dJ x.m::H) ?_;refine XT hl V g.fits (by omega) g.du λq1 c1=>?_;apply St.go;apply aI (by simp);refine St.go (Sa.go λf=>?_)
 have hw:(gZ X.S (X.R.line.xs.take X.R.many)).bl=X.S.bl+(X.R.line.xs.take X.R.many).length:=by
  clear w;generalize X.R.line.xs.take X.R.many=l;generalize X.S=S
  induction l generalizing S with
  |nil=>rfl
  |cons i l W=>have:gZ S (i::l)=gZ (S.fR i) l:=rfl;rw[this,W];simp[aE.fR];omega
 have aa:X.bn.Ok x:=ok.with rfl (by show X.S.bl<=(vQ X.R X.S).bl;unfold vQ;omega);apply St.go;have C:roundOf X.T.cY (X.bn.S.many 0) X.bn.R.line.xs.length X.L.ar.members=X.bn.cn:=rfl
 refine dU (α:=Nat×qT) (λa=>cl a.1 #[.slice a.2.pg X.bn.cn.gs.length a.2.cw,.slice a.2.pl X.bn.cn.ls.length a.2.cl,.slice a.2.pm X.bn.cn.ms.length a.2.cm,J X.bn.cn.free]::
  ah 5 a.2.pg X.bn.cn.gs.length a.2.cw (X.bn.cn.gs.flatMap aD)::ah 5 a.2.pl X.bn.cn.ls.length a.2.cl (X.bn.cn.ls.flatMap aD)::eh b X.bn x H) (λa=>[.pointer (some (ai a.1 0))]) (λab v=>?_) λa=>?_
 ·refine af (H':=ah 5 f.1 X.T.cY.length f.2 (X.T.cY.flatMap aD)::eh b X.bn x H) ?_
  repeat apply St.go
  refine e0 ?_ ?_
  ·repeat first|apply St.go|refine Sc.go (by omega) ?_
   refine e0 ?_ ?_
   ·repeat first|apply St.go|refine Sa.go λ_=>?_
    refine e0 ?_ ?_
    ·repeat first|apply St.go|refine Sa.go λ_=>?_
     rename_i me;refine e0 ?_ ?_
     ·skip
      refine af (H':=ah 5 f.1 X.T.cY.length f.2 (X.T.cY.flatMap aD)::ah 4 me.1 X.L.ar.members.length me.2 (aW X.L.ar.members)::eh b X.bn x H) (uP w λy=>?_);rw[C];repeat first|apply St.go|refine Sa.go λ_=>?_|refine Sc.go ⟨rfl,rfl⟩ ?_
      rename_i d;exact af (v (d,y))
     ·repeat first|apply St.go|refine Sa.go λ_=>?_
      rename_i d;refine af (H':=ah 5 f.1 X.T.cY.length f.2 (X.T.cY.flatMap aD)::ah 4 me.1 X.L.ar.members.length me.2 (aW X.L.ar.members)::cl d #[Value.slice none 0 0,Value.slice none 0 0,Value.slice none 0 0,J 0]::eh b X.bn x H) (uP w λy=>?_);rw[C];repeat first|apply St.go|refine Sc.go ⟨rfl,rfl⟩ ?_
      exact af (v (d,y))
    ·repeat first|apply St.go|refine Sa.go λ_=>?_
     rename_i d me;refine af (H':=ah 5 f.1 X.T.cY.length f.2 (X.T.cY.flatMap aD)::ah 4 me.1 X.L.ar.members.length me.2 (aW X.L.ar.members)::cl d #[Value.slice none 0 0,Value.slice none 0 0,Value.slice none 0 0,J 0]::eh b X.bn x H) (uP w λy=>?_);rw[C];repeat first|apply St.go|refine Sc.go ⟨rfl,rfl⟩ ?_
     exact af (v (d,y))
   ·repeat first|apply St.go|refine Sa.go λ_=>?_
    rename_i d _ me;refine af (H':=ah 5 f.1 X.T.cY.length f.2 (X.T.cY.flatMap aD)::ah 4 me.1 X.L.ar.members.length me.2 (aW X.L.ar.members)::cl d #[Value.slice none 0 0,Value.slice none 0 0,Value.slice none 0 0,J 0]::eh b X.bn x H) (uP w λy=>?_);rw[C];repeat first|apply St.go|refine Sc.go ⟨rfl,rfl⟩ ?_
    exact af (v (d,y))
  ·repeat first|apply St.go|refine Sa.go λ_=>?_|refine Sc.go (by omega) ?_
   rename_i d _ me;refine af (H':=ah 5 f.1 X.T.cY.length f.2 (X.T.cY.flatMap aD)::ah 4 me.1 X.L.ar.members.length me.2 (aW X.L.ar.members)::cl d #[Value.slice none 0 0,Value.slice none 0 0,Value.slice none 0 0,J 0]::eh b X.bn x H) (uP w λy=>?_);rw[C];repeat first|apply St.go|refine Sc.go ⟨rfl,rfl⟩ ?_
   exact af (v (d,y))
 ·obtain⟨n,y⟩:=a
  simp only;have av:=g.len;have ac:=g.pass;have G:=g.mN;generalize I:X.bn.cn.gs=gs at*;generalize ae:X.bn.cn.ls=ls at*;refine St.go (St.go (St.go (Sa.go λag=>?_)));refine af (H':=re ag y.pg y.pl y.cw y.cl gs ls (eh b X.bn x (cl n #[.slice y.pg gs.length y.cw,.slice y.pl ls.length y.cl,.slice y.pm X.bn.cn.ms.length y.cm,J X.bn.cn.free]::H))) (Y7 (by omega) (by omega) λp c1=>St.go (af (H':=eh b X.bn x (ah 5 p (gs.length+ls.length) c1 ((gs++ls).flatMap aD)::ah 5 y.pg gs.length y.cw (gs.flatMap aD)::cl n #[.slice y.pg gs.length y.cw,.slice y.pl ls.length y.cl,.slice y.pm X.bn.cn.ms.length y.cm,J X.bn.cn.free]::H)) (dw x aa ?_)));apply dh (gs.length+ls.length) (by omega) (λk H'=>H'=bS b {X.bn with T:=X.T.iJ ((gs++ls).take k)}::ah 5 p (gs.length+ls.length) c1 ((gs++ls).flatMap aD)::ah 5 y.pg gs.length y.cw (gs.flatMap aD)::cl n #[.slice y.pg gs.length y.cw,.slice y.pl ls.length y.cl,.slice y.pm X.bn.cn.ms.length y.cm,J X.bn.cn.free]::H) rfl;rintro k H' R aj rfl z;repeat' first|apply St.go|refine S2.go (λ_=>?_) λ_=>?_|done
  ·have D:k<(gs++ls).length:=by rw[b'];omega
   have u:(gs++ls)[k]?=some (gs++ls)[k]:=bj D;generalize(gs++ls)[k]=t at u;obtain⟨ax,ay,az,aA,aB⟩:=ac k t u;rw[ef u]at z;generalize ak:X.T.iJ ((gs++ls).take k)=T' at*;rw[a1.Xk,ak]at z;refine eD eS (by omega) k rfl (by omega) u (Sa.go λA=>Sc.go ⟨rfl,rfl⟩ (dU (α:=Nat) (λa=>cl a (aD (T'.get t.id)).toArray::cl A (aD t).toArray::bS b {X.bn with T:=T'}::ah 5 p (gs.length+ls.length) c1 ((gs++ls).flatMap aD)::ah 5 y.pg gs.length y.cw (gs.flatMap aD)::cl n #[.slice y.pg gs.length y.cw,.slice y.pl ls.length y.cl,.slice y.pm X.bn.cn.ms.length y.cm,J X.bn.cn.free]::H) (λa=>[.pointer (some (ai a 0))]) (λab v=>?_) λa=>?_))
   ·refine aL (bS b) (e8 λh fY=>?_)
    repeat apply St.go
    refine e0 ?_ ?_
    ·repeat first|apply St.go|refine Sa.go λ_=>?_|refine Sc.go (by first|omega|exact⟨rfl,rfl⟩) ?_
     rename_i E;exact af (H':=eh b {X.bn with T:=T'} h (cl E (aD (T'.get t.id)).toArray::cl A (aD t).toArray::ah 5 p (gs.length+ls.length) c1 ((gs++ls).flatMap aD)::ah 5 y.pg gs.length y.cw (gs.flatMap aD)::cl n #[.slice y.pg gs.length y.cw,.slice y.pl ls.length y.cl,.slice y.pm X.bn.cn.ms.length y.cm,J X.bn.cn.free]::H)) (dw h fY (af (v E)))
    ·repeat first|apply St.go|refine Sa.go λ_=>?_|refine Sc.go (by first|omega|exact⟨rfl,rfl⟩) ?_
     rename_i E;exact af (H':=eh b {X.bn with T:=T'} h (cl E (aD (T'.get t.id)).toArray::cl A (aD t).toArray::ah 5 p (gs.length+ls.length) c1 ((gs++ls).flatMap aD)::ah 5 y.pg gs.length y.cw (gs.flatMap aD)::cl n #[.slice y.pg gs.length y.cw,.slice y.pl ls.length y.cl,.slice y.pm X.bn.cn.ms.length y.cm,J X.bn.cn.free]::H)) (dw h fY (af (v E)))
   ·repeat apply St.go
    rw[br (by omega)];refine af (H':=bS b {X.bn with T:=T'}::cl A (aD t).toArray::ah 5 p (gs.length+ls.length) c1 ((gs++ls).flatMap aD)::ah 5 y.pg gs.length y.cw (gs.flatMap aD)::cl n #[.slice y.pg gs.length y.cw,.slice y.pl ls.length y.cl,.slice y.pm X.bn.cn.ms.length y.cm,J X.bn.cn.free]::H) (dh (t.b4-(T'.get t.id).b4).toNat (by omega) (λj H'=>H'=bS b {X.bn with T:=T'.rJ t.id j}::cl A (aD t).toArray::ah 5 p (gs.length+ls.length) c1 ((gs++ls).flatMap aD)::ah 5 y.pg gs.length y.cw (gs.flatMap aD)::cl n #[.slice y.pg gs.length y.cw,.slice y.pl ls.length y.cl,.slice y.pm X.bn.cn.ms.length y.cm,J X.bn.cn.free]::H) rfl ?_);rintro j H' aC aF rfl al;refine S2.go (λ_=>?_) λ_=>?_
    ·refine aL (bS b) (e8 λh fY=>?_)
     repeat first|apply St.go|refine Sc.go (by omega) ?_
     refine af (H':=eh b {X.bn with T:=(T'.rJ t.id j).bK j3 kE t.id} h (cl A (aD t).toArray::ah 5 p (gs.length+ls.length) c1 ((gs++ls).flatMap aD)::ah 5 y.pg gs.length y.cw (gs.flatMap aD)::cl n #[.slice y.pg gs.length y.cw,.slice y.pl ls.length y.cl,.slice y.pm X.bn.cn.ms.length y.cm,J X.bn.cn.free]::H)) (dw h ⟨fY.bX,fY.pu,fY.len⟩ ?_);exact al (by omega) _ rfl
    ·have M:j=(t.b4-(T'.get t.id).b4).toNat:=by omega
     subst M;exact af (H':=bS b {X.bn with T:=T'.vn t}::ah 5 p (gs.length+ls.length) c1 ((gs++ls).flatMap aD)::ah 5 y.pg gs.length y.cw (gs.flatMap aD)::cl n #[.slice y.pg gs.length y.cw,.slice y.pl ls.length y.cl,.slice y.pm X.bn.cn.ms.length y.cm,J X.bn.cn.free]::H) (z (by omega) _ rfl)
  ·have aG:k=gs.length+ls.length:=by omega
   have e:(gs++ls).take k=gs++ls:=ke (by rw[b'];omega);rw[e];have N:X.bn.tE X.bn.cn={X.bn with T:=X.T.iJ (gs++ls)}:=by rw[<-I,<-ae]
   have am:X.tick=aJ.ig {X.bn with T:=X.T.iJ (gs++ls)} gs:=by unfold aJ.tick;rw[N,I]
   rw[N]at G;rw[am]at U;generalize({X.bn with T:=X.T.iJ (gs++ls)}:aJ)=Y at*;refine dL 1 (af (H':=ah 1 none 0 0 []::bS b Y::ah 5 y.pg gs.length y.cw (gs.flatMap aD)::H) (nI gs.length (by omega) (λk p l c H'=>l=k/\H'=ah 1 p k c (iv .i64 ((gs.take k).map (·.id)))::bS b (Y.ig (gs.take k))::ah 5 y.pg gs.length y.cw (gs.flatMap aD)::H) ⟨rfl,rfl⟩ ?_));rintro k p l c H' R aj ⟨rfl,rfl⟩ z;refine S2.go (λ_=>?_) λ_=>?_
   ·have D:l<gs.length:=by omega
    have u:gs[l]?=some gs[l]:=bj D;generalize gs[l]=t at u;have ao:=G l t u;rw[ef u,aJ.FI,eY]at z;generalize aH:Y.ig (gs.take l)=Z at*;refine eD eS (by omega) l rfl D u (Sa.go λF=>Sc.go ⟨rfl,rfl⟩ (aL (bS b) (e8 λh fY=>?_)));apply St.go;apply bV (b:=F) (cs:=(aD t).toArray) rfl;refine St.go (St.go (St.go ?_));apply St.go;refine af (H':=cl F (aD t).toArray::eh b Z h (ah 1 p l c (iv .i64 ((gs.take l).map (·.id)))::ah 5 y.pg gs.length y.cw (gs.flatMap aD)::H)) ?_;have hC:bZ B (cl F (aD t).toArray::eh b Z h (ah 1 p l c (iv .i64 ((gs.take l).map (·.id)))::ah 5 y.pg gs.length y.cw (gs.flatMap aD)::H)) F (aD t).toArray:=inferInstance;refine e7 (λσ o=>⟨_,rfl,rfl,λj M=>?_⟩) ?_
    ·rw[aR,hC.cell o,bI]
    refine af (H':=eh b Z h (cl F (aD t).toArray::ah 1 p l c (iv .i64 ((gs.take l).map (·.id)))::ah 5 y.pg gs.length y.cw (gs.flatMap aD)::H)) (dw h fY ?_);unfold aV;apply Lo ao;rw[show aD t=[J t.id,J t.aO,J t.count,J t.state,J t.b4]from rfl];repeat first|apply St.go|refine Sa.go λ_=>?_
    rename_i aK;refine aL (ah 1 p l c) (eZ (s:=1) (c:=c) rfl (by omega) λO c'=>?_);have ap:iv .i64 ((gs.take l).map (·.id))++(#[J t.id]:aw).toList=iv .i64 ((gs.take l).map (·.id)++[t].map (·.id)):=by simp[iv]
    rw[ap];exact af (H':=ah 1 O (l+1) c' (iv .i64 ((gs.take l).map (·.id)++[t].map (·.id)))::bS b (Z.xl t)::ah 5 y.pg gs.length y.cw (gs.flatMap aD)::H) (z D O _ c' _ ⟨rfl,rfl⟩)
   ·have hl:l=gs.length:=by omega
    subst hl;rw[ix];exact af (U p c)
end
end
section
open Go.XS Go.bm
def aJ.new(n m q:Nat):aJ:=⟨⟨n,bG.new⟩,aE.new n m,⟨⟨n,[],0⟩,q,0⟩,a1.new,⟨[],0⟩,λ_=>[]⟩
def uA(c z q l:Int):Bool:=o1 c z&&tp q l
section
variable {B:Heap}{H H0:au}{K:aK}{b:Nat}{X:aJ}{c n i:Int}{t:Tk}
def Li{z q l:Int}(a:uA c z q l=false->T B H (K (.tuple #[.pointer none,J 2])))(d:∀(n m q':Nat) b,c=n->z=m->q=q'->1<=n->n<=1048576->64<=m->m<=1048576->1<=q'->q'<=1048576->T B (bS b (aJ.new n m q')::H) (K (.tuple #[pz b,J 0]))):T B H (ad P 33 #[.agg #[J c,J z,J q,J l]] K):=by
 refine an (MO _) (Sa.go λaa=>St.go (St.go ?_));unfold i';refine ZY (λh=>?_) λn m sb e hm n1 n2 m1 m2 f=>?_
 ·repeat first|apply St.go|refine bo (by with_reducible decide) ?_
  exact af (a (by unfold uA;rw[h];rfl))
 have i:o1 c z=true:=by unfold o1;rw[f];simp;omega
 refine St.go (aI (by simp) (St.go (St.go ?_)));refine XR (λh=>?_) λq' rb g q1 q2=>?_
 ·repeat first|apply St.go|refine bo (by with_reducible decide) ?_
  exact af (a (by unfold uA;rw[h];simp))
 refine St.go (aI (by simp) (St.go ?_));subst e hm g;unfold di;refine Vv (by omega) (by omega) λlb=>?_;repeat first|apply St.go|refine Sa.go λ_=>?_
 rename_i tb qb r b;refine bL (q:=IM r λ_=>none) (iT fP ?_);have aM:(aJ.new n m q').Ok ⟨lb,sb,rb,tb,qb,r,[]⟩:=⟨by simp[bQ,a7,ed],λk=>rfl,λk=>by simp[aJ.new]⟩;have:=dw _ aM (d n m q' b rfl rfl rfl n1 n2 m1 m2 q1 q2);simp only[eh,aJ.new]at this;rw[show dJ []=eA []from rfl]at this;refine jQ (Hs:=[]) ?_;rw[show(aE.new n m).cs.length=n by simp[aE.new]];exact af this
def Ll(U:∀q1 y (me a:av×Nat),T B (bS b X::ah 3 (some ⟨q1,0,none⟩) X.S.cs.length X.S.cs.length (X.S.cs.flatMap fo)::rT 1 y X.R.line.xs.length (iv .i64 X.R.line.xs)::ah 4 me.1 X.L.ar.members.length me.2 (aW X.L.ar.members)::ah 5 a.1 X.T.cY.length a.2 (X.T.cY.flatMap aD)::H) (K (.agg #[J X.R.du,.slice (some ⟨q1,0,none⟩) X.S.cs.length X.S.cs.length,.slice y X.R.line.xs.length X.R.line.xs.length,.slice me.1 X.L.ar.members.length me.2,.slice a.1 X.T.cY.length a.2,.slice none 0 0]))):T B (bS b X::H) (ad P 19 #[pz b] K):=by
 apply an (MA _);repeat first|apply St.go|refine Sa.go λ_=>?_
 refine aL (bS b) (e8 λx ok=>?_);repeat first|apply St.go|refine Sa.go λ_=>?_|refine Sc.go (by first|rfl|exact⟨rfl,rfl⟩) ?_
 rename_i aa q1 y me a;have:=U q1 y me a;exact af (dw x ok this)
end
end
section
open Go.XS Go.bm
def aT.Ok.x9{S:aT}(h:S.Ok)(a:S.pick.2.2=true):S.b8 S.pick.2.1=false:=by
 unfold aT.b8
 cases b:aQ S.cN S.pick.2.1 with
 |none=>rfl
 |some v=>
  exfalso;have:=h.op _ (jA b);simp only at this;unfold aT.pick at this a
  cases hc:S.closed.getLast? with
  |some p=>rw[hc]at this;exact this.2.2.2 (zj hc)
  |none=>
   rw[hc]at this a;simp only at this a;split at a
   ·rename_i hf
    rw[ag hf]at this;simp only at this;omega
   ·cases a
def aT.Ok.Bn{S:aT}(h:S.Ok)(a:S.fZ=true)(j:Int):S.opened.b8 j=(decide (j=S.cG)||S.b8 j):=by
 unfold aT.fZ at a;unfold aT.opened aT.cG;rw[ag a,ag a];unfold aT.b8;simp only;rw[gR h.bX];by_cases e:j=S.pick.2.1
 ·simp[e]
 ·simp[e]
def aT.yw{S:aT}(p j:Int):(S.shut p).b8 j=(!decide (j=p)&&S.b8 j):=by
 unfold aT.shut aT.b8;simp only;rw[mV];by_cases e:j=p
 ·simp[e]
 ·simp[e]
structure For where
 S:aT
 ls:Nat->List Nat
structure wB where
 sb:Nat
 cb:Nat
 pb:Nat
 ps:aN
abbrev sV(b:Nat)(F:For)(x:wB)(H:au):au:=
 cl b #[pz x.sb,pz x.cb,.slice (some ⟨x.pb,0,none⟩) 4096 4096]::ft x.sb F.S::dH x.cb ⟨4097,4096,F.ls⟩::cl x.pb (iv .i64 x.ps).toArray::H
structure For.Ok(F:For)(x:wB):Prop where
 ps:x.ps.length=4096
 b7:F.S.b7.length=4096
 op:∀p:Nat,F.S.b8 p=true↔∃k,p∈F.ls k
def cc(b:Nat)(F:For):bc:=BD F.Ok (sV b F)
namespace For
abbrev new:For:=⟨aT.new 4096,λ_=>[]⟩
def first(F:For)(n:Int):Int:=if F.S.b8 n then bW (F.ls n.toNat)else-1
def add(F:For)(k:Nat):For:=if F.S.fZ then⟨F.S.opened,up F.ls k (F.ls k++[F.S.cG.toNat])⟩else F
def drop(F:For)(n:Int):For:=if F.S.b8 n=true/\F.ls n.toNat=[]then⟨F.S.shut n,λk=>(F.ls k).filter (·≠n.toNat)⟩else F
end For
section
variable {B:Heap}{H H0:au}{K:aK}{b:Nat}{F:For}{n g:Int}
def mM{q:HP}(t:∀x,F.Ok x->T B (sV b F x H) q):T B (cc b F::H) q:=mC (λ_ _=>rfl) t
def ky{q:HP}(x:wB)(h:F.Ok x)(t:T B (cc b F::H) q):T B (sV b F x H) q:=mB x h (λ_ _=>rfl) t
def Y4{S:aT}{q:HP}(t:S.Ok->T B (ft b S::H) q):T B (ft b S::H) q:=n' λx h=>kJ x h (t h)
def Ts{C:Ch}{q:HP}(t:(∀k,(C.ls k).Nodup)->(∀k k' n,n∈C.ls k->n∈C.ls k'->k=k')->(∀k n,n∈C.ls k->k<C.nl/\n<C.nn)->T B (dH b C::H) q):T B (dH b C::H) q:=l6 λx h=>k2 x h (t h.1.nodup h.1.rh h.1.jt)
def rz{q:HP}(t:F.S.Ok->F.S.b7.length=4096->(∀p:Nat,F.S.b8 p=true↔∃k,p∈F.ls k)->(∀k,(F.ls k).Nodup)->(∀k k' n,n∈F.ls k->n∈F.ls k'->k=k')->(∀k n,n∈F.ls k->k<4097/\n<4096)->T B (cc b F::H) q):T B (cc b F::H) q:=by refine mM λx ok=>aL (ft x.sb) (Y4 λa=>?_);refine aL (dH x.cb) (Ts λh1 c d=>?_);exact af (ky x ok (t a ok.b7 ok.op h1 c d))
def Tq{F:For}{x:wB}(ok:F.Ok x)(b:F.S.Ok)(c:∀k n,n∈F.ls k->k<4097/\n<4096):decide (Ch.of ⟨4097,4096,F.ls⟩ n>=0)=F.S.b8 n:=by
 unfold Ch.of;by_cases a:0<=n/\n<((4096:Nat):Int)
 ·rw[ag a]
  have:=ok.op n.toNat;rw[r5 a.1]at this;unfold sE
  cases hf:(List.range 4097).find? λk=>(F.ls k).contains n.toNat with
  |none=>
   rw[pE]at hf
   have d:F.S.b8 n≠true:=λh=>by obtain⟨k,U⟩:=this.1 h;exact hf k (ou.2 (c k _ U).1) (by simpa using U)
   simp only[hf];cases h:F.S.b8 n
   ·rfl
   ·exact absurd h d
  |some k=>have U:=List.find?_some hf;rw[this.2 ⟨k,by simpa using U⟩];simp
 ·rw[aj a]
  cases h:F.S.b8 n
  ·rfl
  ·have:=b.lt h
   rw[ok.b7]at this;omega
instance acv[h:Ow H (cc b) F H0]:St B H (ad P 257 #[pz b] K) (T B (cc b F::H0) (K (.bool true))):=⟨by
 intro U;refine bf h.pl (mM λx ok=>an (O3 _) ?_);repeat apply St.go
 exact af (ky x ok U)⟩
instance acw{v w:Value}{p:av}{l d:Nat}[h:bZ B H b #[v,w,.slice p l d]]:St B H (ad P 259 #[pz b] K) (T B H (K (J l))):=⟨by intro U;apply an (O4 _);apply St.go;exact U⟩
instance acs[h:Ow H (cc b) F H0]:St B H (ad P 275 #[pz b,J n] K) (T B (cc b F::H0) (K (.bool (F.S.b8 n)))):=⟨by
 intro U;refine bf h.pl (rz λa d e h1 f c=>an (OX _ _) ?_);repeat apply St.go
 refine aL (cc b) (mM λx ok=>?_);repeat apply St.go
 rw[Tq ok a c];exact af (ky x ok U)⟩
instance acu[h:Ow H (cc b) F H0]:St B H (ad P 274 #[pz b,J n,J g] K) (T B (cc b F::H0) (K (.bool (F.S.right n g)))):=⟨by
 intro U;refine bf h.pl (an (OZ _ _ _) ?_);repeat apply St.go
 refine aL (cc b) (mM λx ok=>?_);repeat apply St.go
 exact af (ky x ok U)⟩
instance acr[h:Ow H (cc b) F H0]:St B H (ad P 402 #[pz b,J n] K) (T B (cc b F::H0) (K (J (F.first n)))):=⟨by
 intro U;refine bf h.pl (rz λd f g h1 i j=>an (OW _ _) ?_);unfold For.first at U
 repeat' first|apply St.go|refine S2.go (λ_=>?_) λ_=>?_|done
 ·rename_i a
  rw[a]at U;exact af U
 ·rename_i a
  rw[a,ag rfl]at U;have c:=d.lt a;rw[f]at c;refine aL (cc b) (mM λx ok=>?_);repeat apply St.go
  have e:Ch.first ⟨4097,4096,F.ls⟩ n=bW (F.ls n.toNat):=by unfold Ch.first;rw[ag ⟨c.1,by simp only;omega⟩]
  rw[e];exact af (ky x ok U)⟩
def WB{j m:Nat}{a c:List Nat}[h:Ow H (cc b) F H0](hm:F.ls j=a++m::c)(U:T B (cc b F::H0) (K (J (bW c)))):T B H (ad P 403 #[pz b,J m] K):=by
 refine bf h.pl (an (OY _ _) ?_);repeat apply St.go
 refine aL (cc b) (mM λx ok=>?_);refine St.go (aL (dH x.cb) ?_);unfold aV;exact EM hm (St.go (af (ky x ok U)))
def WD(U:∀p c,T B (cc b F::ah 1 p (F.ls 4096).length c (iv .i64 ((F.ls 4096).map Int.ofNat))::H) (K (.slice p (F.ls 4096).length c))):T B (cc b F::H) (ad P 165 #[pz b] K):=by
 apply an (O1 _);repeat apply St.go
 refine aL (cc b) (mM λx ok=>?_);repeat apply St.go
 refine aL (dH x.cb) ?_;unfold b2;refine Tt (by simp only;omega) λp c=>?_;exact St.go (af (ky x ok (U p c)))
def GU{k:Nat}{q:Int}(o:k<4097)(U:T B (cc b (F.add k)::H) (K (.tuple #[J F.S.cG,J F.S.fM,.bool F.S.fZ]))):T B (cc b F::H) (ad P 272 #[pz b,J k,J q] K):=by
 refine rz λf i l h1 w y=>an (O2 _ _ _) ?_;unfold For.add at U;refine mM λx ok=>?_;repeat' first|apply St.go|refine S2.go (λ_=>?_) λ_=>?_|done
 ·rename_i a
  rw[a]at U;have g:F.S.cG=0:=by unfold aT.cG;unfold aT.fZ at a;rw[a];rfl
  have r:F.S.fM=0:=by unfold aT.fM;unfold aT.fZ at a;rw[a];rfl
  have s:F.S.opened=F.S:=by unfold aT.opened;unfold aT.fZ at a;rw[a];rfl
  rw[g,r]at U;rw[s];exact af (ky x ok U)
 ·rename_i a
  rw[ag a,a]at U;have d:F.S.pick.2.2=true:=a;have n:=f.x8 d;have h:=f.x9 d;have g:F.S.cG=F.S.pick.2.1:=by unfold aT.cG;rw[d];rfl
  rw[<-g]at n h;rw[i]at n;have t:=f.Bn a;have u:F.S.opened.b7=F.S.b7:=by unfold aT.opened;rw[d];exact aT.Bx.1
  generalize F.S.cG=z at*;obtain⟨m,rfl⟩:∃m:Nat,z=m:=⟨z.toNat,by omega⟩;rw[aZ]at U;have v:∀k,m∉F.ls k:=λk U=>by rw[(l m).2 ⟨k,U⟩]at h;cases h
  unfold oW;refine nE (ba (by omega) ?_);rw[aR,aZ];apply eE (by simp[ok.ps];omega) rfl;have e:(iv .i64 x.ps).toArray.setIfInBounds (0+m) (J q)=(iv .i64 (x.ps.set m q)).toArray:=by rw[bI];simp[iv,jj]
  rw[e];refine St.go (aL (dH x.cb) ?_);unfold aS;apply Ae o (by simp only;omega) v;rw[show Ch.add ⟨4097,4096,F.ls⟩ k m=⟨4097,4096,up F.ls k (F.ls k++[m])⟩from rfl];apply St.go;refine af (H':=sV b ⟨F.S.opened,up F.ls k (F.ls k++[m])⟩ ⟨x.sb,x.cb,x.pb,x.ps.set m q⟩ H) (ky _ ⟨by simpa using ok.ps,by rw[u];exact i,λp=>?_⟩ U);rw[t,tO,bJ,l p];show _↔∃j,p∈up F.ls k (F.ls k++[m]) j;constructor
  ·rintro(e|⟨j,c⟩)
   ·exact⟨k,by rw[eJ];have:p=m:=(by omega);simp[this]⟩
   ·refine⟨j,?_⟩
    by_cases e:j=k
    ·subst e;rw[eJ];simp[c]
    ·rw[dA _ _ e];exact c
  ·rintro⟨j,c⟩
   by_cases e:j=k
   ·subst e
    rw[eJ,dO]at c;rcases c with c|c
    ·exact .inr ⟨_,c⟩
    ·simp at c;exact .inl (by omega)
   ·rw[dA _ _ e]at c
    exact .inr ⟨_,c⟩
def WC(U:T B (cc b (F.add 4096)::H) (K (.tuple #[J F.S.cG,J F.S.fM,.bool F.S.fZ]))):T B (cc b F::H) (ad P 178 #[pz b] K):=by
 apply an (O0 _);repeat apply St.go
 refine aL (cc b) (mM λx ok=>?_);repeat apply St.go
 refine af (H':=sV b F x H) (ky x ok ?_);unfold k0;exact GU (by omega) (St.go U)
def Wy(a:F.S.b8 n=true)(U:T B (cc b (F.add n.toNat)::H) (K (.tuple #[J F.S.cG,J F.S.fM,.bool F.S.fZ]))):T B (cc b F::H) (ad P 183 #[pz b,J n] K):=by
 refine rz λc d f h1 g i=>an (OU _ _) ?_;have e:=c.lt a;rw[d]at e;repeat' first|apply St.go|refine S2.go (λ_=>?_) λ_=>?_|done
 ·rename_i h
  rw[a]at h;cases h
 ·obtain⟨m,rfl⟩:∃m:Nat,n=m:=⟨n.toNat,by omega⟩
  rw[aZ]at U;unfold k0;exact GU (by omega) (St.go U)
def Wz(U:∀v,T B (cc b (F.drop n)::H) (K (.bool v))):T B (cc b F::H) (ad P 192 #[pz b,J n] K):=by
 refine rz λs i l h1 t C=>an (OV _ _) ?_;unfold For.drop at U;repeat' first|apply St.go|refine S2.go (λ_=>?_) λ_=>?_|done
 ·rename_i h
  rw[aj (by rw[h];simp)]at U;exact U _
 ·rename_i d
  have u:=s.lt d;rw[i]at u;obtain⟨m,rfl⟩:∃m:Nat,n=m:=⟨n.toNat,by omega⟩;rw[aZ]at U;refine aL (cc b) (mM λx ok=>?_);have e:Ch.len ⟨4097,4096,F.ls⟩ (m:Int)=((F.ls m).length:Int):=by unfold Ch.len;rw[ag ⟨by omega,by simp only;omega⟩,aZ]
  repeat' first|apply St.go|refine S2.go (λ_=>?_) λ_=>?_|done
  ·rename_i h
   rw[e]at h;rw[aj (by rintro⟨_,h0⟩;rw[h0]at h;simp at h)]at U;exact af (ky x ok (U _))
  ·rename_i h
   rw[e]at h;have h0:F.ls m=[]:=kO.1 (by omega);rw[ag ⟨d,h0⟩]at U;obtain⟨j,o⟩:=(l m).1 d;obtain⟨a,c,f⟩:=v' o;refine aL (dH x.cb) ?_;unfold aS;apply Af f
   have w:up F.ls j (a++c)=λk=>(F.ls k).filter λx=>decide (x≠m):=by
    funext k;by_cases g:k=j
    ·subst g
     have q:=h1 k;rw[f]at q;rw[eJ,f];have r:=dP.1 q;have y:=fg.1 r.2.1;rw[nt,nu (by simp),qM.2,qM.2]
     ·intro z hz;simp only[bJ];intro e;subst e;exact y.1 hz
     ·intro z hz;simp only[bJ];intro e;subst e;exact r.2.2 z hz z (by simp) rfl
    ·rw[dA _ _ g,qM.2]
     intro z hz;simp only[bJ];intro A;subst A;exact g (t _ _ _ hz o)
   rw[show Ch.drop ⟨4097,4096,F.ls⟩ j (a++c)=⟨4097,4096,up F.ls j (a++c)⟩from rfl,w];repeat first|apply St.go|refine Sc.go (by omega) ?_
   have hr:F.S.right m (F.S.gen m)=true:=by unfold aT.right;rw[d];simp
   have hc:F.S.close m (F.S.gen m)=F.S.shut m:=by unfold aT.close;rw[ag hr]
   rw[hc];refine af (ky x ⟨ok.ps,by simpa[aT.shut]using i,λp=>?_⟩ (U _));rw[aT.yw,cg,l p];simp only[ns,hg,pG,bJ,Int.natCast_inj];exact⟨λ⟨h,k,U⟩=>⟨k,U,h⟩,λ⟨k,U,h⟩=>⟨h,k,U⟩⟩
def WA(U:∀b,T B (cc b For.new::H) (K (pz b))):T B H (ad P 80 #[J 4096] K):=by
 refine an (O5 _) (St.go (aI (by simp) (aI (by simp) ?_)))
 have fin:∀sb cb pb b,T B (cl b #[pz sb,pz cb,.slice (some ⟨pb,0,none⟩) 4096 4096]::ft sb (aT.new 4096)::dH cb ⟨4097,4096,λ_=>[]⟩::cl pb (iv .i64 (List.replicate 4096 0)).toArray::H) (K (pz b)):=by intro sb cb pb b;have:=ky ⟨sb,cb,pb,List.replicate 4096 0⟩ ⟨g' ..,g' ..,λp=>⟨λh=>by simp[For.new,aT.new,aT.b8,aQ]at h,λ⟨k,h⟩=>by simp[For.new]at h⟩⟩ (U b);exact af this
 have hw:IntKind.wrap .i64 ((4096:Int)+1)=((4097:Nat):Int):=by decide
 have hm:∀{H:au} {f:Nat->HP},(∀q,T B (cl q (iv .i64 (List.replicate 4096 0)).toArray::H) (f q))->T B H (c5 P 3 4096 4096 f):=λ{H f} h=>Sx.go (p:=c5 P 3 ((4096:Nat):Int) ((4096:Nat):Int) f) (by omega) h;have hs:∀{H:au} {K:aK},(∀b,T B (ft b (aT.new 4096)::H) (K (pz b)))->T B H (ad P 146 #[J 4096] K):=λh=>B8 (n:=4096) (by omega) h;have hc:∀{H:au} {K:aK},(∀b,T B (dH b ⟨4097,4096,λ_=>[]⟩::H) (K (pz b)))->T B H (ad P 145 #[J (IntKind.wrap .i64 ((4096:Int)+1)),J 4096] K):=λh=>Ag (l:=4097) (m:=4096) (by omega) (by omega) h;intro σ o _;refine e0 ?_ ?_ σ o
 ·refine hs λsb=>St.go (e0 ?_ ?_)
  ·refine hc λcb=>St.go (hm λpb=>Sa.go λb=>?_)
   rw[show Int.toNat 4096=4096 from rfl];exact af (fin sb cb pb b)
  ·refine hm λpb=>hc λcb=>St.go (Sa.go λb=>?_)
   rw[show Int.toNat 4096=4096 from rfl];exact af (fin sb cb pb b)
 ·refine hm λpb=>hs λsb=>St.go (hc λcb=>St.go (Sa.go λb=>?_))
  rw[show Int.toNat 4096=4096 from rfl];exact af (fin sb cb pb b)
end
end
end Go.Proofs.YtlmgompopkamfaaGreatDoor
namespace Go.bm
section
def ev(ls:Nat->List Nat):Nat->Nat->List (Nat×Bool)
 |0,_=>[]
 |n+1,p=>(p,true)::((ls p).flatMap (ev ls n)++[(p,false)])
def deep(ls:Nat->List Nat):Nat->Nat->Prop
 |0,_=>False
 |n+1,p=>∀m∈ls p,deep ls n m
variable {ls uZ:Nat->List Nat}
def Al:∀{n k p:Nat},deep ls n p->n<=k->deep ls k p
 |0,_,_,h,_=>h.elim
 |n+1,0,_,_,U=>by omega
 |n+1,k+1,p,h,U=>λm hm=>Al (h m hm) (by omega)
def EY(hs:∀k m,m∈uZ k->m∈ls k):∀{n p:Nat},deep ls n p->deep uZ n p
 |0,_,h=>h.elim
 |n+1,p,h=>λm hm=>EY hs (h m (hs p m hm))
def EX{j m:Nat}(h0:uZ m=[])(hs:∀k x,x∈uZ k->x∈ls k\/x=m):∀{n p:Nat},deep ls n p->deep uZ (n+1) p
 |0,_,h=>h.elim
 |n+1,p,h=>λx b=>by
  rcases hs p x b with h1|rfl
  ·exact EX (j:=j) h0 hs (h x h1)
  ·unfold deep;intro y a;rw[h0]at a;cases a
def E9:∀{n a b p:Nat},deep ls n p->n<=a->n<=b->ev ls a p=ev ls b p
 |0,_,_,_,h,_,_=>h.elim
 |n+1,0,_,_,_,h,_=>by omega
 |n+1,_,0,_,_,_,h=>by omega
 |n+1,a+1,b+1,p,h,ha,d=>by
  have:∀l:List Nat,(∀m∈l,deep ls n m)->l.flatMap (ev ls a)=l.flatMap (ev ls b):=by
   intro l hl
   induction l with
   |nil=>rfl
   |cons x l c=>rw[gw,gw,c λm hm=>hl m (by simp[hm]),E9 (b:=b) (hl x (by simp)) (by omega) (by omega)]
  unfold ev;rw[this _ h]
def E'{n N p:Nat}(h:deep ls n p)(a:n<=N):ev ls N p=(p,true)::((ls p).flatMap (ev ls N)++[(p,false)]):=by rw[E9 (b:=N+1) h a (by omega)];rfl
def Au:∀{n p:Nat},∀x,(x,true)∈ev ls n p↔(x,false)∈ev ls n p
 |0,p,x=>by simp[ev]
 |n+1,p,x=>by
  have:(x,true)∈(ls p).flatMap (ev ls n)↔(x,false)∈(ls p).flatMap (ev ls n):=by simp only[lL];exact⟨λ⟨m,h1,a⟩=>⟨m,h1,(Au x).1 a⟩,λ⟨m,h1,a⟩=>⟨m,h1,(Au x).2 a⟩⟩
  simp only[ev,cL,dO,this,zr,kT,jJ,jm,gb,and_false,Bool.true_eq_false,false_or];exact⟨λh=>h.symm,λh=>h.symm⟩
def ik(E:Nat->List (Nat×Bool)):List (Nat×List Nat)->List (Nat×Bool)
 |[]=>[]
 |(t,cs)::st=>cs.flatMap E++((t,false)::ik E st)
def ox(ls:Nat->List Nat)(N:Nat):List (Nat×List Nat)->Prop
 |[]=>True
 |(t,cs)::st=>(∃a,ls t=a++cs)/\(∃n,n<=N/\deep ls n t)/\(match st with|[]=>True|(u,b)::_=>∃a,ls u=a++t::b)/\ox ls N st
def ox.push{N t m:Nat}{cs:List Nat}{st:List (Nat×List Nat)}(h:ox ls N ((t,m::cs)::st)):ox ls N ((m,ls m)::(t,cs)::st)/\ik (ev ls N) ((t,m::cs)::st)=(m,true)::ik (ev ls N) ((m,ls m)::(t,cs)::st):=by
 obtain⟨⟨a,ha⟩,⟨n,b,hd⟩,c,d⟩:=h
 cases n with
 |zero=>exact hd.elim
 |succ n=>have hm:deep ls n m:=hd m (by rw[ha];simp);refine⟨⟨⟨[],rfl⟩,⟨n,by omega,hm⟩,⟨a,ha⟩,⟨a++[m],by rw[ha];simp⟩,⟨n+1,b,hd⟩,c,d⟩,?_⟩;show(m::cs).flatMap (ev ls N)++_=_;rw[gw,E' hm (by omega)];simp[ik]
def ox.pop{N t:Nat}{st:List (Nat×List Nat)}(h:ox ls N ((t,[])::st)):ox ls N st/\ik (ev ls N) ((t,[])::st)=(t,false)::ik (ev ls N) st:=⟨h.2.2.2,rfl⟩
def uQ(st:List (Nat×List Nat)):List Nat:=match st with|[]=>[]|(_,cs)::_=>cs
def ea(come:Bool)(l:List (Nat×Bool)):List Nat:=(l.filter λe=>e.2==come).map (·.1)
def HN(come v:Bool)(l:List (Nat×Bool))(x:Nat):ea come (l++[(x,v)])=ea come l++(if v==come then[x]else[]):=by unfold ea;rw[nt,eY];congr 1;cases h:v==come<;>simp[List.filter_cons,h]
inductive Reach (ls:Nat->List Nat) (c:Nat):Nat->Prop
 |refl:Reach ls c c
 |step {y x:Nat}:Reach ls c y->x∈ls y->Reach ls c x
def Reach.head{c m x:Nat}(hm:m∈ls c)(h:Reach ls m x):Reach ls c x:=by
 induction h with
 |refl=>exact .step .refl hm
 |step _ a b=>exact .step b a
def Reach.deep{c x:Nat}(h:Reach ls c x):∀{k},deep ls k c->deep ls k x:=by
 induction h with
 |refl=>exact λh=>h
 |step _ a b=>intro k U;have:=b U;cases k with
  |zero=>exact this.elim
  |succ k=>exact Al (this _ a) (by omega)
def Reach.xQ{p c:Nat}(hc:c∈ls p):∀{k},Go.bm.deep ls k p->¬Reach ls c p
 |0,h,_=>h
 |k+1,h,hr=>Reach.xQ hc (hr.deep (h c hc)) hr
def Reach.uniq(hd:∀k k' x,x∈ls k->x∈ls k'->k=k'){p c1 c2 k x:Nat}(b:Go.bm.deep ls k p)(h1:c1∈ls p)(c:c2∈ls p)(e:Reach ls c1 x)(d:Reach ls c2 x):c1=c2:=by
 induction e with
 |refl=>
  cases d with
  |refl=>rfl
  |step r a=>rw[hd _ _ _ a h1]at r;exact(Reach.xQ c b r).elim
 |step r a f=>
  cases d with
  |refl=>rw[hd _ _ _ a c]at r;exact(Reach.xQ h1 b r).elim
  |step r' g=>rw[hd _ _ _ g a]at r';exact f r'
def sL:∀{n p x:Nat} {b:Bool},(x,b)∈ev ls n p->Reach ls p x
 |0,_,_,_,h=>by simp[ev]at h
 |n+1,p,x,b,h=>by
  simp only[ev,cL,dO,zr,lL,jJ,jm]at h;rcases h with⟨rfl,_⟩|⟨m,hm,h⟩|⟨rfl,_⟩
  ·exact .refl
  ·exact(sL h).head hm
  ·exact .refl
def rV{come:Bool}{l:List (Nat×Bool)}{x:Nat}:x∈ea come l↔(x,come)∈l:=by unfold ea;simp only[bP,pG,hQ];exact⟨λ⟨e,⟨h1,c⟩,d⟩=>by obtain⟨a,b⟩:=e;simp only at c d;subst c d;exact h1,λh=>⟨_,⟨h,rfl⟩,rfl⟩⟩
def yu(come:Bool)(l a:List (Nat×Bool)):ea come (l++a)=ea come l++ea come a:=by simp[ea]
def YE(come:Bool)(f:Nat->List (Nat×Bool))(l:List Nat):ea come (l.flatMap f)=l.flatMap λx=>ea come (f x):=by
 induction l with
 |nil=>rfl
 |cons x l a=>rw[gw,gw,yu,a]
def BB(hd:∀k k' x,x∈ls k->x∈ls k'->k=k')(f:∀k,(ls k).Nodup):∀{n p k:Nat} (b:Bool),deep ls k p->(ea b (ev ls n p)).Nodup
 |0,_,_,_,_=>by simp[ev,ea]
 |n+1,p,k,b,h=>by
  have g:((ls p).flatMap λx=>ea b (ev ls n x)).Nodup:=by
   rw[mx];rw[Je];refine⟨λc hc=>?_,?_⟩
   ·cases k with
    |zero=>exact h.elim
    |succ k=>exact BB hd f b (h c hc)
   ·refine List.Pairwise.imp_of_mem ?_ (f p)
    intro c1 c2 m1 m2 j x a y d e;subst e;exact j (Reach.uniq hd h m1 m2 (sL (rV.1 a)) (sL (rV.1 d)))
  have i:p∉(ls p).flatMap λx=>ea b (ev ls n x):=by intro a;obtain⟨c,hc,a⟩:=lL.1 a;exact Reach.xQ hc h (sL (rV.1 a))
  have e:ea b (ev ls (n+1) p)=(if b=true then[p]else[])++(((ls p).flatMap λx=>ea b (ev ls n x))++(if b=true then[]else[p])):=by show ea b ([(p,true)]++((ls p).flatMap (ev ls n)++[(p,false)]))=_;rw[yu,yu,YE];cases b<;>simp[ea]
  rw[e];cases b
  ·simp only[gb,ep,kQ]
   rw[dP];exact⟨g,by simp,λx a y d l=>by simp at d;rw[l,d]at a;exact i a⟩
  ·simp only[eb,j9,List.singleton_append]
   exact fg.2 ⟨i,g⟩
def T9(l:List (Nat×Bool)):l.length=(ea true l).length+(ea false l).length:=by
 induction l with
 |nil=>rfl
 |cons e l a=>
  obtain⟨x,b⟩:=e
  have h1:∀c,(ea c ((x,b)::l)).length=(ea c [(x,b)]).length+(ea c l).length:=λc=>by rw[show(x,b)::l=[(x,b)]++l from rfl,yu,b']
  rw[h1,h1,c8,a];cases b<;>simp[ea]<;>omega
end
end Go.bm
namespace Go.Proofs.YtlmgompopkamfaaGreatDoor
section
open Go.XS Go.bm
def nv(l:List Nat):az:=iv .i64 (l.map Int.ofNat)
def GW(l:List Nat)(x:Nat):nv l++#[J x].toList=nv (l++[x]):=by simp[nv,iv]
structure Kx where
 p:av
 c:Nat
abbrev CA(aa ak:Nat)(come:Bool)(lp:Nat)(ro:Loop)(out:List Nat)(x:Kx)(H:au):au:=
 ah 1 x.p out.length x.c (nv out)::cl ak #[.slice x.p out.length x.c]::cl aa #[.bool come]::lo lp ro .ready none::H
def kL(aa ak:Nat)(come:Bool)(lp:Nat)(ro:Loop)(out:List Nat):bc:=BX True (CA aa ak come lp ro out)
abbrev BK(aa ak:Nat):Nat->az->aK->HP:=BI (λa c d b=>i7 a (gB (ai aa 0) λe=>ae (d==e) (a8 (ai ak 0) λf g h=>al #[J c] 3 λi=>cC P #[31,31] f g h (some (ai i 0)) 1 1 λj k l=>st (ai ak 0) (Value.slice j k l) (fp a none (b (Value.bool true)))) (fp a none (b (Value.bool true)))))
section
variable {B:Heap}{H H0:au}{K:aK}{b aa ak lp:Nat}{F:For}{come v:Bool}{ro:Loop}{out:List Nat}{m:Nat}
def CB(b:mE P ro (BK aa ak))(hl:out.length<900000)(U:T B (kL aa ak come lp ro (out++if v==come then[m]else[])::H) (K (.bool true))):T B (kL aa ak come lp ro out::H) (ga P lp #[] #[] [J m,.bool v] K):=by
 refine pM (λ_ _=>rfl) λx _=>?_;refine bL (q:=lo lp ro .ready none) (oL b ?_);unfold BK;refine St.go (oC ?_);apply St.go
 have fin:∀p c,T B (ah 1 p (out++if v==come then[m]else[]).length c (nv (out++if v==come then[m]else[]))::cl ak #[.slice p (out++if v==come then[m]else[]).length c]::cl aa #[.bool come]::lo lp ro .ready none::H) (K (.bool true)):=λp c=>pL ⟨p,c⟩ trivial (λ_ _=>rfl) U
 cases a:v==come with
 |true=>
  rw[a]at fin;simp only[eb,b',c8,gH,bI]at fin;apply bo rfl;repeat first|apply St.go|refine Sa.go λ_=>?_
  refine eZ rfl (by omega) λd c'=>?_;rw[GW];refine St.go (bL (q:=lo lp ro .busy none) (oD ?_));exact af (fin d c')
 |false=>rw[a]at fin;simp only[gb,ep,j9]at fin;refine aI rfl (bL (q:=lo lp ro .busy none) (oD ?_));exact af (fin x.p x.c)
def For.walk(F:For)(N:Nat)(come:Bool)(n:Int):List Nat:=if F.S.b8 n then ea come (ev F.ls N n.toNat)else[]
def Bo{s l c:Nat}{q:av}{xs:az}{p:HP}(t:l<=c->T B (ah s q l c xs::H) p):T B (ah s q l c xs::H) p:=by intro σ o;obtain⟨ch,⟨l1,l2,b,⟨h1,a,d⟩,e⟩,f⟩:=o.own;exact t a σ o
abbrev ways(st:List (Nat×List Nat)):List Nat:=(st.map (·.1)).reverse
def aaK{g i N:Nat}{G:HP}{n:Int}(I:mE P ro (BK aa ak))(hd:F.S.b8 n=true->deep F.ls N n.toNat)(fin:T B (kL aa ak come lp ro (F.walk N come n)::cc b F::cl g #[pz b]::cl i #[J n]::H) G):T B (kL aa ak come lp ro []::cc b F::cl g #[pz b]::cl i #[J n]::H) (ad P 401 #[.func (.yield lp) #[] #[],pz g,pz i] λ_=>G):=by
 refine an (S5 _ _ _) (aL (cc b) (rz λY Z ab h1 ac ae=>?_));unfold For.walk at fin;repeat' first|apply St.go|refine Sa.go λ_=>?_|refine S2.go (λ_=>?_) λ_=>?_|done
 ·rename_i w
  rw[w,aj (by simp)]at fin;exact af fin
 rename_i w Q;rw[w,ag rfl]at fin;have C:=hd w;have ai:=Y.lt w;rw[Z]at ai;obtain⟨p,rfl⟩:∃p:Nat,n=p:=⟨n.toNat,by omega⟩;rw[aZ]at C fin
 have hlen:∀b,(ea b (ev F.ls N p)).length<=4096:=λb=>by
  refine nT 4096 (BB ac h1 b C) λx y=>?_;have:=sL (rV.1 y)
  cases this with
  |refl=>omega
  |step _ y=>exact(ae _ _ y).2
 have al:(ev F.ls N p).length<=8192:=by rw[T9];have:=hlen true;have:=hlen false;omega
 have am:=E' C (dQ N);refine aL (kL aa ak come lp ro) (CB I (by simp) ?_);refine St.go (aI rfl ?_);repeat apply St.go
 have U:∀m:Nat,F.S.b8 m=true->F.first m=bW (F.ls m):=λm hm=>by unfold For.first;rw[ag hm,aZ]
 rw[U p w];have ao:∀{k m:Nat},m∈F.ls k->F.S.b8 m=true:=λh=>(ab _).2 ⟨_,h⟩;have done:∀{f:av} {lw d:Nat},T B (ah 1 f lw d []::kL aa ak come lp ro (ea come (ev F.ls N p))::cc b F::cl g #[pz b]::cl i #[J (p:Int)]::H) G:=af fin;refine bL (q:=cl Q #[J (p:Int)]) (kk (l:=1) 1 rfl ?_);have K:([]++if(true==come)=true then[p]else[])=ea come [(p,true)]:=by cases come<;>rfl
 rw[K,show(#[J (p:Int)]:aw).toList=nv [p]from rfl];refine af (H':=ah 1 (some ⟨Q,0,none⟩) 1 1 (nv [p])::kL aa ak come lp ro (ea come [(p,true)])::cc b F::cl g #[pz b]::cl i #[J (p:Int)]::H) ?_
 refine ur (λm f lw d nx H'=>∃st done,done++ik (ev F.ls N) st=ev F.ls N p/\ox F.ls N st/\(ik (ev F.ls N) st).length=m/\lw=st.length/\(st≠[]->nx=bW (uQ st))/\
  H'=ah 1 f st.length d (nv (ways st))::kL aa ak come lp ro (ea come done)::cc b F::cl g #[pz b]::cl i #[J (p:Int)]::H) (ik (ev F.ls N) [(p,F.ls p)]).length
  ⟨[(p,F.ls p)],[(p,true)],by rw[am];simp[ik],⟨⟨[],rfl⟩,⟨N,dQ _,C⟩,trivial,trivial⟩,rfl,rfl,λ_=>rfl,rfl⟩ ?_
 rintro m f lw d nx H' R ⟨st,dn,o,r,hm,rfl,ap,rfl⟩ hOut
 cases st with
 |nil=>
  apply aI (by simp);have:dn=ev F.ls N p:=by simpa[ik]using o
  rw[this];exact done
 |cons K aq=>
  apply bo (by simp)
  refine ur (λL f lw d nx H'=>∃st done,st≠[]/\done++ik (ev F.ls N) st=ev F.ls N p/\ox F.ls N st/\(ik (ev F.ls N) st).length=L/\L<=m/\lw=st.length/\nx=bW (uQ st)/\
   H'=ah 1 f st.length d (nv (ways st))::kL aa ak come lp ro (ea come done)::cc b F::cl g #[pz b]::cl i #[J (p:Int)]::H) m
   ⟨K::aq,dn,by simp,o,r,hm,dQ _,rfl,ap (by simp),rfl⟩ ?_
  rintro L f lw d nx H' ay ⟨st,dn,V,o,r,z,hle,rfl,rfl,rfl⟩ hIn;have A:dn.length+(ik (ev F.ls N) st).length<=8192:=by rw[<-b',o];exact al
  have W:∀c,(ea c dn).length<=dn.length:=λc=>by unfold ea;rw[eX];exact zh _ _
  have W:=W come
  have D:st.length<=(ik (ev F.ls N) st).length:=by
   clear r o z hIn V A
   induction st with
   |nil=>simp
   |cons e st az=>obtain⟨t,cs⟩:=e;simp only[ik,b',c8];omega
  match st,V with
  |(t,[])::st,_=>
   apply aI (by simp[uQ,bW]);obtain⟨M,O⟩:=r.pop;rw[O]at o z A D;simp only[c8]at z A D⊢;have hw:IntKind.wrap .i64 (((st.length+1:Nat):Int)-1)=(st.length:Int):=by rw[br (by omega)];omega
   simp only[hw]
   have ar:((ways ((t,[])::st)).map Int.ofNat)[st.length]?=some (t:Int):=by unfold ways;rw[cX,C9,eY,iu (by simp)];simp
   refine Bo λaA=>fA st.length rfl (by omega) ar (ba (by omega) (aL (kL aa ak come lp ro) (CB I (by omega) ?_)));refine St.go (aI rfl ?_);rw[aZ,lx,iQ,iQ];have E:(dn++[(t,false)])++ik (ev F.ls N) st=ev F.ls N p:=by rw[el];exact o
   rw[<-HN]
   have X:(nv (ways ((t,[])::st))).take (st.length*1)=nv (ways st):=by unfold ways nv iv;rw[cX,C9,eY,eY,iP,qO (by simp)]
   cases st with
   |nil=>apply aI (by simp);refine bL (q:=ah 1 f 1 d (nv (ways [(t,[])]))) (rG (m:=0) (by omega) ?_);refine af (H':=ah 1 f 0 d ((nv (ways [(t,[])])).take (0*1))::kL aa ak come lp ro (ea come (dn++[(t,false)]))::cc b F::cl g #[pz b]::cl i #[J (p:Int)]::H) ?_;rw[show(0:Nat)*1=([]:List (Nat×List Nat)).length*1 from rfl,X];exact hOut 0 _ _ _ _ _ (by omega) ⟨[],dn++[(t,false)],E,trivial,rfl,rfl,λh=>absurd rfl h,rfl⟩
   |cons e st=>obtain⟨u,v⟩:=e;obtain⟨a,ha⟩:=r.2.2.1;refine bo (by simp) (St.go ?_);unfold aV;apply WB (F:=F) (j:=u) ha;apply St.go;refine bL (q:=ah 1 f (((u,v)::st).length+1) d (nv (ways ((t,[])::(u,v)::st)))) (rG (m:=((u,v)::st).length) (by omega) ?_);rw[X];exact af (H':=ah 1 f ((u,v)::st).length d (nv (ways ((u,v)::st)))::kL aa ak come lp ro (ea come (dn++[(t,false)]))::cc b F::cl g #[pz b]::cl i #[J (p:Int)]::H) (hOut (ik (ev F.ls N) ((u,v)::st)).length _ _ _ _ _ (by omega) ⟨(u,v)::st,dn++[(t,false)],E,M,rfl,rfl,λ_=>rfl,rfl⟩)
  |(t,x::cs)::st,_=>
   apply bo (by simp[uQ,bW]);obtain⟨M,O⟩:=r.push;rw[O]at o z A D;simp only[c8]at z A D
   have y:F.S.b8 (x:Int)=true:=by obtain⟨a,ha⟩:=r.1;exact ao (by rw[ha];simp)
   rw[show bW (uQ ((t,x::cs)::st))=(x:Int)from rfl];refine Sa.go λaB=>?_;refine aL (ah 1 f ((t,x::cs)::st).length d) (eZ (s:=1) (c:=d) rfl (by simp only[c8];omega) λau c'=>?_);rw[GW];refine aL (kL aa ak come lp ro) (CB I (by omega) ?_);refine St.go (aI rfl ?_);rw[<-HN];repeat apply St.go
   rw[U x y];have E:(dn++[(x,true)])++ik (ev F.ls N) ((x,F.ls x)::(t,cs)::st)=ev F.ls N p:=by rw[el];exact o
   have ax:ways ((t,x::cs)::st)++[x]=ways ((x,F.ls x)::(t,cs)::st):=by simp[ways]
   rw[ax];exact af (H':=ah 1 au ((x,F.ls x)::(t,cs)::st).length c' (nv (ways ((x,F.ls x)::(t,cs)::st)))::kL aa ak come lp ro (ea come (dn++[(x,true)]))::cc b F::cl g #[pz b]::cl i #[J (p:Int)]::H) (hIn _ _ _ _ _ _ (by omega) ⟨(x,F.ls x)::(t,cs)::st,dn++[(x,true)],by simp,E,M,rfl,by omega,rfl,rfl,rfl⟩)
def ID{N:Nat}{n:Int}(hd:F.S.b8 n=true->deep F.ls N n.toNat)(U:∀p c,T B (cc b F::ah 1 p (F.walk N come n).length c (nv (F.walk N come n))::H) (K (.slice p (F.walk N come n).length c))):T B (cc b F::H) (ad P 288 #[pz b,J n,.bool come] K):=by apply an (S6 _ _ _);refine Sa.go λaa=>Sa.go λak=>an (S4 _ _) ?_;refine Sa.go λa=>Sa.go λd=>?_;refine pR (by kernel_rfl) λro rr lp e=>?_;refine dL 1 ?_;rw[show(ah 1 none 0 0 []:bc)=ah 1 none ([]:List Nat).length 0 (nv [])from rfl];refine af (H':=CA aa ak come lp ro [] ⟨none,0⟩ (cc b F::cl a #[pz b]::cl d #[J n]::ob rr (.deferred (some []))::H)) ?_;refine pL (L:=CA aa ak come lp ro []) ⟨none,0⟩ trivial (λ_ _=>rfl) ?_;apply aaK (N:=N) e hd;refine pM (λ_ _=>rfl) λx _=>?_;refine bL (q:=lo lp ro .ready none) (qU (by simp) ?_);refine St.go (bL (q:=ob rr (.deferred (some []))) (oK ?_));exact af (U x.p x.c)
def aaJ{N:Nat}{n:Int}(hd:F.S.b8 n=true->deep F.ls N n.toNat)(U:∀p c,T B (cc b F::ah 1 p (F.walk N true n).length c (nv (F.walk N true n))::H) (K (.slice p (F.walk N true n).length c))):T B (cc b F::H) (ad P 286 #[pz b,J n] K):=by apply an (S3 _ _);unfold b2;refine ID hd λp c=>St.go (U p c)
def aaI{N:Nat}{n:Int}(hd:F.S.b8 n=true->deep F.ls N n.toNat)(U:∀p c,T B (cc b F::ah 1 p (F.walk N false n).length c (nv (F.walk N false n))::H) (K (.slice p (F.walk N false n).length c))):T B (cc b F::H) (ad P 191 #[pz b,J n] K):=by apply an (S1 _ _);unfold b2;refine ID hd λp c=>St.go (U p c)
end
end
section
open Go.XS Go.bm
section
variable {B:Heap}{H H0:au}{K:aK}{p:av}{l c:Nat}{xs:aN}{cur n i:Int}
def J'{mt:TypeId}(h:∃et,P.underlying mt=some (.map 3 et))(t:∀r,T B (IM r (λ_=>none)::H) (K (.map (some r)))):T B H (aH P (Instr.makeMap mt (some (J n))) K):=by obtain⟨et,h⟩:=h;intro σ o;unfold Instr.makeMap;refine aX (gV h ?_);refine aX (dD n (λw _=>rfl) ?_);refine aX (HR ?_);exact cv (zH t σ o)
instance acE:St B H (ad P 280 #[J i] K) (T B H (K (.bool (decide (0<=i/\i<=1048575))))):=⟨by intro U;refine an (Pw _) (S2.go (λ_=>?_) λ_=>?_);all_goals (refine dT U ?_;simp;omega)⟩
def lk(xs:aN)(cur:Int):Bool:=decide (0<=cur/\(xs=[]->cur=0))&&decide xs.Nodup&&xs.all λi=>decide (0<=i/\i<=1048575)
def Bv[hr:Rd B H p (iv .i64 xs)](hl:l=xs.length)(hlen:l<1000000)(U:T B H (K (.bool (lk xs cur)))):T B H (ad P 276 #[.agg #[.slice p l c,J cur]] K):=by
 subst hl;apply an (Pv _);refine Sa.go λaa=>?_;refine dU (α:={E:Unit//0<=cur/\(xs=[]->cur=0)}) (λ_=>cl aa #[.slice p xs.length c,J cur]::H) (λ_=>[]) (λF body=>?_) λ⟨_,h1,d⟩=>?_
 rotate_left
 ·skip
  have o:lk xs cur=(decide xs.Nodup&&xs.all λi=>decide (0<=i/\i<=1048575)):=by unfold lk;rw[cM ⟨h1,d⟩,ff]
  rw[o]at U;repeat apply St.go
  refine J' ⟨4,by kernel_rfl⟩ λr=>iT Value.bool ?_;repeat apply St.go
  refine dh xs.length (by omega) (λk H'=>∃f:ML Bool,bQ f/\(∀j,(aQ f j).getD false=(xs.take k).contains j)/\(decide (xs.take k).Nodup&&(xs.take k).all λi=>decide (0<=i/\i<=1048575))=true/\H'=MP Value.bool r f::cl aa #[.slice p xs.length c,J cur]::H) ⟨[],by simp[bQ,a7,ed],λj=>by simp[aQ],by simp,rfl⟩ ?_;rintro k H' R G ⟨f,w,q,g,rfl⟩ o;refine S2.go (λ_=>?_) λ_=>?_
  ·have s:k<xs.length:=by omega
   have n:xs[k]?=some xs[k]:=bj s;generalize xs[k]=i at n;apply fA k rfl s n
   have y:∀{k':Nat},(decide (xs.take k').Nodup&&(xs.take k').all λi=>decide (0<=i/\i<=1048575))=false->(decide xs.Nodup&&xs.all λi=>decide (0<=i/\i<=1048575))=false:=by
    intro k' h;simp only[vZ,hg,List.all_eq_false]at h⊢;rcases h with h|⟨z,hz,h⟩
    ·exact .inl λA=>h (A.sublist (Dc _ _))
    ·exact .inr ⟨z,kP hz,h⟩
   have t:(decide (xs.take (k+1)).Nodup&&(xs.take (k+1)).all λi=>decide (0<=i/\i<=1048575))=(decide (0<=i/\i<=1048575)&&!(xs.take k).contains i):=by
    rw[ef n];simp only[cg,bJ]at g
    have C:(xs.take k++[i]).Nodup↔i∉xs.take k:=by rw[dP];exact⟨λh hi=>h.2.2 i hi i (by simp) rfl,λh=>⟨g.1,by simp,λa ha b x e=>h (by simp at x;subst x;subst e;exact ha)⟩⟩
    have D:decide ((xs.take k++[i]).Nodup)=!(xs.take k).contains i:=by rw[CQ,bJ,C];simp
    rw[D,List.all_append,g.2];simp only[y7,List.all_nil,y3,ff];exact Bool.and_comm _ _
   have m:(decide (xs.take (k+1)).Nodup&&(xs.take (k+1)).all λi=>decide (0<=i/\i<=1048575))=false->T B H (K (.bool false)):=λh=>by rw[y h]at U;exact U
   repeat' first|apply St.go|refine S2.go (λ_=>?_) λ_=>?_|done
   ·rename_i h
    exact af (m (by rw[t,cP h];rfl))
   ·rename_i h u
    exact af (m (by rw[t,<-q i,u];simp))
   ·rename_i h u
    refine af (o s (MP Value.bool r (bC i true f)::cl aa #[.slice p xs.length c,J cur]::H) ⟨_,fu w,λj=>?_,by rw[t,<-q i,cM h,u];rfl,rfl⟩);rw[gR w,ef n];by_cases e:j=i
    ·subst e;simp
    ·rw[aj e,q];simp[e]
  ·have hl:k=xs.length:=by omega
   subst hl;rw[ix]at g;rw[g]at U;exact af U
 have m:¬(0<=cur/\(xs=[]->cur=0))->T B H (K (.bool false)):=λh=>by
  have:lk xs cur=false:=by unfold lk;rw[cP h];rfl
  rw[this]at U;exact U
 repeat' first|apply St.go|refine S2.go (λ_=>?_) λ_=>?_|done
 ·exact af (m (by omega))
 ·rename_i h1 d v
  exact af (m λh=>v (h.2 (kO.1 (by omega))))
 ·rename_i h1 d v
  exact body ⟨(),by omega,λ_=>v⟩
 ·rename_i h1 d
  exact body ⟨(),by omega,λe=>absurd (by rw[e];rfl) d⟩
def rL(xs:aN)(cur:Int):Int:=if lk xs cur then xs.getLast?.getD (-1)else-1
def Xg[hr:Rd B H p (iv .i64 xs)](hl:l=xs.length)(hlen:l<1000000)(U:T B H (K (J (rL xs cur)))):T B H (ad P 278 #[.agg #[.slice p l c,J cur]] K):=by
 subst hl;apply an (Pt _);unfold rL at U;refine Sa.go λaa=>St.go ?_;apply bV (b:=aa) (cs:=#[.slice p xs.length c,J cur]) rfl;have:Rd B (cl aa #[.slice p xs.length c,J cur]::H) p (iv .i64 xs):=⟨hr.rd.tail⟩;unfold aS;apply Bv rfl hlen;repeat' first|apply St.go|refine S2.go (λ_=>?_) λ_=>?_|done
 ·rename_i h
  rw[h]at U;exact af U
 ·rename_i h h0
  have:xs=[]:=kO.1 (by omega);rw[this]at U;simp only[List.getLast?_nil,Option.getD_none,ite_self]at U;exact af U
 ·rename_i h h0
  rw[h,ag rfl]at U;have a:xs≠[]:=by intro e;rw[e]at h0;exact h0 rfl
  have d:=r9.2 a;refine fA (zs:=xs) (xs.length-1) (by rw[br (by omega)];omega) (by omega) (x:=xs.getLast?.getD (-1)) ?_ ?_
  ·rw[C5,bj (by omega)];rfl
  ·exact af U
def JN{b:Nat}{cs:aw}{K:aK}{q:av}[h:Rd B H0 q (iv .i64 xs)](hs:cs.size=xs.length)(t:T B (cl b (iv .i64 xs).toArray::H0) (K (J xs.length))):T B (cl b cs::H0) (aH P (Builtin.copy_ #[31,31] 3 #[.slice (some ⟨b,0,none⟩) xs.length xs.length,.slice q xs.length c]) K):=by
 refine um (o:=0) (s:=1) (elem:=3) rfl (by kernel_rfl) (by kernel_rfl) (by kernel_rfl) (ys:=iv .i64 xs) (Rd.rd) (by simp) (λv a=>?_) (by simp;omega) ?_
 ·obtain⟨m,hm,rfl⟩:=bP.1 a
  rfl
 ·have e:eB cs 0 (iv .i64 xs)=(iv .i64 xs).toArray:=by obtain⟨cl⟩:=cs;rw[kI _ _ _ (by simp at hs;simp[hs])];have:cl.drop (0+(iv .i64 xs).length)=[]:=om (by simp at hs;simp[hs]);rw[this];simp
  rw[e];simpa using t
def Hc[hr:Rd B H p (iv .i64 xs)](hl:l=xs.length)(hlen:l<1000000)(U:∀q,T B (ah 1 (some ⟨q,0,none⟩) xs.length xs.length (iv .i64 xs)::H) (K (.agg #[.slice (some ⟨q,0,none⟩) xs.length xs.length,J cur]))):T B H (ad P 279 #[.agg #[.slice p l c,J cur]] K):=by
 subst hl;apply an (Px _);repeat first|apply St.go|refine Sa.go λ_=>?_|refine Sx.go (by omega) λ_=>?_
 rename_i aa ak q;rw[aZ];apply JN (by simp);repeat first|apply St.go|refine Sc.go (by first|rfl|exact⟨rfl,rfl⟩) ?_
 refine kk (l:=xs.length) 1 (by simp) ?_;exact af (U q)
def e3(xs:aN)(cur s a z:Int):Int:=if lk xs cur then(if qt cur s a z=0 then(if xs=[]then 9 else 0)else qt cur s a z)else 2
def Xh{s a z:Int}[hr:Rd B H p (iv .i64 xs)](hl:l=xs.length)(hlen:l<1000000)(k:aF cur/\aF s/\aF a)(i:e3 xs cur s a z≠0->T B H (K (.tuple #[.agg #[.slice none 0 0,J 0],J 0,J 0,J (e3 xs cur s a z)])))(U:e3 xs cur s a z=0->∀q,T B (ah 1 (some ⟨q,0,none⟩) xs.length xs.length (iv .i64 xs)::H) (K (.tuple #[.agg #[.slice (some ⟨q,0,none⟩) xs.length xs.length,J (o9 cur s a z)],J (rL xs cur),J (rM cur s a z),J 0]))):T B H (ad P 184 #[.agg #[.slice p l c,J cur],J s,J a,J z] K):=by
 subst hl;apply an (Pu _ _ _ _);refine Sa.go λaa=>Sa.go λak=>?_;refine bL (q:=cl aa #[.slice p xs.length c,J cur]) ?_;apply bV (b:=aa) (cs:=#[.slice p xs.length c,J cur]) rfl;have m:Rd B (cl aa #[.slice p xs.length c,J cur]::cl ak #[.slice none 0 0,J 0]::H) p (iv .i64 xs):=⟨hr.rd.tail.tail⟩;unfold aS;apply Bv rfl hlen;generalize d:e3 xs cur s a z=e at*;unfold e3 at d;repeat' first|apply St.go|refine S2.go (λ_=>?_) λ_=>?_|refine Sc.go (by first|omega|rfl|exact⟨rfl,rfl⟩) ?_|done
 ·rename_i h
  rw[h]at d;subst d;exact af (i (by simp))
 rename_i h;rw[h,ag rfl]at d;unfold aV;refine Xg rfl hlen (St.go (dU (α:={n:Unit//e3 xs cur s a z=e}) (λ_=>cl aa #[.slice p xs.length c,J cur]::cl ak #[.slice none 0 0,J 0]::H) (λ_=>[J e]) (λo body=>?_) λ⟨_,he⟩=>?_))
 ·have f:rL xs cur<0↔xs=[]:=by
   unfold rL;rw[h,ag rfl]
   cases g:xs.getLast? with
   |none=>rw[List.getLast?_eq_none_iff]at g;simp[g]
   |some v=>
    have hm:=zj g;unfold lk at h;simp only[cg,iq,bJ]at h;have:=h.2 v hm;simp only[fx];constructor
    ·intro j;omega
    ·intro j;rw[j]at hm;cases hm
  repeat' first|refine S2.go (λ_=>?_) λ_=>?_|done
  ·rename_i h0 h1
   rw[ag h0,ag (f.1 h1)]at d;subst d;exact af (body ⟨(),by unfold e3;rw[h,ag rfl,ag h0,ag (f.1 h1)]⟩)
  ·rename_i h0 h1
   rw[ag h0,aj λe=>h1 (f.2 e)]at d;subst d;rw[h0];exact af (body ⟨(),by unfold e3;rw[h,ag rfl,ag h0,aj λe=>h1 (f.2 e)]⟩)
  ·rename_i h0
   rw[aj h0]at d;subst d;exact af (body ⟨(),by unfold e3;rw[h,ag rfl,aj h0]⟩)
 ·repeat' first|apply St.go|refine S2.go (λ_=>?_) λ_=>?_|refine Sc.go (by first|rfl|exact⟨rfl,rfl⟩) ?_|done
  ·rename_i h0
   exact af (i h0)
  ·rename_i h0
   have U:=U h0;unfold bH;refine Hc rfl hlen λq=>?_;repeat first|apply St.go|refine Sa.go λ_=>?_|refine Sc.go (by first|rfl|exact⟨rfl,rfl⟩) ?_
   exact af (U q)
def tm(xs:aN)(cur i:Int):Int:=if lk xs cur=true/\0<=i/\i<=1048575 then(if xs.contains i then 19 else 0)else 2
def Xe[hr:Rd B H p (iv .i64 xs)](hl:l=xs.length)(hlen:l<1000000)(d:tm xs cur i≠0->T B H (K (.tuple #[.agg #[.slice none 0 0,J 0],J (tm xs cur i)])))(U:tm xs cur i=0->∀q c',T B (ah 1 q (xs.length+1) c' (iv .i64 (xs++[i]))::H) (K (.tuple #[.agg #[.slice q (xs.length+1) c',J 0],J 0]))):T B H (ad P 187 #[.agg #[.slice p l c,J cur],J i] K):=by
 subst hl;apply an (Pr _ _);refine Sa.go λaa=>Sa.go λak=>?_;refine bL (q:=cl aa #[.slice p xs.length c,J cur]) ?_;have m:Rd B (cl aa #[.slice p xs.length c,J cur]::cl ak #[.slice none 0 0,J 0]::H) p (iv .i64 xs):=⟨hr.rd.tail.tail⟩;generalize a:tm xs cur i=e at*;unfold tm at a;refine dU (α:={n:Unit//e=0}) (λ_=>cl aa #[.slice p xs.length c,J cur]::cl ak #[.slice none 0 0,J 0]::H) (λ_=>[]) (λo body=>?_) λ⟨_,he⟩=>?_
 ·refine dU (α:={v:Bool//v=!(lk xs cur&&decide (0<=i/\i<=1048575))}) (λ_=>cl aa #[.slice p xs.length c,J cur]::cl ak #[.slice none 0 0,J 0]::H) (λv=>[.bool v.1]) (λr f=>?_) λ⟨v,g⟩=>?_
  ·refine Sc.go rfl ?_
   unfold aS;apply Bv rfl hlen;repeat' first|apply St.go|refine S2.go (λ_=>?_) λ_=>?_|done
   ·rename_i h
    exact af (f ⟨true,by rw[h];rfl⟩)
   ·rename_i h
    exact af (f ⟨_,by rw[h];cases decide (0<=i/\i<=1048575)<;>rfl⟩)
  ·subst g
   repeat' first|apply St.go|refine S2.go (λ_=>?_) λ_=>?_|refine Sc.go (by first|omega|rfl|exact⟨rfl,rfl⟩) ?_|done
   ·rename_i h
    have:¬(lk xs cur=true/\0<=i/\i<=1048575):=λ⟨h1,b⟩=>by rw[h1,cM b]at h;cases h
    rw[aj this]at a;subst a;exact af (d (by decide))
   ·rename_i h b
    have:lk xs cur=true/\0<=i/\i<=1048575:=by simp only[cg,bJ]at h;exact h
    rw[ag this,ag b]at a;subst a;exact af (d (by decide))
   ·rename_i h b
    have:lk xs cur=true/\0<=i/\i<=1048575:=by simp only[cg,bJ]at h;exact h
    rw[ag this,aj (by rw[b];simp)]at a;exact af (body ⟨(),a.symm⟩)
 ·repeat first|apply St.go|refine Sc.go rfl ?_
  unfold bH;refine Hc rfl hlen λq=>?_;repeat first|apply St.go|refine Sa.go λ_=>?_|refine Sc.go ⟨rfl,rfl⟩ ?_
  refine aL (ah 1 (some ⟨q,0,none⟩) xs.length xs.length) (eZ (s:=1) (c:=xs.length) rfl (by omega) λj c'=>?_);have k:iv .i64 xs++(#[J i]:aw).toList=iv .i64 (xs++[i]):=by simp[iv]
  rw[k];repeat refine Sc.go (by first|rfl|exact⟨rfl,rfl⟩) ?_
  exact af (U he j c')
structure Pg where
 p:av
 c:Nat
 xs:aN
 cur:Int
abbrev lj(g:Pg):az:=[.slice g.p g.xs.length g.c,J g.cur]
def Xo(g:Pg):(lj g).length=2:=rfl
def Xf{gs:List Pg}{q:av}{c':Nat}(j:∀g∈gs,bF B H g.p (iv .i64 g.xs))(hl:gs.length<100000)(f:∀g∈gs,g.xs.length<1000)(U:∀q' b,T B (ah 1 q' (gs.flatMap (·.xs)).length b (iv .i64 (gs.flatMap (·.xs)))::H) (K (.slice q' (gs.flatMap (·.xs)).length b))):T B (ah 2 q gs.length c' (gs.flatMap lj)::H) (ad P 287 #[.slice q gs.length c'] K):=by
 refine an (Ps _ _ _) (dL 1 ?_)
 have n:∀k,((gs.take k).flatMap (·.xs)).length<=k*1000:=λk=>by
  have:∀(l:List Pg),(∀g∈l,g.xs.length<1000)->(l.flatMap (·.xs)).length<=l.length*1000:=by
   intro l hl
   induction l with
   |nil=>simp
   |cons g l o=>have:=o λg h=>hl g (by simp[h]);have:=hl g (by simp);simp only[gw,b',c8];omega
  have h1:=this (gs.take k) λg h=>f g (kP h);have r:(gs.take k).length<=k:=by rw[fv];omega
  have:=jk 1000 r;omega
 refine nI gs.length (by omega) (λk p l c H'=>l=((gs.take k).flatMap (·.xs)).length/\H'=ah 1 p ((gs.take k).flatMap (·.xs)).length c (iv .i64 ((gs.take k).flatMap (·.xs)))::ah 2 q gs.length c' (gs.flatMap lj)::H) ⟨rfl,rfl⟩ ?_;rintro k p l c H' R y ⟨rfl,rfl⟩ s;refine S2.go (λ_=>?_) λ_=>?_
 ·have a:k<gs.length:=by omega
  have d:gs[k]?=some gs[k]:=bj a;have i:=j gs[k] (eK a);have t:=f gs[k] (eK a);generalize gs[k]=g at d i t;apply eD Xo (by omega) k rfl a d;repeat first|apply St.go|refine Sa.go λ_=>?_|refine Sc.go ⟨rfl,rfl⟩ ?_
  rename_i z;refine af (H':=ah 1 p ((gs.take k).flatMap (·.xs)).length c (iv .i64 ((gs.take k).flatMap (·.xs)))::ah 2 q gs.length c' (gs.flatMap lj)::H) ?_;have A:Rd B (ah 1 p ((gs.take k).flatMap (·.xs)).length c (iv .i64 ((gs.take k).flatMap (·.xs)))::ah 2 q gs.length c' (gs.flatMap lj)::H) g.p (iv .i64 g.xs):=⟨i.tail.tail⟩;have C:kj (iv .i64 g.xs).toArray:=⟨λv u=>by obtain⟨m,hm,rfl⟩:=bP.1 u;rfl⟩;refine oB (by have:=n k;omega) (by simp) λw b=>?_;have e:(gs.take (k+1)).flatMap (·.xs)=(gs.take k).flatMap (·.xs)++g.xs:=by rw[ef d];simp
  have:=s a w _ b _ ⟨rfl,rfl⟩;rw[e,b']at this;have x:iv .i64 ((gs.take k).flatMap (·.xs))++iv .i64 g.xs=iv .i64 ((gs.take k).flatMap (·.xs)++g.xs):=by simp[iv]
  rw[x];exact this
 ·have hl:k=gs.length:=by omega
  subst hl;rw[ix];exact af (U p c)
end
end
section
open Go.XS Go.bm
def cQ{α:Type}(th:α->bc)(m:ML α):bc:=eA (m.map λe=>th e.2)
section
variable {B:Heap}{H H0:au}{q:HP}{α:Type}{th:α->bc}{m:ML α}{z a:α}{k:Int}
def xX(hz:∀{H:au} {q:HP},T B (th z::H) q->T B H q)(hs:bQ m)(t:T B (th ((aQ m k).getD z)::cQ th (bN k m)::H) q):T B (cQ th m::H) q:=by
 cases h:aQ m k with
 |none=>rw[h]at t;rw[u3 h]at t;exact hz t
 |some a=>rw[h]at t;exact wL (s9 hs h) t
def Bt(hs:bQ m)(t:T B (cQ th (bC k a m)::H) q):T B (th a::cQ th (bN k m)::H) q:=by have:=s9 (k:=k) (f:=th) (fu (k:=k) (v:=a) hs) (A' hs);rw[Gy hs]at this;exact wM this t
def Xc(hz:∀{H:au} {q:HP},T B (th z::H) q->T B H q)(hs:bQ m)(t:T B (cQ th (bN k m)::H) q):T B (cQ th m::H) q:=xX (k:=k) hz hs (q0 (.drop .refl) t)
end
structure ui where
 aO:Int
 xs:aN
 cur:Int
abbrev vx:ui:=⟨0,[],0⟩
structure nD where
 aO:Int
 p:av
 c:Nat
 xs:aN
 cur:Int
abbrev eR:nD:=⟨0,none,0,[],0⟩
abbrev nD.g(x:nD):ui:=⟨x.aO,x.xs,x.cur⟩
abbrev gT(x:nD):Value:= .agg #[J x.aO,.slice x.p x.xs.length x.c,J x.cur]
def fE(x:nD):bc:=ah 1 x.p x.xs.length x.c (iv .i64 x.xs)
instance :ia P 195 nD gT eR:=⟨335,by kernel_rfl,py,by kernel_rfl⟩
instance {n:Int}:nC gT (.agg #[J n,.slice none 0 0,J 0]) ⟨n,none,0,[],0⟩:=⟨rfl⟩
structure a6 where
 F:For
 rg:Int->ui
 bs:Nat
structure oN where
 fb:Nat
 r:Nat
 m:ML nD
abbrev lC(b:Nat)(W:a6)(x:oN)(H:au):au:=
 cl b #[pz x.fb,.map (some x.r)]::cc x.fb W.F::MP gT x.r x.m::cQ fE x.m::H
structure a6.Ok(W:a6)(x:oN):Prop where
 bX:bQ x.m
 rg:∀k,W.rg k=((aQ x.m k).getD eR).g
 deep:∀p:Nat,W.F.S.b8 p=true->deep W.F.ls W.bs p
 len:∀k,(W.rg k).xs.length<=W.bs
 nil:∀m:Nat,m<4096->W.F.S.b8 m=false->W.F.ls m=[]
def cD(b:Nat)(W:a6):bc:=BD W.Ok (lC b W)
namespace a6
def new:a6:=⟨For.new,λ_=>vx,0⟩
def bk(W:a6)(r:Int):Int:=if mO r=true/\hv r=2/\iE r=0 then(if W.F.S.right (gP r) (gG r)then 0 else 4)else 14
def kx(W:a6)(r:Int):Int:=if W.bk r=0 then gP r else 0
def made(W:a6)(k:Nat)(c:Int):a6:=if W.F.S.fZ then⟨W.F.add k,b1 W.rg W.F.S.cG ⟨c,[],0⟩,W.bs+1⟩else W
def mS(W:a6):Int:=if W.F.S.fZ then fK 2 W.F.S.cG W.F.S.fM 0 else 10
def kz(W:a6):Int:=if W.mS=0 then dM 2 W.F.S.cG W.F.S.fM 0 else 0
def qz(W:a6)(c:Int):Int:=if 0<=c/\c<64 then W.mS else 2
def root(W:a6)(c:Int):a6:=if 0<=c/\c<64 then W.made 4096 c else W
def p6(W:a6)(r:Int):Int:=if W.bk r=0 then W.mS else W.bk r
def child(W:a6)(r:Int):a6:=if W.bk r=0 then W.made (gP r).toNat (W.rg (gP r)).aO else W
abbrev set(W:a6)(p:Int)(xs:aN)(cur:Int):a6:={W with rg:=b1 W.rg p ⟨(W.rg p).aO,xs,cur⟩,bs:=W.bs+1}
def e3(W:a6)(r s a z:Int):Int:=if W.bk r=0 then Go.Proofs.YtlmgompopkamfaaGreatDoor.e3 (W.rg (gP r)).xs (W.rg (gP r)).cur s a z else W.bk r
def lay(W:a6)(r s a z:Int):a6:=if W.e3 r s a z=0 then W.set (gP r) (W.rg (gP r)).xs (o9 (W.rg (gP r)).cur s a z)else W
def gM(W:a6)(r s a z:Int):Int:=if W.e3 r s a z=0 then rL (W.rg (gP r)).xs (W.rg (gP r)).cur else 0
def jy(W:a6)(r s a z:Int):Int:=if W.e3 r s a z=0 then rM (W.rg (gP r)).cur s a z else 0
def gh(W:a6)(r i:Int):Int:=if W.bk r=0 then tm (W.rg (gP r)).xs (W.rg (gP r)).cur i else W.bk r
def add(W:a6)(r i:Int):a6:=if W.gh r i=0 then W.set (gP r) ((W.rg (gP r)).xs++[i]) 0 else W
end a6
section
variable {B:Heap}{H H0:au}{K:aK}{b:Nat}{W:a6}{r n c i:Int}
def lD{q:HP}(t:∀x,W.Ok x->T B (lC b W x H) q):T B (cD b W::H) q:=mC (λ_ _=>rfl) t
def jg{q:HP}(x:oN)(h:W.Ok x)(t:T B (cD b W::H) q):T B (lC b W x H) q:=mB x h (λ_ _=>rfl) t
def Yd{H:au}{q:HP}{c:Int}(t:T B (fE ⟨c,none,0,[],0⟩::H) q):T B H q:=dL 1 t
def yj{H:au}{q:HP}(t:T B (fE eR::H) q):T B H q:=dL 1 t
instance acU[h:Ow H (cD b) W H0]:St B H (ad P 164 #[pz b] K) (T B (cD b W::H0) (K (.bool true))):=⟨by
 intro U;refine bf h.pl (lD λx ok=>an (Qj _) ?_);repeat apply St.go
 exact af (jg x ok U)⟩
instance acT[h:Ow H (cD b) W H0]:Sc B H (ad P 182 #[pz b,J r] K) (aF r) (T B (cD b W::H0) (K (.tuple #[J (W.kx r),J (W.bk r)]))):=⟨by
 intro hc U;refine bf h.pl (an (Qi _ _) ?_);unfold a6.kx at U;repeat first|apply St.go|refine Sc.go (by omega) ?_
 unfold qe;split
 ·rename_i c
  repeat' first|apply St.go|refine S2.go (λ_=>?_) λ_=>?_|done
  ·rename_i h1
   have e:W.bk r=14:=by unfold a6.bk;rw[aj (by rintro⟨_,a,_⟩;exact h1 a)]
   rw[e]at U;exact af U
  ·rename_i h1 a
   have e:W.bk r=14:=by unfold a6.bk;rw[aj (by rintro⟨_,_,d⟩;exact absurd d (by simpa using a))]
   rw[e]at U;exact af U
  ·rename_i h1 a
   have e:W.bk r=if W.F.S.right (gP r) (gG r)then 0 else 4:=by unfold a6.bk;rw[ag ⟨c,h1,by simpa using a⟩]
   rw[e]at U;refine aL (cD b) (lD λx ok=>?_);repeat' first|apply St.go|refine S2.go (λ_=>?_) λ_=>?_|done
   ·rename_i hr
    rw[hr]at U;exact af (jg x ok U)
   ·rename_i hr
    rw[hr]at U;exact af (jg x ok U)
 ·rename_i c
  repeat apply St.go
  have e:W.bk r=14:=by unfold a6.bk;rw[aj (by rintro⟨h1,_⟩;exact c h1)]
  rw[e]at U;exact af U⟩
def a6.Ok.VM{x:oN}(ok:W.Ok x)(l:W.F.S.Ok)(s:W.F.S.b7.length=4096)(v:∀p:Nat,W.F.S.b8 p=true↔∃k,p∈W.F.ls k){k:Nat}(U:k=4096\/W.F.S.b8 k=true)(g:W.F.S.fZ=true):(W.made k c).Ok {x with m:=bC W.F.S.cG ⟨c,none,0,[],0⟩ x.m}:=by
 have d:W.F.S.pick.2.2=true:=g;have n:=l.x8 d;have i:=l.x9 d;have t:W.F.S.cG=W.F.S.pick.2.1:=by unfold aT.cG;rw[d];rfl
 rw[<-t]at n i;rw[s]at n;have o:=l.Bn g;unfold a6.made For.add;rw[ag g,ag g];generalize W.F.S.cG=z at*;obtain⟨m,rfl⟩:∃m:Nat,z=m:=⟨z.toNat,by omega⟩;rw[aZ]
 have q:m≠k:=by
  rintro rfl;rcases U with h|h
  ·omega
  ·rw[h]at i;cases i
 have r:=ok.nil m (by omega) i
 have u:∀j y,y∈up W.F.ls k (W.F.ls k++[m]) j->y∈W.F.ls j\/y=m:=by
  intro j y a;by_cases e:j=k
  ·subst e;rw[eJ,dO]at a;simpa using a
  ·rw[dA _ _ e]at a;exact .inl a
 refine⟨fu ok.bX,λj=>?_,λp b=>?_,λj=>?_,λp b f=>?_⟩
 ·simp only[b1]
  rw[gR ok.bX];split
  ·rfl
  ·exact ok.rg j
 ·simp only at b⊢
  rw[o,tO,bJ]at b;rcases b with e|b
  ·have:p=m:=by omega
   subst this;show∀y∈_,_;intro y a;rw[dA _ _ q,r]at a;cases a
  ·exact EX (j:=k) (m:=m) (by rw[dA _ _ q];exact r) u (ok.deep p b)
 ·simp only[b1]
  split
  ·simp
  ·have:=ok.len j;omega
 ·simp only at f⊢
  rw[o,tN,hg]at f
  have d:p≠k:=by
   rintro rfl;rcases U with h|h
   ·omega
   ·rw[h]at f;cases f.2
  rw[dA _ _ d];exact ok.nil p b f.2
def X5{x:oN}{a:For}{p g:Int}{o:Bool}(hs:bQ x.m)(d:o=false->T B (cl b #[pz x.fb,.map (some x.r)]::cc x.fb a::MP gT x.r x.m::cQ fE x.m::H) (K (.tuple #[J 0,J 10])))(U:o=true->T B (cl b #[pz x.fb,.map (some x.r)]::cc x.fb a::MP gT x.r (bC p ⟨c,none,0,[],0⟩ x.m)::cQ fE (bC p ⟨c,none,0,[],0⟩ x.m)::H) (K (.tuple #[J (if fK 2 p g 0=0 then dM 2 p g 0 else 0),J (fK 2 p g 0)]))):T B (cl b #[pz x.fb,.map (some x.r)]::cc x.fb a::MP gT x.r x.m::cQ fE x.m::H) (ad P 179 #[pz b,J c,J p,J g,.bool o] K):=by
 apply an (Qk _ _ _ _ _);repeat' first|apply St.go|refine S2.go (λ_=>?_) λ_=>?_|done
 ·rename_i h
  exact d h
 ·rename_i h
  refine aL (cQ fE) (xX (k:=p) (z:=eR) yj hs ?_);refine q0 (.drop .refl) ?_;refine Yd (c:=c) ?_;refine af (H':=fE ⟨c,none,0,[],0⟩::cQ fE (bN p x.m)::cl b #[pz x.fb,.map (some x.r)]::cc x.fb a::MP gT x.r (bC p ⟨c,none,0,[],0⟩ x.m)::H) ?_;refine Bt hs ?_;exact af (U h)
def tF{q:HP}(t:W.F.S.Ok->W.F.S.b7.length=4096->(∀p:Nat,W.F.S.b8 p=true↔∃k,p∈W.F.ls k)->(∀k,(W.F.ls k).Nodup)->(∀k k' n,n∈W.F.ls k->n∈W.F.ls k'->k=k')->(∀k n,n∈W.F.ls k->k<4097/\n<4096)->T B (cD b W::H) q):T B (cD b W::H) q:=by refine lD λx ok=>aL (cc x.fb) (rz λh1 a c d e f=>?_);exact af (jg x ok (t h1 a c d e f))
def a6.VN{k:Nat}(h:W.F.S.fZ=false):W.made k c=W:=by unfold a6.made;rw[h];rfl
def Hx{x:oN}(ok:W.Ok x)(e:W.F.S.Ok)(f:W.F.S.b7.length=4096)(g:∀p:Nat,W.F.S.b8 p=true↔∃k,p∈W.F.ls k){k:Nat}(h:k=4096\/W.F.S.b8 k=true)(U:T B (cD b (W.made k c)::H) (K (.tuple #[J (if W.mS=0 then W.kz else 0),J W.mS]))):T B (cl b #[pz x.fb,.map (some x.r)]::cc x.fb (W.F.add k)::MP gT x.r x.m::cQ fE x.m::H) (ad P 179 #[pz b,J c,J W.F.S.cG,J W.F.S.fM,.bool W.F.S.fZ] K):=by
 refine X5 ok.bX (λa=>?_) λa=>?_
 ·have i:W.mS=10:=by unfold a6.mS;rw[a];rfl
  rw[i]at U;rw[a6.VN a]at U;have:W.F.add k=W.F:=by unfold For.add;rw[a];rfl
  rw[this];exact af (jg x ok U)
 ·have aM:=ok.VM (c:=c) e f g h a
  have d:W.kz=if W.mS=0 then dM 2 W.F.S.cG W.F.S.fM 0 else 0:=rfl;have j:W.mS=fK 2 W.F.S.cG W.F.S.fM 0:=by unfold a6.mS;rw[ag a]
  rw[j]at d U;rw[d]at U;have l:(if fK 2 W.F.S.cG W.F.S.fM 0=0 then if fK 2 W.F.S.cG W.F.S.fM 0=0 then dM 2 W.F.S.cG W.F.S.fM 0 else 0 else 0)=(if fK 2 W.F.S.cG W.F.S.fM 0=0 then dM 2 W.F.S.cG W.F.S.fM 0 else 0):=by split<;>rfl
  rw[l]at U;have:=jg _ aM U;unfold a6.made at this;rw[ag a]at this;exact af this
def X3[h:Ow H (cD b) W H0](U:T B (cD b (W.root c)::H0) (K (.tuple #[J (if W.qz c=0 then W.kz else 0),J (W.qz c)]))):T B H (ad P 105 #[pz b,J c] K):=by
 refine bf h.pl (tF λd f g h1 j k=>an (Qg _ _) ?_);generalize a:W.qz c=e at U;unfold a6.qz at a;unfold a6.root at U;repeat' first|apply St.go|refine S2.go (λ_=>?_) λ_=>?_|done
 ·rename_i h
  rw[aj (by omega)]at a U;subst a;exact af U
 ·rename_i h i
  rw[aj (by omega)]at a U;subst a;exact af U
 ·rename_i h i
  rw[ag (by omega)]at a U;refine aL (cD b) (lD λx ok=>?_);refine St.go (aL (cc x.fb) ?_);unfold k0;apply WC;apply St.go;refine af (H':=cl b #[pz x.fb,.map (some x.r)]::cc x.fb (W.F.add 4096)::MP gT x.r x.m::cQ fE x.m::H0) ?_;subst a;unfold c4;exact Hx ok d f g (.inl rfl) (St.go U)
def XZ[h:Ow H (cD b) W H0](hr:aF r)(U:T B (cD b (W.child r)::H0) (K (.tuple #[J (if W.p6 r=0 then W.kz else 0),J (W.p6 r)]))):T B H (ad P 107 #[pz b,J r] K):=by
 refine bf h.pl (tF λd f g h1 l n=>an (Qa _ _) ?_);generalize a:W.p6 r=e at U;unfold a6.p6 at a;unfold a6.child at U;repeat' first|apply St.go|refine S2.go (λ_=>?_) λ_=>?_|refine Sc.go (by omega) ?_|done
 ·rename_i h
  rw[aj h]at a U;subst a;rw[aj h]at U;exact af U
 ·rename_i h
  rw[ag h]at a U;have i:W.kx r=gP r:=by unfold a6.kx;rw[ag h]
  have c:W.F.S.b8 (gP r)=true:=by
   unfold a6.bk at h;split at h
   ·split at h
    ·rename_i hr
     unfold aT.right at hr;simp only[cg]at hr;exact hr.1
    ·cases h
   ·cases h
  have j:=d.lt c;rw[f]at j;rw[i];refine aL (cD b) (lD λx ok=>?_);refine St.go (aL (cc x.fb) ?_);unfold k0;apply Wy c;have k:=ok.rg (gP r);obtain⟨m,hm⟩:∃m:Nat,gP r=m:=⟨(gP r).toNat,by omega⟩;repeat apply St.go
  subst a;rw[show((aQ x.m (gP r)).getD eR).aO=(W.rg (gP r)).aO by rw[k]];unfold c4;refine af (H':=cl b #[pz x.fb,.map (some x.r)]::cc x.fb (W.F.add (gP r).toNat)::MP gT x.r x.m::cQ fE x.m::H0) ?_;refine Hx ok d f g (.inr ?_) ?_
  ·rw[hm,aZ,<-hm];exact c
  ·exact St.go U
instance acS[h:Ow H (cD b) W H0]:Sc B H (ad P 180 #[pz b,J r] K) (aF r) (T B (cD b W::H0) (K (.tuple #[J (if W.bk r=0 then(W.rg (gP r)).aO else 0),J (W.bk r)]))):=⟨by
 intro hr U;refine bf h.pl (an (Qb _ _) ?_);repeat' first|apply St.go|refine S2.go (λ_=>?_) λ_=>?_|refine Sc.go (by omega) ?_|done
 ·rename_i h
  rw[aj h]at U;exact af U
 ·rename_i h
  rw[ag h,h]at U;have a:W.kx r=gP r:=by unfold a6.kx;rw[ag h]
  rw[a];refine aL (cD b) (lD λx ok=>?_);have c:=ok.rg (gP r);rw[c]at U;repeat apply St.go
  exact af (jg x ok U)⟩
def Hy{x:oN}{p:Int}{q:av}{l c':Nat}{xs:aN}{cur:Int}(hs:bQ x.m)(hl:l=xs.length)(U:T B (cl b #[pz x.fb,.map (some x.r)]::MP gT x.r (bC p ⟨((aQ x.m p).getD eR).aO,q,c',xs,cur⟩ x.m)::cQ fE (bC p ⟨((aQ x.m p).getD eR).aO,q,c',xs,cur⟩ x.m)::H) (K (.tuple #[]))):T B (ah 1 q l c' (iv .i64 xs)::cl b #[pz x.fb,.map (some x.r)]::MP gT x.r x.m::cQ fE x.m::H) (ad P 185 #[pz b,J p,.agg #[.slice q l c',J cur]] K):=by
 subst hl;apply an (Ql _ _ _);repeat first|apply St.go|refine Sa.go λ_=>?_|refine Sc.go (by first|rfl|exact⟨rfl,rfl⟩) ?_
 rename_i aa e;apply nH rfl (by simp) (by intro v d;simp at d;rcases d with rfl|rfl<;>rfl);rw[show eB #[J ((aQ x.m p).getD eR).aO,Value.slice ((aQ x.m p).getD eR).p ((aQ x.m p).getD eR).xs.length ((aQ x.m p).getD eR).c,J ((aQ x.m p).getD eR).cur] 1 (#[Value.slice q xs.length c',J cur]:aw).toList=#[J ((aQ x.m p).getD eR).aO,Value.slice q xs.length c',J cur]from rfl];repeat first|apply St.go|refine Sc.go rfl ?_
 refine Be (a:=(⟨((aQ x.m p).getD eR).aO,q,c',xs,cur⟩:nD)) rfl ?_;refine aL (cQ fE) (xX (k:=p) (z:=eR) yj hs ?_);refine q0 (.drop .refl) ?_;refine af (H':=ah 1 q xs.length c' (iv .i64 xs)::cQ fE (bN p x.m)::cl b #[pz x.fb,.map (some x.r)]::MP gT x.r (bC p ⟨((aQ x.m p).getD eR).aO,q,c',xs,cur⟩ x.m)::H) ?_;exact Bt (th:=fE) (a:=(⟨((aQ x.m p).getD eR).aO,q,c',xs,cur⟩:nD)) hs (af U)
def a6.Ok.HU{x:oN}(ok:W.Ok x){p:Int}{q:av}{c':Nat}{xs:aN}{cur:Int}(b:xs.length<=(W.rg p).xs.length+1):(W.set p xs cur).Ok {x with m:=bC p ⟨((aQ x.m p).getD eR).aO,q,c',xs,cur⟩ x.m}:=by
 refine⟨fu ok.bX,λj=>?_,λj a=>Al (ok.deep j a) (by simp only[a6.set];omega),λj=>?_,ok.nil⟩
 ·simp only[a6.set,b1]
  rw[gR ok.bX];split
  ·rw[ok.rg];rfl
  ·exact ok.rg j
 ·simp only[a6.set,b1]
  split
  ·have:=ok.len p;simp only;omega
  ·have:=ok.len j;omega
def Bu{m:ML nD}{k:Int}(hs:bQ m):bF B (cQ fE m::H) ((aQ m k).getD eR).p (iv .i64 ((aQ m k).getD eR).xs):=by show T B (cQ fE m::H) _;exact xX yj hs bF.j2
def Hw{s a z:Int}[h:Ow H (cD b) W H0](hr:aF r)(hs:aF s)(ha:aF a)(f:aF (W.rg (gP r)).cur)(l:W.bs<1000000)(U:T B (cD b (W.lay r s a z)::H0) (K (.tuple #[J (W.gM r s a z),J (W.jy r s a z),J (W.e3 r s a z)]))):T B H (ad P 108 #[pz b,J r,J s,J a,J z] K):=by
 refine bf h.pl (an (Qd _ _ _ _ _) ?_);unfold a6.lay a6.gM a6.jy at U;generalize d:W.e3 r s a z=e at U;unfold a6.e3 at d;repeat' first|apply St.go|refine S2.go (λ_=>?_) λ_=>?_|refine Sc.go (by omega) ?_|done
 ·rename_i h
  rw[aj h]at d;subst d;rw[aj h,aj h,aj h]at U;exact af U
 ·rename_i h
  rw[ag h]at d;have j:W.kx r=gP r:=by unfold a6.kx;rw[ag h]
  rw[j];generalize gP r=p at*;refine aL (cD b) (lD λx ok=>?_);have g:=ok.rg p;have hlen:=ok.len p;repeat apply St.go
  rw[g]at hlen d U f;have eP:=λq c' k=>ok.HU (p:=p) (q:=q) (c':=c') (xs:=(W.rg p).xs) (cur:=k) (by omega);rw[g]at eP;generalize i:(aQ x.m p).getD eR=X at*;refine af (H':=cQ fE x.m::MP gT x.r x.m::cc x.fb W.F::cl b #[pz x.fb,.map (some x.r)]::H0) ?_;have n:Rd B (cQ fE x.m::MP gT x.r x.m::cc x.fb W.F::cl b #[pz x.fb,.map (some x.r)]::H0) X.p (iv .i64 X.xs):=⟨by rw[<-i];exact Bu ok.bX⟩;have hex:Array.extract.loop #[J X.aO,Value.slice X.p X.xs.length X.c,J X.cur] ((min 3 #[J X.aO,Value.slice X.p X.xs.length X.c,J X.cur].size).sub 1) 1 (Array.emptyWithCapacity ((min 3 #[J X.aO,Value.slice X.p X.xs.length X.c,J X.cur].size).sub 1))=#[Value.slice X.p X.xs.length X.c,J X.cur]:=rfl;rw[hex];unfold EF;refine Xh rfl (by simp only at hlen;omega) ⟨f,hs,ha⟩ (λhe=>?_) λhe q=>?_
  ·rw[d]at he⊢
   rw[aj he,aj he,aj he]at U;repeat' first|apply St.go|refine Sa.go λ_=>?_|refine S2.go (λ_=>?_) λ_=>?_|refine Sc.go (by first|omega|exact⟨rfl,rfl⟩) ?_|done
   ·exact af (jg x ok U)
   ·contradiction
  ·rw[d]at he
   subst he;rw[ag rfl,ag rfl,ag rfl]at U;repeat first|apply St.go|refine Sa.go λ_=>?_|refine Sc.go (by first|rfl|exact⟨rfl,rfl⟩) ?_
   refine af (H':=ah 1 (some ⟨q,0,none⟩) X.xs.length X.xs.length (iv .i64 X.xs)::cl b #[pz x.fb,.map (some x.r)]::MP gT x.r x.m::cQ fE x.m::cc x.fb W.F::H0) ?_;unfold ce;apply Hy ok.bX rfl;rw[i];exact St.go (af (jg {x with m:=bC p ⟨X.aO,some ⟨q,0,none⟩,X.xs.length,X.xs,o9 X.cur s a z⟩ x.m} (eP _ _ _) U))
def XY[h:Ow H (cD b) W H0](hr:aF r)(j:W.bs<900000)(U:T B (cD b (W.add r i)::H0) (K (J (W.gh r i)))):T B H (ad P 110 #[pz b,J r,J i] K):=by
 refine bf h.pl (an (P' _ _ _) ?_);unfold a6.add at U;generalize a:W.gh r i=e at U;unfold a6.gh at a;repeat' first|apply St.go|refine S2.go (λ_=>?_) λ_=>?_|refine Sc.go (by omega) ?_|done
 ·rename_i h
  rw[aj h]at a;subst a;rw[aj h]at U;exact af U
 ·rename_i h
  rw[ag h]at a;have g:W.kx r=gP r:=by unfold a6.kx;rw[ag h]
  rw[g];generalize gP r=p at*;refine aL (cD b) (lD λx ok=>?_);have d:=ok.rg p;have hlen:=ok.len p;repeat apply St.go
  rw[d]at hlen a U;have eP:=λq c'=>ok.HU (p:=p) (q:=q) (c':=c') (xs:=(W.rg p).xs++[i]) (cur:=0) (by simp);rw[d]at eP;generalize f:(aQ x.m p).getD eR=X at*;refine af (H':=cQ fE x.m::MP gT x.r x.m::cc x.fb W.F::cl b #[pz x.fb,.map (some x.r)]::H0) ?_;have k:Rd B (cQ fE x.m::MP gT x.r x.m::cc x.fb W.F::cl b #[pz x.fb,.map (some x.r)]::H0) X.p (iv .i64 X.xs):=⟨by rw[<-f];exact Bu ok.bX⟩;have hex:Array.extract.loop #[J X.aO,Value.slice X.p X.xs.length X.c,J X.cur] ((min 3 #[J X.aO,Value.slice X.p X.xs.length X.c,J X.cur].size).sub 1) 1 (Array.emptyWithCapacity ((min 3 #[J X.aO,Value.slice X.p X.xs.length X.c,J X.cur].size).sub 1))=#[Value.slice X.p X.xs.length X.c,J X.cur]:=rfl;rw[hex];unfold fC;refine Xe rfl (by simp only at hlen;omega) (λhe=>?_) λhe q c'=>?_
  ·rw[a]at he⊢
   rw[aj he]at U;repeat' first|apply St.go|refine Sa.go λ_=>?_|refine S2.go (λ_=>?_) λ_=>?_|refine Sc.go (by first|omega|exact⟨rfl,rfl⟩) ?_|done
   ·contradiction
   ·exact af (jg x ok U)
  ·rw[a]at he
   subst he;rw[ag rfl]at U;repeat first|apply St.go|refine Sa.go λ_=>?_|refine Sc.go (by first|rfl|exact⟨rfl,rfl⟩) ?_
   refine af (H':=ah 1 q (X.xs.length+1) c' (iv .i64 (X.xs++[i]))::cl b #[pz x.fb,.map (some x.r)]::MP gT x.r x.m::cQ fE x.m::cc x.fb W.F::H0) ?_;unfold ce;apply Hy ok.bX (by simp);rw[f];exact St.go (af (jg {x with m:=bC p ⟨X.aO,q,c',X.xs++[i],0⟩ x.m} (eP _ _) U))
end
end
open Go.XS Go.bm
instance ac8:fG P 470 2:=fG.of (e:=0) (by kernel_rfl)
namespace a6
def pre(W:a6)(p:Int):List Nat:=W.F.walk W.bs true p
def post(W:a6)(p:Int):List Nat:=W.F.walk W.bs false p
def under(W:a6)(p:Int):aN:=(W.pre p).flatMap λk:Nat=>(W.rg (k:Int)).xs
abbrev jU(W:a6)(k:Nat):a6:={W with F:=W.F.drop k,rg:=b1 W.rg k vx}
def free(W:a6)(r:Int):a6:=if W.bk r=0 then(W.post (gP r)).foldl jU W else W
end a6
section
variable {B:Heap}{H H0:au}{K:aK}{b:Nat}{W:a6}{r n c i:Int}
def Cz{F:For}{N:Nat}{come:Bool}(c:F.S.Ok)(d:F.S.b7.length=4096)(h1:∀k,(F.ls k).Nodup)(e:∀k k' n,n∈F.ls k->n∈F.ls k'->k=k')(f:∀k n,n∈F.ls k->k<4097/\n<4096)(hd:F.S.b8 n=true->deep F.ls N n.toNat):(F.walk N come n).length<=4096:=by
 unfold For.walk;split
 ·rename_i b
  have g:=c.lt b;rw[d]at g;refine nT 4096 (BB e h1 come (hd b)) λx a=>?_;have:=sL (rV.1 a)
  cases this with
  |refl=>omega
  |step _ a=>exact(f _ _ a).2
 ·simp
def uJ{F:For}{N:Nat}(b:F.S.Ok)(h:∀p:Nat,F.S.b8 p=true->deep F.ls N p):F.S.b8 n=true->deep F.ls N n.toNat:=λa=>by have c:=b.lt a;exact h _ (by rw[r5 c.1];exact a)
def X4(hr:aF r)(S:W.bs<1000)(A:W.bk r≠0->T B (cD b W::H) (K (.tuple #[.slice none 0 0,J (W.bk r)])))(U:W.bk r=0->∀q c',T B (ah 1 q (W.under (gP r)).length c' (iv .i64 (W.under (gP r)))::cD b W::H) (K (.tuple #[.slice q (W.under (gP r)).length c',J 0]))):T B (cD b W::H) (ad P 190 #[pz b,J r] K):=by
 refine tF λo d V h1 C D=>an (Qh _ _) ?_;repeat' first|apply St.go|refine S2.go (λ_=>?_) λ_=>?_|refine Sc.go (by omega) ?_|done
 ·rename_i h
  exact A h
 ·rename_i h
  have U:=U h;have E:W.kx r=gP r:=by unfold a6.kx;rw[ag h]
  rw[E];generalize gP r=p at*;refine lD λx ok=>St.go (aL (cc x.fb) ?_);unfold b2;have G:=Cz (come:=true) o d h1 C D (uJ (n:=p) o ok.deep);refine aaJ (uJ o ok.deep) λq1 c1=>St.go ?_;have I:W.F.walk W.bs true p=W.pre p:=rfl;rw[I]at G⊢;generalize L:W.pre p=l at*
  let row:Nat->Pg:=λk=>⟨((aQ x.m (k:Int)).getD eR).p,((aQ x.m (k:Int)).getD eR).c,((aQ x.m (k:Int)).getD eR).xs,((aQ x.m (k:Int)).getD eR).cur⟩
  have f:∀k,row k=⟨((aQ x.m (k:Int)).getD eR).p,((aQ x.m (k:Int)).getD eR).c,((aQ x.m (k:Int)).getD eR).xs,((aQ x.m (k:Int)).getD eR).cur⟩:=λ_=>rfl;generalize row=row at f;refine dL 2 (af (H':=ah 2 none 0 0 []::ah 1 q1 l.length c1 (nv l)::lC b W x H) (nI l.length (by omega) (λk p a c H'=>a=k/\H'=ah 2 p k c (((l.take k).map row).flatMap lj)::ah 1 q1 l.length c1 (nv l)::lC b W x H) ⟨rfl,rfl⟩ ?_));rintro k j a c' H' R Y ⟨rfl,rfl⟩ M;refine S2.go (λ_=>?_) λ_=>?_
  ·have t:a<l.length:=by omega
   have u:l[a]?=some l[a]:=bj t;generalize l[a]=m at u;refine fA a rfl t (by rw[e6,u];rfl) ?_;repeat first|apply St.go|refine Sa.go λ_=>?_|refine Sc.go rfl ?_
   have y:=f m;generalize(aQ x.m (m:Int)).getD eR=X at y⊢;rename_i Z;refine jP (ds:=(lj (row m)).toArray) (by rw[y];rfl) ?_;refine aL (ah 2 j a c') (eZ (s:=2) (c:=c') rfl (by omega) λz i=>?_);have e:((l.take (a+1)).map row).flatMap lj=((l.take a).map row).flatMap lj++(lj (row m)).toArray.toList:=by rw[ef u];simp
   rw[<-e];exact af (H':=ah 2 z (a+1) i (((l.take (a+1)).map row).flatMap lj)::ah 1 q1 l.length c1 (nv l)::lC b W x H) (M t z _ i _ ⟨rfl,rfl⟩)
  ·have hl:a=l.length:=by omega
   subst hl;rw[ix]
   have hu:(l.map row).flatMap (·.xs)=W.under p:=by unfold a6.under;rw[L,List.flatMap_map];congr 1;funext k;rw[f,ok.rg]
   have w:(l.map row).length=l.length:=by simp
   rw[show ah 2 j l.length c' ((l.map row).flatMap lj)=ah 2 j (l.map row).length c' ((l.map row).flatMap lj) by rw[w]];have:=Xf (B:=B) (H:=lC b W x H) (gs:=l.map row) (q:=j) (c':=c') (K:=λv=>i1 v λN O Q=>K (Value.tuple #[Value.slice N O Q,J 0])) ?_ (by rw[w];omega) ?_ ?_
   ·rw[w]at this⊢
    exact af this
   ·intro g d
    obtain⟨k,U,rfl⟩:=bP.1 d;rw[f];exact(Bu ok.bX).tail.tail.tail
   ·intro g d
    obtain⟨k,U,rfl⟩:=bP.1 d;rw[f];have:=ok.len (k:Int);rw[ok.rg]at this;simp only at this⊢;omega
   ·intro q' i
    rw[hu];exact St.go (af (H':=lC b W x (ah 1 q' (W.under p).length i (iv .i64 (W.under p))::H)) (jg x ok (cp (cA _ _ _) (U q' i))))
def TX{F:For}{n:Int}(k m:Nat)(h:m∈(F.drop n).ls k):m∈F.ls k:=by
 unfold For.drop at h;split at h
 ·exact(pG.1 h).1
 ·exact h
def TW{F:For}{n:Int}(p:Int)(h:(F.drop n).S.b8 p=true):F.S.b8 p=true:=by
 unfold For.drop at h;split at h
 ·rw[aT.yw,cg]at h;exact h.2
 ·exact h
def a6.Ok.jU{x:oN}(ok:W.Ok x)(k:Nat):(W.jU k).Ok {x with m:=bN (k:Int) x.m}:=by
 refine⟨ml ok.bX,λj=>?_,λp b=>EY (λk m h=>TX k m h) (ok.deep p (TW _ b)),λj=>?_,λm hm a=>?_⟩
 ·simp only[b1]
  rw[mV];split
  ·rfl
  ·exact ok.rg j
 ·simp only[b1]
  split
  ·simp
  ·exact ok.len j
 ·simp only at a⊢
  unfold For.drop at a⊢;split at a
  ·rename_i h
   rw[ag h];rw[aT.yw,vZ]at a
   have:W.F.ls m=[]:=by
    rcases a with e|e
    ·simp only[CR,bJ]at e
     have:m=k:=by omega
     subst this;have:=h.2
     rwa [aZ]at this
    ·exact ok.nil m hm e
   simp only[this,List.filter_nil]
  ·rename_i h
   rw[aj h];exact ok.nil m hm a
def X0(hr:aF r)(f:W.bs<1000)(g:W.bk r≠0->T B (cD b W::H) (K (.tuple #[.slice none 0 0,J (W.bk r)])))(U:W.bk r=0->∀q c',T B (ah 1 q (W.under (gP r)).length c' (iv .i64 (W.under (gP r)))::cD b (W.free r)::H) (K (.tuple #[.slice q (W.under (gP r)).length c',J 0]))):T B (cD b W::H) (ad P 113 #[pz b,J r] K):=by
 refine tF λc h u h1 i j=>an (Qc _ _) ?_;unfold uH;refine X4 hr f (λhe=>?_) λhe q c'=>?_
 ·repeat' first|apply St.go|refine S2.go (λ_=>?_) λ_=>?_|refine Sc.go (by omega) ?_|done
  ·exact g he
  ·contradiction
 have U:=U he q c';unfold a6.free at U;rw[ag he]at U;have o:W.kx r=gP r:=by unfold a6.kx;rw[ag he]
 refine St.go (aI (by simp) (Sc.go hr ?_));rw[o];generalize W.under (gP r)=us at*;generalize gP r=p at*;refine aL (cD b) (lD λx ok=>?_);repeat apply St.go
 refine aL (cc x.fb) ?_;unfold b2;have s:=Cz (come:=false) c h h1 i j (uJ (n:=p) c ok.deep);refine aaI (uJ c ok.deep) λq1 c1=>St.go ?_;have t:W.F.walk W.bs false p=W.post p:=rfl;rw[t]at s⊢;generalize W.post p=l at*;refine af (H':=lC b W x (ah 1 q1 l.length c1 (nv l)::ah 1 q us.length c' (iv .i64 us)::H)) (jg x ok ?_);apply dh l.length (by omega) (λk H'=>H'=cD b ((l.take k).foldl a6.jU W)::ah 1 q1 l.length c1 (nv l)::ah 1 q us.length c' (iv .i64 us)::H) rfl;rintro k H' R w rfl a;refine S2.go (λ_=>?_) λ_=>?_
 ·have d:k<l.length:=by omega
  have e:l[k]?=some l[k]:=bj d;generalize l[k]=m at e;refine fA k rfl d (by rw[e6,e];rfl) ?_;have a:=a d;rw[ef e,wh]at a;generalize(l.take k).foldl a6.jU W=Z at a⊢;refine aL (cD b) (lD λx ok=>?_);repeat apply St.go
  refine aL (cc x.fb) ?_;unfold aS;refine Wz λv=>?_;apply St.go;refine aL (cQ fE) (Xc (k:=(m:Int)) (z:=eR) yj ok.bX ?_);refine af (H':=lC b (Z.jU m) {x with m:=bN (m:Int) x.m} (ah 1 q1 l.length c1 (nv l)::ah 1 q us.length c' (iv .i64 us)::H)) (jg _ (ok.jU m) ?_);exact a _ rfl
 ·have hl:k=l.length:=by omega
  subst hl;rw[ix];exact af U
def a6.roots(W:a6)(c:Int):Nat:=((W.F.ls 4096).filter λp:Nat=>(W.rg (p:Int)).aO==c).length
def X2(U:∀q c',T B (cD b W::H) (K (.slice q (W.roots c) c'))):T B (cD b W::H) (ad P 101 #[pz b,J c] K):=by
 refine tF λw z A h1 C t=>an (Qf _ _) ?_;repeat apply St.go
 refine aL (cD b) (lD λx ok=>?_);refine St.go (aL (cc x.fb) ?_);unfold b2;refine WD λq1 c1=>St.go ?_;have u:=h1 4096;have g:=t 4096;have hlen:=nT 4096 u λx d=>(g x d).2;unfold a6.roots at U;generalize W.F.ls 4096=l at*;refine dL 1 ?_;refine af (H':=ah 1 none 0 0 []::ah 1 q1 l.length c1 (iv .i64 (l.map Int.ofNat))::lC b W x H) ?_;refine nI l.length (by omega) (λk p n c' H'=>n=((l.take k).filter λp:Nat=>(W.rg (p:Int)).aO==c).length/\∃ys:aN,H'=ah 1 p n c' (iv .i64 ys)::ah 1 q1 l.length c1 (iv .i64 (l.map Int.ofNat))::lC b W x H) ⟨rfl,[],rfl⟩ ?_;rintro k p n c' H' R D ⟨rfl,ys,rfl⟩ a;have E:((l.take k).filter λp:Nat=>(W.rg (p:Int)).aO==c).length<=k:=lN (zh _ _) (by rw[fv];omega);refine S2.go (λ_=>?_) λ_=>?_
 ·have e:k<l.length:=by omega
  have d:l[k]?=some l[k]:=bj e;generalize l[k]=m at d;have hm:=g m (cr d);refine fA (zs:=l.map Int.ofNat) k rfl e (x:=(m:Int)) (by rw[e6,d];rfl) ?_;have a:=a e;rw[ef d,nt]at a;have h:=ok.rg (m:Int);repeat' first|apply St.go|refine S2.go (λ_=>?_) λ_=>?_|done
  ·rename_i f
   have hf:([m].filter λp:Nat=>(W.rg (p:Int)).aO==c)=[m]:=by rw[nw (by simpa[h]using f)];rfl
   rw[hf,b']at a;generalize((l.take k).filter λp:Nat=>(W.rg (p:Int)).aO==c).length=n0 at*;refine aL (cc x.fb) (mM λy i=>?_);apply St.go;refine Sc.go ⟨by omega,by rw[i.b7];omega⟩ ?_;repeat first|apply St.go|refine Sa.go λ_=>?_
   refine aL (ah 1 p n0 c') (eZ (s:=1) (c:=c') rfl (by omega) λj o=>?_);obtain⟨zs,v⟩:∃zs:aN,iv .i64 ys++(#[J (if fK 2 (m:Int) (W.F.S.gen m) 0=0 then dM 2 (m:Int) (W.F.S.gen m) 0 else 0)]:aw).toList=iv .i64 zs:=⟨ys++[_],by simp[iv];rfl⟩;rw[v];have:=a j _ o _ ⟨rfl,zs,rfl⟩;refine af (H':=sV x.fb W.F y (ah 1 j (n0+1) o (iv .i64 zs)::ah 1 q1 l.length c1 (iv .i64 (l.map Int.ofNat))::cl b #[pz x.fb,.map (some x.r)]::MP gT x.r x.m::cQ fE x.m::H)) (ky y i ?_);exact af this
  ·rename_i f
   have hf:([m].filter λp:Nat=>(W.rg (p:Int)).aO==c)=[]:=by rw[nu (by simpa[h]using f)];rfl
   rw[hf,j9]at a;have:=a p _ c' _ ⟨rfl,ys,rfl⟩;exact af this
 ·have hl:k=l.length:=by omega
  subst hl;rw[ix];exact af (H':=lC b W x H) (jg x ok (U p c'))
def X1(U:∀b,T B (cD b a6.new::H) (K (pz b))):T B H (ad P 34 #[] K):=by
 apply an (P9);unfold di;refine WA λfb=>?_;repeat first|apply St.go|refine Sa.go λ_=>?_
 rename_i r b;refine bL (q:=IM r λ_=>none) (iT gT ?_);have:=jg ⟨fb,r,[]⟩ ⟨by simp[bQ,a7,ed],λk=>rfl,λp a=>by simp[a6.new,aT.new,aT.b8,aQ]at a,λk=>by simp[a6.new],λm _ _=>rfl⟩ (U b);refine jQ (Hs:=[]) ?_;exact af (H':=cl b #[pz fb,.map (some r)]::cc fb For.new::MP gT r []::eA []::H) this
end
