/- Lemmas that lead to TopWhole (their names made short by a program); no condition. -/
import Derived.Test.YtlmgompopkamfaaGreatDoorLK
set_option linter.all false
set_option maxRecDepth 20000
set_option synthInstance.checkSynthOrder false
namespace Go.Proofs.YtlmgompopkamfaaGreatDoor
section
open Go.XS Go.bn
def takeN(o:Int):Nat->aH->aH×aO
 |0,S=>(S,[])
 |n+1,S=>((takeN o n S).1.take o,(takeN o n S).2++[(takeN o n S).1.du])
def vx(o:Int)(S:aH):∀n,n<=S.free.length->(takeN o n S).1.free.length=S.free.length-n/\(takeN o n S).1.br=S.br+n/\(takeN o n S).2.length=n
 |0,h=>⟨rfl,rfl,rfl⟩
 |n+1,h=>by
  obtain⟨U,b,c⟩:=vx o S n (by omega);have a:(takeN o n S).1.free≠[]:=by intro e;rw[e]at U;simp at U;omega
  unfold takeN;unfold aH.take;rw[ak a];simp only[List.length_dropLast,cr,dd,gH];omega
def aL.mK(X:aL)(t:Tk)(c:Int):aL:=
 {X with S:=(takeN (t.aM+1) t.count.toNat X.S).1,pu:=b2 X.pu t.aM (X.pu t.aM++(takeN (t.aM+1) t.count.toNat X.S).2),L:=X.L.bM .ct c t.count,Q:=X.Q.drop t.id,T:=X.T.bM (c8 · 2) check t.id}
structure aL.tU(X:aL)(t:Tk)(c:Int):Prop where
 bw:0<=t.count/\t.count.toNat<=X.S.free.length
 cl:0<=t.aM/\t.aM<64
 br:X.S.br+t.count.toNat<900000
 id:aF t.id
 hc:aF c
 ld:X.L.cN .ct c t.count=0
 q:∃e∈X.Q.L,e.1=t.id
 tk:X.T.cN (c8 · 2) check t.id=0
instance {z:Pz}:nm fV (.slice z.ptr z.xs.length z.c) z:=⟨rfl⟩
section
variable {B:Heap}{H H0:au}{K:aK}{b:Nat}{X:aL}{c n i:Int}{t:Tk}
def KV(g:X.tU t c)(I:T B (bR b (X.mK t c)::H) (K (D 0))):T B (bR b X::H) (ab P 207 #[pz b,.agg (aE t).toArray,D c] K):=by
 apply an (Mg _ _ _);have u:=g.br;have M:=g.cl;obtain⟨N,v⟩:∃N:Nat,t.count=N:=⟨t.count.toNat,by have:=g.bw.1;omega⟩;have w:=g.bw.2;refine fg λx ok=>Sa.go λaa=>J.go ?_;have h:t.count.toNat=N:=by omega
 rw[h]at w u
 conv=>rw[v]
 refine cF N (by omega) (λk H'=>∃a:ML Pz,bS a/\(∀j,((aS a j).getD ed).xs=b2 X.pu t.aM (X.pu t.aM++(takeN (t.aM+1) k X.S).2) j)/\
  H'=cl aa (aE t).toArray::cl b (hn x)::bx x.lb X.L::cj x.sb (takeN (t.aM+1) k X.S).1::dC x.rb x.sb X.R::dE x.tb X.T::eR x.qb X.Q::MP fV x.r a::dS a::H) ?_ ?_
 ·refine⟨x.m,ok.bV,λj=>?_,rfl⟩
  unfold b2 takeN;rw[je,<-ok.pu];split
  ·rename_i e;rw[e]
  ·rfl
 rintro k H' R O ⟨a,hs,i,rfl⟩ y;obtain⟨U,z,A⟩:=vx (t.aM+1) X.S k (by omega);have hlen:=ok.len t.aM;repeat' first|apply J.go|refine S2.go (λ_=>?_) λ_=>?_|done
 ·have C:k<N:=by omega
  have o:(takeN (t.aM+1) k X.S).1.free≠[]:=by intro e;rw[e]at U;simp at U;omega
  rw[bd (by omega)];refine Sc.go ⟨by omega,by omega⟩ ?_;rw[ak o,ak o];have p:((aS a t.aM).getD ed).xs=X.pu t.aM++(takeN (t.aM+1) k X.S).2:=by rw[i];unfold b2;rw[ah rfl]
  have s:((aS a t.aM).getD ed).xs.length<1000000:=by rw[p,cr];omega
  have fin:∀d:Pz,d.xs=((aS a t.aM).getD ed).xs++[(takeN (t.aM+1) k X.S).1.du]->
    T B (dS (bE t.aM d a)::cl aa (aE t).toArray::cl b (hn x)::bx x.lb X.L::cj x.sb ((takeN (t.aM+1) k X.S).1.take (t.aM+1))::dC x.rb x.sb X.R::dE x.tb X.T::eR x.qb X.Q::MP fV x.r (bE t.aM d a)::H) (R [D (IntKind.wrap .i64 ((k:Int)+1))]):=by
   intro d f;refine af (H':=cl aa (aE t).toArray::cl b (hn x)::bx x.lb X.L::cj x.sb ((takeN (t.aM+1) k X.S).1.take (t.aM+1))::dC x.rb x.sb X.R::dE x.tb X.T::eR x.qb X.Q::MP fV x.r (bE t.aM d a)::dS (bE t.aM d a)::H) ?_;refine y C _ ⟨_,fA hs,λj=>?_,rfl⟩;rw[gR hs];unfold b2;split
   ·rw[fC,f,p,er];rfl
   ·rename_i e;rw[i];unfold b2;rw[ak e]
  repeat apply J.go
  refine fO ?_ ?_
  ·repeat first|apply J.go|refine Sa.go λ_=>?_
   rename_i l;refine af (H':=dS a::cl l #[D (takeN (t.aM+1) k X.S).1.du]::cl aa (aE t).toArray::cl b (hn x)::bx x.lb X.L::cj x.sb ((takeN (t.aM+1) k X.S).1.take (t.aM+1))::dC x.rb x.sb X.R::dE x.tb X.T::eR x.qb X.Q::MP fV x.r a::H) (GY hs s λd f=>?_);repeat apply J.go
   exact af (H':=hR d::dS (bO t.aM a)::cl aa (aE t).toArray::cl b (hn x)::bx x.lb X.L::cj x.sb ((takeN (t.aM+1) k X.S).1.take (t.aM+1))::dC x.rb x.sb X.R::dE x.tb X.T::eR x.qb X.Q::MP fV x.r (bE t.aM d a)::H) (Bm hs (fin d f))
  ·repeat first|apply J.go|refine Sa.go λ_=>?_
   rename_i l;refine af (H':=dS a::cl l #[D (takeN (t.aM+1) k X.S).1.du]::cl aa (aE t).toArray::cl b (hn x)::bx x.lb X.L::cj x.sb ((takeN (t.aM+1) k X.S).1.take (t.aM+1))::dC x.rb x.sb X.R::dE x.tb X.T::eR x.qb X.Q::MP fV x.r a::H) (GY hs s λd f=>?_);repeat apply J.go
   exact af (H':=hR d::dS (bO t.aM a)::cl aa (aE t).toArray::cl b (hn x)::bx x.lb X.L::cj x.sb ((takeN (t.aM+1) k X.S).1.take (t.aM+1))::dC x.rb x.sb X.R::dE x.tb X.T::eR x.qb X.Q::MP fV x.r (bE t.aM d a)::H) (Bm hs (fin d f))
 ·have hl:k=N:=by omega
  subst hl;have hc:=g.hc;have hid:=g.id;have E:=g.ld;have V:=g.q;have F:=g.tk;rw[show aE t=[D t.id,D t.aM,D t.count,D t.state,D t.b1]from rfl];repeat' first|apply J.go|refine S2.go (λ_=>?_) λ_=>?_|refine Sc.go (by omega) ?_|done
  ·rename_i G
   exact absurd E G
  rw[F]
  have n:(X.mK t c).Ok {x with m:=a}:=by
   refine⟨hs,λj=>?_,λj=>?_⟩
   ·rw[i];unfold aL.mK;rw[h]
   ·unfold aL.mK
    rw[h];simp only[z];unfold b2;split
    ·rw[cr,A];omega
    ·have:=ok.len j;omega
  unfold aL.mK at I n;rw[h]at I n;exact af (dB {x with m:=a} n I)
end
end
section
open Go.XS Go.bn
def a6.rE(T:a6)(i:Int):Nat->a6
 |0=>T
 |n+1=>(T.rE i n).bM j3 kx i
abbrev a6.u7(T:a6)(t:Tk):a6:=T.rE t.id (t.b1-(T.get t.id).b1).toNat
def a6.iD(T:a6)(l:List Tk):a6:=l.foldl a6.u7 T
def a6.W6(T:a6)(l:List Tk)(t:Tk):T.iD (l++[t])=(T.iD l).u7 t:=by simp[a6.iD]
abbrev aL.w9(X:aL)(t:Tk):aL:=X.mK t (X.L.handle t.aM)
def aL.h8(X:aL)(l:List Tk):aL:=l.foldl aL.w9 X
def aL.Ff(X:aL)(l:List Tk)(t:Tk):X.h8 (l++[t])=(X.h8 l).w9 t:=by simp[aL.h8]
namespace aL
abbrev bp(X:aL):aL:={X with R:=X.R.tick,S:=vA X.R X.S}
def cn(X:aL):b4:=roundOf X.T.cZ (X.S.many 0) X.R.line.xs.length X.L.av.members
abbrev tq(X:aL)(r:b4):aL:={X with T:=X.T.iD (r.gs++r.ls)}
def tick(X:aL):aL:=(X.bp.tq X.bp.cn).h8 X.bp.cn.gs
structure zo(X:aL):Prop where
 fits:X.R.line.Fits X.S
 br:X.S.br+X.R.line.xs.length<800000
 dx:0<=X.R.dx/\X.R.dx<1000000
 cn:∃n,b4.Fit ⟨[],X.T.cZ,X.L.av.members,X.bp.S.many 0⟩ n
 len:X.bp.cn.gs.length+X.bp.cn.ls.length<100000
 pass:∀k t,(X.bp.cn.gs++X.bp.cn.ls)[k]?=some t->aF t.id/\0<=t.b1/\t.b1<2000000000000/\0<=((X.T.iD ((X.bp.cn.gs++X.bp.cn.ls).take k)).get t.id).b1/\((X.T.iD ((X.bp.cn.gs++X.bp.cn.ls).take k)).get t.id).b1<2000000000000
 mK:∀k t,X.bp.cn.gs[k]?=some t->tU ((X.bp.tq X.bp.cn).h8 (X.bp.cn.gs.take k)) t (((X.bp.tq X.bp.cn).h8 (X.bp.cn.gs.take k)).L.handle t.aM)
end aL
section
variable {B:Heap}{H H0:au}{K:aK}{b:Nat}{X:aL}{c n i:Int}{t:Tk}
def KT(g:X.zo)(I:∀q c',T B (bR b X.tick::ai 1 q X.bp.cn.gs.length c' (iv .i64 (X.bp.cn.gs.map (·.id)))::H) (K (.tuple #[.slice q X.bp.cn.gs.length c',D X.R.many,D 0]))):T B (bR b X::H) (ab P 120 #[pz b] K):=by
 apply an (L9 _);have ar:=g.br;obtain⟨au,w⟩:=g.cn;repeat apply J.go
 refine aN (bR b) (fg λx ok=>?_);refine J.go (KU ok λq l c' ys hl W=>J.go (J.go ?_));refine af (H':=dC x.rb x.sb X.R::cj x.sb X.S::ai 1 q l c' (iv .i64 ys)::cl b (hn x)::bx x.lb X.L::dE x.tb X.T::eR x.qb X.Q::MP fV x.r x.m::dS x.m::H) ?_;refine XB hl W g.fits (by omega) g.dx λq1 c1=>?_;apply J.go;apply aD (by simp);refine J.go (Sa.go λf=>?_)
 have hw:(gZ X.S (X.R.line.xs.take X.R.many)).br=X.S.br+(X.R.line.xs.take X.R.many).length:=by
  clear w;generalize X.R.line.xs.take X.R.many=l;generalize X.S=S
  induction l generalizing S with
  |nil=>rfl
  |cons i l aa=>have:gZ S (i::l)=gZ (S.fX i) l:=rfl;rw[this,aa];simp[aH.fX];omega
 have ac:X.bp.Ok x:=ok.with rfl (by show X.S.br<=(vA X.R X.S).br;unfold vA;omega);apply J.go;have C:roundOf X.T.cZ (X.bp.S.many 0) X.bp.R.line.xs.length X.L.av.members=X.bp.cn:=rfl
 refine dV (α:=Nat×qO) (λa=>cl a.1 #[.slice a.2.pg X.bp.cn.gs.length a.2.cv,.slice a.2.pl X.bp.cn.ls.length a.2.cl,.slice a.2.pm X.bp.cn.ms.length a.2.cm,D X.bp.cn.free]::
  ai 5 a.2.pg X.bp.cn.gs.length a.2.cv (X.bp.cn.gs.flatMap aE)::ai 5 a.2.pl X.bp.cn.ls.length a.2.cl (X.bp.cn.ls.flatMap aE)::ew b X.bp x H) (λa=>[.pointer (some (ag a.1 0))]) (λad v=>?_) λa=>?_
 ·refine af (H':=ai 5 f.1 X.T.cZ.length f.2 (X.T.cZ.flatMap aE)::ew b X.bp x H) ?_
  repeat apply J.go
  refine fO ?_ ?_
  ·repeat first|apply J.go|refine Sc.go (by omega) ?_
   refine fO ?_ ?_
   ·repeat first|apply J.go|refine Sa.go λ_=>?_
    refine fO ?_ ?_
    ·repeat first|apply J.go|refine Sa.go λ_=>?_
     rename_i me;refine fO ?_ ?_
     ·skip
      refine af (H':=ai 5 f.1 X.T.cZ.length f.2 (X.T.cZ.flatMap aE)::ai 4 me.1 X.L.av.members.length me.2 (aW X.L.av.members)::ew b X.bp x H) (uE w λy=>?_);rw[C];repeat first|apply J.go|refine Sa.go λ_=>?_|refine Sc.go ⟨rfl,rfl⟩ ?_
      rename_i d;exact af (v (d,y))
     ·repeat first|apply J.go|refine Sa.go λ_=>?_
      rename_i d;refine af (H':=ai 5 f.1 X.T.cZ.length f.2 (X.T.cZ.flatMap aE)::ai 4 me.1 X.L.av.members.length me.2 (aW X.L.av.members)::cl d #[Value.slice none 0 0,Value.slice none 0 0,Value.slice none 0 0,D 0]::ew b X.bp x H) (uE w λy=>?_);rw[C];repeat first|apply J.go|refine Sc.go ⟨rfl,rfl⟩ ?_
      exact af (v (d,y))
    ·repeat first|apply J.go|refine Sa.go λ_=>?_
     rename_i d me;refine af (H':=ai 5 f.1 X.T.cZ.length f.2 (X.T.cZ.flatMap aE)::ai 4 me.1 X.L.av.members.length me.2 (aW X.L.av.members)::cl d #[Value.slice none 0 0,Value.slice none 0 0,Value.slice none 0 0,D 0]::ew b X.bp x H) (uE w λy=>?_);rw[C];repeat first|apply J.go|refine Sc.go ⟨rfl,rfl⟩ ?_
     exact af (v (d,y))
   ·repeat first|apply J.go|refine Sa.go λ_=>?_
    rename_i d _ me;refine af (H':=ai 5 f.1 X.T.cZ.length f.2 (X.T.cZ.flatMap aE)::ai 4 me.1 X.L.av.members.length me.2 (aW X.L.av.members)::cl d #[Value.slice none 0 0,Value.slice none 0 0,Value.slice none 0 0,D 0]::ew b X.bp x H) (uE w λy=>?_);rw[C];repeat first|apply J.go|refine Sc.go ⟨rfl,rfl⟩ ?_
    exact af (v (d,y))
  ·repeat first|apply J.go|refine Sa.go λ_=>?_|refine Sc.go (by omega) ?_
   rename_i d _ me;refine af (H':=ai 5 f.1 X.T.cZ.length f.2 (X.T.cZ.flatMap aE)::ai 4 me.1 X.L.av.members.length me.2 (aW X.L.av.members)::cl d #[Value.slice none 0 0,Value.slice none 0 0,Value.slice none 0 0,D 0]::ew b X.bp x H) (uE w λy=>?_);rw[C];repeat first|apply J.go|refine Sc.go ⟨rfl,rfl⟩ ?_
   exact af (v (d,y))
 ·obtain⟨n,y⟩:=a
  simp only;have aw:=g.len;have ae:=g.pass;have M:=g.mK;generalize N:X.bp.cn.gs=gs at*;generalize ah:X.bp.cn.ls=ls at*;refine J.go (J.go (J.go (Sa.go λaj=>?_)));refine af (H':=q5 aj y.pg y.pl y.cv y.cl gs ls (ew b X.bp x (cl n #[.slice y.pg gs.length y.cv,.slice y.pl ls.length y.cl,.slice y.pm X.bp.cn.ms.length y.cm,D X.bp.cn.free]::H))) (Y8 (by omega) (by omega) λp c1=>J.go (af (H':=ew b X.bp x (ai 5 p (gs.length+ls.length) c1 ((gs++ls).flatMap aE)::ai 5 y.pg gs.length y.cv (gs.flatMap aE)::cl n #[.slice y.pg gs.length y.cv,.slice y.pl ls.length y.cl,.slice y.pm X.bp.cn.ms.length y.cm,D X.bp.cn.free]::H)) (dB x ac ?_)));apply cF (gs.length+ls.length) (by omega) (λk H'=>H'=bR b {X.bp with T:=X.T.iD ((gs++ls).take k)}::ai 5 p (gs.length+ls.length) c1 ((gs++ls).flatMap aE)::ai 5 y.pg gs.length y.cv (gs.flatMap aE)::cl n #[.slice y.pg gs.length y.cv,.slice y.pl ls.length y.cl,.slice y.pm X.bp.cn.ms.length y.cm,D X.bp.cn.free]::H) rfl;rintro k H' R ak rfl z;repeat' first|apply J.go|refine S2.go (λ_=>?_) λ_=>?_|done
  ·have E:k<(gs++ls).length:=by rw[cr];omega
   have u:(gs++ls)[k]?=some (gs++ls)[k]:=ba E;generalize(gs++ls)[k]=t at u;obtain⟨ay,az,aA,aB,aC⟩:=ae k t u;rw[dQ u]at z;generalize al:X.T.iD ((gs++ls).take k)=T' at*;rw[a6.W6,al]at z;refine dO ep (by omega) k rfl (by omega) u (Sa.go λA=>Sc.go ⟨rfl,rfl⟩ (dV (α:=Nat) (λa=>cl a (aE (T'.get t.id)).toArray::cl A (aE t).toArray::bR b {X.bp with T:=T'}::ai 5 p (gs.length+ls.length) c1 ((gs++ls).flatMap aE)::ai 5 y.pg gs.length y.cv (gs.flatMap aE)::cl n #[.slice y.pg gs.length y.cv,.slice y.pl ls.length y.cl,.slice y.pm X.bp.cn.ms.length y.cm,D X.bp.cn.free]::H) (λa=>[.pointer (some (ag a 0))]) (λad v=>?_) λa=>?_))
   ·refine aN (bR b) (fg λh gf=>?_)
    repeat apply J.go
    refine fO ?_ ?_
    ·repeat first|apply J.go|refine Sa.go λ_=>?_|refine Sc.go (by first|omega|exact⟨rfl,rfl⟩) ?_
     rename_i F;exact af (H':=ew b {X.bp with T:=T'} h (cl F (aE (T'.get t.id)).toArray::cl A (aE t).toArray::ai 5 p (gs.length+ls.length) c1 ((gs++ls).flatMap aE)::ai 5 y.pg gs.length y.cv (gs.flatMap aE)::cl n #[.slice y.pg gs.length y.cv,.slice y.pl ls.length y.cl,.slice y.pm X.bp.cn.ms.length y.cm,D X.bp.cn.free]::H)) (dB h gf (af (v F)))
    ·repeat first|apply J.go|refine Sa.go λ_=>?_|refine Sc.go (by first|omega|exact⟨rfl,rfl⟩) ?_
     rename_i F;exact af (H':=ew b {X.bp with T:=T'} h (cl F (aE (T'.get t.id)).toArray::cl A (aE t).toArray::ai 5 p (gs.length+ls.length) c1 ((gs++ls).flatMap aE)::ai 5 y.pg gs.length y.cv (gs.flatMap aE)::cl n #[.slice y.pg gs.length y.cv,.slice y.pl ls.length y.cl,.slice y.pm X.bp.cn.ms.length y.cm,D X.bp.cn.free]::H)) (dB h gf (af (v F)))
   ·repeat apply J.go
    rw[bd (by omega)];refine af (H':=bR b {X.bp with T:=T'}::cl A (aE t).toArray::ai 5 p (gs.length+ls.length) c1 ((gs++ls).flatMap aE)::ai 5 y.pg gs.length y.cv (gs.flatMap aE)::cl n #[.slice y.pg gs.length y.cv,.slice y.pl ls.length y.cl,.slice y.pm X.bp.cn.ms.length y.cm,D X.bp.cn.free]::H) (cF (t.b1-(T'.get t.id).b1).toNat (by omega) (λj H'=>H'=bR b {X.bp with T:=T'.rE t.id j}::cl A (aE t).toArray::ai 5 p (gs.length+ls.length) c1 ((gs++ls).flatMap aE)::ai 5 y.pg gs.length y.cv (gs.flatMap aE)::cl n #[.slice y.pg gs.length y.cv,.slice y.pl ls.length y.cl,.slice y.pm X.bp.cn.ms.length y.cm,D X.bp.cn.free]::H) rfl ?_);rintro j H' aF aG rfl am;refine S2.go (λ_=>?_) λ_=>?_
    ·refine aN (bR b) (fg λh gf=>?_)
     repeat first|apply J.go|refine Sc.go (by omega) ?_
     refine af (H':=ew b {X.bp with T:=(T'.rE t.id j).bM j3 kx t.id} h (cl A (aE t).toArray::ai 5 p (gs.length+ls.length) c1 ((gs++ls).flatMap aE)::ai 5 y.pg gs.length y.cv (gs.flatMap aE)::cl n #[.slice y.pg gs.length y.cv,.slice y.pl ls.length y.cl,.slice y.pm X.bp.cn.ms.length y.cm,D X.bp.cn.free]::H)) (dB h ⟨gf.bV,gf.pu,gf.len⟩ ?_);exact am (by omega) _ rfl
    ·have O:j=(t.b1-(T'.get t.id).b1).toNat:=by omega
     subst O;exact af (H':=bR b {X.bp with T:=T'.u7 t}::ai 5 p (gs.length+ls.length) c1 ((gs++ls).flatMap aE)::ai 5 y.pg gs.length y.cv (gs.flatMap aE)::cl n #[.slice y.pg gs.length y.cv,.slice y.pl ls.length y.cl,.slice y.pm X.bp.cn.ms.length y.cm,D X.bp.cn.free]::H) (z (by omega) _ rfl)
  ·have aI:k=gs.length+ls.length:=by omega
   have e:(gs++ls).take k=gs++ls:=j7 (by rw[cr];omega);rw[e];have U:X.bp.tq X.bp.cn={X.bp with T:=X.T.iD (gs++ls)}:=by rw[<-N,<-ah]
   have ao:X.tick=aL.h8 {X.bp with T:=X.T.iD (gs++ls)} gs:=by unfold aL.tick;rw[U,N]
   rw[U]at M;rw[ao]at I;generalize({X.bp with T:=X.T.iD (gs++ls)}:aL)=Y at*;refine dR 1 (af (H':=ai 1 none 0 0 []::bR b Y::ai 5 y.pg gs.length y.cv (gs.flatMap aE)::H) (oH gs.length (by omega) (λk p l c H'=>l=k/\H'=ai 1 p k c (iv .i64 ((gs.take k).map (·.id)))::bR b (Y.h8 (gs.take k))::ai 5 y.pg gs.length y.cv (gs.flatMap aE)::H) ⟨rfl,rfl⟩ ?_));rintro k p l c H' R ak ⟨rfl,rfl⟩ z;refine S2.go (λ_=>?_) λ_=>?_
   ·have E:l<gs.length:=by omega
    have u:gs[l]?=some gs[l]:=ba E;generalize gs[l]=t at u;have ap:=M l t u;rw[dQ u,aL.Ff,e6]at z;generalize aJ:Y.h8 (gs.take l)=Z at*;refine dO ep (by omega) l rfl E u (Sa.go λG=>Sc.go ⟨rfl,rfl⟩ (aN (bR b) (fg λh gf=>?_)));apply J.go;apply bI (b:=G) (cs:=(aE t).toArray) rfl;refine J.go (J.go (J.go ?_));apply J.go;refine af (H':=cl G (aE t).toArray::ew b Z h (ai 1 p l c (iv .i64 ((gs.take l).map (·.id)))::ai 5 y.pg gs.length y.cv (gs.flatMap aE)::H)) ?_;have hC:bY B (cl G (aE t).toArray::ew b Z h (ai 1 p l c (iv .i64 ((gs.take l).map (·.id)))::ai 5 y.pg gs.length y.cv (gs.flatMap aE)::H)) G (aE t).toArray:=inferInstance;refine fF (λσ o=>⟨_,rfl,rfl,λj O=>?_⟩) ?_
    ·rw[aQ,hC.cell o,bJ]
    refine af (H':=ew b Z h (cl G (aE t).toArray::ai 1 p l c (iv .i64 ((gs.take l).map (·.id)))::ai 5 y.pg gs.length y.cv (gs.flatMap aE)::H)) (dB h gf ?_);unfold aU;apply KV ap;rw[show aE t=[D t.id,D t.aM,D t.count,D t.state,D t.b1]from rfl];repeat first|apply J.go|refine Sa.go λ_=>?_
    rename_i aK;refine aN (ai 1 p l c) (e0 (s:=1) (c:=c) rfl (by omega) λV c'=>?_);have aq:iv .i64 ((gs.take l).map (·.id))++(#[D t.id]:ax).toList=iv .i64 ((gs.take l).map (·.id)++[t].map (·.id)):=by simp[iv]
    rw[aq];exact af (H':=ai 1 V (l+1) c' (iv .i64 ((gs.take l).map (·.id)++[t].map (·.id)))::bR b (Z.w9 t)::ai 5 y.pg gs.length y.cv (gs.flatMap aE)::H) (z E V _ c' _ ⟨rfl,rfl⟩)
   ·have hl:l=gs.length:=by omega
    subst hl;rw[gA];exact af (I p c)
end
end
section
open Go.XS Go.bn
def aL.new(n m q:Nat):aL:=⟨⟨n,bK.new⟩,aH.new n m,⟨⟨n,[],0⟩,q,0⟩,a6.new,⟨[],0⟩,λ_=>[]⟩
def ui(c z q l:Int):Bool:=oW c z&&s' q l
section
variable {B:Heap}{H H0:au}{K:aK}{b:Nat}{X:aL}{c n i:Int}{t:Tk}
def KQ{z q l:Int}(a:ui c z q l=false->T B H (K (.tuple #[.pointer none,D 2])))(d:∀(n m q':Nat) b,c=n->z=m->q=q'->1<=n->n<=1048576->64<=m->m<=1048576->1<=q'->q'<=1048576->T B (bR b (aL.new n m q')::H) (K (.tuple #[pz b,D 0]))):T B H (ab P 33 #[.agg #[D c,D z,D q,D l]] K):=by
 refine an (Ml _) (Sa.go λaa=>J.go (J.go ?_));unfold iZ;refine ZZ (λh=>?_) λn m sb e hm n1 n2 m1 m2 f=>?_
 ·repeat first|apply J.go|refine bk (by with_reducible decide) ?_
  exact af (a (by unfold ui;rw[h];rfl))
 have i:oW c z=true:=by unfold oW;rw[f];simp;omega
 refine J.go (aD (by simp) (J.go (J.go ?_)));refine XA (λh=>?_) λq' rb g q1 q2=>?_
 ·repeat first|apply J.go|refine bk (by with_reducible decide) ?_
  exact af (a (by unfold ui;rw[h];simp))
 refine J.go (aD (by simp) (J.go ?_));subst e hm g;unfold dq;refine Vo (by omega) (by omega) λlb=>?_;repeat first|apply J.go|refine Sa.go λ_=>?_
 rename_i tb qb r b;refine bL (q:=IM r λ_=>none) (iQ fV ?_);have aP:(aL.new n m q').Ok ⟨lb,sb,rb,tb,qb,r,[]⟩:=⟨by simp[bS,bb,eu],λk=>rfl,λk=>by simp[aL.new]⟩;have:=dB _ aP (d n m q' b rfl rfl rfl n1 n2 m1 m2 q1 q2);simp only[ew,aL.new]at this;rw[show dS []=eG []from rfl]at this;refine jQ (Hs:=[]) ?_;rw[show(aH.new n m).cs.length=n by simp[aH.new]];exact af this
def KS(I:∀q1 y (me a:aw×Nat),T B (bR b X::ai 3 (some ⟨q1,0,none⟩) X.S.cs.length X.S.cs.length (X.S.cs.flatMap dc)::rN 1 y X.R.line.xs.length (iv .i64 X.R.line.xs)::ai 4 me.1 X.L.av.members.length me.2 (aW X.L.av.members)::ai 5 a.1 X.T.cZ.length a.2 (X.T.cZ.flatMap aE)::H) (K (.agg #[D X.R.dx,.slice (some ⟨q1,0,none⟩) X.S.cs.length X.S.cs.length,.slice y X.R.line.xs.length X.R.line.xs.length,.slice me.1 X.L.av.members.length me.2,.slice a.1 X.T.cZ.length a.2,.slice none 0 0]))):T B (bR b X::H) (ab P 19 #[pz b] K):=by
 apply an (L7 _);repeat first|apply J.go|refine Sa.go λ_=>?_
 refine aN (bR b) (fg λx ok=>?_);repeat first|apply J.go|refine Sa.go λ_=>?_|refine Sc.go (by first|rfl|exact⟨rfl,rfl⟩) ?_
 rename_i aa q1 y me a;have:=I q1 y me a;exact af (dB x ok this)
end
end
section
open Go.XS Go.bn
def aV.Ok.xS{S:aV}(h:S.Ok)(a:S.pick.2.2=true):S.b7 S.pick.2.1=false:=by
 unfold aV.b7
 cases b:aS S.cP S.pick.2.1 with
 |none=>rfl
 |some v=>
  exfalso;have:=h.op _ (jv b);simp only at this;unfold aV.pick at this a
  cases hc:S.closed.getLast? with
  |some p=>rw[hc]at this;exact this.2.2.2 (y3 hc)
  |none=>
   rw[hc]at this a;simp only at this a;split at a
   ·rename_i hf
    rw[ah hf]at this;simp only at this;omega
   ·cases a
def aV.Ok.A6{S:aV}(h:S.Ok)(a:S.gg=true)(j:Int):S.opened.b7 j=(decide (j=S.cM)||S.b7 j):=by
 unfold aV.gg at a;unfold aV.opened aV.cM;rw[ah a,ah a];unfold aV.b7;simp only;rw[gR h.bV];by_cases e:j=S.pick.2.1
 ·simp[e]
 ·simp[e]
def aV.yj{S:aV}(p j:Int):(S.shut p).b7 j=(!decide (j=p)&&S.b7 j):=by
 unfold aV.shut aV.b7;simp only;rw[mR];by_cases e:j=p
 ·simp[e]
 ·simp[e]
structure For where
 S:aV
 ls:Nat->List Nat
structure we where
 sb:Nat
 cb:Nat
 pb:Nat
 ps:aO
abbrev sL(b:Nat)(F:For)(x:we)(H:au):au:=
 cl b #[pz x.sb,pz x.cb,.slice (some ⟨x.pb,0,none⟩) 4096 4096]::fz x.sb F.S::dP x.cb ⟨4097,4096,F.ls⟩::cl x.pb (iv .i64 x.ps).toArray::H
structure For.Ok(F:For)(x:we):Prop where
 ps:x.ps.length=4096
 b6:F.S.b6.length=4096
 op:∀p:Nat,F.S.b7 p=true↔∃k,p∈F.ls k
def cc(b:Nat)(F:For):bg:=BD F.Ok (sL b F)
namespace For
abbrev new:For:=⟨aV.new 4096,λ_=>[]⟩
def first(F:For)(n:Int):Int:=if F.S.b7 n then bU (F.ls n.toNat)else-1
def add(F:For)(k:Nat):For:=if F.S.gg then⟨F.S.opened,up F.ls k (F.ls k++[F.S.cM.toNat])⟩else F
def drop(F:For)(n:Int):For:=if F.S.b7 n=true/\F.ls n.toNat=[]then⟨F.S.shut n,λk=>(F.ls k).filter (·≠n.toNat)⟩else F
end For
section
variable {B:Heap}{H H0:au}{K:aK}{b:Nat}{F:For}{n g:Int}
def mJ{q:HP}(t:∀x,F.Ok x->T B (sL b F x H) q):T B (cc b F::H) q:=mz (λ_ _=>rfl) t
def ko{q:HP}(x:we)(h:F.Ok x)(t:T B (cc b F::H) q):T B (sL b F x H) q:=my x h (λ_ _=>rfl) t
def Y5{S:aV}{q:HP}(t:S.Ok->T B (fz b S::H) q):T B (fz b S::H) q:=n5 λx h=>kA x h (t h)
def Tj{C:Ch}{q:HP}(t:(∀k,(C.ls k).Nodup)->(∀k k' n,n∈C.ls k->n∈C.ls k'->k=k')->(∀k n,n∈C.ls k->k<C.nl/\n<C.nn)->T B (dP b C::H) q):T B (dP b C::H) q:=lS λx h=>kR x h (t h.1.nodup h.1.q8 h.1.jm)
def rp{q:HP}(t:F.S.Ok->F.S.b6.length=4096->(∀p:Nat,F.S.b7 p=true↔∃k,p∈F.ls k)->(∀k,(F.ls k).Nodup)->(∀k k' n,n∈F.ls k->n∈F.ls k'->k=k')->(∀k n,n∈F.ls k->k<4097/\n<4096)->T B (cc b F::H) q):T B (cc b F::H) q:=by refine mJ λx ok=>aN (fz x.sb) (Y5 λa=>?_);refine aN (dP x.cb) (Tj λU c d=>?_);exact af (ko x ok (t a ok.b6 ok.op U c d))
def Ti{F:For}{x:we}(ok:F.Ok x)(b:F.S.Ok)(c:∀k n,n∈F.ls k->k<4097/\n<4096):decide (Ch.of ⟨4097,4096,F.ls⟩ n>=0)=F.S.b7 n:=by
 unfold Ch.of;by_cases a:0<=n/\n<((4096:Nat):Int)
 ·rw[ah a]
  have:=ok.op n.toNat;rw[rX a.1]at this;unfold sv
  cases hf:(List.range 4097).find? λk=>(F.ls k).contains n.toNat with
  |none=>
   rw[pA]at hf
   have d:F.S.b7 n≠true:=λh=>by obtain⟨k,I⟩:=this.1 h;exact hf k (om.2 (c k _ I).1) (by simpa using I)
   simp only[hf];cases h:F.S.b7 n
   ·rfl
   ·exact absurd h d
  |some k=>have I:=List.find?_some hf;rw[this.2 ⟨k,by simpa using I⟩];simp
 ·rw[ak a]
  cases h:F.S.b7 n
  ·rfl
  ·have:=b.lt h
   rw[ok.b6]at this;omega
instance aco[h:Ow H (cc b) F H0]:J B H (ab P 257 #[pz b] K) (T B (cc b F::H0) (K (.bool true))):=⟨by
 intro I;refine bh h.pl (mJ λx ok=>an (OB _) ?_);repeat apply J.go
 exact af (ko x ok I)⟩
instance acp{v w:Value}{p:aw}{l d:Nat}[h:bY B H b #[v,w,.slice p l d]]:J B H (ab P 259 #[pz b] K) (T B H (K (D l))):=⟨by intro I;apply an (OC _);apply J.go;exact I⟩
instance acm[h:Ow H (cc b) F H0]:J B H (ab P 275 #[pz b,D n] K) (T B (cc b F::H0) (K (.bool (F.S.b7 n)))):=⟨by
 intro I;refine bh h.pl (rp λa d e U f c=>an (Ou _ _) ?_);repeat apply J.go
 refine aN (cc b) (mJ λx ok=>?_);repeat apply J.go
 rw[Ti ok a c];exact af (ko x ok I)⟩
instance acn[h:Ow H (cc b) F H0]:J B H (ab P 274 #[pz b,D n,D g] K) (T B (cc b F::H0) (K (.bool (F.S.right n g)))):=⟨by
 intro I;refine bh h.pl (an (Ox _ _ _) ?_);repeat apply J.go
 refine aN (cc b) (mJ λx ok=>?_);repeat apply J.go
 exact af (ko x ok I)⟩
instance ack[h:Ow H (cc b) F H0]:J B H (ab P 402 #[pz b,D n] K) (T B (cc b F::H0) (K (D (F.first n)))):=⟨by
 intro I;refine bh h.pl (rp λd f g U i j=>an (Ot _ _) ?_);unfold For.first at I
 repeat' first|apply J.go|refine S2.go (λ_=>?_) λ_=>?_|done
 ·rename_i a
  rw[a]at I;exact af I
 ·rename_i a
  rw[a,ah rfl]at I;have c:=d.lt a;rw[f]at c;refine aN (cc b) (mJ λx ok=>?_);repeat apply J.go
  have e:Ch.first ⟨4097,4096,F.ls⟩ n=bU (F.ls n.toNat):=by unfold Ch.first;rw[ah ⟨c.1,by simp only;omega⟩]
  rw[e];exact af (ko x ok I)⟩
def Wn{j m:Nat}{a c:List Nat}[h:Ow H (cc b) F H0](hm:F.ls j=a++m::c)(I:T B (cc b F::H0) (K (D (bU c)))):T B H (ab P 403 #[pz b,D m] K):=by
 refine bh h.pl (an (Ov _ _) ?_);repeat apply J.go
 refine aN (cc b) (mJ λx ok=>?_);refine J.go (aN (dP x.cb) ?_);unfold aU;exact El hm (J.go (af (ko x ok I)))
def Wp(I:∀p c,T B (cc b F::ai 1 p (F.ls 4096).length c (iv .i64 ((F.ls 4096).map Int.ofNat))::H) (K (.slice p (F.ls 4096).length c))):T B (cc b F::H) (ab P 165 #[pz b] K):=by
 apply an (Oz _);repeat apply J.go
 refine aN (cc b) (mJ λx ok=>?_);repeat apply J.go
 refine aN (dP x.cb) ?_;unfold bX;refine Tl (by simp only;omega) λp c=>?_;exact J.go (af (ko x ok (I p c)))
def Gq{k:Nat}{q:Int}(o:k<4097)(I:T B (cc b (F.add k)::H) (K (.tuple #[D F.S.cM,D F.S.fT,.bool F.S.gg]))):T B (cc b F::H) (ab P 272 #[pz b,D k,D q] K):=by
 refine rp λf i l U w y=>an (OA _ _ _) ?_;unfold For.add at I;refine mJ λx ok=>?_;repeat' first|apply J.go|refine S2.go (λ_=>?_) λ_=>?_|done
 ·rename_i a
  rw[a]at I;have g:F.S.cM=0:=by unfold aV.cM;unfold aV.gg at a;rw[a];rfl
  have r:F.S.fT=0:=by unfold aV.fT;unfold aV.gg at a;rw[a];rfl
  have s:F.S.opened=F.S:=by unfold aV.opened;unfold aV.gg at a;rw[a];rfl
  rw[g,r]at I;rw[s];exact af (ko x ok I)
 ·rename_i a
  rw[ah a,a]at I;have d:F.S.pick.2.2=true:=a;have n:=f.xR d;have h:=f.xS d;have g:F.S.cM=F.S.pick.2.1:=by unfold aV.cM;rw[d];rfl
  rw[<-g]at n h;rw[i]at n;have t:=f.A6 a;have u:F.S.opened.b6=F.S.b6:=by unfold aV.opened;rw[d];exact aV.Bf.1
  generalize F.S.cM=z at*;obtain⟨m,rfl⟩:∃m:Nat,z=m:=⟨z.toNat,by omega⟩;rw[a7]at I;have v:∀k,m∉F.ls k:=λk I=>by rw[(l m).2 ⟨k,I⟩]at h;cases h
  unfold oS;refine nq (bj (by omega) ?_);rw[aQ,a7];apply eB (by simp[ok.ps];omega) rfl;have e:(iv .i64 x.ps).toArray.setIfInBounds (0+m) (D q)=(iv .i64 (x.ps.set m q)).toArray:=by rw[bJ];simp[iv,jh]
  rw[e];refine J.go (aN (dP x.cb) ?_);unfold aJ;apply zP o (by simp only;omega) v;rw[show Ch.add ⟨4097,4096,F.ls⟩ k m=⟨4097,4096,up F.ls k (F.ls k++[m])⟩from rfl];apply J.go;refine af (H':=sL b ⟨F.S.opened,up F.ls k (F.ls k++[m])⟩ ⟨x.sb,x.cb,x.pb,x.ps.set m q⟩ H) (ko _ ⟨by simpa using ok.ps,by rw[u];exact i,λp=>?_⟩ I);rw[t,tD,bz,l p];show _↔∃j,p∈up F.ls k (F.ls k++[m]) j;constructor
  ·rintro(e|⟨j,c⟩)
   ·exact⟨k,by rw[eT];have:p=m:=(by omega);simp[this]⟩
   ·refine⟨j,?_⟩
    by_cases e:j=k
    ·subst e;rw[eT];simp[c]
    ·rw[dF _ _ e];exact c
  ·rintro⟨j,c⟩
   by_cases e:j=k
   ·subst e
    rw[eT,dL]at c;rcases c with c|c
    ·exact .inr ⟨_,c⟩
    ·simp at c;exact .inl (by omega)
   ·rw[dF _ _ e]at c
    exact .inr ⟨_,c⟩
def Wo(I:T B (cc b (F.add 4096)::H) (K (.tuple #[D F.S.cM,D F.S.fT,.bool F.S.gg]))):T B (cc b F::H) (ab P 178 #[pz b] K):=by
 apply an (Oy _);repeat apply J.go
 refine aN (cc b) (mJ λx ok=>?_);repeat apply J.go
 refine af (H':=sL b F x H) (ko x ok ?_);unfold kP;exact Gq (by omega) (J.go I)
def Wj(a:F.S.b7 n=true)(I:T B (cc b (F.add n.toNat)::H) (K (.tuple #[D F.S.cM,D F.S.fT,.bool F.S.gg]))):T B (cc b F::H) (ab P 183 #[pz b,D n] K):=by
 refine rp λc d f U g i=>an (Oo _ _) ?_;have e:=c.lt a;rw[d]at e;repeat' first|apply J.go|refine S2.go (λ_=>?_) λ_=>?_|done
 ·rename_i h
  rw[a]at h;cases h
 ·obtain⟨m,rfl⟩:∃m:Nat,n=m:=⟨n.toNat,by omega⟩
  rw[a7]at I;unfold kP;exact Gq (by omega) (J.go I)
def Wk(I:∀v,T B (cc b (F.drop n)::H) (K (.bool v))):T B (cc b F::H) (ab P 192 #[pz b,D n] K):=by
 refine rp λs i l U t C=>an (Oq _ _) ?_;unfold For.drop at I;repeat' first|apply J.go|refine S2.go (λ_=>?_) λ_=>?_|done
 ·rename_i h
  rw[ak (by rw[h];simp)]at I;exact I _
 ·rename_i d
  have u:=s.lt d;rw[i]at u;obtain⟨m,rfl⟩:∃m:Nat,n=m:=⟨n.toNat,by omega⟩;rw[a7]at I;refine aN (cc b) (mJ λx ok=>?_);have e:Ch.len ⟨4097,4096,F.ls⟩ (m:Int)=((F.ls m).length:Int):=by unfold Ch.len;rw[ah ⟨by omega,by simp only;omega⟩,a7]
  repeat' first|apply J.go|refine S2.go (λ_=>?_) λ_=>?_|done
  ·rename_i h
   rw[e]at h;rw[ak (by rintro⟨_,h0⟩;rw[h0]at h;simp at h)]at I;exact af (ko x ok (I _))
  ·rename_i h
   rw[e]at h;have h0:F.ls m=[]:=kF.1 (by omega);rw[ah ⟨d,h0⟩]at I;obtain⟨j,o⟩:=(l m).1 d;obtain⟨a,c,f⟩:=vL o;refine aN (dP x.cb) ?_;unfold aJ;apply zQ f
   have w:up F.ls j (a++c)=λk=>(F.ls k).filter λx=>decide (x≠m):=by
    funext k;by_cases g:k=j
    ·subst g
     have q:=U k;rw[f]at q;rw[eT,f];have r:=dZ.1 q;have y:=fp.1 r.2.1;rw[mo,mq (by simp),qF.2,qF.2]
     ·intro z hz;simp only[bz];intro e;subst e;exact y.1 hz
     ·intro z hz;simp only[bz];intro e;subst e;exact r.2.2 z hz z (by simp) rfl
    ·rw[dF _ _ g,qF.2]
     intro z hz;simp only[bz];intro A;subst A;exact g (t _ _ _ hz o)
   rw[show Ch.drop ⟨4097,4096,F.ls⟩ j (a++c)=⟨4097,4096,up F.ls j (a++c)⟩from rfl,w];repeat first|apply J.go|refine Sc.go (by omega) ?_
   have hr:F.S.right m (F.S.gen m)=true:=by unfold aV.right;rw[d];simp
   have hc:F.S.close m (F.S.gen m)=F.S.shut m:=by unfold aV.close;rw[ah hr]
   rw[hc];refine af (ko x ⟨ok.ps,by simpa[aV.shut]using i,λp=>?_⟩ (I _));rw[aV.yj,b9,l p];simp only[ml,fN,pB,bz,Int.natCast_inj];exact⟨λ⟨h,k,I⟩=>⟨k,I,h⟩,λ⟨k,I,h⟩=>⟨h,k,I⟩⟩
def Wl(I:∀b,T B (cc b For.new::H) (K (pz b))):T B H (ab P 80 #[D 4096] K):=by
 refine an (OD _) (J.go (aD (by simp) (aD (by simp) ?_)))
 have fin:∀sb cb pb b,T B (cl b #[pz sb,pz cb,.slice (some ⟨pb,0,none⟩) 4096 4096]::fz sb (aV.new 4096)::dP cb ⟨4097,4096,λ_=>[]⟩::cl pb (iv .i64 (List.replicate 4096 0)).toArray::H) (K (pz b)):=by intro sb cb pb b;have:=ko ⟨sb,cb,pb,List.replicate 4096 0⟩ ⟨jG ..,jG ..,λp=>⟨λh=>by simp[For.new,aV.new,aV.b7,aS]at h,λ⟨k,h⟩=>by simp[For.new]at h⟩⟩ (I b);exact af this
 have hw:IntKind.wrap .i64 ((4096:Int)+1)=((4097:Nat):Int):=by decide
 have hm:∀{H:au} {f:Nat->HP},(∀q,T B (cl q (iv .i64 (List.replicate 4096 0)).toArray::H) (f q))->T B H (c7 P 3 4096 4096 f):=λ{H f} h=>Sx.go (p:=c7 P 3 ((4096:Nat):Int) ((4096:Nat):Int) f) (by omega) h;have hs:∀{H:au} {K:aK},(∀b,T B (fz b (aV.new 4096)::H) (K (pz b)))->T B H (ab P 146 #[D 4096] K):=λh=>BP (n:=4096) (by omega) h;have hc:∀{H:au} {K:aK},(∀b,T B (dP b ⟨4097,4096,λ_=>[]⟩::H) (K (pz b)))->T B H (ab P 145 #[D (IntKind.wrap .i64 ((4096:Int)+1)),D 4096] K):=λh=>zR (l:=4097) (m:=4096) (by omega) (by omega) h;intro σ o _;refine fO ?_ ?_ σ o
 ·refine hs λsb=>J.go (fO ?_ ?_)
  ·refine hc λcb=>J.go (hm λpb=>Sa.go λb=>?_)
   rw[show Int.toNat 4096=4096 from rfl];exact af (fin sb cb pb b)
  ·refine hm λpb=>hc λcb=>J.go (Sa.go λb=>?_)
   rw[show Int.toNat 4096=4096 from rfl];exact af (fin sb cb pb b)
 ·refine hm λpb=>hs λsb=>J.go (hc λcb=>J.go (Sa.go λb=>?_))
  rw[show Int.toNat 4096=4096 from rfl];exact af (fin sb cb pb b)
end
end
end Go.Proofs.YtlmgompopkamfaaGreatDoor
namespace Go.bn
section
def ev(ls:Nat->List Nat):Nat->Nat->List (Nat×Bool)
 |0,_=>[]
 |n+1,p=>(p,true)::((ls p).flatMap (ev ls n)++[(p,false)])
def deep(ls:Nat->List Nat):Nat->Nat->Prop
 |0,_=>False
 |n+1,p=>∀m∈ls p,deep ls n m
variable {ls uP:Nat->List Nat}
def zW:∀{n k p:Nat},deep ls n p->n<=k->deep ls k p
 |0,_,_,h,_=>h.elim
 |n+1,0,_,_,I=>by omega
 |n+1,k+1,p,h,I=>λm hm=>zW (h m hm) (by omega)
def Ex(hs:∀k m,m∈uP k->m∈ls k):∀{n p:Nat},deep ls n p->deep uP n p
 |0,_,h=>h.elim
 |n+1,p,h=>λm hm=>Ex hs (h m (hs p m hm))
def Ew{j m:Nat}(h0:uP m=[])(hs:∀k x,x∈uP k->x∈ls k\/x=m):∀{n p:Nat},deep ls n p->deep uP (n+1) p
 |0,_,h=>h.elim
 |n+1,p,h=>λx b=>by
  rcases hs p x b with U|rfl
  ·exact Ew (j:=j) h0 hs (h x U)
  ·unfold deep;intro y a;rw[h0]at a;cases a
def EJ:∀{n a b p:Nat},deep ls n p->n<=a->n<=b->ev ls a p=ev ls b p
 |0,_,_,_,h,_,_=>h.elim
 |n+1,0,_,_,_,h,_=>by omega
 |n+1,_,0,_,_,_,h=>by omega
 |n+1,a+1,b+1,p,h,ha,d=>by
  have:∀l:List Nat,(∀m∈l,deep ls n m)->l.flatMap (ev ls a)=l.flatMap (ev ls b):=by
   intro l hl
   induction l with
   |nil=>rfl
   |cons x l c=>rw[gz,gz,c λm hm=>hl m (by simp[hm]),EJ (b:=b) (hl x (by simp)) (by omega) (by omega)]
  unfold ev;rw[this _ h]
def EK{n N p:Nat}(h:deep ls n p)(a:n<=N):ev ls N p=(p,true)::((ls p).flatMap (ev ls N)++[(p,false)]):=by rw[EJ (b:=N+1) h a (by omega)];rfl
def z8:∀{n p:Nat},∀x,(x,true)∈ev ls n p↔(x,false)∈ev ls n p
 |0,p,x=>by simp[ev]
 |n+1,p,x=>by
  have:(x,true)∈(ls p).flatMap (ev ls n)↔(x,false)∈(ls p).flatMap (ev ls n):=by simp only[lC];exact⟨λ⟨m,U,a⟩=>⟨m,U,(z8 x).1 a⟩,λ⟨m,U,a⟩=>⟨m,U,(z8 x).2 a⟩⟩
  simp only[ev,cR,dL,this,y9,kK,jH,ji,fM,and_false,Bool.true_eq_false,false_or];exact⟨λh=>h.symm,λh=>h.symm⟩
def ia(E:Nat->List (Nat×Bool)):List (Nat×List Nat)->List (Nat×Bool)
 |[]=>[]
 |(t,cs)::st=>cs.flatMap E++((t,false)::ia E st)
def ot(ls:Nat->List Nat)(N:Nat):List (Nat×List Nat)->Prop
 |[]=>True
 |(t,cs)::st=>(∃a,ls t=a++cs)/\(∃n,n<=N/\deep ls n t)/\(match st with|[]=>True|(u,b)::_=>∃a,ls u=a++t::b)/\ot ls N st
def ot.push{N t m:Nat}{cs:List Nat}{st:List (Nat×List Nat)}(h:ot ls N ((t,m::cs)::st)):ot ls N ((m,ls m)::(t,cs)::st)/\ia (ev ls N) ((t,m::cs)::st)=(m,true)::ia (ev ls N) ((m,ls m)::(t,cs)::st):=by
 obtain⟨⟨a,ha⟩,⟨n,b,hd⟩,c,d⟩:=h
 cases n with
 |zero=>exact hd.elim
 |succ n=>have hm:deep ls n m:=hd m (by rw[ha];simp);refine⟨⟨⟨[],rfl⟩,⟨n,by omega,hm⟩,⟨a,ha⟩,⟨a++[m],by rw[ha];simp⟩,⟨n+1,b,hd⟩,c,d⟩,?_⟩;show(m::cs).flatMap (ev ls N)++_=_;rw[gz,EK hm (by omega)];simp[ia]
def ot.pop{N t:Nat}{st:List (Nat×List Nat)}(h:ot ls N ((t,[])::st)):ot ls N st/\ia (ev ls N) ((t,[])::st)=(t,false)::ia (ev ls N) st:=⟨h.2.2.2,rfl⟩
def uF(st:List (Nat×List Nat)):List Nat:=match st with|[]=>[]|(_,cs)::_=>cs
def eh(come:Bool)(l:List (Nat×Bool)):List Nat:=(l.filter λe=>e.2==come).map (·.1)
def Hn(come v:Bool)(l:List (Nat×Bool))(x:Nat):eh come (l++[(x,v)])=eh come l++(if v==come then[x]else[]):=by unfold eh;rw[mo,e6];congr 1;cases h:v==come<;>simp[List.filter_cons,h]
inductive Reach (ls:Nat->List Nat) (c:Nat):Nat->Prop
 |refl:Reach ls c c
 |step {y x:Nat}:Reach ls c y->x∈ls y->Reach ls c x
def Reach.head{c m x:Nat}(hm:m∈ls c)(h:Reach ls m x):Reach ls c x:=by
 induction h with
 |refl=>exact .step .refl hm
 |step _ a b=>exact .step b a
def Reach.deep{c x:Nat}(h:Reach ls c x):∀{k},deep ls k c->deep ls k x:=by
 induction h with
 |refl=>exact λh=>h
 |step _ a b=>intro k I;have:=b I;cases k with
  |zero=>exact this.elim
  |succ k=>exact zW (this _ a) (by omega)
def Reach.xF{p c:Nat}(hc:c∈ls p):∀{k},Go.bn.deep ls k p->¬Reach ls c p
 |0,h,_=>h
 |k+1,h,hr=>Reach.xF hc (hr.deep (h c hc)) hr
def Reach.uniq(hd:∀k k' x,x∈ls k->x∈ls k'->k=k'){p c1 c2 k x:Nat}(b:Go.bn.deep ls k p)(U:c1∈ls p)(c:c2∈ls p)(e:Reach ls c1 x)(d:Reach ls c2 x):c1=c2:=by
 induction e with
 |refl=>
  cases d with
  |refl=>rfl
  |step r a=>rw[hd _ _ _ a U]at r;exact(Reach.xF c b r).elim
 |step r a f=>
  cases d with
  |refl=>rw[hd _ _ _ a c]at r;exact(Reach.xF U b r).elim
  |step r' g=>rw[hd _ _ _ g a]at r';exact f r'
def sC:∀{n p x:Nat} {b:Bool},(x,b)∈ev ls n p->Reach ls p x
 |0,_,_,_,h=>by simp[ev]at h
 |n+1,p,x,b,h=>by
  simp only[ev,cR,dL,y9,lC,jH,ji]at h;rcases h with⟨rfl,_⟩|⟨m,hm,h⟩|⟨rfl,_⟩
  ·exact .refl
  ·exact(sC h).head hm
  ·exact .refl
def rO{come:Bool}{l:List (Nat×Bool)}{x:Nat}:x∈eh come l↔(x,come)∈l:=by unfold eh;simp only[bQ,pB,gB];exact⟨λ⟨e,⟨U,c⟩,d⟩=>by obtain⟨a,b⟩:=e;simp only at c d;subst c d;exact U,λh=>⟨_,⟨h,rfl⟩,rfl⟩⟩
def yh(come:Bool)(l a:List (Nat×Bool)):eh come (l++a)=eh come l++eh come a:=by simp[eh]
def YF(come:Bool)(f:Nat->List (Nat×Bool))(l:List Nat):eh come (l.flatMap f)=l.flatMap λx=>eh come (f x):=by
 induction l with
 |nil=>rfl
 |cons x l a=>rw[gz,gz,yh,a]
def Bj(hd:∀k k' x,x∈ls k->x∈ls k'->k=k')(f:∀k,(ls k).Nodup):∀{n p k:Nat} (b:Bool),deep ls k p->(eh b (ev ls n p)).Nodup
 |0,_,_,_,_=>by simp[ev,eh]
 |n+1,p,k,b,h=>by
  have g:((ls p).flatMap λx=>eh b (ev ls n x)).Nodup:=by
   rw[mw];rw[IP];refine⟨λc hc=>?_,?_⟩
   ·cases k with
    |zero=>exact h.elim
    |succ k=>exact Bj hd f b (h c hc)
   ·refine List.Pairwise.imp_of_mem ?_ (f p)
    intro c1 c2 m1 m2 j x a y d e;subst e;exact j (Reach.uniq hd h m1 m2 (sC (rO.1 a)) (sC (rO.1 d)))
  have i:p∉(ls p).flatMap λx=>eh b (ev ls n x):=by intro a;obtain⟨c,hc,a⟩:=lC.1 a;exact Reach.xF hc h (sC (rO.1 a))
  have e:eh b (ev ls (n+1) p)=(if b=true then[p]else[])++(((ls p).flatMap λx=>eh b (ev ls n x))++(if b=true then[]else[p])):=by show eh b ([(p,true)]++((ls p).flatMap (ev ls n)++[(p,false)]))=_;rw[yh,yh,YF];cases b<;>simp[eh]
  rw[e];cases b
  ·simp only[fM,ej,kI]
   rw[dZ];exact⟨g,by simp,λx a y d l=>by simp at d;rw[l,d]at a;exact i a⟩
  ·simp only[dT,je,List.singleton_append]
   exact fp.2 ⟨i,g⟩
def T2(l:List (Nat×Bool)):l.length=(eh true l).length+(eh false l).length:=by
 induction l with
 |nil=>rfl
 |cons e l a=>
  obtain⟨x,b⟩:=e
  have U:∀c,(eh c ((x,b)::l)).length=(eh c [(x,b)]).length+(eh c l).length:=λc=>by rw[show(x,b)::l=[(x,b)]++l from rfl,yh,cr]
  rw[U,U,dd,a];cases b<;>simp[eh]<;>omega
end
end Go.bn
namespace Go.Proofs.YtlmgompopkamfaaGreatDoor
section
open Go.XS Go.bn
def nv(l:List Nat):aB:=iv .i64 (l.map Int.ofNat)
def Gs(l:List Nat)(x:Nat):nv l++#[D x].toList=nv (l++[x]):=by simp[nv,iv]
structure J8 where
 p:aw
 c:Nat
abbrev Ci(aa aj:Nat)(come:Bool)(lp:Nat)(ro:Loop)(out:List Nat)(x:J8)(H:au):au:=
 ai 1 x.p out.length x.c (nv out)::cl aj #[.slice x.p out.length x.c]::cl aa #[.bool come]::lo lp ro .ready none::H
def kB(aa aj:Nat)(come:Bool)(lp:Nat)(ro:Loop)(out:List Nat):bg:=BX True (Ci aa aj come lp ro out)
abbrev Bq(aa aj:Nat):Nat->aB->aK->HP:=Bo (λa c d b=>iY a (hA (ag aa 0) λe=>ae (d==e) (aT (ag aj 0) λf g h=>al #[D c] 3 λi=>cI P #[31,31] f g h (some (ag i 0)) 1 1 λj k l=>st (ag aj 0) (Value.slice j k l) (fx a none (b (Value.bool true)))) (fx a none (b (Value.bool true)))))
section
variable {B:Heap}{H H0:au}{K:aK}{b aa aj lp:Nat}{F:For}{come v:Bool}{ro:Loop}{out:List Nat}{m:Nat}
def Cj(b:mB P ro (Bq aa aj))(hl:out.length<900000)(I:T B (kB aa aj come lp ro (out++if v==come then[m]else[])::H) (K (.bool true))):T B (kB aa aj come lp ro out::H) (gj P lp #[] #[] [D m,.bool v] K):=by
 refine pG (λ_ _=>rfl) λx _=>?_;refine bL (q:=lo lp ro .ready none) (oI b ?_);unfold Bq;refine J.go (oz ?_);apply J.go
 have fin:∀p c,T B (ai 1 p (out++if v==come then[m]else[]).length c (nv (out++if v==come then[m]else[]))::cl aj #[.slice p (out++if v==come then[m]else[]).length c]::cl aa #[.bool come]::lo lp ro .ready none::H) (K (.bool true)):=λp c=>pF ⟨p,c⟩ trivial (λ_ _=>rfl) I
 cases a:v==come with
 |true=>
  rw[a]at fin;simp only[dT,cr,dd,gH,bJ]at fin;apply bk rfl;repeat first|apply J.go|refine Sa.go λ_=>?_
  refine e0 rfl (by omega) λd c'=>?_;rw[Gs];refine J.go (bL (q:=lo lp ro .busy none) (oA ?_));exact af (fin d c')
 |false=>rw[a]at fin;simp only[fM,ej,je]at fin;refine aD rfl (bL (q:=lo lp ro .busy none) (oA ?_));exact af (fin x.p x.c)
def For.walk(F:For)(N:Nat)(come:Bool)(n:Int):List Nat:=if F.S.b7 n then eh come (ev F.ls N n.toNat)else[]
def A7{s l c:Nat}{q:aw}{xs:aB}{p:HP}(t:l<=c->T B (ai s q l c xs::H) p):T B (ai s q l c xs::H) p:=by intro σ o;obtain⟨ch,⟨l1,l2,b,⟨U,a,d⟩,e⟩,f⟩:=o.own;exact t a σ o
abbrev ways(st:List (Nat×List Nat)):List Nat:=(st.map (·.1)).reverse
def aaG{g i N:Nat}{I:HP}{n:Int}(K:mB P ro (Bq aa aj))(hd:F.S.b7 n=true->deep F.ls N n.toNat)(fin:T B (kB aa aj come lp ro (F.walk N come n)::cc b F::cl g #[pz b]::cl i #[D n]::H) I):T B (kB aa aj come lp ro []::cc b F::cl g #[pz b]::cl i #[D n]::H) (ab P 401 #[.func (.yield lp) #[] #[],pz g,pz i] λ_=>I):=by
 refine an (SX _ _ _) (aN (cc b) (rp λac ad ae U ag al=>?_));unfold For.walk at fin;repeat' first|apply J.go|refine Sa.go λ_=>?_|refine S2.go (λ_=>?_) λ_=>?_|done
 ·rename_i w
  rw[w,ak (by simp)]at fin;exact af fin
 rename_i w V;rw[w,ah rfl]at fin;have C:=hd w;have am:=ac.lt w;rw[ad]at am;obtain⟨p,rfl⟩:∃p:Nat,n=p:=⟨n.toNat,by omega⟩;rw[a7]at C fin
 have hlen:∀b,(eh b (ev F.ls N p)).length<=4096:=λb=>by
  refine nO 4096 (Bj ag U b C) λx y=>?_;have:=sC (rO.1 y)
  cases this with
  |refl=>omega
  |step _ y=>exact(al _ _ y).2
 have ao:(ev F.ls N p).length<=8192:=by rw[T2];have:=hlen true;have:=hlen false;omega
 have ap:=EK C (d' N);refine aN (kB aa aj come lp ro) (Cj K (by simp) ?_);refine J.go (aD rfl ?_);repeat apply J.go
 have W:∀m:Nat,F.S.b7 m=true->F.first m=bU (F.ls m):=λm hm=>by unfold For.first;rw[ah hm,a7]
 rw[W p w];have aq:∀{k m:Nat},m∈F.ls k->F.S.b7 m=true:=λh=>(ae _).2 ⟨_,h⟩;have done:∀{f:aw} {lw d:Nat},T B (ai 1 f lw d []::kB aa aj come lp ro (eh come (ev F.ls N p))::cc b F::cl g #[pz b]::cl i #[D (p:Int)]::H) I:=af fin;refine bL (q:=cl V #[D (p:Int)]) (kf (l:=1) 1 rfl ?_);have L:([]++if(true==come)=true then[p]else[])=eh come [(p,true)]:=by cases come<;>rfl
 rw[L,show(#[D (p:Int)]:ax).toList=nv [p]from rfl];refine af (H':=ai 1 (some ⟨V,0,none⟩) 1 1 (nv [p])::kB aa aj come lp ro (eh come [(p,true)])::cc b F::cl g #[pz b]::cl i #[D (p:Int)]::H) ?_
 refine ud (λm f lw d nx H'=>∃st done,done++ia (ev F.ls N) st=ev F.ls N p/\ot F.ls N st/\(ia (ev F.ls N) st).length=m/\lw=st.length/\(st≠[]->nx=bU (uF st))/\
  H'=ai 1 f st.length d (nv (ways st))::kB aa aj come lp ro (eh come done)::cc b F::cl g #[pz b]::cl i #[D (p:Int)]::H) (ia (ev F.ls N) [(p,F.ls p)]).length
  ⟨[(p,F.ls p)],[(p,true)],by rw[ap];simp[ia],⟨⟨[],rfl⟩,⟨N,d' _,C⟩,trivial,trivial⟩,rfl,rfl,λ_=>rfl,rfl⟩ ?_
 rintro m f lw d nx H' R ⟨st,dn,o,r,hm,rfl,ar,rfl⟩ hOut
 cases st with
 |nil=>
  apply aD (by simp);have:dn=ev F.ls N p:=by simpa[ia]using o
  rw[this];exact done
 |cons L au=>
  apply bk (by simp)
  refine ud (λM f lw d nx H'=>∃st done,st≠[]/\done++ia (ev F.ls N) st=ev F.ls N p/\ot F.ls N st/\(ia (ev F.ls N) st).length=M/\M<=m/\lw=st.length/\nx=bU (uF st)/\
   H'=ai 1 f st.length d (nv (ways st))::kB aa aj come lp ro (eh come done)::cc b F::cl g #[pz b]::cl i #[D (p:Int)]::H) m
   ⟨L::au,dn,by simp,o,r,hm,d' _,rfl,ar (by simp),rfl⟩ ?_
  rintro M f lw d nx H' aA ⟨st,dn,X,o,r,z,hle,rfl,rfl,rfl⟩ hIn;have A:dn.length+(ia (ev F.ls N) st).length<=8192:=by rw[<-cr,o];exact ao
  have Y:∀c,(eh c dn).length<=dn.length:=λc=>by unfold eh;rw[fe];exact y1 _ _
  have Y:=Y come
  have E:st.length<=(ia (ev F.ls N) st).length:=by
   clear r o z hIn X A
   induction st with
   |nil=>simp
   |cons e st aB=>obtain⟨t,cs⟩:=e;simp only[ia,cr,dd];omega
  match st,X with
  |(t,[])::st,_=>
   apply aD (by simp[uF,bU]);obtain⟨O,Q⟩:=r.pop;rw[Q]at o z A E;simp only[dd]at z A E⊢;have hw:IntKind.wrap .i64 (((st.length+1:Nat):Int)-1)=(st.length:Int):=by rw[bd (by omega)];omega
   simp only[hw]
   have av:((ways ((t,[])::st)).map Int.ofNat)[st.length]?=some (t:Int):=by unfold ways;rw[c4,CP,e6,iI (by simp)];simp
   refine A7 λaC=>e1 st.length rfl (by omega) av (bj (by omega) (aN (kB aa aj come lp ro) (Cj K (by omega) ?_)));refine J.go (aD rfl ?_);rw[a7,lf,iN,iN];have G:(dn++[(t,false)])++ia (ev F.ls N) st=ev F.ls N p:=by rw[er];exact o
   rw[<-Hn]
   have Z:(nv (ways ((t,[])::st))).take (st.length*1)=nv (ways st):=by unfold ways nv iv;rw[c4,CP,e6,e6,iM,qI (by simp)]
   cases st with
   |nil=>apply aD (by simp);refine bL (q:=ai 1 f 1 d (nv (ways [(t,[])]))) (rB (m:=0) (by omega) ?_);refine af (H':=ai 1 f 0 d ((nv (ways [(t,[])])).take (0*1))::kB aa aj come lp ro (eh come (dn++[(t,false)]))::cc b F::cl g #[pz b]::cl i #[D (p:Int)]::H) ?_;rw[show(0:Nat)*1=([]:List (Nat×List Nat)).length*1 from rfl,Z];exact hOut 0 _ _ _ _ _ (by omega) ⟨[],dn++[(t,false)],G,trivial,rfl,rfl,λh=>absurd rfl h,rfl⟩
   |cons e st=>obtain⟨u,v⟩:=e;obtain⟨a,ha⟩:=r.2.2.1;refine bk (by simp) (J.go ?_);unfold aU;apply Wn (F:=F) (j:=u) ha;apply J.go;refine bL (q:=ai 1 f (((u,v)::st).length+1) d (nv (ways ((t,[])::(u,v)::st)))) (rB (m:=((u,v)::st).length) (by omega) ?_);rw[Z];exact af (H':=ai 1 f ((u,v)::st).length d (nv (ways ((u,v)::st)))::kB aa aj come lp ro (eh come (dn++[(t,false)]))::cc b F::cl g #[pz b]::cl i #[D (p:Int)]::H) (hOut (ia (ev F.ls N) ((u,v)::st)).length _ _ _ _ _ (by omega) ⟨(u,v)::st,dn++[(t,false)],G,O,rfl,rfl,λ_=>rfl,rfl⟩)
  |(t,x::cs)::st,_=>
   apply bk (by simp[uF,bU]);obtain⟨O,Q⟩:=r.push;rw[Q]at o z A E;simp only[dd]at z A E
   have y:F.S.b7 (x:Int)=true:=by obtain⟨a,ha⟩:=r.1;exact aq (by rw[ha];simp)
   rw[show bU (uF ((t,x::cs)::st))=(x:Int)from rfl];refine Sa.go λaE=>?_;refine aN (ai 1 f ((t,x::cs)::st).length d) (e0 (s:=1) (c:=d) rfl (by simp only[dd];omega) λay c'=>?_);rw[Gs];refine aN (kB aa aj come lp ro) (Cj K (by omega) ?_);refine J.go (aD rfl ?_);rw[<-Hn];repeat apply J.go
   rw[W x y];have G:(dn++[(x,true)])++ia (ev F.ls N) ((x,F.ls x)::(t,cs)::st)=ev F.ls N p:=by rw[er];exact o
   have az:ways ((t,x::cs)::st)++[x]=ways ((x,F.ls x)::(t,cs)::st):=by simp[ways]
   rw[az];exact af (H':=ai 1 ay ((x,F.ls x)::(t,cs)::st).length c' (nv (ways ((x,F.ls x)::(t,cs)::st)))::kB aa aj come lp ro (eh come (dn++[(x,true)]))::cc b F::cl g #[pz b]::cl i #[D (p:Int)]::H) (hIn _ _ _ _ _ _ (by omega) ⟨(x,F.ls x)::(t,cs)::st,dn++[(x,true)],by simp,G,O,rfl,by omega,rfl,rfl,rfl⟩)
def Ic{N:Nat}{n:Int}(hd:F.S.b7 n=true->deep F.ls N n.toNat)(I:∀p c,T B (cc b F::ai 1 p (F.walk N come n).length c (nv (F.walk N come n))::H) (K (.slice p (F.walk N come n).length c))):T B (cc b F::H) (ab P 288 #[pz b,D n,.bool come] K):=by apply an (SY _ _ _);refine Sa.go λaa=>Sa.go λaj=>an (SW _ _) ?_;refine Sa.go λa=>Sa.go λd=>?_;refine pK (by kernel_rfl) λro rr lp e=>?_;refine dR 1 ?_;rw[show(ai 1 none 0 0 []:bg)=ai 1 none ([]:List Nat).length 0 (nv [])from rfl];refine af (H':=Ci aa aj come lp ro [] ⟨none,0⟩ (cc b F::cl a #[pz b]::cl d #[D n]::ob rr (.deferred (some []))::H)) ?_;refine pF (L:=Ci aa aj come lp ro []) ⟨none,0⟩ trivial (λ_ _=>rfl) ?_;apply aaG (N:=N) e hd;refine pG (λ_ _=>rfl) λx _=>?_;refine bL (q:=lo lp ro .ready none) (qQ (by simp) ?_);refine J.go (bL (q:=ob rr (.deferred (some []))) (oG ?_));exact af (I x.p x.c)
def aaF{N:Nat}{n:Int}(hd:F.S.b7 n=true->deep F.ls N n.toNat)(I:∀p c,T B (cc b F::ai 1 p (F.walk N true n).length c (nv (F.walk N true n))::H) (K (.slice p (F.walk N true n).length c))):T B (cc b F::H) (ab P 286 #[pz b,D n] K):=by apply an (SU _ _);unfold bX;refine Ic hd λp c=>J.go (I p c)
def aaE{N:Nat}{n:Int}(hd:F.S.b7 n=true->deep F.ls N n.toNat)(I:∀p c,T B (cc b F::ai 1 p (F.walk N false n).length c (nv (F.walk N false n))::H) (K (.slice p (F.walk N false n).length c))):T B (cc b F::H) (ab P 191 #[pz b,D n] K):=by apply an (SS _ _);unfold bX;refine Ic hd λp c=>J.go (I p c)
end
end
section
open Go.XS Go.bn
section
variable {B:Heap}{H H0:au}{K:aK}{p:aw}{l c:Nat}{xs:aO}{cur n i:Int}
def JN{mt:TypeId}(h:∃et,P.underlying mt=some (.map 3 et))(t:∀r,T B (IM r (λ_=>none)::H) (K (.map (some r)))):T B H (aI P (Instr.makeMap mt (some (D n))) K):=by obtain⟨et,h⟩:=h;intro σ o;unfold Instr.makeMap;refine aY (gV h ?_);refine aY (dK n (λw _=>rfl) ?_);refine aY (Hq ?_);exact cu (zm t σ o)
instance acy:J B H (ab P 280 #[D i] K) (T B H (K (.bool (decide (0<=i/\i<=1048575))))):=⟨by intro I;refine an (O1 _) (S2.go (λ_=>?_) λ_=>?_);all_goals (refine eb I ?_;simp;omega)⟩
def k5(xs:aO)(cur:Int):Bool:=decide (0<=cur/\(xs=[]->cur=0))&&decide xs.Nodup&&xs.all λi=>decide (0<=i/\i<=1048575)
def Bd[hr:Rd B H p (iv .i64 xs)](hl:l=xs.length)(hlen:l<1000000)(I:T B H (K (.bool (k5 xs cur)))):T B H (ab P 276 #[.agg #[.slice p l c,D cur]] K):=by
 subst hl;apply an (O0 _);refine Sa.go λaa=>?_;refine dV (α:={F:Unit//0<=cur/\(xs=[]->cur=0)}) (λ_=>cl aa #[.slice p xs.length c,D cur]::H) (λ_=>[]) (λG body=>?_) λ⟨_,U,d⟩=>?_
 rotate_left
 ·skip
  have o:k5 xs cur=(decide xs.Nodup&&xs.all λi=>decide (0<=i/\i<=1048575)):=by unfold k5;rw[cB ⟨U,d⟩,e5]
  rw[o]at I;repeat apply J.go
  refine JN ⟨4,by kernel_rfl⟩ λr=>iQ Value.bool ?_;repeat apply J.go
  refine cF xs.length (by omega) (λk H'=>∃f:ML Bool,bS f/\(∀j,(aS f j).getD false=(xs.take k).contains j)/\(decide (xs.take k).Nodup&&(xs.take k).all λi=>decide (0<=i/\i<=1048575))=true/\H'=MP Value.bool r f::cl aa #[.slice p xs.length c,D cur]::H) ⟨[],by simp[bS,bb,eu],λj=>by simp[aS],by simp,rfl⟩ ?_;rintro k H' R L ⟨f,w,q,g,rfl⟩ o;refine S2.go (λ_=>?_) λ_=>?_
  ·have s:k<xs.length:=by omega
   have n:xs[k]?=some xs[k]:=ba s;generalize xs[k]=i at n;apply e1 k rfl s n
   have y:∀{k':Nat},(decide (xs.take k').Nodup&&(xs.take k').all λi=>decide (0<=i/\i<=1048575))=false->(decide xs.Nodup&&xs.all λi=>decide (0<=i/\i<=1048575))=false:=by
    intro k' h;simp only[Cy,fN,List.all_eq_false]at h⊢;rcases h with h|⟨z,hz,h⟩
    ·exact .inl λA=>h (A.sublist (CU _ _))
    ·exact .inr ⟨z,kH hz,h⟩
   have t:(decide (xs.take (k+1)).Nodup&&(xs.take (k+1)).all λi=>decide (0<=i/\i<=1048575))=(decide (0<=i/\i<=1048575)&&!(xs.take k).contains i):=by
    rw[dQ n];simp only[b9,bz]at g
    have C:(xs.take k++[i]).Nodup↔i∉xs.take k:=by rw[dZ];exact⟨λh hi=>h.2.2 i hi i (by simp) rfl,λh=>⟨g.1,by simp,λa ha b x e=>h (by simp at x;subst x;subst e;exact ha)⟩⟩
    have E:decide ((xs.take k++[i]).Nodup)=!(xs.take k).contains i:=by rw[yQ,bz,C];simp
    rw[E,List.all_append,g.2];simp only[yU,List.all_nil,yP,e5];exact Bool.and_comm _ _
   have m:(decide (xs.take (k+1)).Nodup&&(xs.take (k+1)).all λi=>decide (0<=i/\i<=1048575))=false->T B H (K (.bool false)):=λh=>by rw[y h]at I;exact I
   repeat' first|apply J.go|refine S2.go (λ_=>?_) λ_=>?_|done
   ·rename_i h
    exact af (m (by rw[t,cD h];rfl))
   ·rename_i h u
    exact af (m (by rw[t,<-q i,u];simp))
   ·rename_i h u
    refine af (o s (MP Value.bool r (bE i true f)::cl aa #[.slice p xs.length c,D cur]::H) ⟨_,fA w,λj=>?_,by rw[t,<-q i,cB h,u];rfl,rfl⟩);rw[gR w,dQ n];by_cases e:j=i
    ·subst e;simp
    ·rw[ak e,q];simp[e]
  ·have hl:k=xs.length:=by omega
   subst hl;rw[gA]at g;rw[g]at I;exact af I
 have m:¬(0<=cur/\(xs=[]->cur=0))->T B H (K (.bool false)):=λh=>by
  have:k5 xs cur=false:=by unfold k5;rw[cD h];rfl
  rw[this]at I;exact I
 repeat' first|apply J.go|refine S2.go (λ_=>?_) λ_=>?_|done
 ·exact af (m (by omega))
 ·rename_i U d v
  exact af (m λh=>v (h.2 (kF.1 (by omega))))
 ·rename_i U d v
  exact body ⟨(),by omega,λ_=>v⟩
 ·rename_i U d
  exact body ⟨(),by omega,λe=>absurd (by rw[e];rfl) d⟩
def rG(xs:aO)(cur:Int):Int:=if k5 xs cur then xs.getLast?.getD (-1)else-1
def W2[hr:Rd B H p (iv .i64 xs)](hl:l=xs.length)(hlen:l<1000000)(I:T B H (K (D (rG xs cur)))):T B H (ab P 278 #[.agg #[.slice p l c,D cur]] K):=by
 subst hl;apply an (OY _);unfold rG at I;refine Sa.go λaa=>J.go ?_;apply bI (b:=aa) (cs:=#[.slice p xs.length c,D cur]) rfl;have:Rd B (cl aa #[.slice p xs.length c,D cur]::H) p (iv .i64 xs):=⟨hr.rd.tail⟩;unfold aJ;apply Bd rfl hlen;repeat' first|apply J.go|refine S2.go (λ_=>?_) λ_=>?_|done
 ·rename_i h
  rw[h]at I;exact af I
 ·rename_i h h0
  have:xs=[]:=kF.1 (by omega);rw[this]at I;simp only[List.getLast?_nil,Option.getD_none,ite_self]at I;exact af I
 ·rename_i h h0
  rw[h,ah rfl]at I;have a:xs≠[]:=by intro e;rw[e]at h0;exact h0 rfl
  have d:=r1.2 a;refine e1 (zs:=xs) (xs.length-1) (by rw[bd (by omega)];omega) (by omega) (x:=xs.getLast?.getD (-1)) ?_ ?_
  ·rw[CM,ba (by omega)];rfl
  ·exact af I
def Jp{b:Nat}{cs:ax}{K:aK}{q:aw}[h:Rd B H0 q (iv .i64 xs)](hs:cs.size=xs.length)(t:T B (cl b (iv .i64 xs).toArray::H0) (K (D xs.length))):T B (cl b cs::H0) (aI P (Builtin.copy_ #[31,31] 3 #[.slice (some ⟨b,0,none⟩) xs.length xs.length,.slice q xs.length c]) K):=by
 refine t' (o:=0) (s:=1) (elem:=3) rfl (by kernel_rfl) (by kernel_rfl) (by kernel_rfl) (ys:=iv .i64 xs) (Rd.rd) (by simp) (λv a=>?_) (by simp;omega) ?_
 ·obtain⟨m,hm,rfl⟩:=bQ.1 a
  rfl
 ·have e:eH cs 0 (iv .i64 xs)=(iv .i64 xs).toArray:=by obtain⟨cl⟩:=cs;rw[kz _ _ _ (by simp at hs;simp[hs])];have:cl.drop (0+(iv .i64 xs).length)=[]:=oe (by simp at hs;simp[hs]);rw[this];simp
  rw[e];simpa using t
def GJ[hr:Rd B H p (iv .i64 xs)](hl:l=xs.length)(hlen:l<1000000)(I:∀q,T B (ai 1 (some ⟨q,0,none⟩) xs.length xs.length (iv .i64 xs)::H) (K (.agg #[.slice (some ⟨q,0,none⟩) xs.length xs.length,D cur]))):T B H (ab P 279 #[.agg #[.slice p l c,D cur]] K):=by
 subst hl;apply an (O2 _);repeat first|apply J.go|refine Sa.go λ_=>?_|refine Sx.go (by omega) λ_=>?_
 rename_i aa aj q;rw[a7];apply Jp (by simp);repeat first|apply J.go|refine Sc.go (by first|rfl|exact⟨rfl,rfl⟩) ?_
 refine kf (l:=xs.length) 1 (by simp) ?_;exact af (I q)
def e9(xs:aO)(cur s a z:Int):Int:=if k5 xs cur then(if qk cur s a z=0 then(if xs=[]then 9 else 0)else qk cur s a z)else 2
def W3{s a z:Int}[hr:Rd B H p (iv .i64 xs)](hl:l=xs.length)(hlen:l<1000000)(k:aF cur/\aF s/\aF a)(i:e9 xs cur s a z≠0->T B H (K (.tuple #[.agg #[.slice none 0 0,D 0],D 0,D 0,D (e9 xs cur s a z)])))(I:e9 xs cur s a z=0->∀q,T B (ai 1 (some ⟨q,0,none⟩) xs.length xs.length (iv .i64 xs)::H) (K (.tuple #[.agg #[.slice (some ⟨q,0,none⟩) xs.length xs.length,D (o3 cur s a z)],D (rG xs cur),D (rH cur s a z),D 0]))):T B H (ab P 184 #[.agg #[.slice p l c,D cur],D s,D a,D z] K):=by
 subst hl;apply an (OZ _ _ _ _);refine Sa.go λaa=>Sa.go λaj=>?_;refine bL (q:=cl aa #[.slice p xs.length c,D cur]) ?_;apply bI (b:=aa) (cs:=#[.slice p xs.length c,D cur]) rfl;have m:Rd B (cl aa #[.slice p xs.length c,D cur]::cl aj #[.slice none 0 0,D 0]::H) p (iv .i64 xs):=⟨hr.rd.tail.tail⟩;unfold aJ;apply Bd rfl hlen;generalize d:e9 xs cur s a z=e at*;unfold e9 at d;repeat' first|apply J.go|refine S2.go (λ_=>?_) λ_=>?_|refine Sc.go (by first|omega|rfl|exact⟨rfl,rfl⟩) ?_|done
 ·rename_i h
  rw[h]at d;subst d;exact af (i (by simp))
 rename_i h;rw[h,ah rfl]at d;unfold aU;refine W2 rfl hlen (J.go (dV (α:={n:Unit//e9 xs cur s a z=e}) (λ_=>cl aa #[.slice p xs.length c,D cur]::cl aj #[.slice none 0 0,D 0]::H) (λ_=>[D e]) (λo body=>?_) λ⟨_,he⟩=>?_))
 ·have f:rG xs cur<0↔xs=[]:=by
   unfold rG;rw[h,ah rfl]
   cases g:xs.getLast? with
   |none=>rw[List.getLast?_eq_none_iff]at g;simp[g]
   |some v=>
    have hm:=y3 g;unfold k5 at h;simp only[b9,ig,bz]at h;have:=h.2 v hm;simp only[fC];constructor
    ·intro j;omega
    ·intro j;rw[j]at hm;cases hm
  repeat' first|refine S2.go (λ_=>?_) λ_=>?_|done
  ·rename_i h0 U
   rw[ah h0,ah (f.1 U)]at d;subst d;exact af (body ⟨(),by unfold e9;rw[h,ah rfl,ah h0,ah (f.1 U)]⟩)
  ·rename_i h0 U
   rw[ah h0,ak λe=>U (f.2 e)]at d;subst d;rw[h0];exact af (body ⟨(),by unfold e9;rw[h,ah rfl,ah h0,ak λe=>U (f.2 e)]⟩)
  ·rename_i h0
   rw[ak h0]at d;subst d;exact af (body ⟨(),by unfold e9;rw[h,ah rfl,ak h0]⟩)
 ·repeat' first|apply J.go|refine S2.go (λ_=>?_) λ_=>?_|refine Sc.go (by first|rfl|exact⟨rfl,rfl⟩) ?_|done
  ·rename_i h0
   exact af (i h0)
  ·rename_i h0
   have I:=I h0;unfold bH;refine GJ rfl hlen λq=>?_;repeat first|apply J.go|refine Sa.go λ_=>?_|refine Sc.go (by first|rfl|exact⟨rfl,rfl⟩) ?_
   exact af (I q)
def s8(xs:aO)(cur i:Int):Int:=if k5 xs cur=true/\0<=i/\i<=1048575 then(if xs.contains i then 19 else 0)else 2
def WZ[hr:Rd B H p (iv .i64 xs)](hl:l=xs.length)(hlen:l<1000000)(d:s8 xs cur i≠0->T B H (K (.tuple #[.agg #[.slice none 0 0,D 0],D (s8 xs cur i)])))(I:s8 xs cur i=0->∀q c',T B (ai 1 q (xs.length+1) c' (iv .i64 (xs++[i]))::H) (K (.tuple #[.agg #[.slice q (xs.length+1) c',D 0],D 0]))):T B H (ab P 187 #[.agg #[.slice p l c,D cur],D i] K):=by
 subst hl;apply an (OW _ _);refine Sa.go λaa=>Sa.go λaj=>?_;refine bL (q:=cl aa #[.slice p xs.length c,D cur]) ?_;have m:Rd B (cl aa #[.slice p xs.length c,D cur]::cl aj #[.slice none 0 0,D 0]::H) p (iv .i64 xs):=⟨hr.rd.tail.tail⟩;generalize a:s8 xs cur i=e at*;unfold s8 at a;refine dV (α:={n:Unit//e=0}) (λ_=>cl aa #[.slice p xs.length c,D cur]::cl aj #[.slice none 0 0,D 0]::H) (λ_=>[]) (λo body=>?_) λ⟨_,he⟩=>?_
 ·refine dV (α:={v:Bool//v=!(k5 xs cur&&decide (0<=i/\i<=1048575))}) (λ_=>cl aa #[.slice p xs.length c,D cur]::cl aj #[.slice none 0 0,D 0]::H) (λv=>[.bool v.1]) (λr f=>?_) λ⟨v,g⟩=>?_
  ·refine Sc.go rfl ?_
   unfold aJ;apply Bd rfl hlen;repeat' first|apply J.go|refine S2.go (λ_=>?_) λ_=>?_|done
   ·rename_i h
    exact af (f ⟨true,by rw[h];rfl⟩)
   ·rename_i h
    exact af (f ⟨_,by rw[h];cases decide (0<=i/\i<=1048575)<;>rfl⟩)
  ·subst g
   repeat' first|apply J.go|refine S2.go (λ_=>?_) λ_=>?_|refine Sc.go (by first|omega|rfl|exact⟨rfl,rfl⟩) ?_|done
   ·rename_i h
    have:¬(k5 xs cur=true/\0<=i/\i<=1048575):=λ⟨U,b⟩=>by rw[U,cB b]at h;cases h
    rw[ak this]at a;subst a;exact af (d (by decide))
   ·rename_i h b
    have:k5 xs cur=true/\0<=i/\i<=1048575:=by simp only[b9,bz]at h;exact h
    rw[ah this,ah b]at a;subst a;exact af (d (by decide))
   ·rename_i h b
    have:k5 xs cur=true/\0<=i/\i<=1048575:=by simp only[b9,bz]at h;exact h
    rw[ah this,ak (by rw[b];simp)]at a;exact af (body ⟨(),a.symm⟩)
 ·repeat first|apply J.go|refine Sc.go rfl ?_
  unfold bH;refine GJ rfl hlen λq=>?_;repeat first|apply J.go|refine Sa.go λ_=>?_|refine Sc.go ⟨rfl,rfl⟩ ?_
  refine aN (ai 1 (some ⟨q,0,none⟩) xs.length xs.length) (e0 (s:=1) (c:=xs.length) rfl (by omega) λj c'=>?_);have k:iv .i64 xs++(#[D i]:ax).toList=iv .i64 (xs++[i]):=by simp[iv]
  rw[k];repeat refine Sc.go (by first|rfl|exact⟨rfl,rfl⟩) ?_
  exact af (I he j c')
structure Pg where
 p:aw
 c:Nat
 xs:aO
 cur:Int
abbrev k4(g:Pg):aB:=[.slice g.p g.xs.length g.c,D g.cur]
def Xa(g:Pg):(k4 g).length=2:=rfl
def W0{gs:List Pg}{q:aw}{c':Nat}(j:∀g∈gs,bF B H g.p (iv .i64 g.xs))(hl:gs.length<100000)(f:∀g∈gs,g.xs.length<1000)(I:∀q' b,T B (ai 1 q' (gs.flatMap (·.xs)).length b (iv .i64 (gs.flatMap (·.xs)))::H) (K (.slice q' (gs.flatMap (·.xs)).length b))):T B (ai 2 q gs.length c' (gs.flatMap k4)::H) (ab P 287 #[.slice q gs.length c'] K):=by
 refine an (OX _ _ _) (dR 1 ?_)
 have n:∀k,((gs.take k).flatMap (·.xs)).length<=k*1000:=λk=>by
  have:∀(l:List Pg),(∀g∈l,g.xs.length<1000)->(l.flatMap (·.xs)).length<=l.length*1000:=by
   intro l hl
   induction l with
   |nil=>simp
   |cons g l o=>have:=o λg h=>hl g (by simp[h]);have:=hl g (by simp);simp only[gz,cr,dd];omega
  have U:=this (gs.take k) λg h=>f g (kH h);have r:(gs.take k).length<=k:=by rw[ff];omega
  have:=jM 1000 r;omega
 refine oH gs.length (by omega) (λk p l c H'=>l=((gs.take k).flatMap (·.xs)).length/\H'=ai 1 p ((gs.take k).flatMap (·.xs)).length c (iv .i64 ((gs.take k).flatMap (·.xs)))::ai 2 q gs.length c' (gs.flatMap k4)::H) ⟨rfl,rfl⟩ ?_;rintro k p l c H' R y ⟨rfl,rfl⟩ s;refine S2.go (λ_=>?_) λ_=>?_
 ·have a:k<gs.length:=by omega
  have d:gs[k]?=some gs[k]:=ba a;have i:=j gs[k] (dz a);have t:=f gs[k] (dz a);generalize gs[k]=g at d i t;apply dO Xa (by omega) k rfl a d;repeat first|apply J.go|refine Sa.go λ_=>?_|refine Sc.go ⟨rfl,rfl⟩ ?_
  rename_i z;refine af (H':=ai 1 p ((gs.take k).flatMap (·.xs)).length c (iv .i64 ((gs.take k).flatMap (·.xs)))::ai 2 q gs.length c' (gs.flatMap k4)::H) ?_;have A:Rd B (ai 1 p ((gs.take k).flatMap (·.xs)).length c (iv .i64 ((gs.take k).flatMap (·.xs)))::ai 2 q gs.length c' (gs.flatMap k4)::H) g.p (iv .i64 g.xs):=⟨i.tail.tail⟩;have C:ka (iv .i64 g.xs).toArray:=⟨λv u=>by obtain⟨m,hm,rfl⟩:=bQ.1 u;rfl⟩;refine oy (by have:=n k;omega) (by simp) λw b=>?_;have e:(gs.take (k+1)).flatMap (·.xs)=(gs.take k).flatMap (·.xs)++g.xs:=by rw[dQ d];simp
  have:=s a w _ b _ ⟨rfl,rfl⟩;rw[e,cr]at this;have x:iv .i64 ((gs.take k).flatMap (·.xs))++iv .i64 g.xs=iv .i64 ((gs.take k).flatMap (·.xs)++g.xs):=by simp[iv]
  rw[x];exact this
 ·have hl:k=gs.length:=by omega
  subst hl;rw[gA];exact af (I p c)
end
end
section
open Go.XS Go.bn
def cS{α:Type}(th:α->bg)(m:ML α):bg:=eG (m.map λe=>th e.2)
section
variable {B:Heap}{H H0:au}{q:HP}{α:Type}{th:α->bg}{m:ML α}{z a:α}{k:Int}
def xM(hz:∀{H:au} {q:HP},T B (th z::H) q->T B H q)(hs:bS m)(t:T B (th ((aS m k).getD z)::cS th (bO k m)::H) q):T B (cS th m::H) q:=by
 cases h:aS m k with
 |none=>rw[h]at t;rw[uT h]at t;exact hz t
 |some a=>rw[h]at t;exact wx (sU hs h) t
def Bb(hs:bS m)(t:T B (cS th (bE k a m)::H) q):T B (th a::cS th (bO k m)::H) q:=by have:=sU (k:=k) (f:=th) (fA (k:=k) (v:=a) hs) (AP hs);rw[F6 hs]at this;exact wy this t
def WX(hz:∀{H:au} {q:HP},T B (th z::H) q->T B H q)(hs:bS m)(t:T B (cS th (bO k m)::H) q):T B (cS th m::H) q:=xM (k:=k) hz hs (pN (.drop .refl) t)
end
structure tY where
 aM:Int
 xs:aO
 cur:Int
abbrev vh:tY:=⟨0,[],0⟩
structure np where
 aM:Int
 p:aw
 c:Nat
 xs:aO
 cur:Int
abbrev eZ:np:=⟨0,none,0,[],0⟩
abbrev np.g(x:np):tY:=⟨x.aM,x.xs,x.cur⟩
abbrev gT(x:np):Value:= .agg #[D x.aM,.slice x.p x.xs.length x.c,D x.cur]
def fK(x:np):bg:=ai 1 x.p x.xs.length x.c (iv .i64 x.xs)
instance :h2 P 195 np gT eZ:=⟨335,by kernel_rfl,pq,by kernel_rfl⟩
instance {n:Int}:nm gT (.agg #[D n,.slice none 0 0,D 0]) ⟨n,none,0,[],0⟩:=⟨rfl⟩
structure a8 where
 F:For
 rg:Int->tY
 bw:Nat
structure oK where
 fb:Nat
 r:Nat
 m:ML np
abbrev ll(b:Nat)(W:a8)(x:oK)(H:au):au:=
 cl b #[pz x.fb,.map (some x.r)]::cc x.fb W.F::MP gT x.r x.m::cS fK x.m::H
structure a8.Ok(W:a8)(x:oK):Prop where
 bV:bS x.m
 rg:∀k,W.rg k=((aS x.m k).getD eZ).g
 deep:∀p:Nat,W.F.S.b7 p=true->deep W.F.ls W.bw p
 len:∀k,(W.rg k).xs.length<=W.bw
 nil:∀m:Nat,m<4096->W.F.S.b7 m=false->W.F.ls m=[]
def cK(b:Nat)(W:a8):bg:=BD W.Ok (ll b W)
namespace a8
def new:a8:=⟨For.new,λ_=>vh,0⟩
def bo(W:a8)(r:Int):Int:=if mL r=true/\hv r=2/\iw r=0 then(if W.F.S.right (gP r) (gG r)then 0 else 4)else 14
def kn(W:a8)(r:Int):Int:=if W.bo r=0 then gP r else 0
def made(W:a8)(k:Nat)(c:Int):a8:=if W.F.S.gg then⟨W.F.add k,b2 W.rg W.F.S.cM ⟨c,[],0⟩,W.bw+1⟩else W
def mO(W:a8):Int:=if W.F.S.gg then fS 2 W.F.S.cM W.F.S.fT 0 else 10
def kp(W:a8):Int:=if W.mO=0 then eM 2 W.F.S.cM W.F.S.fT 0 else 0
def qq(W:a8)(c:Int):Int:=if 0<=c/\c<64 then W.mO else 2
def root(W:a8)(c:Int):a8:=if 0<=c/\c<64 then W.made 4096 c else W
def pV(W:a8)(r:Int):Int:=if W.bo r=0 then W.mO else W.bo r
def child(W:a8)(r:Int):a8:=if W.bo r=0 then W.made (gP r).toNat (W.rg (gP r)).aM else W
abbrev set(W:a8)(p:Int)(xs:aO)(cur:Int):a8:={W with rg:=b2 W.rg p ⟨(W.rg p).aM,xs,cur⟩,bw:=W.bw+1}
def e9(W:a8)(r s a z:Int):Int:=if W.bo r=0 then Go.Proofs.YtlmgompopkamfaaGreatDoor.e9 (W.rg (gP r)).xs (W.rg (gP r)).cur s a z else W.bo r
def lay(W:a8)(r s a z:Int):a8:=if W.e9 r s a z=0 then W.set (gP r) (W.rg (gP r)).xs (o3 (W.rg (gP r)).cur s a z)else W
def gM(W:a8)(r s a z:Int):Int:=if W.e9 r s a z=0 then rG (W.rg (gP r)).xs (W.rg (gP r)).cur else 0
def js(W:a8)(r s a z:Int):Int:=if W.e9 r s a z=0 then rH (W.rg (gP r)).cur s a z else 0
def gp(W:a8)(r i:Int):Int:=if W.bo r=0 then s8 (W.rg (gP r)).xs (W.rg (gP r)).cur i else W.bo r
def add(W:a8)(r i:Int):a8:=if W.gp r i=0 then W.set (gP r) ((W.rg (gP r)).xs++[i]) 0 else W
end a8
section
variable {B:Heap}{H H0:au}{K:aK}{b:Nat}{W:a8}{r n c i:Int}
def lq{q:HP}(t:∀x,W.Ok x->T B (ll b W x H) q):T B (cK b W::H) q:=mz (λ_ _=>rfl) t
def jd{q:HP}(x:oK)(h:W.Ok x)(t:T B (cK b W::H) q):T B (ll b W x H) q:=my x h (λ_ _=>rfl) t
def Ye{H:au}{q:HP}{c:Int}(t:T B (fK ⟨c,none,0,[],0⟩::H) q):T B H q:=dR 1 t
def x9{H:au}{q:HP}(t:T B (fK eZ::H) q):T B H q:=dR 1 t
instance acO[h:Ow H (cK b) W H0]:J B H (ab P 164 #[pz b] K) (T B (cK b W::H0) (K (.bool true))):=⟨by
 intro I;refine bh h.pl (lq λx ok=>an (Qf _) ?_);repeat apply J.go
 exact af (jd x ok I)⟩
instance acN[h:Ow H (cK b) W H0]:Sc B H (ab P 182 #[pz b,D r] K) (aF r) (T B (cK b W::H0) (K (.tuple #[D (W.kn r),D (W.bo r)]))):=⟨by
 intro hc I;refine bh h.pl (an (Qd _ _) ?_);unfold a8.kn at I;repeat first|apply J.go|refine Sc.go (by omega) ?_
 unfold p7;split
 ·rename_i c
  repeat' first|apply J.go|refine S2.go (λ_=>?_) λ_=>?_|done
  ·rename_i U
   have e:W.bo r=14:=by unfold a8.bo;rw[ak (by rintro⟨_,a,_⟩;exact U a)]
   rw[e]at I;exact af I
  ·rename_i U a
   have e:W.bo r=14:=by unfold a8.bo;rw[ak (by rintro⟨_,_,d⟩;exact absurd d (by simpa using a))]
   rw[e]at I;exact af I
  ·rename_i U a
   have e:W.bo r=if W.F.S.right (gP r) (gG r)then 0 else 4:=by unfold a8.bo;rw[ah ⟨c,U,by simpa using a⟩]
   rw[e]at I;refine aN (cK b) (lq λx ok=>?_);repeat' first|apply J.go|refine S2.go (λ_=>?_) λ_=>?_|done
   ·rename_i hr
    rw[hr]at I;exact af (jd x ok I)
   ·rename_i hr
    rw[hr]at I;exact af (jd x ok I)
 ·rename_i c
  repeat apply J.go
  have e:W.bo r=14:=by unfold a8.bo;rw[ak (by rintro⟨U,_⟩;exact c U)]
  rw[e]at I;exact af I⟩
def a8.Ok.VG{x:oK}(ok:W.Ok x)(l:W.F.S.Ok)(s:W.F.S.b6.length=4096)(v:∀p:Nat,W.F.S.b7 p=true↔∃k,p∈W.F.ls k){k:Nat}(I:k=4096\/W.F.S.b7 k=true)(g:W.F.S.gg=true):(W.made k c).Ok {x with m:=bE W.F.S.cM ⟨c,none,0,[],0⟩ x.m}:=by
 have d:W.F.S.pick.2.2=true:=g;have n:=l.xR d;have i:=l.xS d;have t:W.F.S.cM=W.F.S.pick.2.1:=by unfold aV.cM;rw[d];rfl
 rw[<-t]at n i;rw[s]at n;have o:=l.A6 g;unfold a8.made For.add;rw[ah g,ah g];generalize W.F.S.cM=z at*;obtain⟨m,rfl⟩:∃m:Nat,z=m:=⟨z.toNat,by omega⟩;rw[a7]
 have q:m≠k:=by
  rintro rfl;rcases I with h|h
  ·omega
  ·rw[h]at i;cases i
 have r:=ok.nil m (by omega) i
 have u:∀j y,y∈up W.F.ls k (W.F.ls k++[m]) j->y∈W.F.ls j\/y=m:=by
  intro j y a;by_cases e:j=k
  ·subst e;rw[eT,dL]at a;simpa using a
  ·rw[dF _ _ e]at a;exact .inl a
 refine⟨fA ok.bV,λj=>?_,λp b=>?_,λj=>?_,λp b f=>?_⟩
 ·simp only[b2]
  rw[gR ok.bV];split
  ·rfl
  ·exact ok.rg j
 ·simp only at b⊢
  rw[o,tD,bz]at b;rcases b with e|b
  ·have:p=m:=by omega
   subst this;show∀y∈_,_;intro y a;rw[dF _ _ q,r]at a;cases a
  ·exact Ew (j:=k) (m:=m) (by rw[dF _ _ q];exact r) u (ok.deep p b)
 ·simp only[b2]
  split
  ·simp
  ·have:=ok.len j;omega
 ·simp only at f⊢
  rw[o,tC,fN]at f
  have d:p≠k:=by
   rintro rfl;rcases I with h|h
   ·omega
   ·rw[h]at f;cases f.2
  rw[dF _ _ d];exact ok.nil p b f.2
def X7{x:oK}{a:For}{p g:Int}{o:Bool}(hs:bS x.m)(d:o=false->T B (cl b #[pz x.fb,.map (some x.r)]::cc x.fb a::MP gT x.r x.m::cS fK x.m::H) (K (.tuple #[D 0,D 10])))(I:o=true->T B (cl b #[pz x.fb,.map (some x.r)]::cc x.fb a::MP gT x.r (bE p ⟨c,none,0,[],0⟩ x.m)::cS fK (bE p ⟨c,none,0,[],0⟩ x.m)::H) (K (.tuple #[D (if fS 2 p g 0=0 then eM 2 p g 0 else 0),D (fS 2 p g 0)]))):T B (cl b #[pz x.fb,.map (some x.r)]::cc x.fb a::MP gT x.r x.m::cS fK x.m::H) (ab P 179 #[pz b,D c,D p,D g,.bool o] K):=by
 apply an (Qg _ _ _ _ _);repeat' first|apply J.go|refine S2.go (λ_=>?_) λ_=>?_|done
 ·rename_i h
  exact d h
 ·rename_i h
  refine aN (cS fK) (xM (k:=p) (z:=eZ) x9 hs ?_);refine pN (.drop .refl) ?_;refine Ye (c:=c) ?_;refine af (H':=fK ⟨c,none,0,[],0⟩::cS fK (bO p x.m)::cl b #[pz x.fb,.map (some x.r)]::cc x.fb a::MP gT x.r (bE p ⟨c,none,0,[],0⟩ x.m)::H) ?_;refine Bb hs ?_;exact af (I h)
def tt{q:HP}(t:W.F.S.Ok->W.F.S.b6.length=4096->(∀p:Nat,W.F.S.b7 p=true↔∃k,p∈W.F.ls k)->(∀k,(W.F.ls k).Nodup)->(∀k k' n,n∈W.F.ls k->n∈W.F.ls k'->k=k')->(∀k n,n∈W.F.ls k->k<4097/\n<4096)->T B (cK b W::H) q):T B (cK b W::H) q:=by refine lq λx ok=>aN (cc x.fb) (rp λU a c d e f=>?_);exact af (jd x ok (t U a c d e f))
def a8.VH{k:Nat}(h:W.F.S.gg=false):W.made k c=W:=by unfold a8.made;rw[h];rfl
def G7{x:oK}(ok:W.Ok x)(e:W.F.S.Ok)(f:W.F.S.b6.length=4096)(g:∀p:Nat,W.F.S.b7 p=true↔∃k,p∈W.F.ls k){k:Nat}(h:k=4096\/W.F.S.b7 k=true)(I:T B (cK b (W.made k c)::H) (K (.tuple #[D (if W.mO=0 then W.kp else 0),D W.mO]))):T B (cl b #[pz x.fb,.map (some x.r)]::cc x.fb (W.F.add k)::MP gT x.r x.m::cS fK x.m::H) (ab P 179 #[pz b,D c,D W.F.S.cM,D W.F.S.fT,.bool W.F.S.gg] K):=by
 refine X7 ok.bV (λa=>?_) λa=>?_
 ·have i:W.mO=10:=by unfold a8.mO;rw[a];rfl
  rw[i]at I;rw[a8.VH a]at I;have:W.F.add k=W.F:=by unfold For.add;rw[a];rfl
  rw[this];exact af (jd x ok I)
 ·have aP:=ok.VG (c:=c) e f g h a
  have d:W.kp=if W.mO=0 then eM 2 W.F.S.cM W.F.S.fT 0 else 0:=rfl;have j:W.mO=fS 2 W.F.S.cM W.F.S.fT 0:=by unfold a8.mO;rw[ah a]
  rw[j]at d I;rw[d]at I;have l:(if fS 2 W.F.S.cM W.F.S.fT 0=0 then if fS 2 W.F.S.cM W.F.S.fT 0=0 then eM 2 W.F.S.cM W.F.S.fT 0 else 0 else 0)=(if fS 2 W.F.S.cM W.F.S.fT 0=0 then eM 2 W.F.S.cM W.F.S.fT 0 else 0):=by split<;>rfl
  rw[l]at I;have:=jd _ aP I;unfold a8.made at this;rw[ah a]at this;exact af this
def X5[h:Ow H (cK b) W H0](I:T B (cK b (W.root c)::H0) (K (.tuple #[D (if W.qq c=0 then W.kp else 0),D (W.qq c)]))):T B H (ab P 105 #[pz b,D c] K):=by
 refine bh h.pl (tt λd f g U j k=>an (Qb _ _) ?_);generalize a:W.qq c=e at I;unfold a8.qq at a;unfold a8.root at I;repeat' first|apply J.go|refine S2.go (λ_=>?_) λ_=>?_|done
 ·rename_i h
  rw[ak (by omega)]at a I;subst a;exact af I
 ·rename_i h i
  rw[ak (by omega)]at a I;subst a;exact af I
 ·rename_i h i
  rw[ah (by omega)]at a I;refine aN (cK b) (lq λx ok=>?_);refine J.go (aN (cc x.fb) ?_);unfold kP;apply Wo;apply J.go;refine af (H':=cl b #[pz x.fb,.map (some x.r)]::cc x.fb (W.F.add 4096)::MP gT x.r x.m::cS fK x.m::H0) ?_;subst a;unfold c5;exact G7 ok d f g (.inl rfl) (J.go I)
def X1[h:Ow H (cK b) W H0](hr:aF r)(I:T B (cK b (W.child r)::H0) (K (.tuple #[D (if W.pV r=0 then W.kp else 0),D (W.pV r)]))):T B H (ab P 107 #[pz b,D r] K):=by
 refine bh h.pl (tt λd f g U l n=>an (P7 _ _) ?_);generalize a:W.pV r=e at I;unfold a8.pV at a;unfold a8.child at I;repeat' first|apply J.go|refine S2.go (λ_=>?_) λ_=>?_|refine Sc.go (by omega) ?_|done
 ·rename_i h
  rw[ak h]at a I;subst a;rw[ak h]at I;exact af I
 ·rename_i h
  rw[ah h]at a I;have i:W.kn r=gP r:=by unfold a8.kn;rw[ah h]
  have c:W.F.S.b7 (gP r)=true:=by
   unfold a8.bo at h;split at h
   ·split at h
    ·rename_i hr
     unfold aV.right at hr;simp only[b9]at hr;exact hr.1
    ·cases h
   ·cases h
  have j:=d.lt c;rw[f]at j;rw[i];refine aN (cK b) (lq λx ok=>?_);refine J.go (aN (cc x.fb) ?_);unfold kP;apply Wj c;have k:=ok.rg (gP r);obtain⟨m,hm⟩:∃m:Nat,gP r=m:=⟨(gP r).toNat,by omega⟩;repeat apply J.go
  subst a;rw[show((aS x.m (gP r)).getD eZ).aM=(W.rg (gP r)).aM by rw[k]];unfold c5;refine af (H':=cl b #[pz x.fb,.map (some x.r)]::cc x.fb (W.F.add (gP r).toNat)::MP gT x.r x.m::cS fK x.m::H0) ?_;refine G7 ok d f g (.inr ?_) ?_
  ·rw[hm,a7,<-hm];exact c
  ·exact J.go I
instance acM[h:Ow H (cK b) W H0]:Sc B H (ab P 180 #[pz b,D r] K) (aF r) (T B (cK b W::H0) (K (.tuple #[D (if W.bo r=0 then(W.rg (gP r)).aM else 0),D (W.bo r)]))):=⟨by
 intro hr I;refine bh h.pl (an (P8 _ _) ?_);repeat' first|apply J.go|refine S2.go (λ_=>?_) λ_=>?_|refine Sc.go (by omega) ?_|done
 ·rename_i h
  rw[ak h]at I;exact af I
 ·rename_i h
  rw[ah h,h]at I;have a:W.kn r=gP r:=by unfold a8.kn;rw[ah h]
  rw[a];refine aN (cK b) (lq λx ok=>?_);have c:=ok.rg (gP r);rw[c]at I;repeat apply J.go
  exact af (jd x ok I)⟩
def G8{x:oK}{p:Int}{q:aw}{l c':Nat}{xs:aO}{cur:Int}(hs:bS x.m)(hl:l=xs.length)(I:T B (cl b #[pz x.fb,.map (some x.r)]::MP gT x.r (bE p ⟨((aS x.m p).getD eZ).aM,q,c',xs,cur⟩ x.m)::cS fK (bE p ⟨((aS x.m p).getD eZ).aM,q,c',xs,cur⟩ x.m)::H) (K (.tuple #[]))):T B (ai 1 q l c' (iv .i64 xs)::cl b #[pz x.fb,.map (some x.r)]::MP gT x.r x.m::cS fK x.m::H) (ab P 185 #[pz b,D p,.agg #[.slice q l c',D cur]] K):=by
 subst hl;apply an (Qh _ _ _);repeat first|apply J.go|refine Sa.go λ_=>?_|refine Sc.go (by first|rfl|exact⟨rfl,rfl⟩) ?_
 rename_i aa e;apply ny rfl (by simp) (by intro v d;simp at d;rcases d with rfl|rfl<;>rfl);rw[show eH #[D ((aS x.m p).getD eZ).aM,Value.slice ((aS x.m p).getD eZ).p ((aS x.m p).getD eZ).xs.length ((aS x.m p).getD eZ).c,D ((aS x.m p).getD eZ).cur] 1 (#[Value.slice q xs.length c',D cur]:ax).toList=#[D ((aS x.m p).getD eZ).aM,Value.slice q xs.length c',D cur]from rfl];repeat first|apply J.go|refine Sc.go rfl ?_
 refine AV (a:=(⟨((aS x.m p).getD eZ).aM,q,c',xs,cur⟩:np)) rfl ?_;refine aN (cS fK) (xM (k:=p) (z:=eZ) x9 hs ?_);refine pN (.drop .refl) ?_;refine af (H':=ai 1 q xs.length c' (iv .i64 xs)::cS fK (bO p x.m)::cl b #[pz x.fb,.map (some x.r)]::MP gT x.r (bE p ⟨((aS x.m p).getD eZ).aM,q,c',xs,cur⟩ x.m)::H) ?_;exact Bb (th:=fK) (a:=(⟨((aS x.m p).getD eZ).aM,q,c',xs,cur⟩:np)) hs (af I)
def a8.Ok.Hu{x:oK}(ok:W.Ok x){p:Int}{q:aw}{c':Nat}{xs:aO}{cur:Int}(b:xs.length<=(W.rg p).xs.length+1):(W.set p xs cur).Ok {x with m:=bE p ⟨((aS x.m p).getD eZ).aM,q,c',xs,cur⟩ x.m}:=by
 refine⟨fA ok.bV,λj=>?_,λj a=>zW (ok.deep j a) (by simp only[a8.set];omega),λj=>?_,ok.nil⟩
 ·simp only[a8.set,b2]
  rw[gR ok.bV];split
  ·rw[ok.rg];rfl
  ·exact ok.rg j
 ·simp only[a8.set,b2]
  split
  ·have:=ok.len p;simp only;omega
  ·have:=ok.len j;omega
def Bc{m:ML np}{k:Int}(hs:bS m):bF B (cS fK m::H) ((aS m k).getD eZ).p (iv .i64 ((aS m k).getD eZ).xs):=by show T B (cS fK m::H) _;exact xM x9 hs bF.iB
def G6{s a z:Int}[h:Ow H (cK b) W H0](hr:aF r)(hs:aF s)(ha:aF a)(f:aF (W.rg (gP r)).cur)(l:W.bw<1000000)(I:T B (cK b (W.lay r s a z)::H0) (K (.tuple #[D (W.gM r s a z),D (W.js r s a z),D (W.e9 r s a z)]))):T B H (ab P 108 #[pz b,D r,D s,D a,D z] K):=by
 refine bh h.pl (an (P' _ _ _ _ _) ?_);unfold a8.lay a8.gM a8.js at I;generalize d:W.e9 r s a z=e at I;unfold a8.e9 at d;repeat' first|apply J.go|refine S2.go (λ_=>?_) λ_=>?_|refine Sc.go (by omega) ?_|done
 ·rename_i h
  rw[ak h]at d;subst d;rw[ak h,ak h,ak h]at I;exact af I
 ·rename_i h
  rw[ah h]at d;have j:W.kn r=gP r:=by unfold a8.kn;rw[ah h]
  rw[j];generalize gP r=p at*;refine aN (cK b) (lq λx ok=>?_);have g:=ok.rg p;have hlen:=ok.len p;repeat apply J.go
  rw[g]at hlen d I f;have eW:=λq c' k=>ok.Hu (p:=p) (q:=q) (c':=c') (xs:=(W.rg p).xs) (cur:=k) (by omega);rw[g]at eW;generalize i:(aS x.m p).getD eZ=X at*;refine af (H':=cS fK x.m::MP gT x.r x.m::cc x.fb W.F::cl b #[pz x.fb,.map (some x.r)]::H0) ?_;have n:Rd B (cS fK x.m::MP gT x.r x.m::cc x.fb W.F::cl b #[pz x.fb,.map (some x.r)]::H0) X.p (iv .i64 X.xs):=⟨by rw[<-i];exact Bc ok.bV⟩;have hex:Array.extract.loop #[D X.aM,Value.slice X.p X.xs.length X.c,D X.cur] ((min 3 #[D X.aM,Value.slice X.p X.xs.length X.c,D X.cur].size).sub 1) 1 (Array.emptyWithCapacity ((min 3 #[D X.aM,Value.slice X.p X.xs.length X.c,D X.cur].size).sub 1))=#[Value.slice X.p X.xs.length X.c,D X.cur]:=rfl;rw[hex];unfold Ed;refine W3 rfl (by simp only at hlen;omega) ⟨f,hs,ha⟩ (λhe=>?_) λhe q=>?_
  ·rw[d]at he⊢
   rw[ak he,ak he,ak he]at I;repeat' first|apply J.go|refine Sa.go λ_=>?_|refine S2.go (λ_=>?_) λ_=>?_|refine Sc.go (by first|omega|exact⟨rfl,rfl⟩) ?_|done
   ·exact af (jd x ok I)
   ·contradiction
  ·rw[d]at he
   subst he;rw[ah rfl,ah rfl,ah rfl]at I;repeat first|apply J.go|refine Sa.go λ_=>?_|refine Sc.go (by first|rfl|exact⟨rfl,rfl⟩) ?_
   refine af (H':=ai 1 (some ⟨q,0,none⟩) X.xs.length X.xs.length (iv .i64 X.xs)::cl b #[pz x.fb,.map (some x.r)]::MP gT x.r x.m::cS fK x.m::cc x.fb W.F::H0) ?_;unfold ce;apply G8 ok.bV rfl;rw[i];exact J.go (af (jd {x with m:=bE p ⟨X.aM,some ⟨q,0,none⟩,X.xs.length,X.xs,o3 X.cur s a z⟩ x.m} (eW _ _ _) I))
def X0[h:Ow H (cK b) W H0](hr:aF r)(j:W.bw<900000)(I:T B (cK b (W.add r i)::H0) (K (D (W.gp r i)))):T B H (ab P 110 #[pz b,D r,D i] K):=by
 refine bh h.pl (an (P6 _ _ _) ?_);unfold a8.add at I;generalize a:W.gp r i=e at I;unfold a8.gp at a;repeat' first|apply J.go|refine S2.go (λ_=>?_) λ_=>?_|refine Sc.go (by omega) ?_|done
 ·rename_i h
  rw[ak h]at a;subst a;rw[ak h]at I;exact af I
 ·rename_i h
  rw[ah h]at a;have g:W.kn r=gP r:=by unfold a8.kn;rw[ah h]
  rw[g];generalize gP r=p at*;refine aN (cK b) (lq λx ok=>?_);have d:=ok.rg p;have hlen:=ok.len p;repeat apply J.go
  rw[d]at hlen a I;have eW:=λq c'=>ok.Hu (p:=p) (q:=q) (c':=c') (xs:=(W.rg p).xs++[i]) (cur:=0) (by simp);rw[d]at eW;generalize f:(aS x.m p).getD eZ=X at*;refine af (H':=cS fK x.m::MP gT x.r x.m::cc x.fb W.F::cl b #[pz x.fb,.map (some x.r)]::H0) ?_;have k:Rd B (cS fK x.m::MP gT x.r x.m::cc x.fb W.F::cl b #[pz x.fb,.map (some x.r)]::H0) X.p (iv .i64 X.xs):=⟨by rw[<-f];exact Bc ok.bV⟩;have hex:Array.extract.loop #[D X.aM,Value.slice X.p X.xs.length X.c,D X.cur] ((min 3 #[D X.aM,Value.slice X.p X.xs.length X.c,D X.cur].size).sub 1) 1 (Array.emptyWithCapacity ((min 3 #[D X.aM,Value.slice X.p X.xs.length X.c,D X.cur].size).sub 1))=#[Value.slice X.p X.xs.length X.c,D X.cur]:=rfl;rw[hex];unfold fH;refine WZ rfl (by simp only at hlen;omega) (λhe=>?_) λhe q c'=>?_
  ·rw[a]at he⊢
   rw[ak he]at I;repeat' first|apply J.go|refine Sa.go λ_=>?_|refine S2.go (λ_=>?_) λ_=>?_|refine Sc.go (by first|omega|exact⟨rfl,rfl⟩) ?_|done
   ·contradiction
   ·exact af (jd x ok I)
  ·rw[a]at he
   subst he;rw[ah rfl]at I;repeat first|apply J.go|refine Sa.go λ_=>?_|refine Sc.go (by first|rfl|exact⟨rfl,rfl⟩) ?_
   refine af (H':=ai 1 q (X.xs.length+1) c' (iv .i64 (X.xs++[i]))::cl b #[pz x.fb,.map (some x.r)]::MP gT x.r x.m::cS fK x.m::cc x.fb W.F::H0) ?_;unfold ce;apply G8 ok.bV (by simp);rw[f];exact J.go (af (jd {x with m:=bE p ⟨X.aM,q,c',X.xs++[i],0⟩ x.m} (eW _ _) I))
end
end
open Go.XS Go.bn
instance ac2:gl P 470 2:=gl.of (e:=0) (by kernel_rfl)
namespace a8
def pre(W:a8)(p:Int):List Nat:=W.F.walk W.bw true p
def post(W:a8)(p:Int):List Nat:=W.F.walk W.bw false p
def under(W:a8)(p:Int):aO:=(W.pre p).flatMap λk:Nat=>(W.rg (k:Int)).xs
abbrev jV(W:a8)(k:Nat):a8:={W with F:=W.F.drop k,rg:=b2 W.rg k vh}
def free(W:a8)(r:Int):a8:=if W.bo r=0 then(W.post (gP r)).foldl jV W else W
end a8
section
variable {B:Heap}{H H0:au}{K:aK}{b:Nat}{W:a8}{r n c i:Int}
def Cg{F:For}{N:Nat}{come:Bool}(c:F.S.Ok)(d:F.S.b6.length=4096)(U:∀k,(F.ls k).Nodup)(e:∀k k' n,n∈F.ls k->n∈F.ls k'->k=k')(f:∀k n,n∈F.ls k->k<4097/\n<4096)(hd:F.S.b7 n=true->deep F.ls N n.toNat):(F.walk N come n).length<=4096:=by
 unfold For.walk;split
 ·rename_i b
  have g:=c.lt b;rw[d]at g;refine nO 4096 (Bj e U come (hd b)) λx a=>?_;have:=sC (rO.1 a)
  cases this with
  |refl=>omega
  |step _ a=>exact(f _ _ a).2
 ·simp
def uy{F:For}{N:Nat}(b:F.S.Ok)(h:∀p:Nat,F.S.b7 p=true->deep F.ls N p):F.S.b7 n=true->deep F.ls N n.toNat:=λa=>by have c:=b.lt a;exact h _ (by rw[rX c.1];exact a)
def X6(hr:aF r)(Y:W.bw<1000)(A:W.bo r≠0->T B (cK b W::H) (K (.tuple #[.slice none 0 0,D (W.bo r)])))(I:W.bo r=0->∀q c',T B (ai 1 q (W.under (gP r)).length c' (iv .i64 (W.under (gP r)))::cK b W::H) (K (.tuple #[.slice q (W.under (gP r)).length c',D 0]))):T B (cK b W::H) (ab P 190 #[pz b,D r] K):=by
 refine tt λo d Z U C E=>an (Qc _ _) ?_;repeat' first|apply J.go|refine S2.go (λ_=>?_) λ_=>?_|refine Sc.go (by omega) ?_|done
 ·rename_i h
  exact A h
 ·rename_i h
  have I:=I h;have G:W.kn r=gP r:=by unfold a8.kn;rw[ah h]
  rw[G];generalize gP r=p at*;refine lq λx ok=>J.go (aN (cc x.fb) ?_);unfold bX;have L:=Cg (come:=true) o d U C E (uy (n:=p) o ok.deep);refine aaF (uy o ok.deep) λq1 c1=>J.go ?_;have M:W.F.walk W.bw true p=W.pre p:=rfl;rw[M]at L⊢;generalize N:W.pre p=l at*
  let row:Nat->Pg:=λk=>⟨((aS x.m (k:Int)).getD eZ).p,((aS x.m (k:Int)).getD eZ).c,((aS x.m (k:Int)).getD eZ).xs,((aS x.m (k:Int)).getD eZ).cur⟩
  have f:∀k,row k=⟨((aS x.m (k:Int)).getD eZ).p,((aS x.m (k:Int)).getD eZ).c,((aS x.m (k:Int)).getD eZ).xs,((aS x.m (k:Int)).getD eZ).cur⟩:=λ_=>rfl;generalize row=row at f;refine dR 2 (af (H':=ai 2 none 0 0 []::ai 1 q1 l.length c1 (nv l)::ll b W x H) (oH l.length (by omega) (λk p a c H'=>a=k/\H'=ai 2 p k c (((l.take k).map row).flatMap k4)::ai 1 q1 l.length c1 (nv l)::ll b W x H) ⟨rfl,rfl⟩ ?_));rintro k j a c' H' R aa ⟨rfl,rfl⟩ O;refine S2.go (λ_=>?_) λ_=>?_
  ·have t:a<l.length:=by omega
   have u:l[a]?=some l[a]:=ba t;generalize l[a]=m at u;refine e1 a rfl t (by rw[fo,u];rfl) ?_;repeat first|apply J.go|refine Sa.go λ_=>?_|refine Sc.go rfl ?_
   have y:=f m;generalize(aS x.m (m:Int)).getD eZ=X at y⊢;rename_i ac;refine jP (ds:=(k4 (row m)).toArray) (by rw[y];rfl) ?_;refine aN (ai 2 j a c') (e0 (s:=2) (c:=c') rfl (by omega) λz i=>?_);have e:((l.take (a+1)).map row).flatMap k4=((l.take a).map row).flatMap k4++(k4 (row m)).toArray.toList:=by rw[dQ u];simp
   rw[<-e];exact af (H':=ai 2 z (a+1) i (((l.take (a+1)).map row).flatMap k4)::ai 1 q1 l.length c1 (nv l)::ll b W x H) (O t z _ i _ ⟨rfl,rfl⟩)
  ·have hl:a=l.length:=by omega
   subst hl;rw[gA]
   have hu:(l.map row).flatMap (·.xs)=W.under p:=by unfold a8.under;rw[N,List.flatMap_map];congr 1;funext k;rw[f,ok.rg]
   have w:(l.map row).length=l.length:=by simp
   rw[show ai 2 j l.length c' ((l.map row).flatMap k4)=ai 2 j (l.map row).length c' ((l.map row).flatMap k4) by rw[w]];have:=W0 (B:=B) (H:=ll b W x H) (gs:=l.map row) (q:=j) (c':=c') (K:=λv=>iX v λQ S V=>K (Value.tuple #[Value.slice Q S V,D 0])) ?_ (by rw[w];omega) ?_ ?_
   ·rw[w]at this⊢
    exact af this
   ·intro g d
    obtain⟨k,I,rfl⟩:=bQ.1 d;rw[f];exact(Bc ok.bV).tail.tail.tail
   ·intro g d
    obtain⟨k,I,rfl⟩:=bQ.1 d;rw[f];have:=ok.len (k:Int);rw[ok.rg]at this;simp only at this⊢;omega
   ·intro q' i
    rw[hu];exact J.go (af (H':=ll b W x (ai 1 q' (W.under p).length i (iv .i64 (W.under p))::H)) (jd x ok (cq (cy _ _ _) (I q' i))))
def TP{F:For}{n:Int}(k m:Nat)(h:m∈(F.drop n).ls k):m∈F.ls k:=by
 unfold For.drop at h;split at h
 ·exact(pB.1 h).1
 ·exact h
def TO{F:For}{n:Int}(p:Int)(h:(F.drop n).S.b7 p=true):F.S.b7 p=true:=by
 unfold For.drop at h;split at h
 ·rw[aV.yj,b9]at h;exact h.2
 ·exact h
def a8.Ok.jV{x:oK}(ok:W.Ok x)(k:Nat):(W.jV k).Ok {x with m:=bO (k:Int) x.m}:=by
 refine⟨ma ok.bV,λj=>?_,λp b=>Ex (λk m h=>TP k m h) (ok.deep p (TO _ b)),λj=>?_,λm hm a=>?_⟩
 ·simp only[b2]
  rw[mR];split
  ·rfl
  ·exact ok.rg j
 ·simp only[b2]
  split
  ·simp
  ·exact ok.len j
 ·simp only at a⊢
  unfold For.drop at a⊢;split at a
  ·rename_i h
   rw[ah h];rw[aV.yj,Cy]at a
   have:W.F.ls m=[]:=by
    rcases a with e|e
    ·simp only[CA,bz]at e
     have:m=k:=by omega
     subst this;have:=h.2
     rwa [a7]at this
    ·exact ok.nil m hm e
   simp only[this,CJ]
  ·rename_i h
   rw[ak h];exact ok.nil m hm a
def X2(hr:aF r)(f:W.bw<1000)(g:W.bo r≠0->T B (cK b W::H) (K (.tuple #[.slice none 0 0,D (W.bo r)])))(I:W.bo r=0->∀q c',T B (ai 1 q (W.under (gP r)).length c' (iv .i64 (W.under (gP r)))::cK b (W.free r)::H) (K (.tuple #[.slice q (W.under (gP r)).length c',D 0]))):T B (cK b W::H) (ab P 113 #[pz b,D r] K):=by
 refine tt λc h u U i j=>an (P9 _ _) ?_;unfold uu;refine X6 hr f (λhe=>?_) λhe q c'=>?_
 ·repeat' first|apply J.go|refine S2.go (λ_=>?_) λ_=>?_|refine Sc.go (by omega) ?_|done
  ·exact g he
  ·contradiction
 have I:=I he q c';unfold a8.free at I;rw[ah he]at I;have o:W.kn r=gP r:=by unfold a8.kn;rw[ah he]
 refine J.go (aD (by simp) (Sc.go hr ?_));rw[o];generalize W.under (gP r)=us at*;generalize gP r=p at*;refine aN (cK b) (lq λx ok=>?_);repeat apply J.go
 refine aN (cc x.fb) ?_;unfold bX;have s:=Cg (come:=false) c h U i j (uy (n:=p) c ok.deep);refine aaE (uy c ok.deep) λq1 c1=>J.go ?_;have t:W.F.walk W.bw false p=W.post p:=rfl;rw[t]at s⊢;generalize W.post p=l at*;refine af (H':=ll b W x (ai 1 q1 l.length c1 (nv l)::ai 1 q us.length c' (iv .i64 us)::H)) (jd x ok ?_);apply cF l.length (by omega) (λk H'=>H'=cK b ((l.take k).foldl a8.jV W)::ai 1 q1 l.length c1 (nv l)::ai 1 q us.length c' (iv .i64 us)::H) rfl;rintro k H' R w rfl a;refine S2.go (λ_=>?_) λ_=>?_
 ·have d:k<l.length:=by omega
  have e:l[k]?=some l[k]:=ba d;generalize l[k]=m at e;refine e1 k rfl d (by rw[fo,e];rfl) ?_;have a:=a d;rw[dQ e,vQ]at a;generalize(l.take k).foldl a8.jV W=Z at a⊢;refine aN (cK b) (lq λx ok=>?_);repeat apply J.go
  refine aN (cc x.fb) ?_;unfold aJ;refine Wk λv=>?_;apply J.go;refine aN (cS fK) (WX (k:=(m:Int)) (z:=eZ) x9 ok.bV ?_);refine af (H':=ll b (Z.jV m) {x with m:=bO (m:Int) x.m} (ai 1 q1 l.length c1 (nv l)::ai 1 q us.length c' (iv .i64 us)::H)) (jd _ (ok.jV m) ?_);exact a _ rfl
 ·have hl:k=l.length:=by omega
  subst hl;rw[gA];exact af I
def a8.roots(W:a8)(c:Int):Nat:=((W.F.ls 4096).filter λp:Nat=>(W.rg (p:Int)).aM==c).length
def X4(I:∀q c',T B (cK b W::H) (K (.slice q (W.roots c) c'))):T B (cK b W::H) (ab P 101 #[pz b,D c] K):=by
 refine tt λw z A U C t=>an (Qa _ _) ?_;repeat apply J.go
 refine aN (cK b) (lq λx ok=>?_);refine J.go (aN (cc x.fb) ?_);unfold bX;refine Wp λq1 c1=>J.go ?_;have u:=U 4096;have g:=t 4096;have hlen:=nO 4096 u λx d=>(g x d).2;unfold a8.roots at I;generalize W.F.ls 4096=l at*;refine dR 1 ?_;refine af (H':=ai 1 none 0 0 []::ai 1 q1 l.length c1 (iv .i64 (l.map Int.ofNat))::ll b W x H) ?_;refine oH l.length (by omega) (λk p n c' H'=>n=((l.take k).filter λp:Nat=>(W.rg (p:Int)).aM==c).length/\∃ys:aO,H'=ai 1 p n c' (iv .i64 ys)::ai 1 q1 l.length c1 (iv .i64 (l.map Int.ofNat))::ll b W x H) ⟨rfl,[],rfl⟩ ?_;rintro k p n c' H' R E ⟨rfl,ys,rfl⟩ a;have G:((l.take k).filter λp:Nat=>(W.rg (p:Int)).aM==c).length<=k:=jL (y1 _ _) (by rw[ff];omega);refine S2.go (λ_=>?_) λ_=>?_
 ·have e:k<l.length:=by omega
  have d:l[k]?=some l[k]:=ba e;generalize l[k]=m at d;have hm:=g m (cz d);refine e1 (zs:=l.map Int.ofNat) k rfl e (x:=(m:Int)) (by rw[fo,d];rfl) ?_;have a:=a e;rw[dQ d,mo]at a;have h:=ok.rg (m:Int);repeat' first|apply J.go|refine S2.go (λ_=>?_) λ_=>?_|done
  ·rename_i f
   have hf:([m].filter λp:Nat=>(W.rg (p:Int)).aM==c)=[m]:=by rw[mr (by simpa[h]using f)];rfl
   rw[hf,cr]at a;generalize((l.take k).filter λp:Nat=>(W.rg (p:Int)).aM==c).length=n0 at*;refine aN (cc x.fb) (mJ λy i=>?_);apply J.go;refine Sc.go ⟨by omega,by rw[i.b6];omega⟩ ?_;repeat first|apply J.go|refine Sa.go λ_=>?_
   refine aN (ai 1 p n0 c') (e0 (s:=1) (c:=c') rfl (by omega) λj o=>?_);obtain⟨zs,v⟩:∃zs:aO,iv .i64 ys++(#[D (if fS 2 (m:Int) (W.F.S.gen m) 0=0 then eM 2 (m:Int) (W.F.S.gen m) 0 else 0)]:ax).toList=iv .i64 zs:=⟨ys++[_],by simp[iv];rfl⟩;rw[v];have:=a j _ o _ ⟨rfl,zs,rfl⟩;refine af (H':=sL x.fb W.F y (ai 1 j (n0+1) o (iv .i64 zs)::ai 1 q1 l.length c1 (iv .i64 (l.map Int.ofNat))::cl b #[pz x.fb,.map (some x.r)]::MP gT x.r x.m::cS fK x.m::H)) (ko y i ?_);exact af this
  ·rename_i f
   have hf:([m].filter λp:Nat=>(W.rg (p:Int)).aM==c)=[]:=by rw[mq (by simpa[h]using f)];rfl
   rw[hf,je]at a;have:=a p _ c' _ ⟨rfl,ys,rfl⟩;exact af this
 ·have hl:k=l.length:=by omega
  subst hl;rw[gA];exact af (H':=ll b W x H) (jd x ok (I p c'))
def X3(I:∀b,T B (cK b a8.new::H) (K (pz b))):T B H (ab P 34 #[] K):=by
 apply an (P5);unfold dq;refine Wl λfb=>?_;repeat first|apply J.go|refine Sa.go λ_=>?_
 rename_i r b;refine bL (q:=IM r λ_=>none) (iQ gT ?_);have:=jd ⟨fb,r,[]⟩ ⟨by simp[bS,bb,eu],λk=>rfl,λp a=>by simp[a8.new,aV.new,aV.b7,aS]at a,λk=>by simp[a8.new],λm _ _=>rfl⟩ (I b);refine jQ (Hs:=[]) ?_;exact af (H':=cl b #[pz fb,.map (some r)]::cc fb For.new::MP gT r []::eG []::H) this
end
