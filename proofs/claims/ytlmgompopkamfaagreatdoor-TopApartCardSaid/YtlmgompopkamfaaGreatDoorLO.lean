/- Lemmas that lead to TopApart (their names made short by a program); no condition. -/
import Derived.Test.YtlmgompopkamfaaGreatDoorLN
import Derived.Shelf.Strings.Builder1
import Derived.Shelf.Strings.Builder2
import Derived.Shelf.Strings.OnBuilder
import Derived.Shelf.Strconv.Atoi
import Derived.Shelf.Strconv.Itoa3
import Derived.Shelf.LaysM
import Derived.Shelf.Strings.Cut
import Derived.Shelf.Strings.Prefix
import Derived.Shelf.Strings.Split
import Derived.Ground.NamesProg
import Derived.Test.YtlmgompopkamfaaGreatDoorProg
set_option linter.all false
set_option maxRecDepth 20000
set_option synthInstance.checkSynthOrder false
namespace Go.Proofs.YtlmgompopkamfaaGreatDoor
section
open Go.XS Go.bm
def Wh{α:Type}{k:Int}{v:α}{m:ML α}:(bC k v m).length<=m.length+1:=by
 induction m with
 |nil=>simp[bC]
 |cons e m a=>
  unfold bC;split
  ·simp
  ·split
   ·simp
   ·simp only[c8];omega
section
variable {S S':aE}{pu:Int->aN}{z c i r p:Int}{W:a6}{V V':Lv}
def Vc{s a:Int}(h:W.e3 r s a z=0):W.bk r=0/\W.gM r s a z∈(W.rg (gP r)).xs/\0<=W.jy r s a z/\1<=s/\W.jy r s a z+s<=z:=by
 have h0:=h;unfold a6.e3 at h;split at h
 ·rename_i hf
  refine⟨hf,?_⟩;unfold Go.Proofs.YtlmgompopkamfaaGreatDoor.e3 at h;split at h
  ·rename_i hr
   split at h
   ·rename_i he
    split at h
    ·cases h
    ·rename_i d
     refine⟨?_,?_⟩
     ·unfold a6.gM rL
      rw[ag h0,ag hr]
      cases f:(W.rg (gP r)).xs with
      |nil=>exact absurd f d
      |cons y ys=>have hl:(y::ys).getLast?=some ((y::ys).getLast (by simp)):=C6 _;rw[hl];exact List.getLast_mem _
     ·have e:W.jy r s a z=iY (W.rg (gP r)).cur a:=by unfold a6.jy rM;rw[ag h0,ag he]
      rw[e];unfold qt at he;split at he
      ·cases he
      ·rename_i h1
       split at he
       ·cases he
       ·split at he
        ·cases he
        ·rename_i g
         split at he
         ·cases he
         ·split at he
          ·cases he
          ·rename_i i
           have b:kl (W.rg (gP r)).cur a=true:=by simpa using g
           have j:iY (W.rg (gP r)).cur a=nK (W.rg (gP r)).cur a:=by unfold iY;rw[ag b]
           unfold kl at b;simp only[cg,bJ]at b;have c:=b.1.2;unfold nY at c;simp only[cg,bJ]at c
           have h0:0<=nK (W.rg (gP r)).cur a:=by unfold nK;have:=y4 ((W.rg (gP r)).cur+a-1) c.1;omega
           rw[j]at i⊢;omega
   ·rename_i he;exact absurd h he
  ·cases h
 ·rename_i he;exact absurd h he
def aaD{l:Ld}(d:bQ V.all)(c:PI S pu W.rg)(hL:LI S z W V)(hf:W.bk l.bR=0)(hi:l.chunk∈(W.rg (gP l.bR)).xs)(f:l.gen=(S.at' l.chunk).gen)(h0:0<=l.at')(h1:1<=l.len)(g:l.at'+l.len<=z):LI S z W (V.add l)/\(V.add l).bs<=V.bs+1/\(V.add l).all.length<=V.all.length+1:=by
 unfold Lv.add;by_cases h:V.gh l=0
 ·rw[ag h]
  refine⟨λe he=>?_,dQ _,Wh⟩;rcases(o2 d).1 he with rfl|⟨he,_⟩
  ·have aM:=(c.ir _ _ hi).1
   have i:(V.k5 l.chunk l.gen).gen=l.gen:=by
    unfold Lv.gh at h;split at h
    ·split at h
     ·assumption
     ·cases h
    ·cases h
   refine⟨aM,i.trans f,gP l.bR,hi,λpc b=>?_⟩;have b:pc∈List.take (dN l.at' (V.k5 l.chunk l.gen).ss) (V.k5 l.chunk l.gen).ps++(⟨l.at',l.len,l.bR⟩:Pc)::List.drop (dN l.at' (V.k5 l.chunk l.gen).ss) (V.k5 l.chunk l.gen).ps:=b
   have hold:pc∈(V.k5 l.chunk l.gen).ps->gP pc.bR=gP l.bR/\W.bk pc.bR=0/\0<=pc.at'/\1<=pc.len/\pc.at'+pc.len<=z:=λa=>by
    unfold Lv.k5 at a
    cases hm:aQ V.all l.chunk with
    |none=>rw[hm]at a;cases a
    |some k=>rw[hm]at a;obtain⟨_,_,q,x3,x4⟩:=hL _ (jA hm);obtain⟨j,m⟩:=x4 pc a;have:=c.mL q (gP l.bR) l.chunk x3 hi;exact⟨j.trans this,m⟩
   rcases dO.1 b with a|a
   ·exact hold (kP a)
   ·rcases cL.1 a with rfl|a
    ·exact⟨rfl,hf,h0,h1,g⟩
    ·exact hold (tW a)
  ·exact hL e he
 ·rw[aj h]
  exact⟨hL,kf _,kf _⟩
end
structure oM(X Y:aJ):Prop where
 ee:dX X.S Y.S
 sz:Y.S.size=X.S.size
 ck:Y.S.bl+Y.S.free.length<=X.S.bl+X.S.free.length
 sl:Y.L.ar.aU=X.L.ar.aU
 ch:Y.L.chunks=X.L.chunks
 al:Y.T.all.length=X.T.all.length
 ai:Y.Q.fU=X.Q.fU
 rc:Y.R=X.R
 tb:∀b,0<=b->TB b X.T->TB b Y.T
 at':∀i,X.S.ok i=true->(X.S.at' i).ph≠0->Y.S.at' i=X.S.at' i
def oM.refl{X:aJ}(h:X.S.Inv):oM X X:=⟨dX.refl h,rfl,dQ _,rfl,rfl,rfl,rfl,rfl,λ_ _ h=>h,λ_ _ _=>rfl⟩
def Iw{T:a1}{i:Int}{c:Tk}{b:Int}(d:TB b T)(hi:T.has i=true)(g:c.b4=(T.at' i).b4){f:ML Unit}:TB b ⟨T.all.set (i-1).toNat c,f⟩:=λj a=>by
 have a:T.has j=true:=by unfold a1.has at a⊢;simpa using a
 have h:=hx.1 a;have k:=hx.1 hi
 have e:a1.at' ⟨T.all.set (i-1).toNat c,f⟩ j=if j=i then c else T.at' j:=by
  unfold a1.at';simp only[eo];split
  ·rename_i e;subst e;rw[tV (by omega)];rfl
  ·rw[oq (by omega)]
 rw[e];split
 ·rw[g];exact d i hi
 ·exact d j a
def TP(L:bE)(w:Ac)(c n:Int):(L.bK w c n).ar.aU=L.ar.aU/\(L.bK w c n).chunks=L.chunks:=by
 unfold bE.bK;split
 ·unfold bG.bK
  split
  ·exact⟨rfl,rfl⟩
  ·exact⟨rfl,rfl⟩
 ·exact⟨rfl,rfl⟩
def UH{Y:aJ}{t:Tk}{c:Int}(g:aJ.ue Y t c)(h:AS Y.L Y.S Y.R.line):oM Y (Y.mN t c)/\∀rg,PI Y.S Y.pu rg->PI (Y.mN t c).S (Y.mN t c).pu rg:=by
 have tk:=Ip (o:=t.aO+1) (by have:=g.cl.1;omega) h.inv t.count.toNat g.bs.2;have k:=vN (t.aO+1) Y.S t.count.toNat g.bs.2;obtain⟨s1,s2⟩:=TP Y.L .cu c t.count
 have a:Y.T.has t.id=true:=by
  have:=g.tk;unfold a1.cI at this;split at this
  ·assumption
  ·cases this
 have d:Y.T.bK (c6 · 2) check t.id=⟨Y.T.all.set (t.id-1).toNat (c6 (Y.T.at' t.id) 2),if(c6 (Y.T.at' t.id) 2).state=1 then Y.T.bB else bN t.id Y.T.bB⟩:=by unfold a1.bK;rw[ag g.tk]
 refine⟨⟨tk.ee,tk.sz,?_,s1,s2,?_,rfl,rfl,λb l e=>?_,λi hi f=>?_⟩,λrg j=>j.aaj tk⟩
 ·show(takeN (t.aO+1) t.count.toNat Y.S).1.bl+(takeN (t.aO+1) t.count.toNat Y.S).1.free.length<=_
  have:=g.bs.2;omega
 ·show(Y.T.bK (c6 · 2) check t.id).all.length=_
  rw[d];simp
 ·show TB b (Y.T.bK (c6 · 2) check t.id)
  rw[d];apply Iw e a;have:=g.tk;unfold a1.cI at this;rw[ag a]at this;unfold c6;rw[ag this]
 ·exact tk.at' i (ez.1 hi).1 λhm=>f (tk.new i hm).2.1
def oM.trans{X Y Z:aJ}(h1:oM X Y)(a:oM Y Z)(e:∀i,X.S.ok i=true->(X.S.at' i).ph≠0->(Y.S.at' i).ph≠0):oM X Z:=
 ⟨h1.ee.trans a.ee,a.sz.trans h1.sz,lN a.ck h1.ck,a.sl.trans h1.sl,a.ch.trans h1.ch,a.al.trans h1.al,a.ai.trans h1.ai,a.rc.trans h1.rc,λb c f=>a.tb b c (h1.tb b c f),
  λi hi d=>(a.at' i (by unfold aE.ok at hi⊢;rw[<-h1.ee.len];exact hi) (e i hi d)).trans (h1.at' i hi d)⟩
def UG{Y:aJ}{l:List Tk}(g:Ds Y l):∀k,k<=l.length->oM Y (Y.ig (l.take k))/\∀rg,PI Y.S Y.pu rg->PI (Y.ig (l.take k)).S (Y.ig (l.take k)).pu rg:=by
 intro k
 induction k with
 |zero=>intro _;exact⟨oM.refl (g.ac 0).inv,λ_ h=>h⟩
 |succ k d=>intro U;obtain⟨a,i2⟩:=d (by omega);have b:l[k]?=some l[k]:=bj (by omega);have e:=g.ok k _ b;obtain⟨f,j⟩:=UH e (g.ac k);rw[ef b,aJ.FI];refine⟨a.trans f λi hi c=>?_,λrg m=>j rg (i2 rg m)⟩;rw[a.at' i hi c];exact c
structure Kv(X:aJ)(b:Int):Prop where
 ok:X.zJ
 ac:AS X.tick.L X.tick.S X.tick.R.line
 ts:TS X.tick.L X.tick.T X.tick.Q
 ee:dX X.S X.tick.S
 sz:X.tick.S.size=X.S.size
 ck:X.tick.S.bl<=X.S.bl+24
 sl:X.tick.L.ar.aU=X.L.ar.aU
 ch:X.tick.L.chunks=X.L.chunks
 al:X.tick.T.all.length=X.T.all.length
 ai:X.tick.Q.fU=X.Q.fU
 tb:TB (b+1000) X.tick.T
 tk:X.tick.R.du=X.R.du+1
 nx:X.tick.R.line.next=X.R.line.next
 pi:∀rg,PI X.S X.pu rg->PI X.tick.S X.tick.pu rg
 at':∀i,X.S.ok i=true->(X.S.at' i).ph=1->X.tick.S.at' i=X.S.at' i
def Is{X:aJ}{b:Int}(h:AS X.L X.S X.R.line)(a:TS X.L X.T X.Q)(F:GS X.L.ar.aU)(G:0<=b/\b<=1000000)(s:TB b X.T)(ad:X.S.bl<=100000)(ae:X.S.cs.length<=12)(af:X.T.all.length<=1000)(H:0<=X.R.du/\X.R.du<1000000):Kv X b:=by
 have ag:X.R.line.xs.length<=12:=by have:=h.yO;have:=s7 h.inv;omega
 have I:X.R.many<=X.R.line.xs.length:=by unfold Rec.many;omega
 obtain⟨J,a2,a3⟩:=h.gZ X.R.many I;have d:AS X.bn.L X.bn.S X.bn.R.line:=J
 have ah:X.T.cY.length<=1000:=by
  rw[a1.x6]
  have h1:(a7 X.T.bB).length<=X.T.all.length:=by
   have K:=mg a.ps
   have:((a7 X.T.bB).map λi=>i-1).Nodup:=by apply mx.2;rw[kR];exact(mx.1 K).imp λM e=>M (by omega)
   have:=ve (N:=X.T.all.length) this λi hi=>by obtain⟨j,f,rfl⟩:=bP.1 hi;have:=hx.1 ((a.tk j).1 f).1;omega
   rwa [eX]at this
  rw[eX]at h1;omega
 have v:∀t∈X.T.cY,0<=t.b4/\t.b4<=b/\0<=t.id/\t.id<=100000:=λt hm=>by obtain⟨j,f,rfl⟩:=bP.1 hm;have g:=((a.tk j).1 f).1;have h1:=s j g;have O:=a.tid j g;have:=hx.1 g;rw[O];omega
 have P:RB b ⟨[],X.T.cY,X.L.ar.members,X.bn.S.many 0⟩:=λt hm=>by
  rcases hm with hm|hm
  ·cases hm
  ·exact v t hm
 obtain⟨x,dG⟩:=RB.run X.T.cY.length G.1 P;have y:X.bn.cn=b5.run (X.bn.R.line.xs.length:Int) X.T.cY.length ⟨[],X.T.cY,X.L.ar.members,X.bn.S.many 0⟩:=rfl;rw[<-y]at x dG;simp only[gH,bI]at dG
 have o:∀t∈X.bn.cn.gs++X.bn.cn.ls,t.b4<=b+1000/\0<=t.b4/\0<=t.id/\t.id<=100000:=λt hm=>by have:=x t (dO.1 hm);omega
 have p:TB (b+1000) X.T:=λi hi=>by have:=s i hi;omega
 have c:PE (b+1000) X.T (X.T.iJ (X.bn.cn.gs++X.bn.cn.ls)):=He λt hm=>(o t hm).1;have z:TS X.L (X.T.iJ (X.bn.cn.gs++X.bn.cn.ls)) X.Q:=a.pass p c;have aj:X.bn.S.free.length<=12:=by have:=d.inv.xh;have:=s7 d.inv;have:=a2.ee.len;have:X.bn.S.cs.length=X.S.cs.length:=this.symm;omega
 have ak:X.bn.S.bl<=X.S.bl+12:=by have:=a2.ck;have:X.bn.S.bl=X.S.bl+(X.R.line.xs.take X.R.many).length:=this;rw[fv]at this;omega
 have U:sk (X.bn.R.line.xs.length:Int) (X.bn.tE X.bn.cn) ⟨[],X.T.cY,X.L.ar.members,X.bn.S.many 0⟩:=by
  refine⟨d,z,rfl,rfl,?_,?_,F,?_,?_⟩
  ·show((X.bn.S.many 2:Nat):Int)=_
   rw[<-d.yO]
  ·show(X.T.iJ _).cY.map lB=X.T.cY.map lB
   rw[x5 z,x5 a,c.bB];refine h8 λj f=>?_;obtain⟨w,e,_⟩:=c.at' j ((a.tk j).1 f).1;rw[e]
  ·show X.bn.S.bl+X.bn.S.free.length<800000
   omega
  ·show(X.T.iJ _).all.length<=100000
   rw[c.len];omega
 obtain⟨l,r,A,n⟩:=Yq X.T.cY.length U;rw[<-y]at r n;simp only[kQ]at r;subst r;obtain⟨g1,g2⟩:=UG A X.bn.cn.gs.length (dQ _);rw[ix]at g1 g2;have V:X.tick=(X.bn.tE X.bn.cn).ig X.bn.cn.gs:=rfl;rw[<-V]at g1 g2 n;have W:X.R.line.Fits X.S:=⟨h.l9,λi hi=>(h.ln i).1 hi⟩
 have Y:∀m∈X.L.ar.members,cq m.2=true:=λm hm=>by obtain⟨q,Z,rfl⟩:=bP.1 hm;exact(pW h.ar h.keys Z).1
 have B:∀i,X.S.ok i=true->(X.S.at' i).ph=1->X.bn.S.at' i=X.S.at' i:=λi hi C=>a2.at' i (ez.1 hi).1 λhm=>by have:=(a3 i hm).2;omega
 have am:X.bn.S.many 0<=12:=by have:=d.inv.xh;omega
 refine⟨⟨W,by omega,H,⟨X.T.cY.length,Y,λt hm=>(v t hm).1,⟨by show(0:Int)<=(X.bn.S.many 0:Nat);omega,by show((X.bn.S.many 0:Nat):Int)<=1048576;omega⟩,?_,by simp,by omega⟩,by omega,λk t aa=>?_,A.ok⟩,n.ac,n.ts,a2.ee.trans g1.ee,g1.sz.trans a2.sz,?_,g1.sl,g1.ch,?_,g1.ai,?_,?_,?_,λrg D=>g2 rg ?_,λi hi C=>?_⟩
 ·show X.L.ar.members.length<=1000
  have:=bG.uW h.ar h.sl;rw[X.L.ar.u4];omega
 ·have hm:t∈X.bn.cn.gs++X.bn.cn.ls:=cr aa
  obtain⟨c1,c2,c3,lZ⟩:=o t hm;have ab:PE (b+1000) X.T (X.T.iJ ((X.bn.cn.gs++X.bn.cn.ls).take k)):=He λu hu=>(o u (kP hu)).1;have:=(ab.tb p).get (by omega) t.id;exact⟨by unfold aF;omega,c2,by omega,this.1,by omega⟩
 ·have:=g1.ck
  have:X.tick.S.bl+X.tick.S.free.length<=X.bn.S.bl+X.bn.S.free.length:=this;omega
 ·rw[g1.al];exact c.len
 ·exact g1.tb _ (by omega) (c.tb p)
 ·rw[g1.rc];rfl
 ·rw[g1.rc];rfl
 ·exact PI.congr D a2.ee.len.symm λi hi g=>by have:=B i hi (D.FY g);show(X.bn.S.at' i).ph=_/\(X.bn.S.at' i).own=_;rw[this];exact⟨rfl,rfl⟩
 ·have E:=B i hi C
  have:=g1.at' i (by unfold aE.ok at hi⊢;show decide (0<=i/\i<(X.bn.S.cs.length:Int))=true;rw[show X.bn.S.cs.length=X.S.cs.length from a2.ee.len.symm];exact hi) (by show(X.bn.S.at' i).ph≠0;rw[E];omega);exact this.trans E
end
section
open Go.XS Go.bm
structure Kp(s:Setup)(k:Nat)(M:bx):Prop where
 st:M.s=s
 n:(M.X.S.cs.length:Int)=s.c
 je:M.X.S.cs.length<=12
 sz:(M.X.S.size:Int)=s.z
 z:64<=s.z/\s.z<=256
 ac:AS M.X.L M.X.S M.X.R.line
 ts:TS M.X.L M.X.T M.X.Q
 ip:PI M.X.S M.X.pu M.W.rg
 li:LI M.X.S s.z M.W M.V
 ri:RI s.z M.W
 gs:∀g∈M.X.L.ar.aU.b7,0<=g/\g<=(k:Int)
 ck:M.X.S.bl<=30*k
 nx:M.X.R.line.next<=12*(k:Int)
 wc:M.W.bs<=2*k
 vc:M.V.bs<=k
 vl:M.V.all.length<=k
 ai:M.X.Q.fU<=k
 al:M.X.T.all.length<=k
 tk:0<=M.X.R.du/\M.X.R.du<=(k:Int)
 tb:TB (1000*(k:Int)) M.X.T
structure jr(s:Setup)(k:Nat)(M:bx)(R:eL):Prop where
 kp:Kp s (k+1) R.M
 ee:dX M.X.S R.M.X.S
 tk:M.X.R.du<=R.M.X.R.du
 n:∀w,0<=w/\w<=9223372036854775807->aF (R.n w)
def TB.mono{b a:Int}{T:a1}(h:TB b T)(c:b<=a):TB a T:=λi hi=>by have:=h i hi;omega
section
variable {s:Setup}{k:Nat}{M:bx}{o:Op}
def Kp.more(h:Kp s k M):Kp s (k+1) M:=by obtain⟨a,a2,a3,a4,a5,b,c,d,a9,e,dG,i,iB,j,l,m,n,o,c1,c2⟩:=h;exact⟨a,a2,a3,a4,a5,b,c,d,a9,e,λg f=>by have:=dG g f;omega,by omega,by omega,by omega,by omega,by omega,by omega,by omega,by omega,c2.mono (by omega)⟩
def Kp.same(h:Kp s k M){R:eL}(a:R.M=M)(b:∀w,0<=w/\w<=9223372036854775807->aF (R.n w)):jr s k M R:=⟨by rw[a];exact h.more,by rw[a];exact dX.refl h.ac.inv,by rw[a];exact fS _,b⟩
def hA:aF 0:=by decide
def Kp.bad(h:Kp s k M){e:Int}:jr s k M (.bad M e):=h.same rfl λ_ _=>hA
def Kp.xn(h:Kp s k M)(U:k<=200):GS M.X.L.ar.aU:=λg a=>by have:=h.gs g a;omega
def Kp.fit(h:Kp s k M)(b:Basic M)(U:k<=200):M.Fit:=by
 have ck:=h.ck;have nx:=h.nx;have wc:=h.wc;have vc:=h.vc;have vl:=h.vl;have ai:=h.ai;have al:=h.al;have tk:=h.tk;have je:=h.je;refine⟨by omega,by omega,by omega,by omega,by omega,λp=>Ix b.ry λq=>?_,λq=>?_,by omega,λe he=>?_,λi hi=>?_,?_⟩
 ·have:=ve (h.ip.rn q) λi hi=>ez.1 (h.ip.ir q i hi).1
  omega
 ·have:=h.ri.cur q
  have:=h.z;unfold aF;omega
 ·rw[h.ts.q]at he
  obtain⟨j,a,rfl⟩:=bP.1 he;have:=hx.1 ((h.ts.tk j).1 a).1;show j≠M.X.T.next
  unfold a1.next
  omega
 ·unfold a1.cI at hi
  split at hi
  ·rename_i c
   have a:=(h.ts.tk i).2 ⟨c,(Ah hi).2⟩;exact⟨_,by rw[h.ts.q];exact bP.2 ⟨i,a,rfl⟩,rfl⟩
  ·cases hi
 ·exact(Is h.ac h.ts (h.xn U) (by omega) h.tb (by omega) h.je (by omega) (by omega)).ok
def Kp.wR(h:Kp s k M){X:aJ}(a:X.S=M.X.S)(b:X.R=M.X.R)(c:X.pu=M.X.pu)(ac:AS X.L X.S X.R.line)(ts:TS X.L X.T X.Q)(d:∀g∈X.L.ar.aU.b7,0<=g/\g<=((k+1:Nat):Int))(al:X.T.all.length<=M.X.T.all.length+1)(ai:X.Q.fU<=M.X.Q.fU+1)(tb:TB (1000*((k+1:Nat):Int)) X.T):Kp s (k+1) {M with X:=X}/\dX M.X.S X.S/\M.X.R.du<=X.R.du:=by have hm:=h.more;obtain⟨e,a2,a3,a4,a5,f,l,i,a9,j,dG,m,iB,n,o,p,q,r,c1,c2⟩:=h;refine⟨⟨e,by rw[a];exact a2,by rw[a];exact a3,by rw[a];exact a4,a5,ac,ts,by show PI X.S X.pu M.W.rg;rw[a,c];exact i,by show LI X.S _ _ _;rw[a];exact a9,j,d,by rw[a];omega,by rw[b];omega,hm.wc,hm.vc,hm.vl,by show X.Q.fU<=_;omega,by show X.T.all.length<=_;omega,by rw[b];omega,tb⟩,by rw[a];exact dX.refl f.inv,by rw[b];omega⟩
def XW(L:bE)(c:Int):(L.bR c).ar.aU.b7=L.ar.aU.b7:=by
 unfold bE.bR;split
 ·unfold bG.opened
  split
  ·split
   ·exact aT.xS
   ·rfl
  ·rfl
 ·rfl
def Yb{L:bE}{c:Int}{k:Nat}(h:∀g∈L.ar.aU.b7,0<=g/\g<=(k:Int))(U:k<=200):∀g∈(L.ret c).ar.aU.b7,0<=g/\g<=((k+1:Nat):Int):=by
 have b:∀g∈L.ar.aU.b7,0<=g/\g<=((k+1:Nat):Int):=λg a=>by have:=h g a;omega
 unfold bE.ret;split
 ·unfold bG.close
  split
  ·show∀g∈(L.ar.aU.close (gP c) (gG c)).b7,_
   unfold aT.close;split
   ·intro g a
    have a:g∈L.ar.aU.b7.set (gP c).toNat (IntKind.wrap .i64 (L.ar.aU.gen (gP c)+1)):=a;rcases ka a with a|rfl
    ·exact b g a
    ·have:0<=L.ar.aU.gen (gP c)/\L.ar.aU.gen (gP c)<=(k:Int):=by
      unfold aT.gen;rw[eo]
      cases d:L.ar.aU.b7[(gP c).toNat]? with
      |none=>exact⟨by decide,by show(0:Int)<=_;omega⟩
      |some y=>exact h y (cr d)
     rw[br (by omega)];omega
   ·exact b
  ·exact b
 ·exact b
def ZR(h:Kp s k M):jr s k M (M.register o):=by
 obtain⟨a,b,_⟩:=XX h.ac h.ts;obtain⟨x,y,z⟩:=h.wR (X:=M.X.bR o.a) rfl rfl rfl a b (by show∀g∈(M.X.L.bR o.a).ar.aU.b7,_;rw[XW];exact h.more.gs) (kf _) (kf _) (h.tb.mono (by omega));refine⟨x,y,z,λw _=>?_⟩;show aF (if M.X.L.rP o.a=0 then M.X.L.tt o.a else 0);split
 ·rename_i he
  unfold bE.tt;rw[ag he];unfold bE.rP at he;split at he
  ·split at he
   ·exact xq he
   ·rename_i c;exact absurd he c
  ·cases he
 ·exact hA
def ZS(h:Kp s k M)(U:k<=200):jr s k M (M.tu o):=by
 unfold bx.tu;split
 ·split
  ·exact h.bad
  ·obtain⟨a,b,_⟩:=Yc h.ac h.ts
   unfold aJ.ret;split
   ·obtain⟨x,y,z⟩:=h.wR (X:={M.X with L:=M.X.L.ret o.a}) rfl rfl rfl a b (Yb h.gs U) (kf _) (kf _) (h.tb.mono (by omega))
    exact⟨x,y,z,λ_ _=>hA⟩
   ·rename_i hi _ _ c;exact absurd hi c
 ·exact h.bad
def ZK(h:Kp s k M)(U:k<=200):jr s k M (M.ask o):=by
 obtain⟨a,b,c1,c2,c3,lZ,fI,d,_⟩:=KU h.ac h.ts
 have f:TB (1000*((k+1:Nat):Int)) (M.X.ask o.a o.b).T:=by
  have h0:TB (1000*((k+1:Nat):Int)) M.X.T:=h.tb.mono (by omega)
  have hi:TB (1000*((k+1:Nat):Int)) (M.X.T.jc (M.X.L.place o.a) o.b):=by
   unfold a1.jc;split
   ·intro j c
    have c:=hx.1 c;simp only[b',sa]at c;unfold a1.at';simp only[eo];by_cases e:(j-1).toNat<M.X.T.all.length
    ·rw[gx e,<-eo]
     exact h0 j (hx.2 ⟨c.1,by omega⟩)
    ·rw[show(j-1).toNat=M.X.T.all.length from by omega]
     simp only[iu (dQ _),kS,jI,fx];exact⟨fS _,by show(0:Int)<=_;omega⟩
   ·exact h0
  unfold aJ.ask;split
  ·split
   ·split
    ·exact hi
    ·exact hi
   ·exact h0
  ·exact h0
 obtain⟨x,y,z⟩:=h.wR c1 c2 c3 a b (by rw[lZ];exact h.more.gs) fI d f;have l:=h.al
 have g:aF M.X.T.next:=by
  have:M.X.T.next=(M.X.T.all.length:Int)+1:=rfl
  rw[this];unfold aF;omega
 have i:aF (M.X.sA o.a o.b):=by
  unfold aJ.sA;split
  ·exact g
  ·exact hA
 refine⟨x,y,z,λw _=>?_⟩;show aF (if M.X.q6 o.a o.b=0 then M.X.sA o.a o.b else 0);split
 ·exact i
 ·exact hA
def ZL(h:Kp s k M):jr s k M (M.cancel o):=by
 obtain⟨a,b,c1,c2,c3,lZ,fI,e,_⟩:=Tb h.ac h.ts
 have c:TB (1000*((k+1:Nat):Int)) (M.X.can o.a o.b).T:=by
  have h0:TB (1000*((k+1:Nat):Int)) M.X.T:=h.tb.mono (by omega)
  have hd:TB (1000*((k+1:Nat):Int)) (M.X.T.bK (c6 · 3) check o.b):=by
   unfold a1.bK;split
   ·rename_i hd
    unfold a1.cI at hd;split at hd
    ·rename_i d
     exact Iw h0 d (by show(c6 (M.X.T.at' o.b) 3).b4=_;unfold c6;rw[ag hd])
    ·cases hd
   ·exact h0
  unfold aJ.can;split
  ·split
   ·split
    ·exact hd
    ·exact hd
   ·exact h0
  ·exact h0
 obtain⟨x,y,z⟩:=h.wR c1 c2 c3 a b (by rw[lZ];exact h.more.gs) (by omega) (by omega) c;exact⟨x,y,z,λ_ _=>hA⟩
def Kp.trees(h:Kp s k M){W:a6}(a:PI M.X.S M.X.pu W.rg)(hl:LI M.X.S s.z W M.V)(hr:RI s.z W)(hc:W.bs<=M.W.bs+2):Kp s (k+1) {M with W:=W}:=by obtain⟨b,a2,a3,a4,a5,c,d,l,a9,m,dG,e,iB,n,f,g,i,j,c1,c2⟩:=h.more;have:=h.wc;exact⟨b,a2,a3,a4,a5,c,d,a,hl,hr,dG,e,iB,by show W.bs<=_;omega,f,g,i,j,c1,c2⟩
def Gr{W:a6}:aF W.kz:=by
 unfold a6.kz;split
 ·rename_i h
  unfold a6.mS at h;split at h
  ·exact xq h
  ·cases h
 ·exact hA
def ZT(h:Kp s k M)(e:Basic M):jr s k M (M.root o):=by
 unfold bx.root;split
 ·have hz:=h.z
  have hw:Kp s (k+1) {M with W:=M.W.root (M.X.L.place o.a)}:=by
   unfold a6.root;split
   ·obtain⟨a,b,c,d⟩:=Gs e.ry.sl e.ry.b7 (by omega) h.ip h.li h.ri
    exact h.trees a b c (by omega)
   ·exact h.more
  refine⟨hw,dX.refl h.ac.inv,fS _,λw _=>?_⟩;show aF (if _ then M.W.kz else 0);split
  ·exact Gr
  ·exact hA
 ·exact h.bad
def ZM(h:Kp s k M)(e:Basic M):jr s k M (M.child o):=by
 unfold bx.child;split
 ·have hz:=h.z
  have hw:Kp s (k+1) {M with W:=M.W.child o.a}:=by
   unfold a6.child;split
   ·obtain⟨a,b,c,d⟩:=Gs e.ry.sl e.ry.b7 (by omega) h.ip h.li h.ri
    exact h.trees a b c (by omega)
   ·exact h.more
  refine⟨hw,dX.refl h.ac.inv,fS _,λw _=>?_⟩;show aF (if _ then M.W.kz else 0);split
  ·exact Gr
  ·exact hA
 ·exact h.bad
def ZU(h:Kp s k M)(U:k<=200):jr s k M M.tick:=by
 have ck:=h.ck;have al:=h.al;have tk:=h.tk;have je:=h.je;have r:=Is h.ac h.ts (h.xn U) (by omega) h.tb (by omega) h.je (by omega) (by omega);have hm:=h.more;have h1:=r.ck;have a:=r.al;have b:=r.ai;have e:=r.tk;have c:=r.nx;have hlen:=r.ee.len;refine⟨⟨h.st,by show(M.X.tick.S.cs.length:Int)=_;rw[<-hlen];exact h.n,by show M.X.tick.S.cs.length<=12;omega,by show(M.X.tick.S.size:Int)=_;rw[r.sz];exact h.sz,h.z,r.ac,r.ts,r.pi _ h.ip,h.li.congr hlen.symm λi q hi d=>?_,h.ri,by show∀g∈M.X.tick.L.ar.aU.b7,_;rw[r.sl];exact hm.gs,by show M.X.tick.S.bl<=_;omega,by show M.X.tick.R.line.next<=_;rw[c];exact hm.nx,hm.wc,hm.vc,hm.vl,by show M.X.tick.Q.fU<=_;rw[b];exact hm.ai,by show M.X.tick.T.all.length<=_;rw[a];exact hm.al,by show 0<=M.X.tick.R.du/\M.X.tick.R.du<=_;omega,r.tb.mono (by omega)⟩,r.ee,by show _<=M.X.tick.R.du;omega,λw _=>?_⟩
 ·show(M.X.tick.S.at' i).gen=_
  rw[r.at' i hi (h.ip.ir q i d).2.1]
 ·show aF (M.X.R.many:Nat)
  have:M.X.R.many<=M.X.R.line.xs.length:=by unfold Rec.many;omega
  have f:=h.ac.yO;have:=s7 h.ac.inv;unfold aF;omega
end
end
section
open Go.XS Go.bm
section
variable {s:Setup}{k:Nat}{M:bx}{o:Op}
def Kp.IA(h:Kp s k M){c p:Int}{l:aN}{a:Int->aN}{W':a6}{V':Lv}(hf:M.X.L.bk c=0)(e:M.X.L.place c=p)(j:l.Nodup)(hl:∀i∈l,M.X.S.ok i=true/\(M.X.S.at' i).ph=1/\(M.X.S.at' i).own=p+1)(v:PI M.X.S a W'.rg)(hL:LI M.X.S s.z W' V')(w:RI s.z W')(y:W'.bs<=M.W.bs+2)(v1:V'.bs<=M.V.bs+1)(v2:V'.all.length<=M.V.all.length+1)(m:∀i∈l,(∀p,i∉a p)/\∀q,i∉(W'.rg q).xs):(aJ.dB c p l {M.X with pu:=a}).2=0/\Kp s (k+1) ⟨M.s,(aJ.dB c p l {M.X with pu:=a}).1,W',V'⟩/\dX M.X.S (aJ.dB c p l {M.X with pu:=a}).1.S/\M.X.R.du<=(aJ.dB c p l {M.X with pu:=a}).1.R.du:=by
 obtain⟨r,g⟩:=aaz l {M.X with pu:=a} h.ac hf e j hl;obtain⟨f1,f2,f3,f4,f5,f6⟩:=aJ.yF c p l {M.X with pu:=a};generalize(aJ.dB c p l {M.X with pu:=a})=Y at r g f1 f2 f3 f4 f5 f6
 have hlen:l.length<=12:=by have:=ve j λi hi=>ez.1 (hl i hi).1;have:=h.je;omega
 have d:Y.1.S.cs.length=M.X.S.cs.length:=g.ee.len.symm;have hm:=h.more;have A:=h.ck;have B:=h.nx;have C:=h.wc;have D:=h.vc;have E:=h.vl;have f1:Y.1.S.bl<=M.X.S.bl+l.length:=f1;have f3:Y.1.R.line.next<=M.X.R.line.next+(l.length:Nat):=f3
 have o:Y.1.R.du=M.X.R.du:=g.tk;have t:Y.1.L.ar.aU=M.X.L.ar.aU:=g.sl;have u:∀i,M.X.S.ok i=true->i∉l->Y.1.S.at' i=M.X.S.at' i:=λi hi b=>g.at' i (ez.1 hi).1 b;refine⟨r,⟨h.st,by show(Y.1.S.cs.length:Int)=_;rw[d];exact h.n,by show Y.1.S.cs.length<=_;rw[d];exact h.je,by show(Y.1.S.size:Int)=_;rw[g.sz];exact h.sz,h.z,g.ac,?_,?_,?_,w,by show∀g∈Y.1.L.ar.aU.b7,_;rw[t];exact hm.gs,by show Y.1.S.bl<=_;omega,by show Y.1.R.line.next<=_;omega,by show W'.bs<=_;omega,by show V'.bs<=_;omega,by show V'.all.length<=_;omega,by show Y.1.Q.fU<=_;rw[f5];exact hm.ai,by show Y.1.T.all.length<=_;rw[f4];exact hm.al,by show 0<=Y.1.R.du/\Y.1.R.du<=_;rw[o];exact hm.tk,by show TB _ Y.1.T;rw[f4];exact hm.tb⟩,g.ee,by rw[o];exact fS _⟩
 ·show TS Y.1.L Y.1.T Y.1.Q
  rw[f4,f5];exact h.ts.congr (by unfold bE.ks;rw[t]) g.ko
 ·show PI Y.1.S Y.1.pu W'.rg
  rw[f6];refine v.congr d λi hi x=>?_
  rw[u i hi λb=>by
   obtain⟨n1,n2⟩:=m i b;rcases x with⟨p,e⟩|⟨q,f⟩
   ·exact n1 p e
   ·exact n2 q f]
  exact⟨rfl,rfl⟩
 ·show LI Y.1.S s.z W' V'
  refine hL.congr d λi q hi f=>?_;rw[u i hi λb=>(m i b).2 q f]
def AR{X:aJ}{c:Int}(h:X.e2 c=0):X.L.bk c=0:=by
 unfold aJ.e2 at h;split at h
 ·assumption
 ·rename_i a;exact absurd h a
def ZP(h:Kp s k M):jr s k M (M.eG o):=by
 unfold bx.eG;unfold aJ.xo;split
 ·rename_i hi
  split
  ·exact h.bad
  ·split
   ·exact h.bad
   ·rename_i l m
    have hf:=AR hi;generalize g:M.X.L.place o.a=p at*;have e:∀i∈(M.X.pu p).take o.b.toNat,i∈M.X.pu p:=λi hi=>kP hi
    have j:∀i∈(M.X.pu p).take o.b.toNat,(∀q,i∉b1 M.X.pu p ((M.X.pu p).drop o.b.toNat) q)/\∀q,i∉(M.W.rg q).xs:=λi hi=>by
     refine⟨λq d=>?_,λq d=>(h.ip.ir q i d).2.2.2 p (e i hi)⟩;unfold b1 at d;split at d
     ·have f:=h.ip.pn p
      rw[<-kd o.b.toNat (M.X.pu p),dP]at f;exact f.2.2 i hi i d rfl
     ·rename_i n
      have h1:=(h.ip.ip p i (e i hi)).2.2;have t:=(h.ip.ip q i d).2.2;omega
    obtain⟨r,a,b,c⟩:=h.IA hf g ((h.ip.pn p).sublist (Dc _ _)) (λi hi=>h.ip.ip p i (e i hi)) (h.ip.cut _) h.li h.ri (by omega) (by omega) (by omega) j;exact⟨a,b,c,λ_ _=>hA⟩
 ·exact h.bad
def ZO(h:Kp s k M)(m:Basic M):jr s k M (M.free o):=by
 have hz:=h.z;unfold bx.free;split
 ·rename_i he
  have hf:M.W.bk o.a=0:=by
   unfold bx.hY at he;split at he
   ·assumption
   ·rename_i g;exact absurd he g
  obtain⟨a,b,c,d,e⟩:=UE m.ry (by omega) h.ip h.li h.ri;obtain⟨v1,v2,v3⟩:=E4 (M.W.under (gP o.a)) M.V;have e:=e hf
  have hlen:aF ((M.W.under (gP o.a)).length:Nat):=by
   have:=Ix (p:=gP o.a) m.ry λq=>by have:=ve (h.ip.rn q) λi hi=>ez.1 (h.ip.ir q i hi).1;have:=h.je;show(M.W.rg q).xs.length<=12;omega
   unfold aF;omega
  generalize hl:M.W.under (gP o.a)=l at*
  have g:∀w,0<=w/\w<=9223372036854775807->aF ((eL.of ⟨M.s,M.X.lv (M.df o.a) l,M.W.free o.a,l.foldl Lv.drop M.V⟩ (M.X.u0 (M.df o.a) l) (l.length:Nat)).n w):=λw _=>by
   show aF (if _ then _ else _);split
   ·exact hlen
   ·exact hA
  have t:Kp s (k+1) ⟨M.s,M.X,M.W.free o.a,l.foldl Lv.drop M.V⟩:=by have hm:=h.more;have:=h.vc;have:=h.vl;have:=h.wc;exact⟨hm.st,hm.n,hm.je,hm.sz,hm.z,hm.ac,hm.ts,a,b,c,hm.gs,hm.ck,hm.nx,by show(M.W.free o.a).bs<=_;omega,by show(l.foldl Lv.drop M.V).bs<=_;omega,by show(l.foldl Lv.drop M.V).all.length<=_;omega,hm.ai,hm.al,hm.tk,hm.tb⟩
  by_cases hi:M.X.e2 (M.df o.a)=0
  ·by_cases f:M.X.j0 (M.X.L.place (M.df o.a)) l=true
   ·have ex:M.X.lv (M.df o.a) l=(aJ.dB (M.df o.a) (M.X.L.place (M.df o.a)) l M.X).1:=by unfold aJ.lv;rw[ag hi,ag f]
    unfold aJ.j0 at f;simp only[cg,bJ,iq,hQ]at f;have u:=AR hi
    have D:0<=M.X.L.place (M.df o.a):=by obtain⟨_,_,_,hr,v,A⟩:=qd u;rw[v];exact(h.ac.sl.lt (mU h.ac.sl A)).1
    have B:∀i∈l,M.X.S.ok i=true/\(M.X.S.at' i).ph=1/\(M.X.S.at' i).own=M.X.L.place (M.df o.a)+1:=λi hi=>by
     have j:=(f.2 i hi).1;unfold aJ.ck at j;split at j
     ·rename_i aM
      have:=h.ac.inv.ck aM;refine⟨aM,tP λC=>?_,j⟩;have:=this.2.2.1 C;omega
     ·have:bD.zero.own=0:=rfl
      omega
    obtain⟨r,x,y,z⟩:=h.IA u rfl f.1 B a b c (by omega) (by omega) (by omega) λi hi=>⟨(e i hi).2,(e i hi).1⟩;exact⟨by rw[ex];exact x,by show dX _ (M.X.lv (M.df o.a) l).S;rw[ex];exact y,by show _<=(M.X.lv (M.df o.a) l).R.du;rw[ex];exact z,g⟩
   ·have ex:M.X.lv (M.df o.a) l=M.X:=by unfold aJ.lv;rw[ag hi,aj f]
    refine⟨by rw[ex];exact t,by show dX _ (M.X.lv (M.df o.a) l).S;rw[ex];exact dX.refl h.ac.inv,by show _<=(M.X.lv (M.df o.a) l).R.du;rw[ex];exact fS _,g⟩
  ·have ex:M.X.lv (M.df o.a) l=M.X:=by unfold aJ.lv;rw[aj hi]
   refine⟨by rw[ex];exact t,by show dX _ (M.X.lv (M.df o.a) l).S;rw[ex];exact dX.refl h.ac.inv,by show _<=(M.X.lv (M.df o.a) l).R.du;rw[ex];exact fS _,g⟩
 ·exact h.bad
def Gc{M1:bx}(h:Kp s k M)(p:Basic M)(e:∃f,M1.X={M.X with pu:=f})(hs:M1.s=M.s)(j:M1.V=M.V)(g:PI M.X.S M1.X.pu M1.W.rg)(hL:LI M.X.S s.z M1.W M.V)(m:RI s.z M1.W)(hc:M1.W.bs<=M.W.bs+1):jr s k M (M1.laid o):=by
 obtain⟨f,e⟩:=e;obtain⟨s1,v,W1,x⟩:=M1;simp only at e hs j g hL m hc;subst hs j e;have hz:M.s.z=s.z:=by rw[h.st]
 have hm:=h.more;have y:=h.wc;have A:=h.vc;have B:=h.vl;obtain⟨a,b,c,d⟩:=Vd g hL m;unfold bx.laid;simp only;rw[hz];by_cases he:W1.e3 o.a o.b o.c s.z=0
 ·rw[ag he]
  obtain⟨f1,f2,f3,f4,f5⟩:=Vc he
  have q:((W1.lay o.a o.b o.c s.z).rg (gP o.a)).xs=(W1.rg (gP o.a)).xs:=by unfold a6.lay;rw[ag he];show(b1 W1.rg (gP o.a) _ (gP o.a)).xs=_;unfold b1;rw[ag rfl]
  have r:(W1.lay o.a o.b o.c s.z).bk o.a=0:=by unfold a6.lay;rw[ag he];exact f1
  have aM:=(g.ir _ _ f2).1;have t:({M.X with pu:=f}:aJ).ck (W1.gM o.a o.b o.c s.z)=M.X.S.at' (W1.gM o.a o.b o.c s.z):=by unfold aJ.ck;rw[ag aM]
  rw[t];obtain⟨v1,v2,v3⟩:=aaD (l:=⟨W1.gM o.a o.b o.c s.z,(M.X.S.at' (W1.gM o.a o.b o.c s.z)).gen,o.a,W1.jy o.a o.b o.c s.z,o.b⟩) p.vs a b r (by rw[q];exact f2) rfl f3 f4 f5;refine⟨⟨hm.st,hm.n,hm.je,hm.sz,hm.z,hm.ac,hm.ts,a,v1,c,hm.gs,hm.ck,hm.nx,by show(W1.lay o.a o.b o.c s.z).bs<=_;omega,by show(M.V.add _).bs<=_;omega,by show(M.V.add _).all.length<=_;omega,hm.ai,hm.al,hm.tk,hm.tb⟩,dX.refl h.ac.inv,fS _,λw _=>?_⟩;show aF (if _ then dM 3 _ _ _ else 0);split
  ·rename_i i
   unfold Lv.gh Lv.sv at i;split at i
   ·rename_i u
    simp only[cg,bJ,small]at u;exact xq (by unfold fK;repeat rw[aj (by omega)])
   ·cases i
  ·exact hA
 ·rw[aj he]
  refine⟨⟨hm.st,hm.n,hm.je,hm.sz,hm.z,hm.ac,hm.ts,a,b,c,hm.gs,hm.ck,hm.nx,by show(W1.lay o.a o.b o.c s.z).bs<=_;omega,hm.vc,hm.vl,hm.ai,hm.al,hm.tk,hm.tb⟩,dX.refl h.ac.inv,fS _,λw _=>hA⟩
def UP{L:bE}{p:Int}(b:L.ar.Ok)(c:L.ar.aU.Ok)(d:GS L.ar.aU)(h:L.bk (L.handle p)=0):p∈L.ks/\L.place (L.handle p)=p:=by
 have a:p∈L.ks:=by
  refine tP λf=>?_
  have h0:L.handle p=0:=by unfold bE.handle;rw[ag];rw[uR];intro m hm;obtain⟨q,g,rfl⟩:=bP.1 hm;show(q==p)=false;rw[ub];exact λe=>f (e▸g)
  rw[h0]at h;exact absurd h (by unfold bE.bk;rw[aj (by rintro⟨h1,_⟩;exact absurd h1 (by decide))];decide)
 exact⟨a,(AI b c d a).2.1⟩
def ZQ(h:Kp s k M)(t:Basic M)(U:k<=200):jr s k M (M.sZ o):=by
 have hz:=h.z;unfold bx.sZ;split
 ·rename_i he
  have hf:M.W.bk o.a=0:=by
   unfold bx.hY at he;split at he
   ·assumption
   ·rename_i B;exact absurd he B
  have hC:M.df o.a=M.X.L.handle (M.W.rg (gP o.a)).aO:=by unfold bx.df;rw[ag hf]
  have u:M.X.e2 (M.df o.a)=0:=by unfold bx.hY at he;rw[ag hf]at he;rw[hC];exact he
  have m:=(UP h.ac.ar h.ac.sl (h.xn U) (by rw[<-hC];exact AR u)).2;rw[<-hC]at m;split
  ·split
   ·rename_i g
    have r:M.X.nX (M.df o.a)=M.X.cut (M.X.L.place (M.df o.a)) 1:=by unfold aJ.nX;rw[ag g]
    have C:M.X.nf (M.df o.a)=(M.X.pu (M.X.L.place (M.df o.a))).headD 0:=by unfold aJ.nf;rw[ag g]
    have v:M.X.pu (M.X.L.place (M.df o.a))≠[]:=by
     unfold aJ.qu at g;rw[ag u]at g;split at g
     ·cases g
     ·assumption
    rw[r,C,m];rw[m]at v;generalize D:(M.W.rg (gP o.a)).aO=p at*
    cases l:M.X.pu p with
    |nil=>exact absurd l v
    |cons i xs=>
     have x:i∈M.X.pu p:=by rw[l];exact j'
     obtain⟨E,i2,i3⟩:=h.ip.ip p i x;have y:=h.ip.cut (p:=p) 1;show jr s k M (if M.W.gh o.a i=0 then _ else _);rw[l]at y
     have F:∀q,i∉b1 M.X.pu p (List.drop 1 (i::xs)) q:=λq j=>by
      unfold b1 at j;split at j
      ·have A:=h.ip.pn p
       rw[l,fg]at A;exact A.1 j
      ·rename_i I
       have:=(h.ip.ip q i j).2.2;omega
     have G:∀q,i∉(M.W.rg q).xs:=λq j=>(h.ip.ir q i j).2.2.2 p x;obtain⟨a,b,c,d,e,f⟩:=KK (by omega) y h.li h.ri E i2 (λ_=>by rw[D];exact i3) F G;have H:(M.X.cut p 1)={M.X with pu:=b1 M.X.pu p (List.drop 1 (i::xs))}:=by show{M.X with pu:=b1 M.X.pu p ((M.X.pu p).drop 1)}=_;rw[l]
     rw[H];split
     ·exact Gc h t ⟨_,rfl⟩ rfl rfl a b c (by show(M.W.add o.a i).bs<=_;omega)
     ·have hm:=h.more
      have J:=h.wc;refine⟨⟨hm.st,hm.n,hm.je,hm.sz,hm.z,hm.ac,hm.ts,a,b,c,hm.gs,hm.ck,hm.nx,by show(M.W.add o.a i).bs<=_;omega,hm.vc,hm.vl,hm.ai,hm.al,hm.tk,hm.tb⟩,dX.refl h.ac.inv,fS _,λw _=>hA⟩
   ·rename_i g
    have r:M.X.nX (M.df o.a)=M.X:=by unfold aJ.nX;rw[aj g]
    rw[r];exact h.bad
  ·exact Gc h t ⟨M.X.pu,rfl⟩ rfl rfl h.ip h.li h.ri (by omega)
 ·exact h.bad
def AS.same{L:bE}{S S':aE}{N:dR}{i:Int}{c':bD}(h:AS L S N)(st:S.Step S' i c')(h1:c'.ph=(S.at' i).ph)(d:c'.own=(S.at' i).own):AS L S' N:=by
 have hc:∀f:bD->Bool,f c'=f (S.at' i)->S'.cs.countP f=S.cs.countP f:=λf hf=>by have:=st.count f;rw[hf]at this;omega
 have g:∀j,S.ok j=true->(S'.at' j).ph=(S.at' j).ph:=λj k=>by
  by_cases e:j=i
  ·subst e;rw[st.pV,h1]
  ·rw[st.i6 (ez.1 k).1 e]
 refine⟨st.inv,h.ar,h.sl,h.l9,by rw[st.len];exact h.ch,by rw[st.len];exact h.n,λj=>?_,h.keys,λp l=>?_,λz hz c=>?_,?_⟩
 ·rw[h.ln,st.fY]
  exact⟨λ⟨a,b⟩=>⟨a,by rw[g j a];exact b⟩,λ⟨a,b⟩=>⟨a,by rw[<-g j a];exact b⟩⟩
 ·rw[hc _ (by rw[d])];exact h.held p l
 ·rw[st.cs]at hz
  rcases ka hz with hz|rfl
  ·exact h.own z hz c
  ·rw[d]at c⊢
   exact h.own _ (cr (aE.hG st.ok).1) c
 ·have m:S'.many 0=S.many 0:=hc _ (by rw[h1])
  have o:S'.many 2=S.many 2:=hc _ (by rw[h1]);rw[m,o];exact h.safe
def Gi{S:aE}{i g:Int}(h:S.gC i g=0):S.ok i=true/\(S.at' i).ph=1/\(S.at' i).gen=g:=by
 unfold aE.gC at h;split at h
 ·rename_i aM
  split at h
  ·rename_i a;exact⟨aM,a.1,a.2⟩
  ·cases h
 ·cases h
def XD{s:Setup}{k:Nat}{M:bx}{i g a:Int}{t:List UInt8}(h:Kp s k M)(c:(M.X.S.put i g a t).Inv):Kp s (k+1) {M with X:={M.X with S:=M.X.S.put i g a t}}/\dX M.X.S (M.X.S.put i g a t):=by
 by_cases hl:M.X.S.gC i g=0
 ·obtain⟨h1,l,m⟩:=Gi hl
  have e:M.X.S.put i g a t=⟨M.X.S.size,M.X.S.cs.set i.toNat (kF (M.X.S.at' i) a t),M.X.S.free,M.X.S.bl+1⟩:=by unfold aE.put;rw[ag hl]
  rw[e]at c⊢;have st:M.X.S.Step ⟨M.X.S.size,M.X.S.cs.set i.toNat (kF (M.X.S.at' i) a t),M.X.S.free,M.X.S.bl+1⟩ i (kF (M.X.S.at' i) a t):=⟨h1,rfl,rfl,rfl,c⟩;generalize(⟨M.X.S.size,M.X.S.cs.set i.toNat (kF (M.X.S.at' i) a t),M.X.S.free,M.X.S.bl+1⟩:aE)=S' at st c
  have d:∀j,M.X.S.ok j=true->(S'.at' j).ph=(M.X.S.at' j).ph/\(S'.at' j).own=(M.X.S.at' j).own/\(S'.at' j).gen=(M.X.S.at' j).gen:=λj b=>by
   by_cases e:j=i
   ·subst e;rw[st.pV];exact⟨rfl,rfl,rfl⟩
   ·rw[st.i6 (ez.1 b).1 e];exact⟨rfl,rfl,rfl⟩
  have hm:=h.more;have:=h.ck;have o:=st.ck;have f:=h.ac.inv.ck h1;refine⟨⟨h.st,by show(S'.cs.length:Int)=_;rw[st.len];exact h.n,by show S'.cs.length<=_;rw[st.len];exact h.je,by show(S'.size:Int)=_;rw[st.sz];exact h.sz,h.z,h.ac.same st rfl rfl,h.ts,h.ip.congr st.len λj b _=>⟨(d j b).1,(d j b).2.1⟩,h.li.congr st.len λj q b _=>(d j b).2.2,h.ri,hm.gs,by show S'.bl<=_;omega,hm.nx,hm.wc,hm.vc,hm.vl,hm.ai,hm.al,hm.tk,hm.tb⟩,st.ee h.ac.inv (jv.refl f.1 f.2.2.2.2.1)⟩
 ·have e:M.X.S.put i g a t=M.X.S:=by unfold aE.put;rw[aj hl]
  rw[e];exact⟨h.more,dX.refl h.ac.inv⟩
def ZV(h:Kp s k M)(c:Basic (M.write o).M):jr s k M (M.write o):=by
 unfold bx.write at c⊢;split
 ·rename_i h1
  rw[ag h1]at c;split
  ·rename_i e
   rw[ag e]at c;have d:(l' M.X.S M.V o.a o.b o.text).Inv:=c.inv
   have key:Kp s (k+1) {M with X:={M.X with S:=l' M.X.S M.V o.a o.b o.text}}/\dX M.X.S (l' M.X.S M.V o.a o.b o.text):=by
    unfold l' at d⊢;split
    ·rename_i f
     rw[ag f]at d;exact XD h d
    ·exact⟨h.more,dX.refl h.ac.inv⟩
   exact⟨key.1,key.2,fS _,λ_ _=>hA⟩
  ·exact h.bad
 ·exact h.bad
def ZN(h:Kp s k M)(c:Basic M)(b:Basic (M.b9 o).M)(U:k<=200):jr s k M (M.b9 o):=by
 unfold bx.b9 at b⊢;by_cases d:o.kind=1
 ·rw[ag d]at b⊢
  exact ZR h
 rw[aj d]at b⊢;by_cases e:o.kind=2
 ·rw[ag e]at b⊢
  exact ZS h U
 rw[aj e]at b⊢;by_cases f:o.kind=3
 ·rw[ag f]at b⊢
  exact ZK h U
 rw[aj f]at b⊢;by_cases g:o.kind=4
 ·rw[ag g]at b⊢
  exact ZL h
 rw[aj g]at b⊢;by_cases i:o.kind=5
 ·rw[ag i]at b⊢
  exact ZT h c
 rw[aj i]at b⊢;by_cases j:o.kind=6
 ·rw[ag j]at b⊢
  exact ZM h c
 rw[aj j]at b⊢;by_cases l:o.kind=7
 ·rw[ag l]at b⊢
  exact ZQ h c U
 rw[aj l]at b⊢;by_cases m:o.kind=8
 ·rw[ag m]at b⊢
  exact ZO h c
 rw[aj m]at b⊢;by_cases n:o.kind=9
 ·rw[ag n]at b⊢
  exact ZP h
 rw[aj n]at b⊢;by_cases p:o.kind=10
 ·rw[ag p]at b⊢
  exact ZV h b
 rw[aj p]at b⊢;by_cases q:o.kind=11
 ·rw[ag q]at b⊢
  exact h.same rfl λ_ _=>hA
 rw[aj q]at b⊢;by_cases r:o.kind=12
 ·rw[ag r]at b⊢
  exact ZU h U
 rw[aj r]at b⊢;by_cases t:o.kind=13
 ·rw[ag t]
  unfold bx.vL;split
  ·split
   ·exact h.same rfl λ_ _=>hA
   ·exact h.bad
  ·exact h.bad
 rw[aj t];by_cases u:o.kind=14
 ·rw[ag u]
  refine h.same rfl λw hw=>?_;show aF (if M.X.L.bk o.a=0 then w else 0);split
  ·unfold aF;omega
  ·exact hA
 rw[aj u];exact h.bad
end
end
section
open Go.XS Go.bm
def WE{l:aN}(h:l.Nodup)(x:Int):l.countP (·==x)=if x∈l then 1 else 0:=by
 induction l with
 |nil=>rfl
 |cons y l b=>
  rw[fg]at h;rw[r6,b h.2];by_cases e:y=x
  ·subst e
   rw[aj h.1,ag (by simp),ag j']
  ·rw[aj (show¬((y==x)=true)from by simpa using e)]
   by_cases a:x∈l
   ·rw[ag a,ag (iw _ a)]
   ·rw[aj a,aj λh=>(cL.1 h).elim (λc=>e c.symm) a]
def Z7{α:Type}(l:List α)(p:α->Bool)(f:α->Int):((l.filter p).map f).sum=(l.map λa=>if p a=true then f a else 0).sum:=by
 induction l with
 |nil=>rfl
 |cons a l b=>
  rw[cX,jM,<-b];by_cases h:p a=true
  ·rw[nw h,cX,jM,ag h]
  ·rw[nu h,aj h];omega
def FA{α β:Type}{l:List α}{f:α->List β}{n:Nat}(h:∀a∈l,(f a).length<=n):(l.flatMap f).length<=l.length*n:=by
 induction l with
 |nil=>simp
 |cons a l c=>rw[gw,b',c8,pK];have:=c λb d=>h b (iw _ d);have:=h a j';omega
section
variable {s:Setup}{k:Nat}{M:bx}{o:Op}
def Xn{L:bE}{T:a1}{Q:Qu}(a:TS L T Q):T.cY.length<=T.all.length:=by
 rw[a1.x6];have b:=mg a.ps
 have:((a7 T.bB).map λi=>i-1).Nodup:=by apply mx.2;rw[kR];exact(mx.1 b).imp λc e=>c (by omega)
 have:=ve (N:=T.all.length) this λi hi=>by obtain⟨j,d,rfl⟩:=bP.1 hi;have:=hx.1 ((a.tk j).1 d).1;omega
 rw[eX,eX]at this;exact this
def Gb{V:Lv}{l:Ld}(h:l∈V.hU):∃e∈V.all,∃pc∈e.2.ps,l=⟨e.1,e.2.gen,pc.bR,pc.at',pc.len⟩:=by obtain⟨e,he,hl⟩:=lL.1 h;obtain⟨pc,a,rfl⟩:=bP.1 hl;exact⟨e,he,pc,a,rfl⟩
def Kp.own(h:Kp s k M){e:Int×Lk}{q:Int}(a:e.1∈(M.W.rg q).xs):qq M.X.S.cs e.1=(M.W.rg q).aO+1:=(h.ip.ir q e.1 a).2.2.1
def Kp.snd(h:Kp s k M)(r:Basic M)(U:k<=200):kW s M.snap:=by
 have ck:=h.ck;have al:=h.al;have je:=h.je;have vl:=h.vl;have vc:=h.vc;have z:=h.z
 have C:dk M.X.S.cs 3=0:=by unfold dk;rw[wa];intro c hc g;have:=(h.ac.inv.ph c hc).1;simp only[hQ]at g;omega
 have u:∀m∈M.X.L.ar.members,m.1∈M.X.L.ks/\m=(m.1,M.X.L.ar.at' m.1):=λm hm=>by obtain⟨q,v,rfl⟩:=bP.1 hm;exact⟨v,rfl⟩
 have B:∀q∈M.X.L.ks,∃m∈M.X.L.ar.members,m.1=q:=λq v=>⟨(q,M.X.L.ar.at' q),bP.2 ⟨q,v,rfl⟩,rfl⟩;refine⟨h.n,by show M.X.S.cs.length<=_;omega,?_,?_,?_,?_,λi c hc=>?_,λi hi=>?_,?_,λm hm=>?_,λc hc D=>?_,?_,λt E=>?_,λm hm=>?_,?_,by omega,λl hl=>?_,?_⟩
 ·show M.X.R.line.xs.length<=1000
  have:=h.ac.yO;have:=s7 h.ac.inv;omega
 ·show M.X.L.ar.members.length<=1000
  have:=bG.uW h.ac.ar h.ac.sl;rw[M.X.L.ar.u4];omega
 ·show M.X.T.cY.length<=1000
  have:=Xn h.ts;omega
 ·show M.V.hU.length<=100000
  have h1:∀e∈M.V.all,(ek e.1 e.2).length<=200:=λe he=>by have:=(r.yI e he).1.len;unfold ek;rw[eX];omega
  have f:=FA h1;have g:M.V.all.length*200<=200*200:=jk _ (by omega);have:M.V.hU.length<=M.V.all.length*200:=f;omega
 ·have hc:M.X.S.cs[i]?=some c:=hc
  have hi:=(bY.1 hc).1;have aM:M.X.S.ok (i:Int)=true:=ez.2 ⟨by omega,by omega⟩;have w:M.X.S.at' (i:Int)=c:=by unfold aE.at';rw[eo,aZ,hc];rfl
  have U:=h.ac.inv.ck aM;rw[w]at U;refine⟨?_,?_⟩
  ·unfold o6
   rw[cM (by omega),ff];split
   ·rename_i h1;exact cM (by have:=U.2.2.2.1 h1;omega)
   ·rename_i h1;exact cM ⟨by omega,U.2.2.1 h1⟩
  ·show M.X.R.line.xs.countP _=_
   rw[WE h.ac.l9];by_cases e:c.ph=2
   ·rw[ag ((h.ac.ln _).2 ⟨aM,by rw[w];exact e⟩),ag e]
   ·rw[aj λhm=>e (by have:=((h.ac.ln _).1 hm).2;rwa [w]at this),aj e]
 ·exact ez.1 ((h.ac.ln i).1 hi).1
 ·show(M.X.L.ar.members.map (·.1)).Pairwise _
  unfold bG.members;rw[nz]
  have:(a7 M.X.L.ar.aU.cN).map ((λx:Mem=>x.1)∘λp=>(p,M.X.L.ar.at' p))=a7 M.X.L.ar.aU.cN:=by rw[show((λx:Mem=>x.1)∘λp=>(p,M.X.L.ar.at' p))=id from rfl,List.map_id]
  rw[this];exact h.ac.sl.bX
 ·obtain⟨h1,f⟩:=u m hm
  have g:=h.ac.sl.lt (mU h.ac.sl h1);rw[h.ac.ar.n]at g;rw[f];exact⟨g.1,by show m.1<=63;omega,(pW h.ac.ar h.ac.keys h1).1,(h.ac.held m.1 h1).symm⟩
 ·exact B _ (h.ac.own c hc D)
 ·show(M.X.T.cY.map (·.id)).Pairwise _
  unfold a1.cY;rw[nz];have:(a7 M.X.T.bB).map ((λx:Tk=>x.id)∘M.X.T.at')=(a7 M.X.T.bB).map id:=h8 λj o=>h.ts.tid j ((h.ts.tk j).1 o).1;rw[this,List.map_id];exact h.ts.ps
 ·obtain⟨j,o,rfl⟩:=bP.1 E
  obtain⟨a,b⟩:=h.ts.tr j o;exact⟨a,((h.ts.tk j).1 o).2,B _ b⟩
 ·obtain⟨h1,f⟩:=u m hm
  rw[f];show((M.X.T.cY.filter λt=>t.aO==m.1).map (·.count)).sum=(M.X.L.ar.at' m.1).cB;rw[h.ts.cB m.1 h1,Z7];unfold p' a1.cY;rw[nz];congr 1;refine h8 λj _=>?_;show(if((M.X.T.at' j).aO==m.1)=true then _ else _)=_;by_cases e:(M.X.T.at' j).aO=m.1
  ·rw[ag e,ag (by simpa using e)]
  ·rw[aj e,aj (by simpa using e)]
 ·show kH ((dk M.X.S.cs 0:Int)+dk M.X.S.cs 2+dk M.X.S.cs 3) M.X.L.ar.members=true
  have h1:=s7 h.ac.inv;have F:dk M.X.S.cs 0=M.X.S.many 0:=rfl;have G:dk M.X.S.cs 2=M.X.S.many 2:=rfl;rw[C,F,G];refine Yr (by omega) (λm hm=>?_) ?_
  ·obtain⟨h1,f⟩:=u m hm
   rw[f];exact(pW h.ac.ar h.ac.keys h1).1
  ·rw[GO]
   have:=h.ac.safe;simpa using this
 ·obtain⟨e,he,pc,H,rfl⟩:=Gb hl
  obtain⟨a,b,q,c,d⟩:=h.li e he;obtain⟨d1,d2,d3,d4,d5⟩:=d pc H;exact⟨(ez.1 a).1,d3,d4,d5,M.X.S.at' e.1,(aE.hG a).1,(h.ip.ir q e.1 c).2.1,b.symm⟩
 ·show M.V.hU.Pairwise _
  rw[Je];refine⟨λe he=>?_,?_⟩
  ·unfold ek
   rw[kR];have I:=(r.yI e he).1.R;have:=Aq I;unfold Lk.ss at this;rw[kR]at this;refine this.imp λ{a b} J=>⟨λ_=>?_,λ_=>rfl⟩;unfold h3
   have K:¬(a.at'<b.at'+b.len/\b.at'<a.at'+a.len):=λZ=>by have:a.at'+a.len<=b.at':=J;omega
   show(_&&_&&decide (a.at'<b.at'+b.len/\b.at'<a.at'+a.len))=false;rw[cP K,CP]
  ·have hs:=r.vs
   unfold bQ ed a7 at hs;rw[kR]at hs;refine hs.imp_of_mem λ{e A} he N aa x O y P=>?_;obtain⟨p1,Q,rfl⟩:=bP.1 O;obtain⟨p2,W,rfl⟩:=bP.1 P;obtain⟨_,_,q1,c1,d1⟩:=h.li e he;obtain⟨_,_,q2,c2,d2⟩:=h.li A N;refine⟨λhc=>?_,λhr=>?_⟩
   ·have hc:e.1=A.1:=hc
    omega
   ·have hr:p1.bR=p2.bR:=hr
    have g1:=(d1 p1 Q).1;have g2:=(d2 p2 W).1;have Y:q1=q2:=by rw[<-g1,<-g2,hr]
    show qq M.X.S.cs e.1=qq M.X.S.cs A.1;rw[h.own c1,h.own c2,Y]
def Kp.new(n m q:Nat)(h1:s.c=n)(j:s.z=m)(A:s.q=q)(k:1<=n)(dG:n<=12)(l:64<=m)(iB:m<=256):Kp s 0 ⟨s,aJ.new n m q,a6.new,Lv.new⟩:=by
 have o:(hq n 0).Nodup:=by unfold hq;apply mx.2;rw[kR];rw[List.pairwise_reverse];exact(mx.1 (List.nodup_range')).imp λr e=>r (by omega)
 have hinv:=(u9 (n:=n) (size:=m) (tb:=0) (fb:=0) (cb:=0) (kb:=0) k (by omega) l (by omega) o).inv;have hlen:(aE.new n m).cs.length=n:=g'
 have hz:∀i,(aE.new n m).at' i=bD.zero:=λi=>by
  unfold aE.at' aE.new;simp only[eo,r8];split
  ·rfl
  ·rfl
 have b:∀i,a1.has a1.new i=false:=λi=>by unfold a1.has;exact cP (by simp;omega)
 have t:AS ⟨n,bG.new⟩ (aE.new n m) ⟨n,[],0⟩:=by
  refine⟨hinv,⟨rfl,?_,List.Pairwise.nil⟩,aT.u9 (by omega),tX,?_,?_,λi=>?_,rfl,?_,λc hc f=>?_,.nil _⟩
  ·intro e he;cases he
  ·show(n:Int)=((aE.new n m).cs.length:Nat)
   rw[hlen]
  ·show n=(aE.new n m).cs.length
   rw[hlen]
  ·rw[hz]
   refine Iff.intro (λh=>?_) λh=>?_
   ·cases h
   ·cases h.2
  ·intro p a;cases a
  ·have hc:c∈List.replicate n bD.zero:=hc
   rw[(List.mem_replicate.1 hc).2]at f;exact absurd f (by decide)
 have u:TS ⟨n,bG.new⟩ a1.new ⟨[],0⟩:=by
  refine⟨List.Pairwise.nil,λi=>?_,λi hi=>?_,?_,rfl,?_⟩
  ·rw[b]
   refine Iff.intro (λh=>?_) λh=>?_
   ·cases h
   ·cases h.1
  ·rw[b]at hi;cases hi
  ·intro p a;cases a
  ·intro p a;cases a
 have v:PI (aE.new n m) (λ_=>[]) (λ_=>vx):=by
  refine⟨?_,λ_=>tX,?_,λ_=>tX,?_⟩
  ·intro p i a;cases a
  ·intro p i a;cases a
  ·intro p q i a;cases a
 have w:LI (aE.new n m) s.z a6.new Lv.new:=by intro e he;cases he
 have x:RI s.z a6.new:=⟨λq y=>absurd rfl y,λq=>⟨fS _,by show(0:Int)<=s.z;omega⟩⟩;refine⟨rfl,?_,?_,j.symm,by omega,t,u,v,w,x,λg d=>?_,dQ _,fS _,dQ _,dQ _,dQ _,dQ _,dQ _,⟨fS _,fS _⟩,λi hi=>?_⟩
 ·show((aE.new n m).cs.length:Int)=_
  rw[hlen];exact h1.symm
 ·show(aE.new n m).cs.length<=_
  rw[hlen];exact dG
 ·have d:g∈List.replicate 64 (0:Int):=d
  rw[(List.mem_replicate.1 d).2];exact⟨fS _,fS _⟩
 ·have hi:a1.has a1.new i=true:=hi
  rw[b]at hi;cases hi
def keeps(s:Setup):zw s (Kp s):=by
 refine⟨λn m q h1 e f g dG j iB _ _=>Kp.new n m q h1 e f g dG j iB,λk M U d h=>h.fit d (by omega),λk M U d h=>⟨h.snd d (by omega),λm hm=>?_,λi c hc=>?_⟩,λk M o U d l h _ _=>?_⟩
 ·obtain⟨q,p,rfl⟩:=bP.1 hm
  have:=(pW h.ac.ar h.ac.keys p).1;unfold cq at this;simp only[bJ]at this;show(M.X.L.ar.at' q).held+(M.X.L.ar.at' q).cB<=(M.X.L.ar.at' q).dZ;omega
 ·exact(h.ac.inv.ph c (cr hc)).1
 ·have r:=ZN h d l (by omega)
  exact⟨r.kp,⟨r.tk,r.ee.len,λi a b ha t=>r.ee.ee i a b ha t⟩,r.n⟩
end
end
end Go.Proofs.YtlmgompopkamfaaGreatDoor
namespace Go.Proofs
section
open Go.Shelf
def Tryz.Gf:Go.Shelf.Ren:=⟨λ|169=>74|n=>n,λ|70=>177|9=>9|0=>0|72=>180|37=>178|127=>280|3=>3|5=>5|n=>n,λ|n=>n⟩
def Tryz.Vl:Go.Proofs.Lays.n169 Tryz.prog Tryz.Gf:={
 mixed:=by kernel_rfl
 f169:=XS.bp func74
 t0:=Tryz.underlying0
 a0:=Tryz.isAgg0
 z0:=Tryz.sizeOf0
 v0:=Tryz.zeroValue0
 t3:=Tryz.underlying3
 a3:=Tryz.isAgg3
 z3:=Tryz.sizeOf3
 v3:=Tryz.zeroValue3
 t9:=Tryz.underlying9
 a9:=Tryz.isAgg9
 z9:=Tryz.sizeOf9
 v9:=Tryz.zeroValue9
 t37:=Tryz.underlying178
 a37:=Tryz.isAgg178
 z37:=Tryz.sizeOf178
 v37:=Tryz.zeroValue178
 t70:=Tryz.underlying177
 a70:=Tryz.isAgg177
 z70:=Tryz.sizeOf177
 v70:=Tryz.zeroValue177
 t72:=Tryz.underlying180
 a72:=Tryz.isAgg180
 z72:=Tryz.sizeOf180
 v72:=Tryz.zeroValue180
 t127:=Tryz.underlying280
 a127:=Tryz.isAgg280
 z127:=Tryz.sizeOf280
 v127:=Tryz.zeroValue280}
def Tryz.Jn:Builder.Extra Tryz.prog Tryz.Gf:={
 sizeBuilder:=by kernel_rfl
 liesBuilder:=by kernel_rfl
 t5:=Tryz.underlying5
 a5:=Tryz.isAgg5
 z5:=Tryz.sizeOf5
 v5:=Tryz.zeroValue5
 infoByte:=by kernel_rfl
 cellsByte:=by kernel_rfl
 sizeByte:=by kernel_rfl
 neB5:=by decide}
open Go.RowKit in
def Tryz.Builder_String_any(B b:Nat)(l:List UInt8)(w:World)(h:Lib.IsBuilder 180 5 B b (Lib.byteCells l) w)(a:B<=w.heap.size):Calls Tryz.prog 74 #[.pointer (some ⟨b,0,none⟩)] w λe w'=>e= .returned (.string ⟨l.toArray⟩)/\Below B w w':=Any.Builder_String_any Tryz.Vl Tryz.Jn B b l w h a
def Tryz.A2:Go.Shelf.Ren:=⟨λ|156=>223|165=>324|166=>73|169=>74|240=>135|241=>390|276=>226|277=>432|n=>n,λ|31=>279|9=>9|3=>3|4=>4|0=>0|20=>20|72=>180|76=>183|70=>177|37=>178|75=>169|127=>280|164=>262|5=>5|80=>185|n=>n,λ|n=>n⟩
def Tryz.Ge:Go.Proofs.Lays.n156 Tryz.prog Tryz.A2:={
 mixed:=by kernel_rfl
 f156:=XS.bp func223
 f165:=XS.bp func324
 f166:=XS.bp func73
 f169:=XS.bp func74
 f240:=XS.bp func135
 f241:=XS.bp func390
 f276:=XS.bp func226
 f277:=XS.bp func432
 t0:=Tryz.underlying0
 a0:=Tryz.isAgg0
 z0:=Tryz.sizeOf0
 v0:=Tryz.zeroValue0
 t3:=Tryz.underlying3
 a3:=Tryz.isAgg3
 z3:=Tryz.sizeOf3
 v3:=Tryz.zeroValue3
 t4:=Tryz.underlying4
 a4:=Tryz.isAgg4
 z4:=Tryz.sizeOf4
 v4:=Tryz.zeroValue4
 t9:=Tryz.underlying9
 a9:=Tryz.isAgg9
 z9:=Tryz.sizeOf9
 v9:=Tryz.zeroValue9
 t20:=Tryz.underlying20
 a20:=Tryz.isAgg20
 z20:=Tryz.sizeOf20
 v20:=Tryz.zeroValue20
 t31:=Tryz.underlying279
 a31:=Tryz.isAgg279
 z31:=Tryz.sizeOf279
 v31:=Tryz.zeroValue279
 t37:=Tryz.underlying178
 a37:=Tryz.isAgg178
 z37:=Tryz.sizeOf178
 v37:=Tryz.zeroValue178
 t70:=Tryz.underlying177
 a70:=Tryz.isAgg177
 z70:=Tryz.sizeOf177
 v70:=Tryz.zeroValue177
 t72:=Tryz.underlying180
 a72:=Tryz.isAgg180
 z72:=Tryz.sizeOf180
 v72:=Tryz.zeroValue180
 t75:=Tryz.underlying169
 a75:=Tryz.isAgg169
 z75:=Tryz.sizeOf169
 v75:=Tryz.zeroValue169
 t76:=Tryz.underlying183
 a76:=Tryz.isAgg183
 z76:=Tryz.sizeOf183
 v76:=Tryz.zeroValue183
 t127:=Tryz.underlying280
 a127:=Tryz.isAgg280
 z127:=Tryz.sizeOf280
 v127:=Tryz.zeroValue280
 t164:=Tryz.underlying262
 a164:=Tryz.isAgg262
 z164:=Tryz.sizeOf262
 v164:=Tryz.zeroValue262}
def Tryz.Dm:Builder.Extra Tryz.prog Tryz.A2:={
 sizeBuilder:=by kernel_rfl
 liesBuilder:=by kernel_rfl
 t5:=Tryz.underlying5
 a5:=Tryz.isAgg5
 z5:=Tryz.sizeOf5
 v5:=Tryz.zeroValue5
 infoByte:=by kernel_rfl
 cellsByte:=by kernel_rfl
 sizeByte:=by kernel_rfl
 neB5:=by decide}
open Go.RowKit in
def Tryz.strings_Join(eU o c:Nat)(xs:List ByteArray)(sep:ByteArray)(w:World)(a:∀(j:Nat) x,xs[j]?=some x->w.cell? ⟨eU,o+j,none⟩=some (.string x))(b:eU<w.heap.size)(d:xs.length<=140737488355328)(f:xs.length<=c)(hlen:(Lib.join (xs.map (·.data.toList)) sep.data.toList).length<=140737488355328):Calls Tryz.prog 223 #[.slice (some ⟨eU,o,none⟩) xs.length c,.string sep] w λe w'=>e= .returned (.string ⟨(Lib.join (xs.map (·.data.toList)) sep.data.toList).toArray⟩)/\Below w.heap.size w w':=Any.strings_Join Tryz.Ge Tryz.Dm eU o c xs sep w a b d f hlen
def Tryz.Vn:Go.Shelf.Ren:=⟨λ|172=>315|244=>383|245=>384|247=>423|279=>424|280=>425|281=>426|282=>427|287=>461|316=>462|171=>224|205=>463|321=>488|322=>489|243=>325|246=>391|283=>433|284=>434|285=>435|286=>436|129=>252|317=>466|318=>467|319=>468|320=>469|337=>491|338=>492|n=>n,λ|9=>9|3=>3|75=>169|76=>183|4=>4|5=>5|167=>576|37=>178|0=>0|85=>577|2=>2|168=>579|53=>450|175=>600|46=>97|210=>603|127=>280|145=>626|143=>624|21=>21|171=>585|173=>587|212=>606|51=>305|20=>20|213=>607|232=>634|233=>532|80=>185|n=>n,λ|15=>2|16=>3|17=>4|18=>7|19=>8|n=>n⟩
def Tryz.Vm:Go.Proofs.Lays.n172 Tryz.prog Tryz.Vn:={
 mixed:=by kernel_rfl
 f129:=XS.bp func252
 f171:=XS.bp func224
 f172:=XS.bp func315
 f205:=XS.bp func463
 f243:=XS.bp func325
 f244:=XS.bp func383
 f245:=XS.bp func384
 f246:=XS.bp func391
 f247:=XS.bp func423
 f279:=XS.bp func424
 f280:=XS.bp func425
 f281:=XS.bp func426
 f282:=XS.bp func427
 f283:=XS.bp func433
 f284:=XS.bp func434
 f285:=XS.bp func435
 f286:=XS.bp func436
 f287:=XS.bp func461
 f316:=XS.bp func462
 f317:=XS.bp func466
 f318:=XS.bp func467
 f319:=XS.bp func468
 f320:=XS.bp func469
 f321:=XS.bp func488
 f322:=XS.bp func489
 f337:=XS.bp func491
 f338:=XS.bp func492
 t0:=Tryz.underlying0
 a0:=Tryz.isAgg0
 z0:=Tryz.sizeOf0
 v0:=Tryz.zeroValue0
 t2:=Tryz.underlying2
 a2:=Tryz.isAgg2
 z2:=Tryz.sizeOf2
 v2:=Tryz.zeroValue2
 t3:=Tryz.underlying3
 a3:=Tryz.isAgg3
 z3:=Tryz.sizeOf3
 v3:=Tryz.zeroValue3
 t4:=Tryz.underlying4
 a4:=Tryz.isAgg4
 z4:=Tryz.sizeOf4
 v4:=Tryz.zeroValue4
 t5:=Tryz.underlying5
 a5:=Tryz.isAgg5
 z5:=Tryz.sizeOf5
 v5:=Tryz.zeroValue5
 t9:=Tryz.underlying9
 a9:=Tryz.isAgg9
 z9:=Tryz.sizeOf9
 v9:=Tryz.zeroValue9
 t20:=Tryz.underlying20
 a20:=Tryz.isAgg20
 z20:=Tryz.sizeOf20
 v20:=Tryz.zeroValue20
 t21:=Tryz.underlying21
 a21:=Tryz.isAgg21
 z21:=Tryz.sizeOf21
 v21:=Tryz.zeroValue21
 t37:=Tryz.underlying178
 a37:=Tryz.isAgg178
 z37:=Tryz.sizeOf178
 v37:=Tryz.zeroValue178
 t46:=Tryz.underlying97
 a46:=Tryz.isAgg97
 z46:=Tryz.sizeOf97
 v46:=Tryz.zeroValue97
 t51:=Tryz.underlying305
 a51:=Tryz.isAgg305
 z51:=Tryz.sizeOf305
 v51:=Tryz.zeroValue305
 t53:=Tryz.underlying450
 a53:=Tryz.isAgg450
 z53:=Tryz.sizeOf450
 v53:=Tryz.zeroValue450
 t75:=Tryz.underlying169
 a75:=Tryz.isAgg169
 z75:=Tryz.sizeOf169
 v75:=Tryz.zeroValue169
 t76:=Tryz.underlying183
 a76:=Tryz.isAgg183
 z76:=Tryz.sizeOf183
 v76:=Tryz.zeroValue183
 t85:=Tryz.underlying577
 a85:=Tryz.isAgg577
 z85:=Tryz.sizeOf577
 v85:=Tryz.zeroValue577
 t127:=Tryz.underlying280
 a127:=Tryz.isAgg280
 z127:=Tryz.sizeOf280
 v127:=Tryz.zeroValue280
 t143:=Tryz.underlying624
 a143:=Tryz.isAgg624
 z143:=Tryz.sizeOf624
 v143:=Tryz.zeroValue624
 t145:=Tryz.underlying626
 a145:=Tryz.isAgg626
 z145:=Tryz.sizeOf626
 v145:=Tryz.zeroValue626
 t167:=Tryz.underlying576
 a167:=Tryz.isAgg576
 z167:=Tryz.sizeOf576
 v167:=Tryz.zeroValue576
 t168:=Tryz.underlying579
 a168:=Tryz.isAgg579
 z168:=Tryz.sizeOf579
 v168:=Tryz.zeroValue579
 t171:=Tryz.underlying585
 a171:=Tryz.isAgg585
 z171:=Tryz.sizeOf585
 v171:=Tryz.zeroValue585
 t173:=Tryz.underlying587
 a173:=Tryz.isAgg587
 z173:=Tryz.sizeOf587
 v173:=Tryz.zeroValue587
 t175:=Tryz.underlying600
 a175:=Tryz.isAgg600
 z175:=Tryz.sizeOf600
 v175:=Tryz.zeroValue600
 t210:=Tryz.underlying603
 a210:=Tryz.isAgg603
 z210:=Tryz.sizeOf603
 v210:=Tryz.zeroValue603
 t212:=Tryz.underlying606
 a212:=Tryz.isAgg606
 z212:=Tryz.sizeOf606
 v212:=Tryz.zeroValue606
 t213:=Tryz.underlying607
 a213:=Tryz.isAgg607
 z213:=Tryz.sizeOf607
 t232:=Tryz.underlying634
 a232:=Tryz.isAgg634
 z232:=Tryz.sizeOf634
 v232:=Tryz.zeroValue634
 t233:=Tryz.underlying532
 a233:=Tryz.isAgg532
 z233:=Tryz.sizeOf532
 v233:=Tryz.zeroValue532
 g15:=by kernel_rfl
 g16:=by kernel_rfl
 g17:=by kernel_rfl
 g18:=by kernel_rfl
 g19:=by kernel_rfl}
open Go.RowKit in
def Tryz.strconv_Atoi(s:ByteArray)(n:Int)(hl:s.size<=18)(h:Lib.atoi s.data.toList=some n)(w:World):Calls Tryz.prog 315 #[.string s] w λe w'=>e= .returned (.tuple #[.int .i64 n,.nilIface])/\∃t,w'=Lib.bytesWorld w 5 t:=Any.strconv_Atoi Tryz.Vm s n hl h w
def Tryz.Vs:Go.Shelf.Ren:=⟨λ|171=>224|243=>325|246=>391|283=>433|284=>434|285=>435|286=>436|129=>252|317=>466|318=>467|319=>468|320=>469|337=>491|338=>492|n=>n,λ|3=>3|9=>9|2=>2|4=>4|171=>585|0=>0|53=>450|37=>178|5=>5|173=>587|212=>606|51=>305|20=>20|213=>607|46=>97|232=>634|233=>532|n=>n,λ|17=>4|18=>7|19=>8|n=>n⟩
def Tryz.Vr:Go.Proofs.LaysM.n171 Tryz.prog Tryz.Vs:={
 mixed:=by kernel_rfl
 f129:=XS.bp func252
 f171:=XS.bp func224
 f243:=XS.bp func325
 f246:=XS.bp func391
 f283:=XS.bp func433
 f284:=XS.bp func434
 f285:=XS.bp func435
 f286:=XS.bp func436
 f317:=XS.bp func466
 f318:=XS.bp func467
 f319:=XS.bp func468
 f320:=XS.bp func469
 f337:=XS.bp func491
 f338:=XS.bp func492
 t0:=Tryz.underlying0
 a0:=Tryz.isAgg0
 z0:=Tryz.sizeOf0
 v0:=Tryz.zeroValue0
 t2:=Tryz.underlying2
 a2:=Tryz.isAgg2
 z2:=Tryz.sizeOf2
 v2:=Tryz.zeroValue2
 t3:=Tryz.underlying3
 a3:=Tryz.isAgg3
 z3:=Tryz.sizeOf3
 v3:=Tryz.zeroValue3
 t4:=Tryz.underlying4
 a4:=Tryz.isAgg4
 z4:=Tryz.sizeOf4
 v4:=Tryz.zeroValue4
 t5:=Tryz.underlying5
 a5:=Tryz.isAgg5
 z5:=Tryz.sizeOf5
 v5:=Tryz.zeroValue5
 t9:=Tryz.underlying9
 a9:=Tryz.isAgg9
 z9:=Tryz.sizeOf9
 v9:=Tryz.zeroValue9
 t20:=Tryz.underlying20
 a20:=Tryz.isAgg20
 z20:=Tryz.sizeOf20
 v20:=Tryz.zeroValue20
 t37:=Tryz.underlying178
 a37:=Tryz.isAgg178
 z37:=Tryz.sizeOf178
 v37:=Tryz.zeroValue178
 t46:=Tryz.underlying97
 a46:=Tryz.isAgg97
 z46:=Tryz.sizeOf97
 v46:=Tryz.zeroValue97
 t51:=Tryz.underlying305
 a51:=Tryz.isAgg305
 z51:=Tryz.sizeOf305
 v51:=Tryz.zeroValue305
 t53:=Tryz.underlying450
 a53:=Tryz.isAgg450
 z53:=Tryz.sizeOf450
 v53:=Tryz.zeroValue450
 t171:=Tryz.underlying585
 a171:=Tryz.isAgg585
 z171:=Tryz.sizeOf585
 v171:=Tryz.zeroValue585
 t173:=Tryz.underlying587
 a173:=Tryz.isAgg587
 z173:=Tryz.sizeOf587
 v173:=Tryz.zeroValue587
 t212:=Tryz.underlying606
 a212:=Tryz.isAgg606
 z212:=Tryz.sizeOf606
 v212:=Tryz.zeroValue606
 t213:=Tryz.underlying607
 a213:=Tryz.isAgg607
 z213:=Tryz.sizeOf607
 t232:=Tryz.underlying634
 a232:=Tryz.isAgg634
 z232:=Tryz.sizeOf634
 v232:=Tryz.zeroValue634
 t233:=Tryz.underlying532
 a233:=Tryz.isAgg532
 z233:=Tryz.sizeOf532
 v233:=Tryz.zeroValue532
 g17:=by kernel_rfl
 g18:=by kernel_rfl
 g19:=by kernel_rfl
 i0:=by kernel_rfl
 i2:=by kernel_rfl
 i3:=by kernel_rfl
 i4:=by kernel_rfl
 i5:=by kernel_rfl
 i9:=by kernel_rfl
 i20:=by kernel_rfl
 i37:=by kernel_rfl
 i46:=by kernel_rfl
 i51:=by kernel_rfl
 i53:=by kernel_rfl
 i171:=by kernel_rfl
 i173:=by kernel_rfl
 i212:=by kernel_rfl
 i232:=by kernel_rfl
 i233:=by kernel_rfl
 m17:=by kernel_rfl
 m18:=by kernel_rfl
 m19:=by kernel_rfl}
open Go.RowKit Go.Sort Go.Lib in
def Tryz.strconv_Itoa(n:Int)(h0:-9223372036854775808<=n)(h1:n<=9223372036854775807)(w:World)(a:Lib.TabIs Tryz.prog w "internal/strconv.uint64pow10" .u64 Lib.pow10Tab):Calls Tryz.prog 224 #[.int .i64 n] w λe w'=>e= .returned (.string ⟨(Lib.itoa n).toArray⟩)/\∃k os,w'=grow (w.drewN k) os:=Any.strconv_Itoa Tryz.Vr n h0 h1 w a
def Tryz.Vf:Go.Shelf.Ren:=⟨λ|145=>210|220=>312|219=>381|217=>419|225=>420|224=>421|267=>422|266=>459|314=>460|n=>n,λ|9=>9|4=>4|59=>366|3=>3|5=>5|46=>97|146=>598|51=>305|n=>n,λ|1=>1|n=>n⟩
def Tryz.Ve:Go.Proofs.Lays.n145 Tryz.prog Tryz.Vf:={
 mixed:=by kernel_rfl
 f145:=XS.bp func210
 f217:=XS.bp func419
 f219:=XS.bp func381
 f220:=XS.bp func312
 f224:=XS.bp func421
 f225:=XS.bp func420
 f266:=XS.bp func459
 f267:=XS.bp func422
 f314:=XS.bp func460
 t3:=Tryz.underlying3
 a3:=Tryz.isAgg3
 z3:=Tryz.sizeOf3
 v3:=Tryz.zeroValue3
 t4:=Tryz.underlying4
 a4:=Tryz.isAgg4
 z4:=Tryz.sizeOf4
 v4:=Tryz.zeroValue4
 t5:=Tryz.underlying5
 a5:=Tryz.isAgg5
 z5:=Tryz.sizeOf5
 v5:=Tryz.zeroValue5
 t9:=Tryz.underlying9
 a9:=Tryz.isAgg9
 z9:=Tryz.sizeOf9
 v9:=Tryz.zeroValue9
 t46:=Tryz.underlying97
 a46:=Tryz.isAgg97
 z46:=Tryz.sizeOf97
 v46:=Tryz.zeroValue97
 t51:=Tryz.underlying305
 a51:=Tryz.isAgg305
 z51:=Tryz.sizeOf305
 v51:=Tryz.zeroValue305
 t59:=Tryz.underlying366
 a59:=Tryz.isAgg366
 z59:=Tryz.sizeOf366
 v59:=Tryz.zeroValue366
 t146:=Tryz.underlying598
 a146:=Tryz.isAgg598
 z146:=Tryz.sizeOf598
 v146:=Tryz.zeroValue598
 g1:=by kernel_rfl}
open Go.RowKit Go.Lib in
def Tryz.strings_Cut(s sep:ByteArray)(m:Int)(w:World)(hs:s.size<4294967281)(hm:w.cell? ⟨1,0,none⟩=some (.int .i64 m)):Calls Tryz.prog 210 #[.string s,.string sep] w λe w'=>e= .returned (.tuple #[.string ⟨(Lib.cut s.data.toList sep.data.toList).1.toArray⟩,.string ⟨(Lib.cut s.data.toList sep.data.toList).2.1.toArray⟩,.bool (Lib.cut s.data.toList sep.data.toList).2.2])/\∃n,w'=w.drewN n:=Any.strings_Cut Tryz.Ve s sep m w hs hm
def Tryz.Vq:Go.Shelf.Ren:=⟨λ|99=>321|206=>388|n=>n,λ|9=>9|4=>4|3=>3|n=>n,λ|n=>n⟩
def Tryz.Vp:Go.Proofs.Lays.n99 Tryz.prog Tryz.Vq:={
 mixed:=by kernel_rfl
 f99:=XS.bp func321
 f206:=XS.bp func388
 t3:=Tryz.underlying3
 a3:=Tryz.isAgg3
 z3:=Tryz.sizeOf3
 v3:=Tryz.zeroValue3
 t4:=Tryz.underlying4
 a4:=Tryz.isAgg4
 z4:=Tryz.sizeOf4
 v4:=Tryz.zeroValue4
 t9:=Tryz.underlying9
 a9:=Tryz.isAgg9
 z9:=Tryz.sizeOf9
 v9:=Tryz.zeroValue9}
open Go.RowKit Go.Lib in
def Tryz.strings_HasPrefix(s p:ByteArray)(w:World):Calls Tryz.prog 321 #[.string s,.string p] w λe w'=>e= .returned (.bool (Lib.hasPrefix s.data.toList p.data.toList))/\w'=w:=Any.strings_HasPrefix Tryz.Vp s p w
def Tryz.Vh:Go.Shelf.Ren:=⟨λ|146=>313|221=>316|268=>385|138=>386|143=>387|195=>428|197=>429|218=>430|219=>381|260=>464|217=>419|225=>420|224=>421|267=>422|266=>459|314=>460|n=>n,λ|9=>9|31=>279|3=>3|4=>4|0=>0|105=>582|21=>21|5=>5|46=>97|119=>506|139=>629|138=>628|146=>598|51=>305|n=>n,λ|1=>1|3=>5|4=>6|n=>n⟩
def Tryz.Vg:Go.Proofs.Lays.n146 Tryz.prog Tryz.Vh:={
 mixed:=by kernel_rfl
 f138:=XS.bp func386
 f143:=XS.bp func387
 f146:=XS.bp func313
 f195:=XS.bp func428
 f197:=XS.bp func429
 f217:=XS.bp func419
 f218:=XS.bp func430
 f219:=XS.bp func381
 f221:=XS.bp func316
 f224:=XS.bp func421
 f225:=XS.bp func420
 f260:=XS.bp func464
 f266:=XS.bp func459
 f267:=XS.bp func422
 f268:=XS.bp func385
 f314:=XS.bp func460
 t0:=Tryz.underlying0
 a0:=Tryz.isAgg0
 z0:=Tryz.sizeOf0
 v0:=Tryz.zeroValue0
 t3:=Tryz.underlying3
 a3:=Tryz.isAgg3
 z3:=Tryz.sizeOf3
 v3:=Tryz.zeroValue3
 t4:=Tryz.underlying4
 a4:=Tryz.isAgg4
 z4:=Tryz.sizeOf4
 v4:=Tryz.zeroValue4
 t5:=Tryz.underlying5
 a5:=Tryz.isAgg5
 z5:=Tryz.sizeOf5
 v5:=Tryz.zeroValue5
 t9:=Tryz.underlying9
 a9:=Tryz.isAgg9
 z9:=Tryz.sizeOf9
 v9:=Tryz.zeroValue9
 t21:=Tryz.underlying21
 a21:=Tryz.isAgg21
 z21:=Tryz.sizeOf21
 v21:=Tryz.zeroValue21
 t31:=Tryz.underlying279
 a31:=Tryz.isAgg279
 z31:=Tryz.sizeOf279
 v31:=Tryz.zeroValue279
 t46:=Tryz.underlying97
 a46:=Tryz.isAgg97
 z46:=Tryz.sizeOf97
 v46:=Tryz.zeroValue97
 t51:=Tryz.underlying305
 a51:=Tryz.isAgg305
 z51:=Tryz.sizeOf305
 v51:=Tryz.zeroValue305
 t105:=Tryz.underlying582
 a105:=Tryz.isAgg582
 z105:=Tryz.sizeOf582
 v105:=Tryz.zeroValue582
 t119:=Tryz.underlying506
 a119:=Tryz.isAgg506
 z119:=Tryz.sizeOf506
 t138:=Tryz.underlying628
 a138:=Tryz.isAgg628
 z138:=Tryz.sizeOf628
 v138:=Tryz.zeroValue628
 t139:=Tryz.underlying629
 a139:=Tryz.isAgg629
 z139:=Tryz.sizeOf629
 v139:=Tryz.zeroValue629
 t146:=Tryz.underlying598
 a146:=Tryz.isAgg598
 z146:=Tryz.sizeOf598
 v146:=Tryz.zeroValue598
 g1:=by kernel_rfl
 g3:=by kernel_rfl
 g4:=by kernel_rfl}
open Go.RowKit Go.Lib in
def Tryz.strings_Split(s sep:ByteArray)(m:Int)(w:World)(hs:s.size<4294967281)(hm:w.cell? ⟨1,0,none⟩=some (.int .i64 m))(h1:1<=sep.size):Calls Tryz.prog 313 #[.string s,.string sep] w λe w'=>e= .returned (.slice (some ⟨w.heap.size,0,none⟩) (Lib.countB s sep+1) (Lib.countB s sep+1))/\w'=w.alloc (.cells ((Lib.splitB sep 0 (Lib.countB s sep) s).map Value.string).toArray 9):=Any.strings_Split Tryz.Vg (by kernel_rfl) s sep m w hs hm h1
def Tryz.Vj:Go.Shelf.Ren:=⟨λ|147=>213|221=>316|268=>385|138=>386|143=>387|195=>428|197=>429|218=>430|219=>381|260=>464|217=>419|225=>420|224=>421|267=>422|266=>459|314=>460|n=>n,λ|9=>9|3=>3|31=>279|4=>4|0=>0|105=>582|21=>21|5=>5|46=>97|119=>506|139=>629|138=>628|146=>598|51=>305|n=>n,λ|1=>1|3=>5|4=>6|n=>n⟩
def Tryz.Vi:Go.Proofs.Lays.n147 Tryz.prog Tryz.Vj:={
 mixed:=by kernel_rfl
 f138:=XS.bp func386
 f143:=XS.bp func387
 f147:=XS.bp func213
 f195:=XS.bp func428
 f197:=XS.bp func429
 f217:=XS.bp func419
 f218:=XS.bp func430
 f219:=XS.bp func381
 f221:=XS.bp func316
 f224:=XS.bp func421
 f225:=XS.bp func420
 f260:=XS.bp func464
 f266:=XS.bp func459
 f267:=XS.bp func422
 f268:=XS.bp func385
 f314:=XS.bp func460
 t0:=Tryz.underlying0
 a0:=Tryz.isAgg0
 z0:=Tryz.sizeOf0
 v0:=Tryz.zeroValue0
 t3:=Tryz.underlying3
 a3:=Tryz.isAgg3
 z3:=Tryz.sizeOf3
 v3:=Tryz.zeroValue3
 t4:=Tryz.underlying4
 a4:=Tryz.isAgg4
 z4:=Tryz.sizeOf4
 v4:=Tryz.zeroValue4
 t5:=Tryz.underlying5
 a5:=Tryz.isAgg5
 z5:=Tryz.sizeOf5
 v5:=Tryz.zeroValue5
 t9:=Tryz.underlying9
 a9:=Tryz.isAgg9
 z9:=Tryz.sizeOf9
 v9:=Tryz.zeroValue9
 t21:=Tryz.underlying21
 a21:=Tryz.isAgg21
 z21:=Tryz.sizeOf21
 v21:=Tryz.zeroValue21
 t31:=Tryz.underlying279
 a31:=Tryz.isAgg279
 z31:=Tryz.sizeOf279
 v31:=Tryz.zeroValue279
 t46:=Tryz.underlying97
 a46:=Tryz.isAgg97
 z46:=Tryz.sizeOf97
 v46:=Tryz.zeroValue97
 t51:=Tryz.underlying305
 a51:=Tryz.isAgg305
 z51:=Tryz.sizeOf305
 v51:=Tryz.zeroValue305
 t105:=Tryz.underlying582
 a105:=Tryz.isAgg582
 z105:=Tryz.sizeOf582
 v105:=Tryz.zeroValue582
 t119:=Tryz.underlying506
 a119:=Tryz.isAgg506
 z119:=Tryz.sizeOf506
 t138:=Tryz.underlying628
 a138:=Tryz.isAgg628
 z138:=Tryz.sizeOf628
 v138:=Tryz.zeroValue628
 t139:=Tryz.underlying629
 a139:=Tryz.isAgg629
 z139:=Tryz.sizeOf629
 v139:=Tryz.zeroValue629
 t146:=Tryz.underlying598
 a146:=Tryz.isAgg598
 z146:=Tryz.sizeOf598
 v146:=Tryz.zeroValue598
 g1:=by kernel_rfl
 g3:=by kernel_rfl
 g4:=by kernel_rfl}
open Go.RowKit Go.Lib in
def Tryz.strings_SplitN(s sep:ByteArray)(n:Nat)(m:Int)(w:World)(hs:s.size<4294967281)(hm:w.cell? ⟨1,0,none⟩=some (.int .i64 m))(h1:1<=sep.size)(a:1<=n)(b:n<=9223372036854775807):Calls Tryz.prog 213 #[.string s,.string sep,.int .i64 n] w λe w'=>e= .returned (.slice (some ⟨w.heap.size,0,none⟩) (Lib.splitB sep 0 (min n (s.size+1)-1) s).length (min n (s.size+1)))/\w'=w.alloc (.cells (Lib.cellsOf (Lib.splitB sep 0 (min n (s.size+1)-1) s) (min n (s.size+1))) 9):=Any.strings_SplitN Tryz.Vi (by kernel_rfl) s sep n m w hs hm h1 a b
def Tryz.A3:Go.Shelf.Ren:=⟨λ|167=>225|156=>223|165=>324|166=>73|169=>74|240=>135|241=>390|276=>226|277=>432|n=>n,λ|31=>279|9=>9|3=>3|4=>4|0=>0|20=>20|72=>180|76=>183|70=>177|37=>178|75=>169|127=>280|164=>262|5=>5|80=>185|n=>n,λ|n=>n⟩
def Tryz.Vk:Go.Proofs.Lays.n167 Tryz.prog Tryz.A3:={
 mixed:=by kernel_rfl
 f167:=XS.bp func225
 f240:=XS.bp func135
 f276:=XS.bp func226
 t0:=Tryz.underlying0
 a0:=Tryz.isAgg0
 z0:=Tryz.sizeOf0
 v0:=Tryz.zeroValue0
 t4:=Tryz.underlying4
 a4:=Tryz.isAgg4
 z4:=Tryz.sizeOf4
 v4:=Tryz.zeroValue4
 t5:=Tryz.underlying5
 a5:=Tryz.isAgg5
 z5:=Tryz.sizeOf5
 v5:=Tryz.zeroValue5
 t9:=Tryz.underlying9
 a9:=Tryz.isAgg9
 z9:=Tryz.sizeOf9
 v9:=Tryz.zeroValue9
 t20:=Tryz.underlying20
 a20:=Tryz.isAgg20
 z20:=Tryz.sizeOf20
 v20:=Tryz.zeroValue20
 t37:=Tryz.underlying178
 a37:=Tryz.isAgg178
 z37:=Tryz.sizeOf178
 v37:=Tryz.zeroValue178
 t70:=Tryz.underlying177
 a70:=Tryz.isAgg177
 z70:=Tryz.sizeOf177
 v70:=Tryz.zeroValue177
 t72:=Tryz.underlying180
 a72:=Tryz.isAgg180
 z72:=Tryz.sizeOf180
 v72:=Tryz.zeroValue180
 t75:=Tryz.underlying169
 a75:=Tryz.isAgg169
 z75:=Tryz.sizeOf169
 v75:=Tryz.zeroValue169
 t164:=Tryz.underlying262
 a164:=Tryz.isAgg262
 z164:=Tryz.sizeOf262
 v164:=Tryz.zeroValue262}
def Tryz.Jm:Builder.Extra Tryz.prog Tryz.A3:={
 sizeBuilder:=by kernel_rfl
 liesBuilder:=by kernel_rfl
 t5:=Tryz.underlying5
 a5:=Tryz.isAgg5
 z5:=Tryz.sizeOf5
 v5:=Tryz.zeroValue5
 infoByte:=by kernel_rfl
 cellsByte:=by kernel_rfl
 sizeByte:=by kernel_rfl
 neB5:=by decide}
open Go.RowKit in
def Tryz.Builder_WriteString(B b:Nat)(eN:List Value)(s:ByteArray)(w:World)(h:Lib.IsBuilder 180 5 B b eN w)(hlen:eN.length+s.size<=140737488355328)(a:B<=w.heap.size):Calls Tryz.prog 73 #[.pointer (some ⟨b,0,none⟩),.string s] w λe w'=>e= .returned (.tuple #[.int .i64 s.size,.nilIface])/\(Lib.BuilderAt 180 5 B b (.pointer (some ⟨b,0,none⟩)) (eN++Lib.strCells s) w'/\Below B w w'):=Any.Builder_WriteString (ρ:=Tryz.A2) {Tryz.Ge with} Tryz.Dm B b eN s w h hlen a
open Go.RowKit in
def Tryz.Builder_WriteByte(B b:Nat)(eN:List Value)(c:Int)(w:World)(h:Lib.IsBuilder 180 5 B b eN w)(hlen:eN.length+1<=140737488355328)(a:B<=w.heap.size):Calls Tryz.prog 225 #[.pointer (some ⟨b,0,none⟩),.int .u8 c] w λe w'=>e= .returned .nilIface/\(Lib.BuilderAt 180 5 B b (.pointer (some ⟨b,0,none⟩)) (eN++[.int .u8 c]) w'/\Below B w w'):=Any.Builder_WriteByte (ρ:=Tryz.A3) Tryz.Vk Tryz.Jm B b eN c w h hlen a
end
end Go.Proofs
namespace Go.Proofs.YtlmgompopkamfaaGreatDoor
section
open Go.XS Go.bm Go.RowKit Go.Lib
section
variable {B:Heap}{H H0:au}{K:aK}{p:HP}{f:FuncId}{args:aw}
def Own.below{σ eC:Heap}(o:Own B H σ)(hs:σ.size<=eC.size)(a:∀k,k<σ.size->eC[k]?=σ[k]?):Own B H eC:=by obtain⟨l,h1,e,d⟩:=o.own;refine⟨λb f=>(a b (by have:=o.size;omega)).trans (o.base b f),by have:=o.size;omega,l,h1,e,λc hc=>⟨(d c hc).1,?_⟩⟩;have:=(d c hc).2;rw[a _ (gF.1 this).1];exact this
def DX(h:∀σ,(∀eC,Own σ [] eC->Own B H eC)->(∃x,Own B H x/\x=σ)->T σ [] p):T B H p:=λσ o=>h σ (λeC a=>Own.below o a.size a.base) ⟨σ,o,rfl⟩ σ ⟨λ_ _=>rfl,dQ _,[],trivial,by simp,by simp⟩
structure Gl(B:Heap):Prop where
 GI:∃m,b0 B ⟨1,0,none⟩=some (.int .i64 m)
 cW:∀w:World,(∀k,k<B.size->w.heap[k]?=B[k]?)->B.size<=w.heap.size->TabIs P w "internal/strconv.uint64pow10" .u64 pow10Tab
def Gl.yi{σ:Heap}(h:Gl B)(o:Own B H σ):Gl σ:=by
 obtain⟨m,hm⟩:=h.GI;refine⟨⟨m,?_⟩,λw hw hs=>h.cW w (λk U=>(hw k (by have:=o.size;omega)).trans (o.base k U)) (by have:=o.size;omega)⟩;unfold b0 at hm⊢
 have:1<B.size:=by refine tP λa=>?_;rw[y0 (show B.size<=(⟨1,0,none⟩:Addr).block from by show B.size<=1;omega)]at hm;cases hm
 rw[o.base 1 this];exact hm
def Gl.cell{σ:Heap}(h:Gl B)(o:Own B H σ){w:World}(hw:w.heap=σ):∃m,w.cell? ⟨1,0,none⟩=some (.int .i64 m):=by obtain⟨m,hm⟩:=(h.yi o).GI;exact⟨m,by rw[k1,hw];exact hm⟩
def Gl.Z'{σ:Heap}(h:Gl B)(o:Own B H σ){w:World}(hw:w.heap=σ):TabIs P w "internal/strconv.uint64pow10" .u64 pow10Tab:=h.cW w (λk U=>by rw[hw];exact o.base k U) (by rw[hw];exact o.size)
def Ju{s sep:ByteArray}(g:Gl B)(hs:s.size<4294967281)(U:T B H (K (.tuple #[.string ⟨(Lib.cut s.data.toList sep.data.toList).1.toArray⟩,.string ⟨(Lib.cut s.data.toList sep.data.toList).2.1.toArray⟩,.bool (Lib.cut s.data.toList sep.data.toList).2.2]))):T B H (ad P 210 #[.string s,.string sep] K):=λσ o w hw=>by obtain⟨m,hm⟩:=g.cell o hw;refine(Tryz.strings_Cut s sep m w hs hm).mono ?_;rintro e w' ⟨rfl,n,rfl⟩;exact⟨_,rfl,by show K _ w.heap;rw[hw];exact U σ o,⟨rfl,rfl,rfl⟩⟩
def Jv{s p:ByteArray}(U:T B H (K (.bool (Lib.hasPrefix s.data.toList p.data.toList)))):T B H (ad P 321 #[.string s,.string p] K):=λσ o w hw=>by refine(Tryz.strings_HasPrefix s p w).mono ?_;rintro e w' ⟨rfl,rfl⟩;exact⟨_,rfl,by rw[hw];exact U σ o,.refl _⟩
def DA{s sep:ByteArray}(g:Gl B)(hs:s.size<4294967281)(h1:1<=sep.size)(U:∀b,T B (cl b ((Lib.splitB sep 0 (Lib.countB s sep) s).map Value.string).toArray::H) (K (.slice (some ⟨b,0,none⟩) (Lib.countB s sep+1) (Lib.countB s sep+1)))):T B H (ad P 313 #[.string s,.string sep] K):=λσ o w hw=>by obtain⟨m,hm⟩:=g.cell o hw;refine(Tryz.strings_Split s sep m w hs hm h1).mono ?_;rintro e w' ⟨rfl,rfl⟩;refine⟨_,rfl,?_,⟨rfl,rfl,rfl⟩⟩;rw[hw];have:=U σ.size _ (o.push ⟨9,(0,0),rfl,by simp⟩);show K _ (w.heap.push _);rw[hw];exact this
def Jx{s sep:ByteArray}{n:Nat}(g:Gl B)(hs:s.size<4294967281)(h1:1<=sep.size)(a:1<=n/\n<=1000)(U:∀b,T B (cl b (Lib.cellsOf (Lib.splitB sep 0 (min n (s.size+1)-1) s) (min n (s.size+1)))::H) (K (.slice (some ⟨b,0,none⟩) (Lib.splitB sep 0 (min n (s.size+1)-1) s).length (min n (s.size+1))))):T B H (ad P 213 #[.string s,.string sep,J n] K):=λσ o w hw=>by obtain⟨m,hm⟩:=g.cell o hw;refine(Tryz.strings_SplitN s sep n m w hs hm h1 a.1 (by omega)).mono ?_;rintro e w' ⟨rfl,rfl⟩;refine⟨_,rfl,?_,⟨rfl,rfl,rfl⟩⟩;rw[hw];have:=U σ.size _ (o.push ⟨9,(0,0),rfl,by simp⟩);show K _ (w.heap.push _);rw[hw];exact this
def Jw{n:Int}(g:Gl B)(a:aF n)(U:T B H (K (.string ⟨(Lib.itoa n).toArray⟩))):T B H (ad P 224 #[J n] K):=λσ o w hw=>by
 refine(Tryz.strconv_Itoa n a.1 a.2 w (g.Z' o hw)).mono ?_;rintro e w' ⟨rfl,k,os,rfl⟩;refine⟨_,rfl,U _ (Own.below o ?_ λj b=>?_),⟨rfl,rfl,rfl⟩⟩
 ·show σ.size<=(w.heap++os).size
  rw[hw];simp
 ·show(w.heap++os)[j]?=_
  rw[hw,Array.getElem?_append_left b]
def Jt{s:ByteArray}{n:Int}(hl:s.size<=18)(h:Lib.atoi s.data.toList=some n)(U:T B H (K (.tuple #[J n,.nilIface]))):T B H (ad P 315 #[.string s] K):=λσ o w hw=>by
 refine(Tryz.strconv_Atoi s n hl h w).mono ?_;rintro e w' ⟨rfl,t,rfl⟩;refine⟨_,rfl,U _ (Own.below o ?_ λj a=>?_),⟨rfl,rfl,rfl⟩⟩
 ·rw[<-hw]
  simp[bytesWorld,World.freeze,World.alloc,World.drew,-World.alloc_eq,-World.drew_eq]
 ·rw[<-hw]at a⊢
  exact bytesWorld_at_old w 5 t j a
def Dz{b c:Nat}{xs:List ByteArray}{sep:ByteArray}{cs:aw}[a:bZ B H b cs](d:∀(j:Nat) x,xs[j]?=some x->cs[j]?=some (.string x))(k:xs.length<=1000)(hc:xs.length<=c)(hl:(Lib.join (xs.map (·.data.toList)) sep.data.toList).length<=1000000)(U:T B H (K (.string ⟨(Lib.join (xs.map (·.data.toList)) sep.data.toList).toArray⟩))):T B H (ad P 223 #[.slice (some ⟨b,0,none⟩) xs.length c,.string sep] K):=λσ o w hw=>by
 have f:b<w.heap.size:=by obtain⟨t,fr,e⟩:=a.has σ o;rw[hw];exact(gF.1 e).1
 refine(Tryz.strings_Join b 0 c xs sep w (λj x g=>?_) f (by omega) hc (by omega)).mono ?_
 ·rw[k1,hw,bI,a.cell o]
  exact d j x g
 ·rintro e w' ⟨rfl,h⟩
  exact⟨_,rfl,U _ (Own.below o (by rw[<-hw];exact h.size) λj i=>by rw[h.block j (by rw[hw];exact i),hw]),⟨h.os,h.tape,h.output⟩⟩
end
def kY(b:Nat)(eN:az):bc:=λl=>∃p v a,l=(b,.cells #[.pointer p,v] 180 (0,0))::a/\(p=none\/p=some ⟨b,0,none⟩)/\
 ((v= .slice none 0 0/\eN=[]/\a=[])\/∃g cap cur,v= .slice (some ⟨g,0,none⟩) eN.length cap/\a=[(g,.cells cur 5 (0,0))]/\eN.length<=cap/\cap<=maxLen/\cur.size=cap/\cur.toList.take eN.length=eN)
section
variable {B:Heap}{H H0:au}{K:aK}{b:Nat}{eN:az}
def zQ{σ:Heap}(o:Own B (kY b eN::H) σ){w:World}(hw:w.heap=σ):IsBuilder 180 5 B.size b eN w:=by
 obtain⟨l,⟨l1,l2,a,⟨p,v,k,rfl,m,n⟩,_⟩,q,hc⟩:=o.own;have d:=(a.map (·.1)).nodup q;rw[eY]at d;have f:=(dP.1 d).1;have i:∀c∈(b,Obj.cells #[.pointer p,v] 180 (0,0))::k,B.size<=c.1/\σ[c.1]?=some c.2:=λc h=>hc c (a.mem_iff.2 (List.mem_append_left _ h));have h0:=i _ j'
 have key:BuilderAt 180 5 B.size b (.pointer p) eN w:=by
  refine⟨h0.1,v,by rw[hw];exact h0.2,?_⟩;rcases n with⟨rfl,rfl,rfl⟩|⟨g,cap,cur,rfl,rfl,q1,q2,q3,r⟩
  ·exact⟨⟨by simp,.inl ⟨rfl,rfl⟩⟩,by simp[Value.ownBlock]⟩
  ·have j:=i (g,.cells cur 5 (0,0)) (by simp)
   refine⟨⟨by simp,.inr ⟨g,cap,cur,rfl,j.1,by rw[hw];exact j.2,q1,q2,by omega,by simpa using r⟩⟩,?_⟩;simp only[cX,ot,fg,fw]at f;simp only[Value.ownBlock,ne_eq,iR];exact λe=>f.1 e.symm
 rcases m with rfl|rfl
 ·exact .inl key
 ·exact .inr key
def Eg{σ:Heap}{w w':World}(o:Own B (H) σ)(hw:w.heap=σ)(h:BuilderAt 180 5 B.size b (pz b) eN w')(a:Below B.size w w'):Own B [kY b eN] w'.heap:=by
 obtain⟨h1,v,d,i,f⟩:=h;have hs:=o.size;refine⟨λk U=>(a.block k U).trans (by rw[hw];exact o.base k U),by have:=a.size;rw[hw]at this;omega,?_⟩;obtain⟨n,q⟩:=i;rcases q with⟨rfl,j⟩|⟨g,cap,cur,rfl,q1,q2,q3,l,p,m⟩
 ·refine⟨[(b,.cells #[pz b,.slice none 0 0] 180 (0,0))],⟨_,[],.refl _,⟨some ⟨b,0,none⟩,_,[],rfl,.inr rfl,.inl ⟨rfl,kO.1 j,rfl⟩⟩,trivial⟩,by simp,λc hc=>?_⟩
  rw[fw.1 hc];exact⟨h1,d⟩
 ·refine⟨[(b,.cells #[pz b,.slice (some ⟨g,0,none⟩) eN.length cap] 180 (0,0)),(g,.cells cur 5 (0,0))],⟨_,[],by rw[j9],⟨some ⟨b,0,none⟩,_,[(g,.cells cur 5 (0,0))],rfl,.inr rfl,.inr ⟨g,cap,cur,rfl,rfl,q3,l,by omega,by simpa using m⟩⟩,trivial⟩,?_,λc hc=>?_⟩
  ·simp only[Value.ownBlock,ne_eq,iR]at f
   simp only[cX,ot,fg,fw,jJ,not_false_eq_true,tX,kT];exact λe=>f e.symm
  ·rcases cL.1 hc with rfl|hc
   ·exact⟨h1,d⟩
   ·rw[fw.1 hc];exact⟨q1,q2⟩
def DF{f:Nat->HP}(h:∀b,T B (kY b []::H) (f b)):T B H (al #[.pointer none,.slice none 0 0] 180 f):=λσ o=>h σ.size _ (o.push ⟨none,_,[],rfl,.inl rfl,.inl ⟨rfl,rfl,rfl⟩⟩)
def Jy{s:ByteArray}(hl:eN.length+s.size<=1000000)(U:T B [kY b (eN++strCells s)] (K (.tuple #[J s.size,.nilIface]))):T B (kY b eN::H) (ad P 73 #[pz b,.string s] K):=λσ o w hw=>by refine(Tryz.Builder_WriteString B.size b eN s w (zQ o hw) (by omega) (by rw[hw];exact o.size)).mono ?_;rintro e w' ⟨rfl,h1,a⟩;exact⟨_,rfl,U _ (Eg o hw h1 a),⟨a.os,a.tape,a.output⟩⟩
def DD{c:Int}(hl:eN.length+1<=1000000)(U:T B [kY b (eN++[.int .u8 c])] (K .nilIface)):T B (kY b eN::H) (ad P 225 #[pz b,.int .u8 c] K):=λσ o w hw=>by refine(Tryz.Builder_WriteByte B.size b eN c w (zQ o hw) (by omega) (by rw[hw];exact o.size)).mono ?_;rintro e w' ⟨rfl,h1,a⟩;exact⟨_,rfl,U _ (Eg o hw h1 a),⟨a.os,a.tape,a.output⟩⟩
def DC{l:List UInt8}(hl:eN=Lib.byteCells l)(U:T B [] (K (.string ⟨l.toArray⟩))):T B (kY b eN::H) (ad P 74 #[pz b] K):=λσ o w hw=>by subst hl;refine(Tryz.Builder_String_any B.size b l w (zQ o hw) (by rw[hw];exact o.size)).mono ?_;rintro e w' ⟨rfl,a⟩;refine⟨_,rfl,U _ ⟨λk U=>(a.block k U).trans (by rw[hw];exact o.base k U),by have:=a.size;rw[hw]at this;have:=o.size;omega,[],trivial,by simp,by simp⟩,⟨a.os,a.tape,a.output⟩⟩
end
end
section
open Go.XS Go.bm Go.RowKit Go.Lib
section
variable {B:Heap}{H H0:au}{K:aK}{n lo hi:Int}{s:ByteArray}
def Am(g:Gl B)(a:aF n)(U:T B H (K (.string ⟨(itoa n).toArray⟩))):T B H (ad P 132 #[J n] K):=by apply an (Nl _);unfold iD;exact Jw g a (St.go U)
structure fi(s:ByteArray)(n:Int):Prop where
 l:s.size<=18
 a:atoi s.data.toList=some n
 i:itoa n=s.data.toList
 n:aF n
def Ka{f:HP}{a:aK}(h:T B H (a (.bool false))):T B H (aH P (do eqGuard BinOp.neq 169 (Operand.tmp 11) (Operand.const Value.nilIface) Value.nilIface Value.nilIface;binOp BinOp.neq 169 Value.nilIface Value.nilIface) a):=by refine qZ (.bool false) (λσ o w hw=>?_) h;kernel_rfl
def An(g:Gl B)(h:fi s n)(U:T B H (K (.tuple #[J n,.bool true]))):T B H (ad P 212 #[.string s] K):=by
 refine an (Nn _) (Jt h.l h.a λσ o=>⟨n,.nilIface,rfl,?_⟩);refine Ka (f:=λ_=>True) ?_ σ o;refine St.go (aI rfl (Am g h.n (St.go ?_)));have e:(⟨(itoa n).toArray⟩:ByteArray)=s:=by rw[h.i]
 rw[e];exact aI (by simp) U
def TI(g:Gl B)(h:fi s n)(a:lo<=n/\n<=hi)(U:T B H (K (.tuple #[J n,.bool true]))):T B H (ad P 322 #[.string s,J lo,J hi] K):=by
 apply an (No _ _ _);unfold gk;apply An g h;repeat' first|apply St.go|refine S2.go (λ_=>?_) λ_=>?_|done
 ·omega
 ·omega
 ·exact U
def TM{c:Int}(h:32<c/\c<=126)(U:T B H (K (.bool true))):T B H (ad P 382 #[.int .i32 c] K):=by apply an (Nr _);apply bo (by simp;omega);rw[cM h.2];exact U
def yP(s:ByteArray):Bool:=decide (0<s.size)&&(List.range s.size).all λi=>decide ((Utf8.decode s i).2=1/\32<(Utf8.decode s i).1/\(Utf8.decode s i).1<=126)
def Kj{a:aK}(t:∀it,T B (ob it (.stringIter s 0)::H) (a (pz it))):T B H (aH P (Instr.range 9 (.string s)) a):=by intro σ o;unfold Instr.range;refine aX (gV (d:= .string) (by kernel_rfl) ?_);refine aX (cv ?_);refine aX (DV (λit=>?_) σ o);intro σ o;exact cv (t it σ o)
def Kd{it pos:Nat}{ty:TypeId}{f0:HP}{f1:Value->aK}(h0:¬pos<s.size->T B (ob it (.stringIter s pos)::H) f0)(h1:pos<s.size->T B (ob it (.stringIter s (pos+(Utf8.decode s pos).2))::H) (f1 (J pos) (.int .i32 (Utf8.decode s pos).1))):T B (ob it (.stringIter s pos)::H) (mY P (pz it) true ty f0 f1):=by
 intro σ o;unfold mY Instr.next
 refine aX (lu o.gL ?_);simp only;by_cases h:pos<s.size
 ·rw[ag h]
  refine aX (pe o.gL ?_);refine cv (.inr ⟨_,_,rfl,?_⟩);exact h1 h _ o.pk
 ·rw[aj h]
  exact cv (.inl ⟨rfl,h0 h σ o⟩)
def ne_nil(h:0<s.size):(!ByteArray.toList s==ByteArray.toList (ByteArray.mk #[]))=true:=by
 rw[ByteArray.toList_eq,ByteArray.toList_eq]
 have:s.data.toList≠[]:=λe=>by have b:s.data.toList.length=s.size:=kM;rw[e]at b;have c:(0:Nat)=s.size:=b;omega
 cases b:s.data.toList with
 |nil=>exact absurd b this
 |cons a l=>rfl
def TJ(hw:yP s=true)(U:T B H (K (.bool true))):T B H (ad P 314 #[.string s] K):=by
 apply an (Np _);unfold yP at hw;simp only[cg,bJ,iq,ou]at hw;refine Kj λit=>St.go (uq (λm Y=>∃pos,pos+m=s.size/\Y=ob it (.stringIter s pos)::H) s.size ⟨0,by omega,rfl⟩ ?_);rintro m Y R ⟨pos,c,rfl⟩ a;refine Kd (λd=>?_) λb=>?_
 ·apply aI rfl
  have e:(!ByteArray.toList s==ByteArray.toList (ByteArray.mk #[]))=true:=ne_nil hw.1;rw[e];exact af U
 ·obtain⟨h1,f,g⟩:=hw.2 pos b
  refine bo rfl (St.go ?_);unfold aS;refine TM ⟨by omega,by omega⟩ (St.go (aI rfl (a (m-1) _ (by omega) ⟨pos+1,by omega,by rw[h1]⟩)))
abbrev np:ByteArray:=ByteArray.mk #[32]
def Cd{xs:List ByteArray}{i:Nat}{x:ByteArray}(h:xs[i]?=some x):((xs.map Value.string).toArray)[i]?=some (.string x):=by rw[dE,e6,h];rfl
def TL{xs:List ByteArray}(g:Gl B)(hs:0<s.size/\s.size<100000)(f:splitB np 0 (Go.Lib.countB s np) s=xs)(hl:xs.length=Go.Lib.countB s np+1)(hw:∀x∈xs,yP x=true)(i:xs.length<1000)(U:∀b,T B (cl b (xs.map Value.string).toArray::H) (K (.tuple #[.slice (some ⟨b,0,none⟩) xs.length xs.length,.bool true]))):T B H (ad P 211 #[.string s] K):=by
 apply an (Nq _);have c:=ne_nil hs.1;simp only[ns]at c;apply aI c;unfold b2;refine DA g (by omega) (by decide) λb=>?_;rw[f,<-hl];refine St.go (dh xs.length (by omega) (λk Y=>Y=cl b (xs.map Value.string).toArray::H) rfl ?_);rintro k Y R j rfl h;refine S2.go (λa=>?_) λa=>?_
 ·have a:k<xs.length:=by omega
  have d:xs[k]?=some xs[k]:=bj a;have e:=hw _ (eK a);generalize xs[k]=v at d e;unfold xv;refine St.go (ba (by omega) ?_);rw[aR,aZ,bI];apply hS (Cd d);unfold aS;exact TJ e (St.go (aI rfl (h a _ rfl)))
 ·exact U b
def Yz{x0 x1 x2 x3 x4:ByteArray}{n1 n2 n3 n4:Int}(g:Gl B)(hs:0<s.size/\s.size<100000)(f:splitB np 0 (Go.Lib.countB s np) s=[x0,x1,x2,x3,x4])(hl:5=Go.Lib.countB s np+1)(hw:∀x∈[x0,x1,x2,x3,x4],yP x=true)(h0:x0.data.toList=[109,97,110,111,114])(h1:fi x1 n1)(h:fi x2 n2)(i:fi x3 n3)(c:fi x4 n4)(U:T B H (K (.tuple #[.agg #[J n1,J n2,J n3,J n4],.bool true]))):T B H (ad P 124 #[.string s] K):=by
 refine an (QG _) (Sa.go λaa=>?_);unfold sD;refine TL g hs f hl hw (by show 5<1000;decide) λb=>?_;refine St.go (St.go (aI rfl (aI rfl (St.go (ba (by simp) ?_)))));rw[aR];apply hS rfl;rw[ByteArray.toList_eq,h0,ByteArray.toList_eq];refine aI (by decide) (St.go (Sa.go λl=>ba (by simp) ?_))
 have m:∀k,k<4->∃x n,[x1,x2,x3,x4][k]?=some x/\[n1,n2,n3,n4][k]?=some n/\fi x n:=by
  intro k U;obtain rfl|rfl|rfl|rfl:k=0\/k=1\/k=2\/k=3:=by omega
  ·exact⟨_,_,rfl,rfl,h1⟩
  ·exact⟨_,_,rfl,rfl,h⟩
  ·exact⟨_,_,rfl,rfl,i⟩
  ·exact⟨_,_,rfl,rfl,c⟩
 apply dh 4 (by omega) (λk Y=>Y=cl l (lX λj=>if j<k then[n1,n2,n3,n4].getD j 0 else 0)::cl b ([x0,x1,x2,x3,x4].map Value.string).toArray::cl aa #[J 0,J 0,J 0,J 0]::H) rfl;rintro k Y R v rfl o;refine S2.go (λa=>?_) λa=>?_
 ·have a:k<4:=by have c:(k:Int)<((5-1:Nat):Int):=a;omega
  obtain⟨x,n,p,q,r⟩:=m k a;have eu:da (some ⟨b,0,none⟩) 1 1 5=some ⟨b,1,none⟩:=by unfold da;rw[aj (by decide)];rfl
  show T B _ (ay (da (some ⟨b,0,none⟩) 1 1 5) _);rw[eu];apply St.go;apply ba (by simp;omega);rw[aR,aZ];apply hS (Cd (by rw[Nat.add_comm];exact p));unfold gk;refine An g r (St.go (aI rfl (ba (by omega) ?_)));rw[aR,bI];apply eE (by simp;omega) rfl;rw[D8 a];apply o a _
  have t:(Go.bm.up (λj=>if j<k then[n1,n2,n3,n4].getD j 0 else 0) k n)=λj=>if j<k+1 then[n1,n2,n3,n4].getD j 0 else 0:=by
   funext j;unfold Go.bm.up;by_cases e:j=k
   ·subst e
    rw[ag rfl,ag (by omega),eo,q];rfl
   ·rw[aj e]
    show(if j<k then[n1,n2,n3,n4].getD j 0 else 0)=_;by_cases d:j<k
    ·rw[ag d,ag (by omega)]
    ·rw[aj d,aj (by omega)]
  rw[t]
 ·have u:k=4:=by have c:¬(k:Int)<((5-1:Nat):Int):=a;omega
  subst u;repeat first|apply St.go|refine Sc.go (by first|omega|rfl|exact⟨rfl,rfl⟩) ?_
  exact af U
end
end
open Go.XS Go.bm Go.RowKit Go.Lib
abbrev Wd:=ByteArray×Int
abbrev mq(w:Wd):az:=[.string w.1,J w.2]
def IF(w:Wd):(mq w).length=2:=rfl
def bt(l:List UInt8):ByteArray:=ByteArray.mk l.toArray
def pD:List Wd:=[(bt [],0),(bt [114,101,103,105,115,116,101,114],1),(bt [114,101,116,105,114,101],1),(bt [97,115,107],2),(bt [99,97,110,99,101,108],2),(bt [114,111,111,116],1),(bt [99,104,105,108,100],1),(bt [108,97,121],3),(bt [102,114,101,101],1),(bt [103,105,118,101],2),(bt [119,114,105,116,101],2),(bt [114,101,97,100],3),(bt [116,105,99,107],0),(bt [115,116,97,116,101],2),(bt [116,114,105,109],1)]
def abl:zc P 491=#[.string (ByteArray.mk #[]),J 0]:=by kernel_rfl
def CK:zc P 492=((List.replicate 15 ((bt [],0):Wd)).flatMap mq).toArray:=by kernel_rfl
section
variable {B:Heap}{H H0:au}{K:aK}{n:Int}{s:ByteArray}
def G5(U:T B H (K (.agg (pD.flatMap mq).toArray))):T B H (ad P 317 #[] K):=by
 apply an (Ph);rw[abl,CK];refine Sa.go λaa=>?_;iterate 15 refine ba rfl ?_
 show T B _ (gW (ai aa 0) (pD.flatMap mq).toArray 30 _);refine hj rfl rfl ?_ ?_
 ·decide
 exact bV rfl (af U)
def WW{i:Nat}{w:Wd}(h:pD[i]?=some w)(hi:1<=i)(U:T B H (K (.agg (mq w).toArray))):T B H (ad P 320 #[J i] K):=by
 have c:i<15:=(bY.1 h).1;apply an (Pe _);rw[CK];refine Sa.go λaa=>?_;unfold bH;refine G5 (St.go (Sa.go λd=>?_));refine hj rfl rfl (by decide) ?_;apply aI (by simp;omega);apply aI (by simp;omega);apply ba (by omega);rw[aZ,aR,bI];refine iV (mq w).toArray rfl (λj a=>?_) ?_
 ·rw[dE,dE]
  have b:(mq w)[j]?=some ((mq w)[j]'(by simpa using a)):=bj _;rw[b];have:=ht IF pD i w h j a;rw[this];exact b
 repeat refine Sc.go (by first|rfl|exact⟨rfl,rfl⟩) ?_
 exact af U
def WU{i:Nat}{w:Wd}(h:pD[i]?=some w)(hi:1<=i)(U:T B H (K (J w.2))):T B H (ad P 216 #[J i] K):=by apply an (Pa _);unfold bH;exact WW h hi (St.go λσ o=>⟨w.2,rfl,U σ o⟩)
def xu(s:ByteArray)(w:Wd):Bool:=w.1.data.toList==s.data.toList
def WT{w:Wd}{b:Nat}[hc:bZ B H b #[.string s]](hs:0<s.size)(U:T B H (K (.bool (xu s w)))):T B H (ad P 319 #[.agg (mq w).toArray,pz b] K):=by refine an (O' _ _) (Sa.go λaa=>?_);have hC:bZ B (cl aa (mq w).toArray::H) b #[.string s]:=inferInstance;unfold sO;apply St.go;rw[aR];refine hS rfl (bo (ne_nil hs) (hS rfl (St.go ?_)));rw[aR];apply hS rfl;rw[ByteArray.toList_eq,ByteArray.toList_eq];exact af U
def Zc{g c:Nat}{q:av}{ca:aw}{f:Wd->Bool}{ss:List Wd}(n:fW P g=true)[hr:Rd B H q (ss.flatMap mq)](hlen:ss.length<1000000)(hf:∀m∈ss,∀l:aK,T B H (l (.bool (f m)))->T B H (ad P g (Array.mk (Array.toList #[]++[Value.agg (mq m).toArray]++Array.toList ca)) l))(U:T B H (K (J (cS f ss)))):T B H (ad P 318 #[.slice q ss.length c,.func (.func g) #[] ca] K):=by
 refine an (Rh _ _ _ _ _) (dh ss.length (by omega) (λk H'=>H'=H/\∀j x,j<k->ss[j]?=some x->f x=false) ⟨rfl,by simp⟩ ?_);rintro k H' R p ⟨rfl,d⟩ o;refine S2.go (λ_=>?_) λ_=>?_
 ·have b:k<ss.length:=by omega
  have h:ss[k]?=some ss[k]:=bj b;refine eD IF (by omega) k rfl b h (lR n (hf _ (eK b) _ ?_));repeat' first|apply St.go|refine S2.go (λ_=>?_) λ_=>?_|done
  ·rename_i i
   unfold cS at U;rw[qc d h i]at U;exact U
  ·rename_i i
   refine o b _ ⟨rfl,λj x r a=>?_⟩;by_cases e:j=k
   ·subst e;rw[h]at a;cases a;exact i
   ·exact d j x (by omega) a
 ·unfold cS at U
  rw[oV λj x a=>d j x (by have:=(bY.1 a).1;omega) a]at U;exact U
def WS{i:Nat}(hs:0<s.size)(hi:cS (xu s) pD=i)(U:T B H (K (J i))):T B H (ad P 214 #[.string s] K):=by
 apply an (O9 _);rw[CK];refine Sa.go λaa=>?_;unfold bH;refine G5 (St.go (Sa.go λa=>?_));refine hj rfl rfl (by decide) ?_
 have eu:lT ⟨a,0,none⟩ (P.cellsOf 491) 0 15=⟨a,0,none⟩:=by unfold lT;rw[aj (by decide),aR];simp
 rw[eu];unfold aV;refine Zc (ss:=pD) (f:=xu s) (by kernel_rfl) (by decide) (λw hw b h=>?_) ?_
 ·exact WT hs h
 ·rw[hi]
  apply St.go;rw[aj (by omega)];exact af U
def iS(s:ByteArray)(n r:Int):Prop:=(Lib.hasPrefix s.data.toList [35]=false/\fi s n/\r=0)\/(Lib.hasPrefix s.data.toList [35]=true/\n=0/\1<=s.size/\fi (s.extract 1 s.size) r/\1<=r/\r<=4096)
def WX{n r:Int}(g:Gl B)(h:iS s n r)(U:T B H (K (.tuple #[J n,J r,.bool true]))):T B H (ad P 217 #[.string s] K):=by
 apply an (Pf _);unfold aS;refine Jv (St.go ?_);rcases h with⟨h1,a,rfl⟩|⟨h1,rfl,a,b,c⟩
 ·apply aI h1
  unfold gk;exact An g a (St.go U)
 ·refine bo h1 (ba (by omega) ?_)
  unfold gk;exact TI g b c (St.go U)
def WV{b:Nat}(U:T B H (K (.agg #[.pointer (some ⟨b,1,none⟩),.pointer (some ⟨b,2,none⟩),.pointer (some ⟨b,3,none⟩)]))):T B H (ad P 215 #[pz b] K):=by
 apply an (Pd _);repeat first|apply St.go|refine Sa.go λ_=>?_|refine Sc.go (by first|rfl|exact⟨rfl,rfl⟩) ?_
 rw[aR,aR,aR];exact af U
end
abbrev p2(s:ByteArray):List ByteArray:=Lib.splitB np 0 1 s
inductive uc:Nat->List ByteArray->List (Int×Int)->List ByteArray->Prop where
 |nil (ps:List ByteArray):uc 0 ps [] ps
 |cons {k:Nat} {x r a:ByteArray} {t q:List ByteArray} {n f:Int} {xs:List (Int×Int)}:(1<=r.size/\r.size<100000)->p2 r=a::t->iS a n f->uc k (a::t) xs q->uc (k+1) [x,r] ((n,f)::xs) q
def Aa{L:List ByteArray}{N j:Nat}{x:ByteArray}(h:L[j]?=some x):(Lib.cellsOf L N)[j]?=some (.string x):=by unfold Lib.cellsOf;have hl:=(bY.1 h).1;rw[dE,gx (by rw[eX];exact hl),e6,h];rfl
abbrev g1(xs:List (Int×Int))(j:Nat):Int:=(xs[j]?.getD (0,0)).1
abbrev g2(xs:List (Int×Int))(j:Nat):Int:=(xs[j]?.getD (0,0)).2
abbrev ql(kind:Int)(xs:List (Int×Int)):aw:=#[J kind,J (g1 xs 0),J (g1 xs 1),J (g1 xs 2),.string (ByteArray.mk #[]),J (g2 xs 0),J (g2 xs 1),J (g2 xs 2)]
def Vx{kind n f:Int}{done:List (Int×Int)}{k:Nat}(hl:done.length=k)(U:k<3):((ql kind done).setIfInBounds (1+k) (J n)).setIfInBounds (5+k) (J f)=ql kind (done++[(n,f)]):=by
 subst hl
 match done,U with
 |[],_=>rfl
 |[_],_=>rfl
 |[_,_],_=>rfl
section
variable {B:Heap}{H H0:au}{K:aK}{s a:ByteArray}
def DB(g:Gl B)(hs:1<=s.size/\s.size<100000)(U:∀b,T B (cl b (Lib.cellsOf (p2 s) 2)::H) (K (.slice (some ⟨b,0,none⟩) (p2 s).length 2))):T B H (ad P 213 #[.string s,.string np,J 2] K):=by
 refine Jx g (by omega) (by decide) (by decide) λb=>?_;have e:min 2 (s.size+1)=2:=by omega
 rw[e];exact U b
def ma{i m:Nat}{t q:List ByteArray}{xs:List (Int×Int)}{w:Wd}(g:Gl B)(hs:1<=s.size/\s.size<100000)(z:p2 s=a::t)(ha:0<a.size)(hi:cS (xu a) pD=i)(h1:1<=i)(Q:i≠10)(hw:pD[i]?=some w)(hm:w.2=m)(S:m<=3)(A:uc m (a::t) xs q)(C:q.length=1)(U:T B H (K (.tuple #[.agg (ql i xs),.bool true]))):T B H (ad P 125 #[.string s] K):=by
 refine an (Pb _) (Sa.go λaa=>?_);unfold b2;refine DB g hs λb=>?_;rw[z];refine St.go (St.go ?_);apply ba (by simp);rw[aR];apply hS (Aa rfl);unfold aV;refine WS ha hi (St.go ?_);apply aI (by simp;omega);refine ba rfl (Sa.go λd=>Sc.go ⟨rfl,rfl⟩ ?_);unfold bH;refine WV (St.go (Sa.go λe=>?_));refine Sc.go ⟨rfl,rfl⟩ (WU hw h1 ?_);rw[hm];apply St.go;refine af (H':=cl b (Lib.cellsOf (a::t) 2)::cl e #[.pointer (some ⟨d,1,none⟩),.pointer (some ⟨d,2,none⟩),.pointer (some ⟨d,3,none⟩)]::cl d #[J i,J 0,J 0,J 0,Value.string (ByteArray.mk #[]),J 0,J 0,J 0]::cl aa #[J 0,J 0,J 0,J 0,Value.string (ByteArray.mk #[]),J 0,J 0,J 0]::H) ?_
 refine nI m (by omega) (λk p l c Y=>∃ps rest done b,p=some ⟨b,0,none⟩/\l=ps.length/\c=2/\xs=done++rest/\done.length=k/\uc (m-k) ps rest q/\
  Y=cl b (Lib.cellsOf ps 2)::cl e #[.pointer (some ⟨d,1,none⟩),.pointer (some ⟨d,2,none⟩),.pointer (some ⟨d,3,none⟩)]::cl d (ql i done)::cl aa #[J 0,J 0,J 0,J 0,Value.string (ByteArray.mk #[]),J 0,J 0,J 0]::H) ?_ ?_
 ·exact⟨a::t,xs,[],b,rfl,rfl,rfl,rfl,rfl,by rw[iQ];exact A,rfl⟩
 rintro k p l c Y R V ⟨ps,rest,done,dG,rfl,rfl,rfl,o,v,h,rfl⟩ D;refine S2.go (λu=>?_) λu=>?_
 ·have u:k<m:=by omega
  obtain⟨j,E⟩:∃j,m-k=j+1:=⟨m-k-1,by omega⟩;rw[E]at h
  cases h with
  |@cons _ x r a2 t2 _ n f F G I L M=>
  refine aI (by simp) (St.go (ba (by simp) ?_));rw[aR];refine hS (Aa rfl) (DB g G λy=>?_);rw[I];refine St.go (St.go ?_);apply ba (by simp);rw[aR];apply hS (Aa rfl);unfold k0;refine WX g L (St.go (aI rfl (ba (by omega) ?_)));rw[aZ,aR,aR];apply iX (b:=e) (n:=some ⟨d,1+k,none⟩) (by obtain rfl|rfl|rfl:k=0\/k=1\/k=2:=(by omega)<;>rfl);unfold cJ;apply St.go;rw[aR,mA];apply eE (b:=d) (cs:=ql i done) (by show 1+k<8;omega) rfl;apply ba (by omega);apply eE (b:=d) (cs:=(ql i done).setIfInBounds (1+k) (J n)) (by rw[I1];show 5+k<8;omega) rfl;rw[Vx v (by omega)];have N:j=m-(k+1):=by omega
  subst N;refine q0 (H':=cl y (Lib.cellsOf (a2::t2) 2)::cl e #[.pointer (some ⟨d,1,none⟩),.pointer (some ⟨d,2,none⟩),.pointer (some ⟨d,3,none⟩)]::cl d (ql i (done++[(n,f)]))::cl aa #[J 0,J 0,J 0,J 0,Value.string (ByteArray.mk #[]),J 0,J 0,J 0]::H) (by repeat(first|with_reducible exact Sub.refl|refine Sub.cons (by repeat(first|with_reducible exact lP.head|apply lP.tail)) ?_|refine Sub.drop ?_)) ?_;refine D u _ _ _ _ ⟨a2::t2,F,done++[(n,f)],y,rfl,rfl,rfl,by rw[o,el];rfl,by rw[b',v];rfl,M,rfl⟩
 ·have O:k=m:=by omega
  rw[O,kS]at h;cases h;rw[j9]at o;subst o;apply aI (by simp;omega);apply aI (by rw[C];rfl);refine bV (b:=d) rfl ?_;refine Sc.go ⟨rfl,rfl⟩ ?_;refine bV (b:=aa) rfl ?_;exact af U
end
