/- Lemmas that lead to TopWhole (their names made short by a program); no condition. -/
import Derived.Test.YtlmgompopkamfaaGreatDoorLN
import Derived.Shelf.Strings.Builder1
import Derived.Shelf.Strings.Builder2
import Derived.Shelf.Strings.OnBuilder
import Derived.Shelf.Strconv.Atoi
import Derived.Shelf.Strconv.Itoa3
import Derived.Shelf.LaysM
import Derived.Shelf.Strings.Cut
import Derived.Shelf.Strings.Prefix
import Derived.Shelf.Strings.Split
import Derived.Ground.NamesProg
import Derived.Test.YtlmgompopkamfaaGreatDoorProg
set_option linter.all false
set_option maxRecDepth 20000
namespace Go.Proofs.YtlmgompopkamfaaGreatDoor
section
open Go.XS Go.bn aL
def TB(b:Int)(T:a6):Prop:=∀i,T.has i=true->0<=(T.at' i).b1/\(T.at' i).b1<=b
structure PE(b:Int)(T T':a6):Prop where
 len:T'.all.length=T.all.length
 bD:T'.bD=T.bD
 at':∀i,T.has i=true->∃w,T'.at' i={T.at' i with b1:=w}/\((0<=(T.at' i).b1/\(T.at' i).b1<=b)->0<=w/\w<=b)
section
variable {L L':bG}{S S':aH}{N:ea}{T T' Dd:a6}{Q:Qu}{p q i c o b:Int}{a:Acc}
def PE.has(h:PE b T T'):T'.has i=T.has i:=by unfold a6.has;rw[h.len]
def PE.refl:PE b T T:=⟨rfl,rfl,λi _=>⟨_,rfl,id⟩⟩
def PE.trans(U:PE b T T')(a:PE b T' Dd):PE b T Dd:=⟨a.len.trans U.len,a.bD.trans U.bD,λi hi=>by obtain⟨w,e,hw⟩:=U.at' i hi;obtain⟨v,c,d⟩:=a.at' i (by rw[U.has];exact hi);rw[e]at c d;exact⟨v,c,λh=>d (hw h)⟩⟩
def PE.tb(h:PE b T T')(a:TB b T):TB b T':=λi hi=>by
 have hi:T.has i=true:=by rw[<-h.has];exact hi
 obtain⟨w,e,hw⟩:=h.at' i hi;rw[e];exact hw (a i hi)
def TB.get(h:TB b T)(a:0<=b)(i:Int):0<=(T.get i).b1/\(T.get i).b1<=b:=by
 unfold a6.get;split
 ·rename_i hi;exact h i hi
 ·exact⟨by decide,a⟩
def TS.pass(h:TS L T Q)(j:TB b T)(c:PE b T T'):TS L T' Q:=by
 have f:∀i∈bb T.bD,∃w,T'.at' i={T.at' i with b1:=w}/\0<=w:=λi hi=>by have g:=((h.tk i).1 hi).1;obtain⟨w,e,hw⟩:=c.at' i g;exact⟨w,e,(hw (j i g)).1⟩
 refine⟨by rw[c.bD];exact h.ps,λi=>?_,λi hi=>?_,λi hi=>?_,?_,λq k=>?_⟩
 ·rw[c.bD,c.has,h.tk]
  constructor
  ·rintro⟨a,d⟩
   obtain⟨w,e,_⟩:=c.at' i a;exact⟨a,by rw[e];exact d⟩
  ·rintro⟨a,d⟩
   obtain⟨w,e,_⟩:=c.at' i a;rw[e]at d;exact⟨a,d⟩
 ·rw[c.has]at hi
  obtain⟨w,e,_⟩:=c.at' i hi;rw[e];exact h.tid i hi
 ·rw[c.bD]at hi
  obtain⟨w,e,hw⟩:=f i hi;rw[e];obtain⟨a,d⟩:=h.tr i hi;refine⟨?_,d⟩;unfold right at a⊢;simp only[bz]at a⊢;exact⟨a.1,a.2.1,a.2.2.1,a.2.2.2.1,a.2.2.2.2.1,a.2.2.2.2.2.1,hw⟩
 ·rw[h.q,c.bD]
  refine hX λi hi=>?_;obtain⟨w,e,_⟩:=f i hi;rw[e]
 ·rw[h.cf q k]
  unfold pY;rw[c.bD];congr 1;refine hX λi hi=>?_;obtain⟨w,e,_⟩:=f i hi;rw[e]
def W8(T:a6)(i:Int):T.bM j3 kx i=T\/(T.has i=true/\T.bM j3 kx i=⟨T.all.set (i-1).toNat {T.at' i with b1:=(T.at' i).b1+1},T.bD⟩):=by
 unfold a6.bM;by_cases hd:T.cN j3 kx i=0
 ·rw[ah hd]
  unfold a6.cN at hd
  cases a:T.has i with
  |false=>rw[a]at hd;simp at hd
  |true=>
   rw[a,ah rfl]at hd;right;unfold kx at hd;split at hd
   ·rename_i hc
    split at hd
    ·cases hd
    ·rename_i b
     have e:j3 (T.at' i)={T.at' i with b1:=(T.at' i).b1+1}:=by unfold j3;rw[ah hc,ak b]
     rw[e];have hs:=(zS hc).2;refine⟨rfl,?_⟩;rw[ah (by exact hs)]
   ·rename_i hc;exact absurd hd hc
 ·rw[ak hd];exact .inl rfl
structure PN(T T':a6)(i:Int)(n:Nat):Prop where
 len:T'.all.length=T.all.length
 bD:T'.bD=T.bD
 A8:∀j,T.has j=true->j≠i->T'.at' j=T.at' j
 at':T.has i=true->∃w,T'.at' i={T.at' i with b1:=w}/\(T.at' i).b1<=w/\w<=(T.at' i).b1+n
def W7(T:a6)(i:Int):∀n,PN T (T.rE i n) i n:=by
 intro n
 induction n with
 |zero=>exact⟨rfl,rfl,λ_ _ _=>rfl,λ_=>⟨(T.at' i).b1,rfl,fY _,by simp⟩⟩
 |succ n c=>
  show PN T ((T.rE i n).bM j3 kx i) i (n+1);generalize T.rE i n=T' at c;have l:∀j,T'.has j=T.has j:=λj=>by unfold a6.has;rw[c.len]
  rcases W8 T' i with e|⟨g,e⟩
  ·rw[e]
   exact⟨c.len,c.bD,c.A8,λh=>by obtain⟨w,a,b,d⟩:=c.at' h;exact⟨w,a,b,by omega⟩⟩
  ·rw[e]
   have m:=hx.1 g;refine⟨by simp only[hg];exact c.len,c.bD,λj f k=>?_,λh=>?_⟩
   ·rw[<-c.A8 j f k]
    have:=hx.1 f;unfold a6.at';simp only[ei];rw[oh (by omega)]
   ·obtain⟨w,a,b,d⟩:=c.at' h
    refine⟨w+1,?_,by omega,by omega⟩
    have:a6.at' ⟨T'.all.set (i-1).toNat {T'.at' i with b1:=(T'.at' i).b1+1},T'.bD⟩ i={T'.at' i with b1:=(T'.at' i).b1+1}:=by show List.getD _ _ _=_;rw[ei,tK (by omega)];rfl
    rw[this,a]
def W5{t:Tk}(g:t.b1<=b):PE b T (T.u7 t):=by
 have h:=W7 T t.id (t.b1-(T.get t.id).b1).toNat;refine⟨h.len,h.bD,λj c=>?_⟩;by_cases e:j=t.id
 ·subst e
  obtain⟨w,a,d,f⟩:=h.at' c;refine⟨w,a,λi=>?_⟩;have:T.get t.id=T.at' t.id:=by unfold a6.get;rw[ah c]
  rw[this]at f;omega
 ·exact⟨_,h.A8 j c e,id⟩
def GL{l:List Tk}(hl:∀t∈l,t.b1<=b):PE b T (T.iD l):=by
 induction l generalizing T with
 |nil=>exact PE.refl
 |cons t l a=>show PE b T ((T.u7 t).iD l);exact(W5 (hl t kG)).trans (a λu hu=>hl u (iJ _ hu))
end
def RB(b:Int)(R:b4):Prop:=∀t,t∈R.gs\/t∈R.ls->0<=t.b1/\t.b1<=b/\0<=t.id/\t.id<=100000
def RB.ct{b:Int}{R:b4}{i:Nat}(h:RB b R)(hi:i<R.ls.length):RB (b+1) (R.ct i)/\(R.ct i).gs.length+(R.ct i).ls.length=R.gs.length+R.ls.length:=by
 have c:R.at' i∈R.ls:=by unfold b4.at';rw[ei,ba hi];exact dz hi
 refine⟨λt a=>?_,?_⟩
 ·rcases a with a|a
  ·rcases dL.1 a with a|a
   ·have:=h t (.inl a);omega
   ·rw[fB.1 a]
    have:=h _ (.inr c);simp only;omega
  ·have a:=IN a
   rcases dL.1 a with a|a
   ·obtain⟨u,hu,rfl⟩:=bQ.1 a
    have:=h u (.inr (kH hu));unfold gS;split
    ·simp only;omega
    ·omega
   ·have:=h t (.inr (tM a));omega
 ·show(R.gs++[_]).length+(List.eraseIdx _ i).length=_
  rw[cr,vU,vT (by simp;omega)];simp;omega
def RB.run{w:Int}:∀(k:Nat) {b:Int} {R:b4},0<=b->RB b R->RB (b+k) (b4.run w k R)/\(b4.run w k R).gs.length+(b4.run w k R).ls.length=R.gs.length+R.ls.length:=by
 intro k
 induction k with
 |zero=>intro b R _ h;exact⟨λt a=>by have:=h t a;omega,rfl⟩
 |succ k d=>
  intro b R j h;unfold b4.run;by_cases c:h9 R.free w R.ls R.ms<0
  ·rw[ah c]
   exact⟨λt a=>by have:=h t a;omega,rfl⟩
  ·rw[ak c]
   obtain⟨i,e,hi,_⟩:=sX c;rw[e,a7];obtain⟨g1,g2⟩:=h.ct hi;obtain⟨f,g⟩:=d (by omega) g1;exact⟨λt a=>by have:=f t a;omega,g.trans g2⟩
end
section
open Go.XS Go.bn aL
def UQ{k p g o:Int}(I:1<=k/\k<=3)(e:0<=p/\p<=1048575)(f:0<=g/\g<=1048575)(h:0<=o/\o<=1048575):mL (eM k p g o)=true/\hv (eM k p g o)=k/\gP (eM k p g o)=p/\gG (eM k p g o)=g/\iw (eM k p g o)=o:=by
 have a:hv (eM k p g o)=k:=by unfold hv eM;omega
 have b:gP (eM k p g o)=p:=by unfold gP eM;omega
 have c:gG (eM k p g o)=g:=by unfold gG eM;omega
 have d:iw (eM k p g o)=o:=by unfold iw eM;omega
 refine⟨?_,a,b,c,d⟩;unfold mL;rw[a];refine cB ⟨?_,I⟩;unfold eM;omega
def GS(S:aV):Prop:=∀g∈S.b6,0<=g/\g<=1000
def GS.gen{S:aV}(h:GS S)(p:Int):0<=S.gen p/\S.gen p<=1000:=by
 unfold aV.gen;rw[ei]
 cases a:S.b6[p.toNat]? with
 |none=>exact by decide
 |some g=>exact h g (cz a)
def Fj{L:bG}{p:Int}(e:L.av.Ok)(a:L.av.aX.Ok)(f:GS L.av.aX)(b:p∈L.ks):L.bo (L.handle p)=0/\L.place (L.handle p)=p/\aF (L.handle p):=by
 have c:=mQ a b;have h:=a.lt c;rw[e.n]at h;have m:=f.gen p;have hm:(p,L.av.at' p)∈L.av.members:=bQ.2 ⟨p,b,rfl⟩
 have he:L.handle p=eM 1 p (L.av.aX.gen p) 0:=by unfold bG.handle;rw[ak (xj hm (by simp)),ah (by unfold fS;repeat rw[ak (by omega)])]
 rw[he];obtain⟨U,i,d,j,l⟩:=UQ (k:=1) (p:=p) (g:=L.av.aX.gen p) (o:=0) (by omega) (by omega) (by omega) (by omega)
 have hf:L.bo (eM 1 p (L.av.aX.gen p) 0)=0:=by unfold bG.bo;rw[ah ⟨U,i,l⟩,d,j];unfold bK.e8 aV.right;rw[c,ah (by simp)]
 refine⟨hf,?_,by unfold aF eM;omega⟩;unfold bG.place;rw[ah hf,d]
abbrev lk(t:Tk):Int×Int×Int:=(t.id,t.aM,t.count)
structure sd(w:Int)(Y:aL)(R:b4):Prop where
 ac:AS Y.L Y.S Y.R.line
 ts:TS Y.L Y.T Y.Q
 ms:Y.L.av.members=R.ms
 fr:(Y.S.many 0:Int)=R.free
 w:(Y.S.many 2:Int)=w
 ls:Y.T.cZ.map lk=R.ls.map lk
 gs:GS Y.L.av.aX
 cE:Y.S.br+Y.S.free.length<800000
 al:Y.T.all.length<=100000
def TZ{α:Type}[BEq α][LawfulBEq α]{l:List α}(h:l.Nodup){i:Nat}{x:α}(a:l[i]?=some x):l.eraseIdx i=l.erase x:=by
 induction l generalizing i with
 |nil=>cases a
 |cons y l b=>
  rw[fp]at h
  cases i with
  |zero=>simp only[jF,iO]at a;subst a;simp
  |succ i=>simp only[mu]at a;have c:y≠x:=λe=>h.1 (e▸cz a);rw[IH,b h.2 a,List.erase_cons_tail (by simpa using c)]
def xO{L:bG}{T:a6}{Q:Qu}(h:TS L T Q):T.cZ.map lk=(bb T.bD).map λj=>(j,(T.at' j).aM,(T.at' j).count):=by unfold a6.cZ;rw[nj];refine hX λj a=>?_;show((T.at' j).id,_,_)=_;rw[h.tid j ((h.tk j).1 a).1]
def VY(l:List Tk):(l.map gS).map lk=l.map lk:=by
 rw[nj];refine hX λt _=>?_;show lk (gS t)=_;unfold gS;split
 ·rfl
 ·rfl
def F4{α β:Type}(f:α->β):∀(l:List α) (i:Nat),(l.eraseIdx i).map f=(l.map f).eraseIdx i:=by
 intro l
 induction l with
 |nil=>intro i;rfl
 |cons a l b=>
  intro i
  cases i with
  |zero=>rfl
  |succ i=>simp only[IH,c4,b]
def VZ{β:Type}{f g:Int->β}{p:Int}:∀{ks:aO} {i:Nat},ks.Nodup->ks[i]?=some p->(∀q∈ks,q≠p->g q=f q)->ks.map g=(ks.map f).set i (g p):=by
 intro ks
 induction ks with
 |nil=>intro i _ h;cases h
 |cons k ks c=>
  intro i a hi h;rw[fp]at a
  cases i with
  |zero=>simp only[jF,iO]at hi;subst hi;rw[c4,c4,jJ];congr 1;exact hX λq b=>h q (iJ _ b) λe=>a.1 (e▸b)
  |succ i=>simp only[mu]at hi;rw[c4,c4,iK,<-c a.2 hi λq b d=>h q (iJ _ b) d];rw[h k kG λe=>a.1 (e▸cz hi)]
def sd.step{w:Int}{Y:aL}{R:b4}{i:Nat}(h:sd w Y R)(hi:i<R.ls.length)(Z:goes R.free w R.ls R.ms i=true):tU Y {R.at' i with state:=2} (Y.L.handle (R.at' i).aM)/\sd w (Y.w9 {R.at' i with state:=2}) (R.ct i):=by
 have B:R.ls[i]?=some (R.at' i):=by unfold b4.at';rw[ei,ba hi];rfl
 generalize l:R.at' i=t at B;have aa:R.ls.getD i dD=t:=l;obtain⟨s,n⟩:=xa Z;rw[aa]at s n;have I:=xO h.ts
 have hlen:(bb Y.T.bD).length=R.ls.length:=by have:=congrArg List.length h.ls;rw[fe,fe,a6.xP]at this;rw[fe];exact this
 have hid:(bb Y.T.bD)[i]?=some t.id/\(Y.T.at' t.id).aM=t.aM/\(Y.T.at' t.id).count=t.count:=by
  have U:(R.ls.map lk)[i]?=some (lk t):=by rw[fo,B];rfl
  rw[<-h.ls,I,fo]at U
  cases k:(bb Y.T.bD)[i]? with
  |none=>rw[k]at U;cases U
  |some j=>rw[k]at U;simp only[ih,iO,lk,y9]at U;obtain⟨rfl,b,c⟩:=U;exact⟨rfl,b,c⟩
 obtain⟨hid,C,D⟩:=hid;have o:t.id∈bb Y.T.bD:=cz hid;obtain⟨u,p⟩:=h.ts.Fs o;obtain⟨ab,E⟩:=h.ts.tr t.id o;have F:=Hc ab;rw[C]at E F;rw[D]at F;have ap:=hx.1 u;have aq:=h.al;obtain⟨ad,ar⟩:=F7 (by rw[l];exact s);rw[l]at ad;obtain⟨d,v,G,a,ae⟩:=ru s
 have H:R.mP i=d:=by have:gQ R.ms t=(d:Int):=G;omega
 have J:v.1=t.aM:=by simpa using ae
 have af:v=(t.aM,Y.L.av.at' t.aM):=by have:v∈R.ms:=cz a;rw[<-h.ms]at this;obtain⟨q,m,rfl⟩:=bQ.1 this;simp only at J;rw[J]
 subst af;have x:R.ms.getD d (0,eJ)=(t.aM,Y.L.av.at' t.aM):=by rw[ei,a];rfl
 have ag:gQ R.ms t=(d:Int):=G;unfold qg at n;simp only[b9,bz]at n;obtain⟨⟨⟨au,hle⟩,r⟩,_,K⟩:=n;rw[ag]at r K;unfold lN at r;simp only[b9,bz]at r;have M:=r.2;rw[a7,x]at M;obtain⟨ai,a2,a3,a4⟩:=Ac.z7 M;obtain⟨f1,f2,f3⟩:=Fj h.ac.av h.ac.sl h.gs E
 have aj:after R.ms (d:Int) t.count=R.ms.set d (t.aM,Ac.ct.ez (Y.L.av.at' t.aM) t.count):=by unfold after Ai;rw[a7,x]
 have N:Y.L.cN .ct (Y.L.handle t.aM) t.count=0:=xq f1 (by rw[f2];exact ai) (by omega) (by rw[f2];exact a3)
 have y:t.count.toNat<=Y.S.free.length:=by have:=h.fr;have:=h.ac.inv.w5;omega
 have z:((t.count.toNat:Nat):Int)=t.count:=by omega
 have O:(Y.L.bN t.aM (Ac.ct.ez (Y.L.av.at' t.aM) t.count)).av.members=R.ms.set d (t.aM,Ac.ct.ez (Y.L.av.at' t.aM) t.count):=by
  rw[<-h.ms]
  have am:Y.L.ks[d]?=some t.aM:=by
   rw[<-h.ms]at a;unfold bK.members at a;rw[fo]at a
   cases m:(bb Y.L.av.aX.cP)[d]? with
   |none=>rw[m]at a;cases a
   |some q=>rw[m]at a;simp only[ih,iO,y9]at a;rw[a.1]
  have hm:=VZ h.ac.nd (f:=λq=>(q,Y.L.av.at' q)) (g:=λq=>(q,(Y.L.bN t.aM (Ac.ct.ez (Y.L.av.at' t.aM) t.count)).av.at' q)) am λq m P=>by rw[jE h.ac.av,ak P]
  rw[jE h.ac.av,ah rfl]at hm;exact hm
 have an:bn.Ends ((Y.S.many 0:Int)-(t.count.toNat:Nat)+Y.S.many 2) (Y.L.bN t.aM (Ac.ct.ez (Y.L.av.at' t.aM) (t.count.toNat:Nat))).oZ:=by rw[z,<-Gk,O,<-aj,h.fr,h.w];exact TV K
 obtain⟨g1,g2,g3⟩:=h.ac.ct f1 f2 y (by rw[z];exact N) an;rw[z]at g1 g2;have V:Y.T.cN (c8 · 2) check t.id=0:=by unfold a6.cN;rw[ah u];exact p
 have ao:∃e∈Y.Q.L,e.1=t.id:=⟨(t.id,(Y.T.at' t.id).aM),by rw[h.ts.q];exact bQ.2 ⟨t.id,o,rfl⟩,rfl⟩;have aw:=h.cE;refine⟨⟨⟨by show 0<=t.count;omega,y⟩,⟨by show 0<=t.aM;omega,by show t.aM<64;omega⟩,by show Y.S.br+t.count.toNat<900000;omega,by show aF t.id;unfold aF;omega,f3,N,ao,V⟩,?_⟩
 have A:Y.T.bM (c8 · 2) check t.id=⟨Y.T.all.set (t.id-1).toNat (c8 (Y.T.at' t.id) 2),bO t.id Y.T.bD⟩:=by
  unfold a6.bM;rw[ah V];have:(c8 (Y.T.at' t.id) 2).state=2:=by unfold c8;rw[ah p]
  rw[ak (by rw[this];decide)]
 have W:TS (Y.L.bM .ct (Y.L.handle t.aM) t.count) (Y.T.bM (c8 · 2) check t.id) (Y.Q.drop t.id):=by
  rw[A];refine h.ts.out o (by unfold c8;rw[ah p];exact h.ts.tid _ u) (by unfold c8;rw[ah p];simp) (by rw[g1]) λq m=>?_;rw[g1,jE h.ac.av,C,D];split
  ·rename_i e;subst e;rfl
  ·omega
 have ax:=vx (t.aM+1) Y.S t.count.toNat y;refine⟨g2,W,?_,?_,?_,?_,?_,?_,?_⟩
 ·show(Y.L.bM .ct (Y.L.handle t.aM) t.count).av.members=R.ms.set (R.mP i) ((R.mem i).1,Ac.ct.val (R.mem i).2 (R.at' i).count)
  have:R.mem i=(t.aM,Y.L.av.at' t.aM):=by unfold b4.mem;rw[H,x]
  rw[g1,O,H,this,l];simp only;rw[a4]
 ·show((takeN (t.aM+1) t.count.toNat Y.S).1.many 0:Int)=R.free-(R.at' i).count
  rw[l,<-h.fr];have:=g3.m0;omega
 ·show((takeN (t.aM+1) t.count.toNat Y.S).1.many 2:Int)=w
  rw[g3.m2];exact h.w
 ·show(Y.T.bM (c8 · 2) check t.id).cZ.map lk=(((R.ls.take i).map gS++R.ls.drop i).eraseIdx i).map lk
  rw[F4,e6,VY,<-e6,j6,<-h.ls,I,xO W];have X:=l7 h.ts.ps;rw[<-F4,TZ X hid];rw[A];show(bb (bO t.id Y.T.bD)).map _=_;rw[xn h.ts.ps];refine hX λj k=>?_;obtain⟨P,k⟩:=(X.mem_erase_iff).1 k;have ay:=hx.1 ((h.ts.tk j).1 k).1
  have:a6.at' ⟨Y.T.all.set (t.id-1).toNat (c8 (Y.T.at' t.id) 2),bO t.id Y.T.bD⟩ j=Y.T.at' j:=by unfold a6.at';simp only[ei];rw[oh (by omega)]
  rw[this]
 ·show GS (Y.L.bM .ct (Y.L.handle t.aM) t.count).av.aX
  rw[g1];exact h.gs
 ·show(takeN (t.aM+1) t.count.toNat Y.S).1.br+(takeN (t.aM+1) t.count.toNat Y.S).1.free.length<800000
  omega
 ·show(Y.T.bM (c8 · 2) check t.id).all.length<=100000
  rw[A];simp only[hg];exact h.al
structure C8(Y:aL)(l:List Tk):Prop where
 ok:∀(k:Nat) t,l[k]?=some t->tU (Y.h8 (l.take k)) t ((Y.h8 (l.take k)).L.handle t.aM)
 ac:∀k,AS (Y.h8 (l.take k)).L (Y.h8 (l.take k)).S (Y.h8 (l.take k)).R.line
def Yr{w:Int}:∀(k:Nat) {Y:aL} {R:b4},sd w Y R->∃l,(b4.run w k R).gs=R.gs++l/\C8 Y l/\sd w (Y.h8 l) (b4.run w k R):=by
 intro k
 induction k with
 |zero=>intro Y R h;exact⟨[],by simp[b4.run],⟨by simp,λk=>by rw[List.take_nil];exact h.ac⟩,h⟩
 |succ k d=>
  intro Y R h;unfold b4.run;by_cases a:h9 R.free w R.ls R.ms<0
  ·rw[ah a]
   exact⟨[],by simp,⟨by simp,λk=>by rw[List.take_nil];exact h.ac⟩,h⟩
  ·rw[ak a]
   obtain⟨i,e,hi,f⟩:=sX a;rw[e,a7];obtain⟨s1,s2⟩:=h.step hi f;obtain⟨l,g,c,m⟩:=d s2;refine⟨{R.at' i with state:=2}::l,?_,⟨λj t b=>?_,λj=>?_⟩,m⟩
   ·rw[g]
    show R.gs++[_]++l=_;rw[er];rfl
   ·cases j with
    |zero=>simp only[jF,iO]at b;subst b;exact s1
    |succ j=>exact c.ok j t (by simpa using b)
   ·cases j with
    |zero=>exact h.ac
    |succ j=>exact c.ac j
end
section
open Go.XS Go.bn
structure PI(S:aH)(pu:Int->aO)(rg:Int->tY):Prop where
 ip:∀p i,i∈pu p->S.ok i=true/\(S.at' i).ph=1/\(S.at' i).own=p+1
 pn:∀p,(pu p).Nodup
 iy:∀q i,i∈(rg q).xs->S.ok i=true/\(S.at' i).ph=1/\(S.at' i).own=(rg q).aM+1/\∀p,i∉pu p
 rn:∀q,(rg q).xs.Nodup
 mH:∀q q' i,i∈(rg q).xs->i∈(rg q').xs->q=q'
def LI(S:aH)(z:Int)(W:a8)(V:Lv):Prop:=∀e∈V.all,S.ok e.1=true/\e.2.gen=(S.at' e.1).gen/\
 ∃q,e.1∈(W.rg q).xs/\∀pc∈e.2.ps,gP pc.bT=q/\W.bo pc.bT=0/\0<=pc.at'/\1<=pc.len/\pc.at'+pc.len<=z
structure RI(z:Int)(W:a8):Prop where
 op:∀q,(W.rg q).xs≠[]->W.F.S.b7 q=true
 cur:∀q,0<=(W.rg q).cur/\(W.rg q).cur<=z
section
variable {S S':aH}{pu:Int->aO}{rg:Int->tY}{z p i:Int}{W W':a8}{V V':Lv}
def PI.congr(h:PI S pu rg)(hl:S'.cs.length=S.cs.length)(ha:∀i,S.ok i=true->((∃p,i∈pu p)\/∃q,i∈(rg q).xs)->(S'.at' i).ph=(S.at' i).ph/\(S'.at' i).own=(S.at' i).own):PI S' pu rg:=by
 have aP:∀i,S'.ok i=S.ok i:=λi=>by unfold aH.ok;rw[hl]
 refine⟨λp i hi=>?_,h.pn,λq i hi=>?_,h.rn,h.mH⟩
 ·obtain⟨a,b,c⟩:=h.ip p i hi
  obtain⟨d,e⟩:=ha i a (.inl ⟨p,hi⟩);exact⟨by rw[aP];exact a,by rw[d];exact b,by rw[e];exact c⟩
 ·obtain⟨a,b,c,f⟩:=h.iy q i hi
  obtain⟨d,e⟩:=ha i a (.inr ⟨q,hi⟩);exact⟨by rw[aP];exact a,by rw[d];exact b,by rw[e];exact c,f⟩
def LI.congr(h:LI S z W V)(hl:S'.cs.length=S.cs.length)(ha:∀i q,S.ok i=true->i∈(W.rg q).xs->(S'.at' i).gen=(S.at' i).gen):LI S' z W V:=λe he=>by obtain⟨a,b,q,c,d⟩:=h e he;exact⟨by unfold aH.ok at a⊢;rw[hl];exact a,by rw[ha e.1 q a c];exact b,q,c,d⟩
def PI.Fu(h:PI S pu rg)(hi:(∃p,i∈pu p)\/∃q,i∈(rg q).xs):(S.at' i).ph=1:=by
 rcases hi with⟨p,a⟩|⟨q,b⟩
 ·exact(h.ip p i a).2.1
 ·exact(h.iy q i b).2.1
def PI.cut(h:PI S pu rg)(k:Nat):PI S (b2 pu p ((pu p).drop k)) rg:=by
 have hm:∀q i,i∈b2 pu p ((pu p).drop k) q->i∈pu q:=λq i hi=>by
  unfold b2 at hi;split at hi
  ·rename_i e;subst e;exact tM hi
  ·exact hi
 refine⟨λq i hi=>h.ip q i (hm q i hi),λq=>?_,λq i hi=>?_,h.rn,h.mH⟩
 ·unfold b2
  split
  ·exact(h.pn p).sublist (List.drop_sublist _ _)
  ·exact h.pn q
 ·obtain⟨a,b,c,d⟩:=h.iy q i hi
  exact⟨a,b,c,λp f=>d p (hm p i f)⟩
def PI.aag(h:PI S pu rg){n:Nat}{R:aH×aO}(g:wz (p+1) n S R):PI R.1 (b2 pu p (pu p++R.2)) rg:=by
 have hy:∀i∈R.2,¬((∃p,i∈pu p)\/∃q,i∈(rg q).xs):=λi hi j=>by have:=h.Fu j;have:=(g.new i hi).2.1;omega
 have l:PI R.1 pu rg:=h.congr g.eo.len.symm λi hi j=>by rw[g.at' i (eQ.1 hi).1 λhm=>hy i hm j];exact⟨rfl,rfl⟩
 have aP:∀i,R.1.ok i=S.ok i:=λi=>by unfold aH.ok;rw[g.eo.len]
 have hm:∀q i,i∈b2 pu p (pu p++R.2) q->i∈pu q\/(q=p/\i∈R.2):=λq i hi=>by
  unfold b2 at hi;split at hi
  ·rename_i e;subst e
   exact(dL.1 hi).imp id λh=>⟨rfl,h⟩
  ·exact .inl hi
 refine⟨λq i hi=>?_,λq=>?_,λq i hi=>?_,h.rn,h.mH⟩
 ·rcases hm q i hi with k|⟨e,k⟩
  ·exact l.ip q i k
  ·subst e
   obtain⟨a,b,c,d⟩:=g.new i k;exact⟨by rw[aP];exact a,c,d⟩
 ·unfold b2
  split
  ·rw[dZ]
   exact⟨h.pn p,g.nd,λa ha b o e=>hy b o (.inl ⟨p,e▸ha⟩)⟩
  ·exact h.pn q
 ·obtain⟨a,b,c,d⟩:=l.iy q i hi
  refine⟨a,b,c,λm f=>?_⟩;rcases hm m i f with f|⟨_,f⟩
  ·exact d m f
  ·exact hy i f (.inr ⟨q,hi⟩)
def PI.WY(h:PI S pu rg){q:Int}{cur:Int}{xs:aO}(b:xs=(rg q).xs):PI S pu (b2 rg q ⟨(rg q).aM,xs,cur⟩):=by
 subst b
 have e:∀k,(b2 rg q ⟨(rg q).aM,(rg q).xs,cur⟩ k).xs=(rg k).xs/\(b2 rg q ⟨(rg q).aM,(rg q).xs,cur⟩ k).aM=(rg k).aM:=λk=>by
  unfold b2;split
  ·rename_i e;subst e;exact⟨rfl,rfl⟩
  ·exact⟨rfl,rfl⟩
 refine⟨h.ip,h.pn,λk i hi=>?_,λk=>?_,λk k' i hi a=>?_⟩
 ·rw[(e k).1]at hi;rw[(e k).2];exact h.iy k i hi
 ·rw[(e k).1];exact h.rn k
 ·rw[(e k).1]at hi;rw[(e k').1]at a;exact h.mH k k' i hi a
def PI.empty(h:PI S pu rg){q c cur:Int}:PI S pu (b2 rg q ⟨c,[],cur⟩):=by
 have e:∀k i,i∈(b2 rg q ⟨c,[],cur⟩ k).xs->k≠q/\i∈(rg k).xs/\b2 rg q ⟨c,[],cur⟩ k=rg k:=λk i hi=>by
  unfold b2 at hi⊢;split at hi
  ·cases hi
  ·rename_i d;exact⟨d,hi,by rw[ak d]⟩
 refine⟨h.ip,h.pn,λk i hi=>?_,λk=>?_,λk k' i hi f=>?_⟩
 ·obtain⟨_,a,b⟩:=e k i hi;rw[b];exact h.iy k i a
 ·unfold b2
  split
  ·exact tN
  ·exact h.rn k
 ·exact h.mH k k' i (e k i hi).2.1 (e k' i f).2.1
def PI.add(h:PI S pu rg){q i cur:Int}(aP:S.ok i=true)(m:(S.at' i).ph=1)(n:(S.at' i).own=(rg q).aM+1)(o:∀p,i∉pu p)(f:∀k,i∉(rg k).xs):PI S pu (b2 rg q ⟨(rg q).aM,(rg q).xs++[i],cur⟩):=by
 have e:∀k j,j∈(b2 rg q ⟨(rg q).aM,(rg q).xs++[i],cur⟩ k).xs->j∈(rg k).xs\/(k=q/\j=i):=λk j c=>by
  unfold b2 at c;split at c
  ·rename_i e;subst e
   exact(dL.1 c).imp id λh=>⟨rfl,fB.1 h⟩
  ·exact .inl c
 have r:∀k,(b2 rg q ⟨(rg q).aM,(rg q).xs++[i],cur⟩ k).aM=(rg k).aM:=λk=>by
  unfold b2;split
  ·rename_i e;subst e;rfl
  ·rfl
 refine⟨h.ip,h.pn,λk j c=>?_,λk=>?_,λk k' j c g=>?_⟩
 ·rw[r]
  rcases e k j c with c|⟨rfl,rfl⟩
  ·exact h.iy k j c
  ·exact⟨aP,m,n,o⟩
 ·unfold b2
  split
  ·rw[dZ]
   exact⟨h.rn q,by simp,λa ha b s e=>f q (by rw[fB.1 s]at e;exact e▸ha)⟩
  ·exact h.rn k
 ·rcases e k j c with U|⟨t,u⟩
  ·rcases e k' j g with d|⟨l,v⟩
   ·exact h.mH k k' j U d
   ·rw[v]at U;exact absurd U (f k)
  ·rcases e k' j g with d|⟨l,_⟩
   ·rw[u]at d;exact absurd d (f k')
   ·rw[t,l]
end
section
variable {S S':aH}{pu:Int->aO}{z c i r:Int}{W:a8}{V V':Lv}
def FZ{k:Nat}(o:W.F.S.Ok)(x:W.F.S.b6.length=4096)(hz:0<=z)(p:PI S pu W.rg)(hL:LI S z W V)(m:RI z W):PI S pu (W.made k c).rg/\LI S z (W.made k c) V/\RI z (W.made k c)/\(W.made k c).bw<=W.bw+1:=by
 unfold a8.made;by_cases g:W.F.S.gg=true
 ·rw[ah g]
  have t:W.F.S.b7 W.F.S.cM=false:=by have:=o.xS g;unfold aV.cM;rw[ah (show W.F.S.pick.2.2=true from g)];exact this
  have r:=λj=>o.A6 g j;have s:(W.F.add k).S=W.F.S.opened:=by unfold For.add;rw[ah g]
  have u:(W.rg W.F.S.cM).xs=[]:=tE λh=>by have:=m.op _ h;rw[t]at this;cases this
  have v:∀q i,i∈(W.rg q).xs->b2 W.rg W.F.S.cM ⟨c,[],0⟩ q=W.rg q:=λq i hi=>by unfold b2;rw[ak λe=>by rw[e,u]at hi;cases hi]
  refine⟨p.empty,λe he=>?_,⟨λq l=>?_,λq=>?_⟩,d' _⟩
  ·obtain⟨a,b,q,d,f⟩:=hL e he
   refine⟨a,b,q,by show _∈(b2 W.rg W.F.S.cM ⟨c,[],0⟩ q).xs;rw[v q _ d];exact d,λpc w=>?_⟩;obtain⟨f1,f2,f3⟩:=f pc w;refine⟨f1,?_,f3⟩;unfold a8.bo at f2⊢;split at f2
   ·rename_i U
    rw[ah U];split at f2
    ·rename_i n
     rw[ah];show aV.right (W.F.add k).S _ _=true;rw[s];unfold aV.right at n⊢;rw[r];simp only[b9]at n⊢;refine⟨by rw[n.1];simp,?_⟩;have:W.F.S.opened.gen (gP pc.bT)=W.F.S.gen (gP pc.bT):=by unfold aV.gen;rw[aV.xH]
     rw[this];exact n.2
    ·cases f2
   ·cases f2
  ·show(W.F.add k).S.b7 q=true
   rw[s,r];have l:(b2 W.rg W.F.S.cM ⟨c,[],0⟩ q).xs≠[]:=l;unfold b2 at l;split at l
   ·exact absurd rfl l
   ·rw[m.op q l];simp
  ·show 0<=(b2 W.rg W.F.S.cM ⟨c,[],0⟩ q).cur/\(b2 W.rg W.F.S.cM ⟨c,[],0⟩ q).cur<=z
   unfold b2;split
   ·exact⟨fY _,hz⟩
   ·exact m.cur q
 ·rw[ak g]
  exact⟨p,hL,m,j8 _⟩
def E7(h:W.bo r=0):mL r=true/\hv r=2/\iw r=0/\W.F.S.b7 (gP r)=true/\W.F.S.gen (gP r)=gG r:=by
 unfold a8.bo at h;split at h
 ·rename_i U
  split at h
  ·rename_i a
   unfold aV.right at a;simp only[b9,gB]at a;exact⟨U.1,U.2.1,U.2.2,a.1,a.2⟩
  ·cases h
 ·cases h
end
end
section
open Go.XS Go.bn
def TM{F:For}{n:Int}(b:0<=n)(q:Int)(a:q≠n)(c:0<=q):(F.drop n).S.b7 q=F.S.b7 q/\(F.drop n).S.gen q=F.S.gen q:=by
 unfold For.drop;split
 ·refine⟨by rw[aV.yj];simp[a],?_⟩
  unfold aV.gen aV.shut;rw[ei,oh (by omega),<-ei]
 ·exact⟨rfl,rfl⟩
def TQ:∀(l:List Nat) (W:a8),(∀q:Int,(l.foldl a8.jV W).rg q=if∃k∈l,(k:Int)=q then vh else W.rg q)/\(l.foldl a8.jV W).bw=W.bw/\(∀q:Int,0<=q->(¬∃k∈l,(k:Int)=q)->(l.foldl a8.jV W).F.S.b7 q=W.F.S.b7 q/\(l.foldl a8.jV W).F.S.gen q=W.F.S.gen q):=by
 intro l
 induction l with
 |nil=>intro W;exact⟨λq=>by simp,rfl,λq _ _=>⟨rfl,rfl⟩⟩
 |cons n l j=>
  intro W;obtain⟨U,m,o⟩:=j (W.jV n);refine⟨λq=>?_,m,λq g h=>?_⟩
  ·show(l.foldl a8.jV (W.jV n)).rg q=_
   rw[U];by_cases e:∃k∈l,(k:Int)=q
   ·obtain⟨k,I,f⟩:=e
    rw[ah ⟨k,I,f⟩,ah ⟨k,iJ _ I,f⟩]
   ·rw[ak e]
    show b2 W.rg n vh q=_;unfold b2;by_cases f:q=(n:Int)
    ·rw[ah f,ah ⟨n,kG,f.symm⟩]
    ·rw[ak f,ak]
     rintro⟨k,I,i⟩;rcases cR.1 I with rfl|I
     ·exact f i.symm
     ·exact e ⟨k,I,i⟩
  ·have p:q≠(n:Int):=λe=>h ⟨n,kG,e.symm⟩
   obtain⟨a,b⟩:=o q g λ⟨k,I,e⟩=>h ⟨k,iJ _ I,e⟩;obtain⟨c,d⟩:=TM (by omega) q p g;exact⟨a.trans c,b.trans d⟩
def ED:∀(l:aO) (V:Lv),(∀e,e∈(l.foldl Lv.drop V).all↔e∈V.all/\e.1∉l)/\(l.foldl Lv.drop V).bw=V.bw/\(l.foldl Lv.drop V).all.length<=V.all.length:=by
 intro l
 induction l with
 |nil=>intro V;exact⟨λe=>by simp,rfl,d' _⟩
 |cons i l d=>
  intro V;obtain⟨U,f,g⟩:=d (V.drop i);refine⟨λe=>?_,f,jL g (y1 _ _)⟩;show e∈(l.foldl Lv.drop (V.drop i)).all↔_;rw[U];show e∈bO i V.all/\_↔_;rw[sW,cR];constructor
  ·rintro⟨⟨a,b⟩,c⟩;exact⟨a,λh=>h.elim b c⟩
  ·rintro⟨a,b⟩;exact⟨⟨a,λh=>b (.inl h)⟩,λh=>b (.inr h)⟩
section
variable {S S':aH}{pu:Int->aO}{z c i r p:Int}{W:a8}{V V':Lv}
def GV{k:Nat}:k∈W.pre p↔k∈W.post p:=by
 unfold a8.pre a8.post For.walk;split
 ·rw[rO,rO];exact z8 k
 ·exact Iff.rfl
def Ca{i:Int}:i∈W.under p↔∃k∈W.pre p,i∈(W.rg (k:Int)).xs:=by unfold a8.under;rw[lC]
def H5(a:W.Fo)(h:∀q,(W.rg q).xs.length<=12):(W.under p).length<400000:=by
 have U:=Cg (n:=p) (come:=true) a.sl a.b6 a.nd a.mH a.wF (uy a.sl a.deep);have b:(W.pre p).length<=4096:=U;unfold a8.under
 have:∀l:List Nat,(l.flatMap λk:Nat=>(W.rg (k:Int)).xs).length<=12*l.length:=λl=>by
  induction l with
  |nil=>simp
  |cons k l c=>rw[gz,cr,dd];have:=h (k:Int);omega
 have:=this (W.pre p);omega
def Ux(o:W.Fo)(hz:0<=z)(j:PI S pu W.rg)(hL:LI S z W V)(l:RI z W):PI S pu (W.free r).rg/\LI S z (W.free r) ((W.under (gP r)).foldl Lv.drop V)/\RI z (W.free r)/\(W.free r).bw=W.bw/\(W.bo r=0->∀i∈W.under (gP r),(∀q,i∉((W.free r).rg q).xs)/\∀p,i∉pu p):=by
 obtain⟨v1,v2,v3⟩:=ED (W.under (gP r)) V;unfold a8.free;by_cases hf:W.bo r=0
 ·rw[ah hf]
  obtain⟨d1,d2,d3⟩:=TQ (W.post (gP r)) W;generalize x:(W.post (gP r)).foldl a8.jV W=W' at d1 d2 d3
  have m:∀q i,i∈(W'.rg q).xs->(¬∃k∈W.post (gP r),(k:Int)=q)/\i∈(W.rg q).xs/\W'.rg q=W.rg q:=λq i hi=>by
   rw[d1]at hi⊢;split at hi
   ·cases hi
   ·rename_i c;rw[ak c];exact⟨c,hi,rfl⟩
  have h0:∀q,(W.rg q).xs≠[]->0<=q:=λq g=>(o.sl.lt (l.op q g)).1
  have s:∀q i,i∈(W.rg q).xs->(¬∃k∈W.post (gP r),(k:Int)=q)->i∉W.under (gP r):=λq i hi c hu=>by obtain⟨k,I,n⟩:=Ca.1 hu;have:=j.mH q k i hi n;exact c ⟨k,GV.1 I,this.symm⟩
  refine⟨⟨j.ip,j.pn,λq i hi=>?_,λq=>?_,λq q' i hi t=>j.mH q q' i (m q i hi).2.1 (m q' i t).2.1⟩,λe he=>?_,⟨λq g=>?_,λq=>?_⟩,d2,λ_ i hi=>⟨λq g=>?_,?_⟩⟩
  ·obtain⟨_,a,b⟩:=m q i hi;rw[b];exact j.iy q i a
  ·rw[d1]
   split
   ·exact tN
   ·exact j.rn q
  ·obtain⟨he,hu⟩:=(v1 e).1 he
   obtain⟨a,b,q,d,f⟩:=hL e he;have u:=h0 q (λh=>by rw[h]at d;cases d);have c:¬∃k∈W.post (gP r),(k:Int)=q:=λ⟨k,I,v⟩=>hu (Ca.2 ⟨k,GV.2 I,by rw[v];exact d⟩);obtain⟨s1,s2⟩:=d3 q u c;refine⟨a,b,q,by rw[d1,ak c];exact d,λpc w=>?_⟩;obtain⟨f1,f2,f3⟩:=f pc w;refine⟨f1,?_,f3⟩;obtain⟨g1,g2,g3,g4,g5⟩:=E7 f2;unfold a8.bo;rw[ah ⟨g1,g2,g3⟩];unfold aV.right;rw[f1]at g4 g5⊢;rw[s1,s2,g4,g5,ah (by simp)]
  ·rw[d1]at g
   split at g
   ·exact absurd rfl g
   ·rename_i c
    rw[(d3 q (h0 q g) c).1];exact l.op q g
  ·rw[d1]
   split
   ·exact⟨fY _,hz⟩
   ·exact l.cur q
  ·obtain⟨a,b,_⟩:=m q i g
   exact s q i b a hi
  ·obtain⟨k,_,n⟩:=Ca.1 hi
   exact(j.iy k i n).2.2.2
 ·rw[ak hf]
  refine⟨j,λe he=>?_,l,rfl,λh=>absurd h hf⟩;obtain⟨a,b,q,d,f⟩:=hL e ((v1 e).1 he).1;exact⟨a,b,q,d,f⟩
def U7{s a:Int}(g:PI S pu W.rg)(hL:LI S z W V)(d:RI z W):PI S pu (W.lay r s a z).rg/\LI S z (W.lay r s a z) V/\RI z (W.lay r s a z)/\(W.lay r s a z).bw<=W.bw+1:=by
 unfold a8.lay;by_cases h:W.e9 r s a z=0
 ·rw[ah h]
  have j:0<=o3 (W.rg (gP r)).cur s a z/\o3 (W.rg (gP r)).cur s a z<=z:=by
   unfold a8.e9 at h;split at h
   ·unfold Go.Proofs.YtlmgompopkamfaaGreatDoor.e9 at h
    split at h
    ·rename_i hr
     split at h
     ·rename_i he
      unfold o3;rw[ah he];unfold qk at he;split at he
      ·cases he
      ·rename_i U
       split at he
       ·cases he
       ·split at he
        ·cases he
        ·rename_i k
         split at he
         ·cases he
         ·split at he
          ·cases he
          ·rename_i l
           have b:kg (W.rg (gP r)).cur a=true:=by simpa using k
           have m:iV (W.rg (gP r)).cur a=nA (W.rg (gP r)).cur a:=by unfold iV;rw[ah b]
           unfold kg at b;simp only[b9,bz]at b;have f:=b.1.2;unfold nT at f;simp only[b9,bz]at f
           have h0:0<=nA (W.rg (gP r)).cur a:=by unfold nA;have:=yR ((W.rg (gP r)).cur+a-1) f.1;omega
           rw[m]at l⊢;omega
     ·rename_i he;exact absurd h he
    ·cases h
   ·rename_i he;exact absurd h he
  have i:∀q,(b2 W.rg (gP r) ⟨(W.rg (gP r)).aM,(W.rg (gP r)).xs,o3 (W.rg (gP r)).cur s a z⟩ q).xs=(W.rg q).xs:=λq=>by
   unfold b2;split
   ·rename_i e;subst e;rfl
   ·rfl
  refine⟨g.WY rfl,λe he=>?_,⟨λq c=>?_,λq=>?_⟩,d' _⟩
  ·obtain⟨x1,x2,q,x3,x4⟩:=hL e he
   exact⟨x1,x2,q,by show _∈(b2 W.rg _ _ q).xs;rw[i];exact x3,x4⟩
  ·have c:(b2 W.rg (gP r) _ q).xs≠[]:=c
   rw[i]at c;exact d.op q c
  ·show 0<=(b2 W.rg (gP r) _ q).cur/\(b2 W.rg (gP r) _ q).cur<=z
   unfold b2;split
   ·exact j
   ·exact d.cur q
 ·rw[ak h]
  exact⟨g,hL,d,j8 _⟩
def Kk(hz:0<=z)(c:PI S pu W.rg)(hL:LI S z W V)(b:RI z W)(aP:S.ok i=true)(f:(S.at' i).ph=1)(g:W.bo r=0->(S.at' i).own=(W.rg (gP r)).aM+1)(l:∀p,i∉pu p)(m:∀k,i∉(W.rg k).xs):PI S pu (W.add r i).rg/\LI S z (W.add r i) V/\RI z (W.add r i)/\(W.add r i).bw<=W.bw+1/\(W.add r i).F=W.F/\∀q,((W.add r i).rg q).aM=(W.rg q).aM:=by
 unfold a8.add;by_cases h:W.gp r i=0
 ·rw[ah h]
  have hf:W.bo r=0:=by
   unfold a8.gp at h;split at h
   ·assumption
   ·rename_i he;exact absurd h he
  have hm:∀q j,j∈(W.rg q).xs->j∈(b2 W.rg (gP r) ⟨(W.rg (gP r)).aM,(W.rg (gP r)).xs++[i],0⟩ q).xs:=λq j d=>by
   unfold b2;split
   ·rename_i e;subst e;exact List.mem_append_left _ d
   ·exact d
  refine⟨c.add aP f (g hf) l m,λe he=>?_,⟨λq a=>?_,λq=>?_⟩,d' _,rfl,λq=>?_⟩
  ·obtain⟨x1,x2,q,x3,x4⟩:=hL e he
   exact⟨x1,x2,q,hm q _ x3,x4⟩
  ·have a:(b2 W.rg (gP r) ⟨(W.rg (gP r)).aM,(W.rg (gP r)).xs++[i],0⟩ q).xs≠[]:=a
   unfold b2 at a;split at a
   ·rename_i e;subst e;exact(E7 hf).2.2.2.1
   ·exact b.op q a
  ·show 0<=(b2 W.rg (gP r) _ q).cur/\(b2 W.rg (gP r) _ q).cur<=z
   unfold b2;split
   ·exact⟨fY _,hz⟩
   ·exact b.cur q
  ·show(b2 W.rg (gP r) _ q).aM=_
   unfold b2;split
   ·rename_i e;subst e;rfl
   ·rfl
 ·rw[ak h]
  exact⟨c,hL,b,j8 _,rfl,λ_=>rfl⟩
end
end
section
open Go.XS Go.bn
def V7{α:Type}{k:Int}{v:α}{m:ML α}:(bE k v m).length<=m.length+1:=by
 induction m with
 |nil=>simp[bE]
 |cons e m a=>
  unfold bE;split
  ·simp
  ·split
   ·simp
   ·simp only[dd];omega
section
variable {S S':aH}{pu:Int->aO}{z c i r p:Int}{W:a8}{V V':Lv}
def U6{s a:Int}(h:W.e9 r s a z=0):W.bo r=0/\W.gM r s a z∈(W.rg (gP r)).xs/\0<=W.js r s a z/\1<=s/\W.js r s a z+s<=z:=by
 have h0:=h;unfold a8.e9 at h;split at h
 ·rename_i hf
  refine⟨hf,?_⟩;unfold Go.Proofs.YtlmgompopkamfaaGreatDoor.e9 at h;split at h
  ·rename_i hr
   split at h
   ·rename_i he
    split at h
    ·cases h
    ·rename_i d
     refine⟨?_,?_⟩
     ·unfold a8.gM rG
      rw[ah h0,ah hr]
      cases f:(W.rg (gP r)).xs with
      |nil=>exact absurd f d
      |cons y ys=>have hl:(y::ys).getLast?=some ((y::ys).getLast (by simp)):=CN _;rw[hl];exact List.getLast_mem _
     ·have e:W.js r s a z=iV (W.rg (gP r)).cur a:=by unfold a8.js rH;rw[ah h0,ah he]
      rw[e];unfold qk at he;split at he
      ·cases he
      ·rename_i U
       split at he
       ·cases he
       ·split at he
        ·cases he
        ·rename_i g
         split at he
         ·cases he
         ·split at he
          ·cases he
          ·rename_i i
           have b:kg (W.rg (gP r)).cur a=true:=by simpa using g
           have j:iV (W.rg (gP r)).cur a=nA (W.rg (gP r)).cur a:=by unfold iV;rw[ah b]
           unfold kg at b;simp only[b9,bz]at b;have c:=b.1.2;unfold nT at c;simp only[b9,bz]at c
           have h0:0<=nA (W.rg (gP r)).cur a:=by unfold nA;have:=yR ((W.rg (gP r)).cur+a-1) c.1;omega
           rw[j]at i⊢;omega
   ·rename_i he;exact absurd h he
  ·cases h
 ·rename_i he;exact absurd h he
def aaA{l:Ld}(d:bS V.all)(c:PI S pu W.rg)(hL:LI S z W V)(hf:W.bo l.bT=0)(hi:l.chunk∈(W.rg (gP l.bT)).xs)(f:l.gen=(S.at' l.chunk).gen)(h0:0<=l.at')(U:1<=l.len)(g:l.at'+l.len<=z):LI S z W (V.add l)/\(V.add l).bw<=V.bw+1/\(V.add l).all.length<=V.all.length+1:=by
 unfold Lv.add;by_cases h:V.gp l=0
 ·rw[ah h]
  refine⟨λe he=>?_,d' _,V7⟩;rcases(oX d).1 he with rfl|⟨he,_⟩
  ·have aP:=(c.iy _ _ hi).1
   have i:(V.kU l.chunk l.gen).gen=l.gen:=by
    unfold Lv.gp at h;split at h
    ·split at h
     ·assumption
     ·cases h
    ·cases h
   refine⟨aP,i.trans f,gP l.bT,hi,λpc b=>?_⟩;have b:pc∈List.take (dX l.at' (V.kU l.chunk l.gen).ss) (V.kU l.chunk l.gen).ps++(⟨l.at',l.len,l.bT⟩:Pc)::List.drop (dX l.at' (V.kU l.chunk l.gen).ss) (V.kU l.chunk l.gen).ps:=b
   have hold:pc∈(V.kU l.chunk l.gen).ps->gP pc.bT=gP l.bT/\W.bo pc.bT=0/\0<=pc.at'/\1<=pc.len/\pc.at'+pc.len<=z:=λa=>by
    unfold Lv.kU at a
    cases hm:aS V.all l.chunk with
    |none=>rw[hm]at a;cases a
    |some k=>rw[hm]at a;obtain⟨_,_,q,x3,x4⟩:=hL _ (jv hm);obtain⟨j,m⟩:=x4 pc a;have:=c.mH q (gP l.bT) l.chunk x3 hi;exact⟨j.trans this,m⟩
   rcases dL.1 b with a|a
   ·exact hold (kH a)
   ·rcases cR.1 a with rfl|a
    ·exact⟨rfl,hf,h0,U,g⟩
    ·exact hold (tM a)
  ·exact hL e he
 ·rw[ak h]
  exact⟨hL,j8 _,j8 _⟩
end
structure oJ(X Y:aL):Prop where
 eo:ef X.S Y.S
 sz:Y.S.size=X.S.size
 cE:Y.S.br+Y.S.free.length<=X.S.br+X.S.free.length
 sl:Y.L.av.aX=X.L.av.aX
 ch:Y.L.chunks=X.L.chunks
 al:Y.T.all.length=X.T.all.length
 ag:Y.Q.f'=X.Q.f'
 rc:Y.R=X.R
 tb:∀b,0<=b->TB b X.T->TB b Y.T
 at':∀i,X.S.ok i=true->(X.S.at' i).ph≠0->Y.S.at' i=X.S.at' i
def oJ.refl{X:aL}(h:X.S.Inv):oJ X X:=⟨ef.refl h,rfl,d' _,rfl,rfl,rfl,rfl,rfl,λ_ _ h=>h,λ_ _ _=>rfl⟩
def H4{T:a6}{i:Int}{c:Tk}{b:Int}(d:TB b T)(hi:T.has i=true)(g:c.b1=(T.at' i).b1){f:ML Unit}:TB b ⟨T.all.set (i-1).toNat c,f⟩:=λj a=>by
 have a:T.has j=true:=by unfold a6.has at a⊢;simpa using a
 have h:=hx.1 a;have k:=hx.1 hi
 have e:a6.at' ⟨T.all.set (i-1).toNat c,f⟩ j=if j=i then c else T.at' j:=by
  unfold a6.at';simp only[ei];split
  ·rename_i e;subst e;rw[tK (by omega)];rfl
  ·rw[oh (by omega)]
 rw[e];split
 ·rw[g];exact d i hi
 ·exact d j a
def TH(L:bG)(w:Ac)(c n:Int):(L.bM w c n).av.aX=L.av.aX/\(L.bM w c n).chunks=L.chunks:=by
 unfold bG.bM;split
 ·unfold bK.bM
  split
  ·exact⟨rfl,rfl⟩
  ·exact⟨rfl,rfl⟩
 ·exact⟨rfl,rfl⟩
def UA{Y:aL}{t:Tk}{c:Int}(g:aL.tU Y t c)(h:AS Y.L Y.S Y.R.line):oJ Y (Y.mK t c)/\∀rg,PI Y.S Y.pu rg->PI (Y.mK t c).S (Y.mK t c).pu rg:=by
 have tk:=HU (o:=t.aM+1) (by have:=g.cl.1;omega) h.inv t.count.toNat g.bw.2;have k:=vx (t.aM+1) Y.S t.count.toNat g.bw.2;obtain⟨s1,s2⟩:=TH Y.L .ct c t.count
 have a:Y.T.has t.id=true:=by
  have:=g.tk;unfold a6.cN at this;split at this
  ·assumption
  ·cases this
 have d:Y.T.bM (c8 · 2) check t.id=⟨Y.T.all.set (t.id-1).toNat (c8 (Y.T.at' t.id) 2),if(c8 (Y.T.at' t.id) 2).state=1 then Y.T.bD else bO t.id Y.T.bD⟩:=by unfold a6.bM;rw[ah g.tk]
 refine⟨⟨tk.eo,tk.sz,?_,s1,s2,?_,rfl,rfl,λb l e=>?_,λi hi f=>?_⟩,λrg j=>j.aag tk⟩
 ·show(takeN (t.aM+1) t.count.toNat Y.S).1.br+(takeN (t.aM+1) t.count.toNat Y.S).1.free.length<=_
  have:=g.bw.2;omega
 ·show(Y.T.bM (c8 · 2) check t.id).all.length=_
  rw[d];simp
 ·show TB b (Y.T.bM (c8 · 2) check t.id)
  rw[d];apply H4 e a;have:=g.tk;unfold a6.cN at this;rw[ah a]at this;unfold c8;rw[ah this]
 ·exact tk.at' i (eQ.1 hi).1 λhm=>f (tk.new i hm).2.1
def oJ.trans{X Y Z:aL}(U:oJ X Y)(a:oJ Y Z)(e:∀i,X.S.ok i=true->(X.S.at' i).ph≠0->(Y.S.at' i).ph≠0):oJ X Z:=
 ⟨U.eo.trans a.eo,a.sz.trans U.sz,jL a.cE U.cE,a.sl.trans U.sl,a.ch.trans U.ch,a.al.trans U.al,a.ag.trans U.ag,a.rc.trans U.rc,λb c f=>a.tb b c (U.tb b c f),
  λi hi d=>(a.at' i (by unfold aH.ok at hi⊢;rw[<-U.eo.len];exact hi) (e i hi d)).trans (U.at' i hi d)⟩
def Uz{Y:aL}{l:List Tk}(g:C8 Y l):∀k,k<=l.length->oJ Y (Y.h8 (l.take k))/\∀rg,PI Y.S Y.pu rg->PI (Y.h8 (l.take k)).S (Y.h8 (l.take k)).pu rg:=by
 intro k
 induction k with
 |zero=>intro _;exact⟨oJ.refl (g.ac 0).inv,λ_ h=>h⟩
 |succ k d=>intro I;obtain⟨a,i2⟩:=d (by omega);have b:l[k]?=some l[k]:=ba (by omega);have e:=g.ok k _ b;obtain⟨f,j⟩:=UA e (g.ac k);rw[dQ b,aL.Ff];refine⟨a.trans f λi hi c=>?_,λrg m=>j rg (i2 rg m)⟩;rw[a.at' i hi c];exact c
structure J6(X:aL)(b:Int):Prop where
 ok:X.zo
 ac:AS X.tick.L X.tick.S X.tick.R.line
 ts:TS X.tick.L X.tick.T X.tick.Q
 eo:ef X.S X.tick.S
 sz:X.tick.S.size=X.S.size
 cE:X.tick.S.br<=X.S.br+24
 sl:X.tick.L.av.aX=X.L.av.aX
 ch:X.tick.L.chunks=X.L.chunks
 al:X.tick.T.all.length=X.T.all.length
 ag:X.tick.Q.f'=X.Q.f'
 tb:TB (b+1000) X.tick.T
 tk:X.tick.R.dx=X.R.dx+1
 nx:X.tick.R.line.next=X.R.line.next
 pi:∀rg,PI X.S X.pu rg->PI X.tick.S X.tick.pu rg
 at':∀i,X.S.ok i=true->(X.S.at' i).ph=1->X.tick.S.at' i=X.S.at' i
def HY{X:aL}{b:Int}(h:AS X.L X.S X.R.line)(a:TS X.L X.T X.Q)(F:GS X.L.av.aX)(G:0<=b/\b<=1000000)(s:TB b X.T)(ae:X.S.br<=100000)(af:X.S.cs.length<=12)(ah:X.T.all.length<=1000)(H:0<=X.R.dx/\X.R.dx<1000000):J6 X b:=by
 have ai:X.R.line.xs.length<=12:=by have:=h.yA;have:=sS h.inv;omega
 have I:X.R.many<=X.R.line.xs.length:=by unfold Rec.many;omega
 obtain⟨J,a2,a3⟩:=h.gZ X.R.many I;have d:AS X.bp.L X.bp.S X.bp.R.line:=J
 have aj:X.T.cZ.length<=1000:=by
  rw[a6.xP]
  have U:(bb X.T.bD).length<=X.T.all.length:=by
   have K:=l7 a.ps
   have:((bb X.T.bD).map λi=>i-1).Nodup:=by apply mw.2;rw[lD];exact(mw.1 K).imp λM e=>M (by omega)
   have:=uZ (N:=X.T.all.length) this λi hi=>by obtain⟨j,f,rfl⟩:=bQ.1 hi;have:=hx.1 ((a.tk j).1 f).1;omega
   rwa [fe]at this
  rw[fe]at U;omega
 have v:∀t∈X.T.cZ,0<=t.b1/\t.b1<=b/\0<=t.id/\t.id<=100000:=λt hm=>by obtain⟨j,f,rfl⟩:=bQ.1 hm;have g:=((a.tk j).1 f).1;have U:=s j g;have O:=a.tid j g;have:=hx.1 g;rw[O];omega
 have P:RB b ⟨[],X.T.cZ,X.L.av.members,X.bp.S.many 0⟩:=λt hm=>by
  rcases hm with hm|hm
  ·cases hm
  ·exact v t hm
 obtain⟨x,dJ⟩:=RB.run X.T.cZ.length G.1 P;have y:X.bp.cn=b4.run (X.bp.R.line.xs.length:Int) X.T.cZ.length ⟨[],X.T.cZ,X.L.av.members,X.bp.S.many 0⟩:=rfl;rw[<-y]at x dJ;simp only[gH,bJ]at dJ
 have o:∀t∈X.bp.cn.gs++X.bp.cn.ls,t.b1<=b+1000/\0<=t.b1/\0<=t.id/\t.id<=100000:=λt hm=>by have:=x t (dL.1 hm);omega
 have p:TB (b+1000) X.T:=λi hi=>by have:=s i hi;omega
 have c:PE (b+1000) X.T (X.T.iD (X.bp.cn.gs++X.bp.cn.ls)):=GL λt hm=>(o t hm).1;have z:TS X.L (X.T.iD (X.bp.cn.gs++X.bp.cn.ls)) X.Q:=a.pass p c;have ak:X.bp.S.free.length<=12:=by have:=d.inv.w5;have:=sS d.inv;have:=a2.eo.len;have:X.bp.S.cs.length=X.S.cs.length:=this.symm;omega
 have am:X.bp.S.br<=X.S.br+12:=by have:=a2.cE;have:X.bp.S.br=X.S.br+(X.R.line.xs.take X.R.many).length:=this;rw[ff]at this;omega
 have V:sd (X.bp.R.line.xs.length:Int) (X.bp.tq X.bp.cn) ⟨[],X.T.cZ,X.L.av.members,X.bp.S.many 0⟩:=by
  refine⟨d,z,rfl,rfl,?_,?_,F,?_,?_⟩
  ·show((X.bp.S.many 2:Nat):Int)=_
   rw[<-d.yA]
  ·show(X.T.iD _).cZ.map lk=X.T.cZ.map lk
   rw[xO z,xO a,c.bD];refine hX λj f=>?_;obtain⟨w,e,_⟩:=c.at' j ((a.tk j).1 f).1;rw[e]
  ·show X.bp.S.br+X.bp.S.free.length<800000
   omega
  ·show(X.T.iD _).all.length<=100000
   rw[c.len];omega
 obtain⟨l,r,A,n⟩:=Yr X.T.cZ.length V;rw[<-y]at r n;simp only[kI]at r;subst r;obtain⟨g1,g2⟩:=Uz A X.bp.cn.gs.length (d' _);rw[gA]at g1 g2;have W:X.tick=(X.bp.tq X.bp.cn).h8 X.bp.cn.gs:=rfl;rw[<-W]at g1 g2 n;have Y:X.R.line.Fits X.S:=⟨h.lU,λi hi=>(h.ln i).1 hi⟩
 have Z:∀m∈X.L.av.members,bZ m.2=true:=λm hm=>by obtain⟨q,aa,rfl⟩:=bQ.1 hm;exact(pP h.av h.keys aa).1
 have B:∀i,X.S.ok i=true->(X.S.at' i).ph=1->X.bp.S.at' i=X.S.at' i:=λi hi C=>a2.at' i (eQ.1 hi).1 λhm=>by have:=(a3 i hm).2;omega
 have an:X.bp.S.many 0<=12:=by have:=d.inv.w5;omega
 refine⟨⟨Y,by omega,H,⟨X.T.cZ.length,Z,λt hm=>(v t hm).1,⟨by show(0:Int)<=(X.bp.S.many 0:Nat);omega,by show((X.bp.S.many 0:Nat):Int)<=1048576;omega⟩,?_,by simp,by omega⟩,by omega,λk t ab=>?_,A.ok⟩,n.ac,n.ts,a2.eo.trans g1.eo,g1.sz.trans a2.sz,?_,g1.sl,g1.ch,?_,g1.ag,?_,?_,?_,λrg D=>g2 rg ?_,λi hi C=>?_⟩
 ·show X.L.av.members.length<=1000
  have:=bK.uM h.av h.sl;rw[X.L.av.uU];omega
 ·have hm:t∈X.bp.cn.gs++X.bp.cn.ls:=cz ab
  obtain⟨c1,c2,c3,lP⟩:=o t hm;have ad:PE (b+1000) X.T (X.T.iD ((X.bp.cn.gs++X.bp.cn.ls).take k)):=GL λu hu=>(o u (kH hu)).1;have:=(ad.tb p).get (by omega) t.id;exact⟨by unfold aF;omega,c2,by omega,this.1,by omega⟩
 ·have:=g1.cE
  have:X.tick.S.br+X.tick.S.free.length<=X.bp.S.br+X.bp.S.free.length:=this;omega
 ·rw[g1.al];exact c.len
 ·exact g1.tb _ (by omega) (c.tb p)
 ·rw[g1.rc];rfl
 ·rw[g1.rc];rfl
 ·exact PI.congr D a2.eo.len.symm λi hi g=>by have:=B i hi (D.Fu g);show(X.bp.S.at' i).ph=_/\(X.bp.S.at' i).own=_;rw[this];exact⟨rfl,rfl⟩
 ·have E:=B i hi C
  have:=g1.at' i (by unfold aH.ok at hi⊢;show decide (0<=i/\i<(X.bp.S.cs.length:Int))=true;rw[show X.bp.S.cs.length=X.S.cs.length from a2.eo.len.symm];exact hi) (by show(X.bp.S.at' i).ph≠0;rw[E];omega);exact this.trans E
end
section
open Go.XS Go.bn
structure Kp(s:Setup)(k:Nat)(M:bB):Prop where
 st:M.s=s
 n:(M.X.S.cs.length:Int)=s.c
 jw:M.X.S.cs.length<=12
 sz:(M.X.S.size:Int)=s.z
 z:64<=s.z/\s.z<=256
 ac:AS M.X.L M.X.S M.X.R.line
 ts:TS M.X.L M.X.T M.X.Q
 ip:PI M.X.S M.X.pu M.W.rg
 li:LI M.X.S s.z M.W M.V
 ri:RI s.z M.W
 gs:∀g∈M.X.L.av.aX.b6,0<=g/\g<=(k:Int)
 cE:M.X.S.br<=30*k
 nx:M.X.R.line.next<=12*(k:Int)
 wc:M.W.bw<=2*k
 vc:M.V.bw<=k
 vl:M.V.all.length<=k
 ag:M.X.Q.f'<=k
 al:M.X.T.all.length<=k
 tk:0<=M.X.R.dx/\M.X.R.dx<=(k:Int)
 tb:TB (1000*(k:Int)) M.X.T
structure jk(s:Setup)(k:Nat)(M:bB)(R:e7):Prop where
 uH:Kp s (k+1) R.M
 eo:ef M.X.S R.M.X.S
 tk:M.X.R.dx<=R.M.X.R.dx
 n:∀w,0<=w/\w<=9223372036854775807->aF (R.n w)
def TB.mono{b a:Int}{T:a6}(h:TB b T)(c:b<=a):TB a T:=λi hi=>by have:=h i hi;omega
section
variable {s:Setup}{k:Nat}{M:bB}{o:Op}
def Kp.more(h:Kp s k M):Kp s (k+1) M:=by obtain⟨a,a2,a3,a4,a5,b,c,d,a9,e,dJ,i,h5,j,l,m,n,o,c1,c2⟩:=h;exact⟨a,a2,a3,a4,a5,b,c,d,a9,e,λg f=>by have:=dJ g f;omega,by omega,by omega,by omega,by omega,by omega,by omega,by omega,by omega,c2.mono (by omega)⟩
def Kp.same(h:Kp s k M){R:e7}(a:R.M=M)(b:∀w,0<=w/\w<=9223372036854775807->aF (R.n w)):jk s k M R:=⟨by rw[a];exact h.more,by rw[a];exact ef.refl h.ac.inv,by rw[a];exact fY _,b⟩
def ix:aF 0:=by decide
def Kp.bad(h:Kp s k M){e:Int}:jk s k M (.bad M e):=h.same rfl λ_ _=>ix
def Kp.Aj(h:Kp s k M)(I:k<=200):GS M.X.L.av.aX:=λg a=>by have:=h.gs g a;omega
def Kp.fit(h:Kp s k M)(b:Basic M)(I:k<=200):M.Fit:=by
 have cE:=h.cE;have nx:=h.nx;have wc:=h.wc;have vc:=h.vc;have vl:=h.vl;have ag:=h.ag;have al:=h.al;have tk:=h.tk;have jw:=h.jw;refine⟨by omega,by omega,by omega,by omega,by omega,λp=>H5 b.rl λq=>?_,λq=>?_,by omega,λe he=>?_,λi hi=>?_,?_⟩
 ·have:=uZ (h.ip.rn q) λi hi=>eQ.1 (h.ip.iy q i hi).1
  omega
 ·have:=h.ri.cur q
  have:=h.z;unfold aF;omega
 ·rw[h.ts.q]at he
  obtain⟨j,a,rfl⟩:=bQ.1 he;have:=hx.1 ((h.ts.tk j).1 a).1;show j≠M.X.T.next
  unfold a6.next
  omega
 ·unfold a6.cN at hi
  split at hi
  ·rename_i c
   have a:=(h.ts.tk i).2 ⟨c,(zS hi).2⟩;exact⟨_,by rw[h.ts.q];exact bQ.2 ⟨i,a,rfl⟩,rfl⟩
  ·cases hi
 ·exact(HY h.ac h.ts (h.Aj I) (by omega) h.tb (by omega) h.jw (by omega) (by omega)).ok
def Kp.wD(h:Kp s k M){X:aL}(a:X.S=M.X.S)(b:X.R=M.X.R)(c:X.pu=M.X.pu)(ac:AS X.L X.S X.R.line)(ts:TS X.L X.T X.Q)(d:∀g∈X.L.av.aX.b6,0<=g/\g<=((k+1:Nat):Int))(al:X.T.all.length<=M.X.T.all.length+1)(ag:X.Q.f'<=M.X.Q.f'+1)(tb:TB (1000*((k+1:Nat):Int)) X.T):Kp s (k+1) {M with X:=X}/\ef M.X.S X.S/\M.X.R.dx<=X.R.dx:=by have hm:=h.more;obtain⟨e,a2,a3,a4,a5,f,l,i,a9,j,dJ,m,h5,n,o,p,q,r,c1,c2⟩:=h;refine⟨⟨e,by rw[a];exact a2,by rw[a];exact a3,by rw[a];exact a4,a5,ac,ts,by show PI X.S X.pu M.W.rg;rw[a,c];exact i,by show LI X.S _ _ _;rw[a];exact a9,j,d,by rw[a];omega,by rw[b];omega,hm.wc,hm.vc,hm.vl,by show X.Q.f'<=_;omega,by show X.T.all.length<=_;omega,by rw[b];omega,tb⟩,by rw[a];exact ef.refl f.inv,by rw[b];omega⟩
def XY(L:bG)(c:Int):(L.bT c).av.aX.b6=L.av.aX.b6:=by
 unfold bG.bT;split
 ·unfold bK.opened
  split
  ·split
   ·exact aV.xH
   ·rfl
  ·rfl
 ·rfl
def Yc{L:bG}{c:Int}{k:Nat}(h:∀g∈L.av.aX.b6,0<=g/\g<=(k:Int))(I:k<=200):∀g∈(L.ret c).av.aX.b6,0<=g/\g<=((k+1:Nat):Int):=by
 have b:∀g∈L.av.aX.b6,0<=g/\g<=((k+1:Nat):Int):=λg a=>by have:=h g a;omega
 unfold bG.ret;split
 ·unfold bK.close
  split
  ·show∀g∈(L.av.aX.close (gP c) (gG c)).b6,_
   unfold aV.close;split
   ·intro g a
    have a:g∈L.av.aX.b6.set (gP c).toNat (IntKind.wrap .i64 (L.av.aX.gen (gP c)+1)):=a;rcases j5 a with a|rfl
    ·exact b g a
    ·have:0<=L.av.aX.gen (gP c)/\L.av.aX.gen (gP c)<=(k:Int):=by
      unfold aV.gen;rw[ei]
      cases d:L.av.aX.b6[(gP c).toNat]? with
      |none=>exact⟨by decide,by show(0:Int)<=_;omega⟩
      |some y=>exact h y (cz d)
     rw[bd (by omega)];omega
   ·exact b
  ·exact b
 ·exact b
def ZS(h:Kp s k M):jk s k M (M.register o):=by
 obtain⟨a,b,_⟩:=XZ h.ac h.ts;obtain⟨x,y,z⟩:=h.wD (X:=M.X.bT o.a) rfl rfl rfl a b (by show∀g∈(M.X.L.bT o.a).av.aX.b6,_;rw[XY];exact h.more.gs) (j8 _) (j8 _) (h.tb.mono (by omega));refine⟨x,y,z,λw _=>?_⟩;show aF (if M.X.L.rK o.a=0 then M.X.L.tc o.a else 0);split
 ·rename_i he
  unfold bG.tc;rw[ah he];unfold bG.rK at he;split at he
  ·split at he
   ·exact xf he
   ·rename_i c;exact absurd he c
  ·cases he
 ·exact ix
def ZT(h:Kp s k M)(I:k<=200):jk s k M (M.td o):=by
 unfold bB.td;split
 ·split
  ·exact h.bad
  ·obtain⟨a,b,_⟩:=Yd h.ac h.ts
   unfold aL.ret;split
   ·obtain⟨x,y,z⟩:=h.wD (X:={M.X with L:=M.X.L.ret o.a}) rfl rfl rfl a b (Yc h.gs I) (j8 _) (j8 _) (h.tb.mono (by omega))
    exact⟨x,y,z,λ_ _=>ix⟩
   ·rename_i hi _ _ c;exact absurd hi c
 ·exact h.bad
def ZL(h:Kp s k M)(I:k<=200):jk s k M (M.ask o):=by
 obtain⟨a,b,c1,c2,c3,lP,pS,d,_⟩:=Ks h.ac h.ts
 have f:TB (1000*((k+1:Nat):Int)) (M.X.ask o.a o.b).T:=by
  have h0:TB (1000*((k+1:Nat):Int)) M.X.T:=h.tb.mono (by omega)
  have hi:TB (1000*((k+1:Nat):Int)) (M.X.T.i7 (M.X.L.place o.a) o.b):=by
   unfold a6.i7;split
   ·intro j c
    have c:=hx.1 c;simp only[cr,vU]at c;unfold a6.at';simp only[ei];by_cases e:(j-1).toNat<M.X.T.all.length
    ·rw[hb e,<-ei]
     exact h0 j (hx.2 ⟨c.1,by omega⟩)
    ·rw[show(j-1).toNat=M.X.T.all.length from by omega]
     simp only[iI (d' _),lF,jF,fC];exact⟨fY _,by show(0:Int)<=_;omega⟩
   ·exact h0
  unfold aL.ask;split
  ·split
   ·split
    ·exact hi
    ·exact hi
   ·exact h0
  ·exact h0
 obtain⟨x,y,z⟩:=h.wD c1 c2 c3 a b (by rw[lP];exact h.more.gs) pS d f;have l:=h.al
 have g:aF M.X.T.next:=by
  have:M.X.T.next=(M.X.T.all.length:Int)+1:=rfl
  rw[this];unfold aF;omega
 have i:aF (M.X.so o.a o.b):=by
  unfold aL.so;split
  ·exact g
  ·exact ix
 refine⟨x,y,z,λw _=>?_⟩;show aF (if M.X.qX o.a o.b=0 then M.X.so o.a o.b else 0);split
 ·exact i
 ·exact ix
def ZM(h:Kp s k M):jk s k M (M.cancel o):=by
 obtain⟨a,b,c1,c2,c3,lP,pS,e,_⟩:=S4 h.ac h.ts
 have c:TB (1000*((k+1:Nat):Int)) (M.X.can o.a o.b).T:=by
  have h0:TB (1000*((k+1:Nat):Int)) M.X.T:=h.tb.mono (by omega)
  have hd:TB (1000*((k+1:Nat):Int)) (M.X.T.bM (c8 · 3) check o.b):=by
   unfold a6.bM;split
   ·rename_i hd
    unfold a6.cN at hd;split at hd
    ·rename_i d
     exact H4 h0 d (by show(c8 (M.X.T.at' o.b) 3).b1=_;unfold c8;rw[ah hd])
    ·cases hd
   ·exact h0
  unfold aL.can;split
  ·split
   ·split
    ·exact hd
    ·exact hd
   ·exact h0
  ·exact h0
 obtain⟨x,y,z⟩:=h.wD c1 c2 c3 a b (by rw[lP];exact h.more.gs) (by omega) (by omega) c;exact⟨x,y,z,λ_ _=>ix⟩
def Kp.trees(h:Kp s k M){W:a8}(a:PI M.X.S M.X.pu W.rg)(hl:LI M.X.S s.z W M.V)(hr:RI s.z W)(hc:W.bw<=M.W.bw+2):Kp s (k+1) {M with W:=W}:=by obtain⟨b,a2,a3,a4,a5,c,d,l,a9,m,dJ,e,h5,n,f,g,i,j,c1,c2⟩:=h.more;have:=h.wc;exact⟨b,a2,a3,a4,a5,c,d,a,hl,hr,dJ,e,h5,by show W.bw<=_;omega,f,g,i,j,c1,c2⟩
def FY{W:a8}:aF W.kp:=by
 unfold a8.kp;split
 ·rename_i h
  unfold a8.mO at h;split at h
  ·exact xf h
  ·cases h
 ·exact ix
def ZU(h:Kp s k M)(e:Basic M):jk s k M (M.root o):=by
 unfold bB.root;split
 ·have hz:=h.z
  have hw:Kp s (k+1) {M with W:=M.W.root (M.X.L.place o.a)}:=by
   unfold a8.root;split
   ·obtain⟨a,b,c,d⟩:=FZ e.rl.sl e.rl.b6 (by omega) h.ip h.li h.ri
    exact h.trees a b c (by omega)
   ·exact h.more
  refine⟨hw,ef.refl h.ac.inv,fY _,λw _=>?_⟩;show aF (if _ then M.W.kp else 0);split
  ·exact FY
  ·exact ix
 ·exact h.bad
def ZN(h:Kp s k M)(e:Basic M):jk s k M (M.child o):=by
 unfold bB.child;split
 ·have hz:=h.z
  have hw:Kp s (k+1) {M with W:=M.W.child o.a}:=by
   unfold a8.child;split
   ·obtain⟨a,b,c,d⟩:=FZ e.rl.sl e.rl.b6 (by omega) h.ip h.li h.ri
    exact h.trees a b c (by omega)
   ·exact h.more
  refine⟨hw,ef.refl h.ac.inv,fY _,λw _=>?_⟩;show aF (if _ then M.W.kp else 0);split
  ·exact FY
  ·exact ix
 ·exact h.bad
def ZV(h:Kp s k M)(I:k<=200):jk s k M M.tick:=by
 have cE:=h.cE;have al:=h.al;have tk:=h.tk;have jw:=h.jw;have r:=HY h.ac h.ts (h.Aj I) (by omega) h.tb (by omega) h.jw (by omega) (by omega);have hm:=h.more;have U:=r.cE;have a:=r.al;have b:=r.ag;have e:=r.tk;have c:=r.nx;have hlen:=r.eo.len;refine⟨⟨h.st,by show(M.X.tick.S.cs.length:Int)=_;rw[<-hlen];exact h.n,by show M.X.tick.S.cs.length<=12;omega,by show(M.X.tick.S.size:Int)=_;rw[r.sz];exact h.sz,h.z,r.ac,r.ts,r.pi _ h.ip,h.li.congr hlen.symm λi q hi d=>?_,h.ri,by show∀g∈M.X.tick.L.av.aX.b6,_;rw[r.sl];exact hm.gs,by show M.X.tick.S.br<=_;omega,by show M.X.tick.R.line.next<=_;rw[c];exact hm.nx,hm.wc,hm.vc,hm.vl,by show M.X.tick.Q.f'<=_;rw[b];exact hm.ag,by show M.X.tick.T.all.length<=_;rw[a];exact hm.al,by show 0<=M.X.tick.R.dx/\M.X.tick.R.dx<=_;omega,r.tb.mono (by omega)⟩,r.eo,by show _<=M.X.tick.R.dx;omega,λw _=>?_⟩
 ·show(M.X.tick.S.at' i).gen=_
  rw[r.at' i hi (h.ip.iy q i d).2.1]
 ·show aF (M.X.R.many:Nat)
  have:M.X.R.many<=M.X.R.line.xs.length:=by unfold Rec.many;omega
  have f:=h.ac.yA;have:=sS h.ac.inv;unfold aF;omega
end
end
section
open Go.XS Go.bn
section
variable {s:Setup}{k:Nat}{M:bB}{o:Op}
def Kp.H8(h:Kp s k M){c p:Int}{l:aO}{a:Int->aO}{W':a8}{V':Lv}(hf:M.X.L.bo c=0)(e:M.X.L.place c=p)(j:l.Nodup)(hl:∀i∈l,M.X.S.ok i=true/\(M.X.S.at' i).ph=1/\(M.X.S.at' i).own=p+1)(v:PI M.X.S a W'.rg)(hL:LI M.X.S s.z W' V')(w:RI s.z W')(y:W'.bw<=M.W.bw+2)(v1:V'.bw<=M.V.bw+1)(v2:V'.all.length<=M.V.all.length+1)(m:∀i∈l,(∀p,i∉a p)/\∀q,i∉(W'.rg q).xs):(aL.dH c p l {M.X with pu:=a}).2=0/\Kp s (k+1) ⟨M.s,(aL.dH c p l {M.X with pu:=a}).1,W',V'⟩/\ef M.X.S (aL.dH c p l {M.X with pu:=a}).1.S/\M.X.R.dx<=(aL.dH c p l {M.X with pu:=a}).1.R.dx:=by
 obtain⟨r,g⟩:=aaw l {M.X with pu:=a} h.ac hf e j hl;obtain⟨f1,f2,f3,f4,f5,f6⟩:=aL.yu c p l {M.X with pu:=a};generalize(aL.dH c p l {M.X with pu:=a})=Y at r g f1 f2 f3 f4 f5 f6
 have hlen:l.length<=12:=by have:=uZ j λi hi=>eQ.1 (hl i hi).1;have:=h.jw;omega
 have d:Y.1.S.cs.length=M.X.S.cs.length:=g.eo.len.symm;have hm:=h.more;have A:=h.cE;have B:=h.nx;have C:=h.wc;have D:=h.vc;have E:=h.vl;have f1:Y.1.S.br<=M.X.S.br+l.length:=f1;have f3:Y.1.R.line.next<=M.X.R.line.next+(l.length:Nat):=f3
 have o:Y.1.R.dx=M.X.R.dx:=g.tk;have t:Y.1.L.av.aX=M.X.L.av.aX:=g.sl;have u:∀i,M.X.S.ok i=true->i∉l->Y.1.S.at' i=M.X.S.at' i:=λi hi b=>g.at' i (eQ.1 hi).1 b;refine⟨r,⟨h.st,by show(Y.1.S.cs.length:Int)=_;rw[d];exact h.n,by show Y.1.S.cs.length<=_;rw[d];exact h.jw,by show(Y.1.S.size:Int)=_;rw[g.sz];exact h.sz,h.z,g.ac,?_,?_,?_,w,by show∀g∈Y.1.L.av.aX.b6,_;rw[t];exact hm.gs,by show Y.1.S.br<=_;omega,by show Y.1.R.line.next<=_;omega,by show W'.bw<=_;omega,by show V'.bw<=_;omega,by show V'.all.length<=_;omega,by show Y.1.Q.f'<=_;rw[f5];exact hm.ag,by show Y.1.T.all.length<=_;rw[f4];exact hm.al,by show 0<=Y.1.R.dx/\Y.1.R.dx<=_;rw[o];exact hm.tk,by show TB _ Y.1.T;rw[f4];exact hm.tb⟩,g.eo,by rw[o];exact fY _⟩
 ·show TS Y.1.L Y.1.T Y.1.Q
  rw[f4,f5];exact h.ts.congr (by unfold bG.ks;rw[t]) g.ux
 ·show PI Y.1.S Y.1.pu W'.rg
  rw[f6];refine v.congr d λi hi x=>?_
  rw[u i hi λb=>by
   obtain⟨n1,n2⟩:=m i b;rcases x with⟨p,e⟩|⟨q,f⟩
   ·exact n1 p e
   ·exact n2 q f]
  exact⟨rfl,rfl⟩
 ·show LI Y.1.S s.z W' V'
  refine hL.congr d λi q hi f=>?_;rw[u i hi λb=>(m i b).2 q f]
def Au{X:aL}{c:Int}(h:X.fi c=0):X.L.bo c=0:=by
 unfold aL.fi at h;split at h
 ·assumption
 ·rename_i a;exact absurd h a
def ZQ(h:Kp s k M):jk s k M (M.eL o):=by
 unfold bB.eL;unfold aL.xd;split
 ·rename_i hi
  split
  ·exact h.bad
  ·split
   ·exact h.bad
   ·rename_i l m
    have hf:=Au hi;generalize g:M.X.L.place o.a=p at*;have e:∀i∈(M.X.pu p).take o.b.toNat,i∈M.X.pu p:=λi hi=>kH hi
    have j:∀i∈(M.X.pu p).take o.b.toNat,(∀q,i∉b2 M.X.pu p ((M.X.pu p).drop o.b.toNat) q)/\∀q,i∉(M.W.rg q).xs:=λi hi=>by
     refine⟨λq d=>?_,λq d=>(h.ip.iy q i d).2.2.2 p (e i hi)⟩;unfold b2 at d;split at d
     ·have f:=h.ip.pn p
      rw[<-j6 o.b.toNat (M.X.pu p),dZ]at f;exact f.2.2 i hi i d rfl
     ·rename_i n
      have U:=(h.ip.ip p i (e i hi)).2.2;have t:=(h.ip.ip q i d).2.2;omega
    obtain⟨r,a,b,c⟩:=h.H8 hf g ((h.ip.pn p).sublist (CU _ _)) (λi hi=>h.ip.ip p i (e i hi)) (h.ip.cut _) h.li h.ri (by omega) (by omega) (by omega) j;exact⟨a,b,c,λ_ _=>ix⟩
 ·exact h.bad
def ZP(h:Kp s k M)(m:Basic M):jk s k M (M.free o):=by
 have hz:=h.z;unfold bB.free;split
 ·rename_i he
  have hf:M.W.bo o.a=0:=by
   unfold bB.j2 at he;split at he
   ·assumption
   ·rename_i g;exact absurd he g
  obtain⟨a,b,c,d,e⟩:=Ux m.rl (by omega) h.ip h.li h.ri;obtain⟨v1,v2,v3⟩:=ED (M.W.under (gP o.a)) M.V;have e:=e hf
  have hlen:aF ((M.W.under (gP o.a)).length:Nat):=by
   have:=H5 (p:=gP o.a) m.rl λq=>by have:=uZ (h.ip.rn q) λi hi=>eQ.1 (h.ip.iy q i hi).1;have:=h.jw;show(M.W.rg q).xs.length<=12;omega
   unfold aF;omega
  generalize hl:M.W.under (gP o.a)=l at*
  have g:∀w,0<=w/\w<=9223372036854775807->aF ((e7.of ⟨M.s,M.X.lv (M.dp o.a) l,M.W.free o.a,l.foldl Lv.drop M.V⟩ (M.X.uQ (M.dp o.a) l) (l.length:Nat)).n w):=λw _=>by
   show aF (if _ then _ else _);split
   ·exact hlen
   ·exact ix
  have t:Kp s (k+1) ⟨M.s,M.X,M.W.free o.a,l.foldl Lv.drop M.V⟩:=by have hm:=h.more;have:=h.vc;have:=h.vl;have:=h.wc;exact⟨hm.st,hm.n,hm.jw,hm.sz,hm.z,hm.ac,hm.ts,a,b,c,hm.gs,hm.cE,hm.nx,by show(M.W.free o.a).bw<=_;omega,by show(l.foldl Lv.drop M.V).bw<=_;omega,by show(l.foldl Lv.drop M.V).all.length<=_;omega,hm.ag,hm.al,hm.tk,hm.tb⟩
  by_cases hi:M.X.fi (M.dp o.a)=0
  ·by_cases f:M.X.j1 (M.X.L.place (M.dp o.a)) l=true
   ·have ex:M.X.lv (M.dp o.a) l=(aL.dH (M.dp o.a) (M.X.L.place (M.dp o.a)) l M.X).1:=by unfold aL.lv;rw[ah hi,ah f]
    unfold aL.j1 at f;simp only[b9,bz,ig,gB]at f;have u:=Au hi
    have D:0<=M.X.L.place (M.dp o.a):=by obtain⟨_,_,_,hr,v,A⟩:=p6 u;rw[v];exact(h.ac.sl.lt (mQ h.ac.sl A)).1
    have B:∀i∈l,M.X.S.ok i=true/\(M.X.S.at' i).ph=1/\(M.X.S.at' i).own=M.X.L.place (M.dp o.a)+1:=λi hi=>by
     have j:=(f.2 i hi).1;unfold aL.cE at j;split at j
     ·rename_i aP
      have:=h.ac.inv.cE aP;refine⟨aP,tE λC=>?_,j⟩;have:=this.2.2.1 C;omega
     ·have:bA.zero.own=0:=rfl
      omega
    obtain⟨r,x,y,z⟩:=h.H8 u rfl f.1 B a b c (by omega) (by omega) (by omega) λi hi=>⟨(e i hi).2,(e i hi).1⟩;exact⟨by rw[ex];exact x,by show ef _ (M.X.lv (M.dp o.a) l).S;rw[ex];exact y,by show _<=(M.X.lv (M.dp o.a) l).R.dx;rw[ex];exact z,g⟩
   ·have ex:M.X.lv (M.dp o.a) l=M.X:=by unfold aL.lv;rw[ah hi,ak f]
    refine⟨by rw[ex];exact t,by show ef _ (M.X.lv (M.dp o.a) l).S;rw[ex];exact ef.refl h.ac.inv,by show _<=(M.X.lv (M.dp o.a) l).R.dx;rw[ex];exact fY _,g⟩
  ·have ex:M.X.lv (M.dp o.a) l=M.X:=by unfold aL.lv;rw[ak hi]
   refine⟨by rw[ex];exact t,by show ef _ (M.X.lv (M.dp o.a) l).S;rw[ex];exact ef.refl h.ac.inv,by show _<=(M.X.lv (M.dp o.a) l).R.dx;rw[ex];exact fY _,g⟩
 ·exact h.bad
def FJ{M1:bB}(h:Kp s k M)(p:Basic M)(e:∃f,M1.X={M.X with pu:=f})(hs:M1.s=M.s)(j:M1.V=M.V)(g:PI M.X.S M1.X.pu M1.W.rg)(hL:LI M.X.S s.z M1.W M.V)(m:RI s.z M1.W)(hc:M1.W.bw<=M.W.bw+1):jk s k M (M1.laid o):=by
 obtain⟨f,e⟩:=e;obtain⟨s1,v,W1,x⟩:=M1;simp only at e hs j g hL m hc;subst hs j e;have hz:M.s.z=s.z:=by rw[h.st]
 have hm:=h.more;have y:=h.wc;have A:=h.vc;have B:=h.vl;obtain⟨a,b,c,d⟩:=U7 g hL m;unfold bB.laid;simp only;rw[hz];by_cases he:W1.e9 o.a o.b o.c s.z=0
 ·rw[ah he]
  obtain⟨f1,f2,f3,f4,f5⟩:=U6 he
  have q:((W1.lay o.a o.b o.c s.z).rg (gP o.a)).xs=(W1.rg (gP o.a)).xs:=by unfold a8.lay;rw[ah he];show(b2 W1.rg (gP o.a) _ (gP o.a)).xs=_;unfold b2;rw[ah rfl]
  have r:(W1.lay o.a o.b o.c s.z).bo o.a=0:=by unfold a8.lay;rw[ah he];exact f1
  have aP:=(g.iy _ _ f2).1;have t:({M.X with pu:=f}:aL).cE (W1.gM o.a o.b o.c s.z)=M.X.S.at' (W1.gM o.a o.b o.c s.z):=by unfold aL.cE;rw[ah aP]
  rw[t];obtain⟨v1,v2,v3⟩:=aaA (l:=⟨W1.gM o.a o.b o.c s.z,(M.X.S.at' (W1.gM o.a o.b o.c s.z)).gen,o.a,W1.js o.a o.b o.c s.z,o.b⟩) p.vs a b r (by rw[q];exact f2) rfl f3 f4 f5;refine⟨⟨hm.st,hm.n,hm.jw,hm.sz,hm.z,hm.ac,hm.ts,a,v1,c,hm.gs,hm.cE,hm.nx,by show(W1.lay o.a o.b o.c s.z).bw<=_;omega,by show(M.V.add _).bw<=_;omega,by show(M.V.add _).all.length<=_;omega,hm.ag,hm.al,hm.tk,hm.tb⟩,ef.refl h.ac.inv,fY _,λw _=>?_⟩;show aF (if _ then eM 3 _ _ _ else 0);split
  ·rename_i i
   unfold Lv.gp Lv.si at i;split at i
   ·rename_i u
    simp only[b9,bz,small]at u;exact xf (by unfold fS;repeat rw[ak (by omega)])
   ·cases i
  ·exact ix
 ·rw[ak he]
  refine⟨⟨hm.st,hm.n,hm.jw,hm.sz,hm.z,hm.ac,hm.ts,a,b,c,hm.gs,hm.cE,hm.nx,by show(W1.lay o.a o.b o.c s.z).bw<=_;omega,hm.vc,hm.vl,hm.ag,hm.al,hm.tk,hm.tb⟩,ef.refl h.ac.inv,fY _,λw _=>ix⟩
def UI{L:bG}{p:Int}(b:L.av.Ok)(c:L.av.aX.Ok)(d:GS L.av.aX)(h:L.bo (L.handle p)=0):p∈L.ks/\L.place (L.handle p)=p:=by
 have a:p∈L.ks:=by
  refine tE λf=>?_
  have h0:L.handle p=0:=by unfold bG.handle;rw[ah];rw[uG];intro m hm;obtain⟨q,g,rfl⟩:=bQ.1 hm;show(q==p)=false;rw[r7];exact λe=>f (e▸g)
  rw[h0]at h;exact absurd h (by unfold bG.bo;rw[ak (by rintro⟨U,_⟩;exact absurd U (by decide))];decide)
 exact⟨a,(Fj b c d a).2.1⟩
def ZR(h:Kp s k M)(t:Basic M)(I:k<=200):jk s k M (M.sP o):=by
 have hz:=h.z;unfold bB.sP;split
 ·rename_i he
  have hf:M.W.bo o.a=0:=by
   unfold bB.j2 at he;split at he
   ·assumption
   ·rename_i B;exact absurd he B
  have hC:M.dp o.a=M.X.L.handle (M.W.rg (gP o.a)).aM:=by unfold bB.dp;rw[ah hf]
  have u:M.X.fi (M.dp o.a)=0:=by unfold bB.j2 at he;rw[ah hf]at he;rw[hC];exact he
  have m:=(UI h.ac.av h.ac.sl (h.Aj I) (by rw[<-hC];exact Au u)).2;rw[<-hC]at m;split
  ·split
   ·rename_i g
    have r:M.X.nS (M.dp o.a)=M.X.cut (M.X.L.place (M.dp o.a)) 1:=by unfold aL.nS;rw[ah g]
    have C:M.X.mY (M.dp o.a)=(M.X.pu (M.X.L.place (M.dp o.a))).headD 0:=by unfold aL.mY;rw[ah g]
    have v:M.X.pu (M.X.L.place (M.dp o.a))≠[]:=by
     unfold aL.ql at g;rw[ah u]at g;split at g
     ·cases g
     ·assumption
    rw[r,C,m];rw[m]at v;generalize D:(M.W.rg (gP o.a)).aM=p at*
    cases l:M.X.pu p with
    |nil=>exact absurd l v
    |cons i xs=>
     have x:i∈M.X.pu p:=by rw[l];exact kG
     obtain⟨E,i2,i3⟩:=h.ip.ip p i x;have y:=h.ip.cut (p:=p) 1;show jk s k M (if M.W.gp o.a i=0 then _ else _);rw[l]at y
     have F:∀q,i∉b2 M.X.pu p (List.drop 1 (i::xs)) q:=λq j=>by
      unfold b2 at j;split at j
      ·have A:=h.ip.pn p
       rw[l,fp]at A;exact A.1 j
      ·rename_i J
       have:=(h.ip.ip q i j).2.2;omega
     have G:∀q,i∉(M.W.rg q).xs:=λq j=>(h.ip.iy q i j).2.2.2 p x;obtain⟨a,b,c,d,e,f⟩:=Kk (by omega) y h.li h.ri E i2 (λ_=>by rw[D];exact i3) F G;have H:(M.X.cut p 1)={M.X with pu:=b2 M.X.pu p (List.drop 1 (i::xs))}:=by show{M.X with pu:=b2 M.X.pu p ((M.X.pu p).drop 1)}=_;rw[l]
     rw[H];split
     ·exact FJ h t ⟨_,rfl⟩ rfl rfl a b c (by show(M.W.add o.a i).bw<=_;omega)
     ·have hm:=h.more
      have K:=h.wc;refine⟨⟨hm.st,hm.n,hm.jw,hm.sz,hm.z,hm.ac,hm.ts,a,b,c,hm.gs,hm.cE,hm.nx,by show(M.W.add o.a i).bw<=_;omega,hm.vc,hm.vl,hm.ag,hm.al,hm.tk,hm.tb⟩,ef.refl h.ac.inv,fY _,λw _=>ix⟩
   ·rename_i g
    have r:M.X.nS (M.dp o.a)=M.X:=by unfold aL.nS;rw[ak g]
    rw[r];exact h.bad
  ·exact FJ h t ⟨M.X.pu,rfl⟩ rfl rfl h.ip h.li h.ri (by omega)
 ·exact h.bad
def AS.same{L:bG}{S S':aH}{N:ea}{i:Int}{c':bA}(h:AS L S N)(st:S.Step S' i c')(U:c'.ph=(S.at' i).ph)(d:c'.own=(S.at' i).own):AS L S' N:=by
 have hc:∀f:bA->Bool,f c'=f (S.at' i)->S'.cs.countP f=S.cs.countP f:=λf hf=>by have:=st.count f;rw[hf]at this;omega
 have g:∀j,S.ok j=true->(S'.at' j).ph=(S.at' j).ph:=λj k=>by
  by_cases e:j=i
  ·subst e;rw[st.sq,U]
  ·rw[st.jR (eQ.1 k).1 e]
 refine⟨st.inv,h.av,h.sl,h.lU,by rw[st.len];exact h.ch,by rw[st.len];exact h.n,λj=>?_,h.keys,λp l=>?_,λz hz c=>?_,?_⟩
 ·rw[h.ln,st.gf]
  exact⟨λ⟨a,b⟩=>⟨a,by rw[g j a];exact b⟩,λ⟨a,b⟩=>⟨a,by rw[<-g j a];exact b⟩⟩
 ·rw[hc _ (by rw[d])];exact h.held p l
 ·rw[st.cs]at hz
  rcases j5 hz with hz|rfl
  ·exact h.own z hz c
  ·rw[d]at c⊢
   exact h.own _ (cz (aH.hQ st.ok).1) c
 ·have m:S'.many 0=S.many 0:=hc _ (by rw[U])
  have o:S'.many 2=S.many 2:=hc _ (by rw[U]);rw[m,o];exact h.safe
def Vv{S:aH}{i g:Int}(h:S.jt i g=0):S.ok i=true/\(S.at' i).ph=1/\(S.at' i).gen=g:=by
 unfold aH.jt at h;split at h
 ·rename_i aP
  split at h
  ·rename_i a;exact⟨aP,a.1,a.2⟩
  ·cases h
 ·cases h
def Xo{s:Setup}{k:Nat}{M:bB}{i g a:Int}{t:List UInt8}(h:Kp s k M)(c:(M.X.S.put i g a t).Inv):Kp s (k+1) {M with X:={M.X with S:=M.X.S.put i g a t}}/\ef M.X.S (M.X.S.put i g a t):=by
 by_cases hl:M.X.S.jt i g=0
 ·obtain⟨U,l,m⟩:=Vv hl
  have e:M.X.S.put i g a t=⟨M.X.S.size,M.X.S.cs.set i.toNat (l6 (M.X.S.at' i) a t),M.X.S.free,M.X.S.br+1⟩:=by unfold aH.put;rw[ah hl]
  rw[e]at c⊢;have st:M.X.S.Step ⟨M.X.S.size,M.X.S.cs.set i.toNat (l6 (M.X.S.at' i) a t),M.X.S.free,M.X.S.br+1⟩ i (l6 (M.X.S.at' i) a t):=⟨U,rfl,rfl,rfl,c⟩;generalize(⟨M.X.S.size,M.X.S.cs.set i.toNat (l6 (M.X.S.at' i) a t),M.X.S.free,M.X.S.br+1⟩:aH)=S' at st c
  have d:∀j,M.X.S.ok j=true->(S'.at' j).ph=(M.X.S.at' j).ph/\(S'.at' j).own=(M.X.S.at' j).own/\(S'.at' j).gen=(M.X.S.at' j).gen:=λj b=>by
   by_cases e:j=i
   ·subst e;rw[st.sq];exact⟨rfl,rfl,rfl⟩
   ·rw[st.jR (eQ.1 b).1 e];exact⟨rfl,rfl,rfl⟩
  have hm:=h.more;have:=h.cE;have o:=st.cE;have f:=h.ac.inv.cE U;refine⟨⟨h.st,by show(S'.cs.length:Int)=_;rw[st.len];exact h.n,by show S'.cs.length<=_;rw[st.len];exact h.jw,by show(S'.size:Int)=_;rw[st.sz];exact h.sz,h.z,h.ac.same st rfl rfl,h.ts,h.ip.congr st.len λj b _=>⟨(d j b).1,(d j b).2.1⟩,h.li.congr st.len λj q b _=>(d j b).2.2,h.ri,hm.gs,by show S'.br<=_;omega,hm.nx,hm.wc,hm.vc,hm.vl,hm.ag,hm.al,hm.tk,hm.tb⟩,st.eo h.ac.inv (i6.refl f.1 f.2.2.2.2.1)⟩
 ·have e:M.X.S.put i g a t=M.X.S:=by unfold aH.put;rw[ak hl]
  rw[e];exact⟨h.more,ef.refl h.ac.inv⟩
def ZW(h:Kp s k M)(c:Basic (M.write o).M):jk s k M (M.write o):=by
 unfold bB.write at c⊢;split
 ·rename_i U
  rw[ah U]at c;split
  ·rename_i e
   rw[ah e]at c;have d:(nM M.X.S M.V o.a o.b o.text).Inv:=c.inv
   have key:Kp s (k+1) {M with X:={M.X with S:=nM M.X.S M.V o.a o.b o.text}}/\ef M.X.S (nM M.X.S M.V o.a o.b o.text):=by
    unfold nM at d⊢;split
    ·rename_i f
     rw[ah f]at d;exact Xo h d
    ·exact⟨h.more,ef.refl h.ac.inv⟩
   exact⟨key.1,key.2,fY _,λ_ _=>ix⟩
  ·exact h.bad
 ·exact h.bad
def ZO(h:Kp s k M)(c:Basic M)(b:Basic (M.da o).M)(I:k<=200):jk s k M (M.da o):=by
 unfold bB.da at b⊢;by_cases d:o.kind=1
 ·rw[ah d]at b⊢
  exact ZS h
 rw[ak d]at b⊢;by_cases e:o.kind=2
 ·rw[ah e]at b⊢
  exact ZT h I
 rw[ak e]at b⊢;by_cases f:o.kind=3
 ·rw[ah f]at b⊢
  exact ZL h I
 rw[ak f]at b⊢;by_cases g:o.kind=4
 ·rw[ah g]at b⊢
  exact ZM h
 rw[ak g]at b⊢;by_cases i:o.kind=5
 ·rw[ah i]at b⊢
  exact ZU h c
 rw[ak i]at b⊢;by_cases j:o.kind=6
 ·rw[ah j]at b⊢
  exact ZN h c
 rw[ak j]at b⊢;by_cases l:o.kind=7
 ·rw[ah l]at b⊢
  exact ZR h c I
 rw[ak l]at b⊢;by_cases m:o.kind=8
 ·rw[ah m]at b⊢
  exact ZP h c
 rw[ak m]at b⊢;by_cases n:o.kind=9
 ·rw[ah n]at b⊢
  exact ZQ h
 rw[ak n]at b⊢;by_cases p:o.kind=10
 ·rw[ah p]at b⊢
  exact ZW h b
 rw[ak p]at b⊢;by_cases q:o.kind=11
 ·rw[ah q]at b⊢
  exact h.same rfl λ_ _=>ix
 rw[ak q]at b⊢;by_cases r:o.kind=12
 ·rw[ah r]at b⊢
  exact ZV h I
 rw[ak r]at b⊢;by_cases t:o.kind=13
 ·rw[ah t]
  unfold bB.vv;split
  ·split
   ·exact h.same rfl λ_ _=>ix
   ·exact h.bad
  ·exact h.bad
 rw[ak t];by_cases u:o.kind=14
 ·rw[ah u]
  refine h.same rfl λw hw=>?_;show aF (if M.X.L.bo o.a=0 then w else 0);split
  ·unfold aF;omega
  ·exact ix
 rw[ak u];exact h.bad
end
end
section
open Go.XS Go.bn
def Wq{l:aO}(h:l.Nodup)(x:Int):l.countP (·==x)=if x∈l then 1 else 0:=by
 induction l with
 |nil=>rfl
 |cons y l b=>
  rw[fp]at h;rw[py,b h.2];by_cases e:y=x
  ·subst e
   rw[ak h.1,ah (by simp),ah kG]
  ·rw[ak (show¬((y==x)=true)from by simpa using e)]
   by_cases a:x∈l
   ·rw[ah a,ah (iJ _ a)]
   ·rw[ak a,ak λh=>(cR.1 h).elim (λc=>e c.symm) a]
def Z5{α:Type}(l:List α)(p:α->Bool)(f:α->Int):((l.filter p).map f).sum=(l.map λa=>if p a=true then f a else 0).sum:=by
 induction l with
 |nil=>rfl
 |cons a l b=>
  rw[c4,jK,<-b];by_cases h:p a=true
  ·rw[mr h,c4,jK,ah h]
  ·rw[mq h,ak h];omega
def Uj{α β:Type}{l:List α}{f:α->List β}{n:Nat}(h:∀a∈l,(f a).length<=n):(l.flatMap f).length<=l.length*n:=by
 induction l with
 |nil=>simp
 |cons a l c=>rw[gz,cr,dd,pE];have:=c λb d=>h b (iJ _ d);have:=h a kG;omega
section
variable {s:Setup}{k:Nat}{M:bB}{o:Op}
def W9{L:bG}{T:a6}{Q:Qu}(a:TS L T Q):T.cZ.length<=T.all.length:=by
 rw[a6.xP];have b:=l7 a.ps
 have:((bb T.bD).map λi=>i-1).Nodup:=by apply mw.2;rw[lD];exact(mw.1 b).imp λc e=>c (by omega)
 have:=uZ (N:=T.all.length) this λi hi=>by obtain⟨j,d,rfl⟩:=bQ.1 hi;have:=hx.1 ((a.tk j).1 d).1;omega
 rw[fe,fe]at this;exact this
def U3{V:Lv}{l:Ld}(h:l∈V.oM):∃e∈V.all,∃pc∈e.2.ps,l=⟨e.1,e.2.gen,pc.bT,pc.at',pc.len⟩:=by obtain⟨e,he,hl⟩:=lC.1 h;obtain⟨pc,a,rfl⟩:=bQ.1 hl;exact⟨e,he,pc,a,rfl⟩
def Kp.own(h:Kp s k M){e:Int×Lk}{q:Int}(a:e.1∈(M.W.rg q).xs):lY M.X.S.cs e.1=(M.W.rg q).aM+1:=(h.ip.iy q e.1 a).2.2.1
def Kp.snd(h:Kp s k M)(r:Basic M)(I:k<=200):ik s M.snap:=by
 have cE:=h.cE;have al:=h.al;have jw:=h.jw;have vl:=h.vl;have vc:=h.vc;have z:=h.z
 have C:cC M.X.S.cs 3=0:=by unfold cC;rw[vM];intro c hc g;have:=(h.ac.inv.ph c hc).1;simp only[gB]at g;omega
 have u:∀m∈M.X.L.av.members,m.1∈M.X.L.ks/\m=(m.1,M.X.L.av.at' m.1):=λm hm=>by obtain⟨q,v,rfl⟩:=bQ.1 hm;exact⟨v,rfl⟩
 have B:∀q∈M.X.L.ks,∃m∈M.X.L.av.members,m.1=q:=λq v=>⟨(q,M.X.L.av.at' q),bQ.2 ⟨q,v,rfl⟩,rfl⟩;refine⟨h.n,by show M.X.S.cs.length<=_;omega,?_,?_,?_,?_,λi c hc=>?_,λi hi=>?_,?_,λm hm=>?_,λc hc D=>?_,?_,λt E=>?_,λm hm=>?_,?_,by omega,λl hl=>?_,?_⟩
 ·show M.X.R.line.xs.length<=1000
  have:=h.ac.yA;have:=sS h.ac.inv;omega
 ·show M.X.L.av.members.length<=1000
  have:=bK.uM h.ac.av h.ac.sl;rw[M.X.L.av.uU];omega
 ·show M.X.T.cZ.length<=1000
  have:=W9 h.ts;omega
 ·show M.V.oM.length<=100000
  have U:∀e∈M.V.all,(eO e.1 e.2).length<=200:=λe he=>by have:=(r.Ia e he).1.len;unfold eO;rw[fe];omega
  have f:=Uj U;have g:M.V.all.length*200<=200*200:=jM _ (by omega);have:M.V.oM.length<=M.V.all.length*200:=f;omega
 ·have hc:M.X.S.cs[i]?=some c:=hc
  have hi:=(b0.1 hc).1;have aP:M.X.S.ok (i:Int)=true:=eQ.2 ⟨by omega,by omega⟩;have w:M.X.S.at' (i:Int)=c:=by unfold aH.at';rw[ei,a7,hc];rfl
  have I:=h.ac.inv.cE aP;rw[w]at I;refine⟨?_,?_⟩
  ·unfold lW
   rw[cB (by omega),e5];split
   ·rename_i U;exact cB (by have:=I.2.2.2.1 U;omega)
   ·rename_i U;exact cB ⟨by omega,I.2.2.1 U⟩
  ·show M.X.R.line.xs.countP _=_
   rw[Wq h.ac.lU];by_cases e:c.ph=2
   ·rw[ah ((h.ac.ln _).2 ⟨aP,by rw[w];exact e⟩),ah e]
   ·rw[ak λhm=>e (by have:=((h.ac.ln _).1 hm).2;rwa [w]at this),ak e]
 ·exact eQ.1 ((h.ac.ln i).1 hi).1
 ·show(M.X.L.av.members.map (·.1)).Pairwise _
  unfold bK.members;rw[nj]
  have:(bb M.X.L.av.aX.cP).map ((λx:Mem=>x.1)∘λp=>(p,M.X.L.av.at' p))=bb M.X.L.av.aX.cP:=by rw[show((λx:Mem=>x.1)∘λp=>(p,M.X.L.av.at' p))=id from rfl,List.map_id]
  rw[this];exact h.ac.sl.bV
 ·obtain⟨U,f⟩:=u m hm
  have g:=h.ac.sl.lt (mQ h.ac.sl U);rw[h.ac.av.n]at g;rw[f];exact⟨g.1,by show m.1<=63;omega,(pP h.ac.av h.ac.keys U).1,(h.ac.held m.1 U).symm⟩
 ·exact B _ (h.ac.own c hc D)
 ·show(M.X.T.cZ.map (·.id)).Pairwise _
  unfold a6.cZ;rw[nj];have:(bb M.X.T.bD).map ((λx:Tk=>x.id)∘M.X.T.at')=(bb M.X.T.bD).map id:=hX λj o=>h.ts.tid j ((h.ts.tk j).1 o).1;rw[this,List.map_id];exact h.ts.ps
 ·obtain⟨j,o,rfl⟩:=bQ.1 E
  obtain⟨a,b⟩:=h.ts.tr j o;exact⟨a,((h.ts.tk j).1 o).2,B _ b⟩
 ·obtain⟨U,f⟩:=u m hm
  rw[f];show((M.X.T.cZ.filter λt=>t.aM==m.1).map (·.count)).sum=(M.X.L.av.at' m.1).cf;rw[h.ts.cf m.1 U,Z5];unfold pY a6.cZ;rw[nj];congr 1;refine hX λj _=>?_;show(if((M.X.T.at' j).aM==m.1)=true then _ else _)=_;by_cases e:(M.X.T.at' j).aM=m.1
  ·rw[ah e,ah (by simpa using e)]
  ·rw[ak e,ak (by simpa using e)]
 ·show jA ((cC M.X.S.cs 0:Int)+cC M.X.S.cs 2+cC M.X.S.cs 3) M.X.L.av.members=true
  have U:=sS h.ac.inv;have F:cC M.X.S.cs 0=M.X.S.many 0:=rfl;have G:cC M.X.S.cs 2=M.X.S.many 2:=rfl;rw[C,F,G];refine Ys (by omega) (λm hm=>?_) ?_
  ·obtain⟨U,f⟩:=u m hm
   rw[f];exact(pP h.ac.av h.ac.keys U).1
  ·rw[Gk]
   have:=h.ac.safe;simpa using this
 ·obtain⟨e,he,pc,H,rfl⟩:=U3 hl
  obtain⟨a,b,q,c,d⟩:=h.li e he;obtain⟨d1,d2,d3,d4,d5⟩:=d pc H;exact⟨(eQ.1 a).1,d3,d4,d5,M.X.S.at' e.1,(aH.hQ a).1,(h.ip.iy q e.1 c).2.1,b.symm⟩
 ·show M.V.oM.Pairwise _
  rw[IP];refine⟨λe he=>?_,?_⟩
  ·unfold eO
   rw[lD];have J:=(r.Ia e he).1.R;have:=EG J;unfold Lk.ss at this;rw[lD]at this;refine this.imp λ{a b} K=>⟨λ_=>?_,λ_=>rfl⟩;unfold ja
   have N:¬(a.at'<b.at'+b.len/\b.at'<a.at'+a.len):=λaa=>by have:a.at'+a.len<=b.at':=K;omega
   show(_&&_&&decide (a.at'<b.at'+b.len/\b.at'<a.at'+a.len))=false;rw[cD N,Cz]
  ·have hs:=r.vs
   unfold bS eu bb at hs;rw[lD]at hs;refine hs.imp_of_mem λ{e A} he O ab x P y Q=>?_;obtain⟨p1,W,rfl⟩:=bQ.1 P;obtain⟨p2,Y,rfl⟩:=bQ.1 Q;obtain⟨_,_,q1,c1,d1⟩:=h.li e he;obtain⟨_,_,q2,c2,d2⟩:=h.li A O;refine⟨λhc=>?_,λhr=>?_⟩
   ·have hc:e.1=A.1:=hc
    omega
   ·have hr:p1.bT=p2.bT:=hr
    have g1:=(d1 p1 W).1;have g2:=(d2 p2 Y).1;have Z:q1=q2:=by rw[<-g1,<-g2,hr]
    show lY M.X.S.cs e.1=lY M.X.S.cs A.1;rw[h.own c1,h.own c2,Z]
def Kp.new(n m q:Nat)(U:s.c=n)(j:s.z=m)(A:s.q=q)(k:1<=n)(dJ:n<=12)(l:64<=m)(h5:m<=256):Kp s 0 ⟨s,aL.new n m q,a8.new,Lv.new⟩:=by
 have o:(ht n 0).Nodup:=by unfold ht;apply mw.2;rw[lD];rw[List.pairwise_reverse];exact(mw.1 (List.nodup_range')).imp λr e=>r (by omega)
 have hinv:=(uV (n:=n) (size:=m) (tb:=0) (fb:=0) (cb:=0) (kb:=0) k (by omega) l (by omega) o).inv;have hlen:(aH.new n m).cs.length=n:=jG
 have hz:∀i,(aH.new n m).at' i=bA.zero:=λi=>by
  unfold aH.at' aH.new;simp only[ei,r0];split
  ·rfl
  ·rfl
 have b:∀i,a6.has a6.new i=false:=λi=>by unfold a6.has;exact cD (by simp;omega)
 have t:AS ⟨n,bK.new⟩ (aH.new n m) ⟨n,[],0⟩:=by
  refine⟨hinv,⟨rfl,?_,List.Pairwise.nil⟩,aV.uV (by omega),tN,?_,?_,λi=>?_,rfl,?_,λc hc f=>?_,.nil _⟩
  ·intro e he;cases he
  ·show(n:Int)=((aH.new n m).cs.length:Nat)
   rw[hlen]
  ·show n=(aH.new n m).cs.length
   rw[hlen]
  ·rw[hz]
   refine Iff.intro (λh=>?_) λh=>?_
   ·cases h
   ·cases h.2
  ·intro p a;cases a
  ·have hc:c∈List.replicate n bA.zero:=hc
   rw[(List.mem_replicate.1 hc).2]at f;exact absurd f (by decide)
 have u:TS ⟨n,bK.new⟩ a6.new ⟨[],0⟩:=by
  refine⟨List.Pairwise.nil,λi=>?_,λi hi=>?_,?_,rfl,?_⟩
  ·rw[b]
   refine Iff.intro (λh=>?_) λh=>?_
   ·cases h
   ·cases h.1
  ·rw[b]at hi;cases hi
  ·intro p a;cases a
  ·intro p a;cases a
 have v:PI (aH.new n m) (λ_=>[]) (λ_=>vh):=by
  refine⟨?_,λ_=>tN,?_,λ_=>tN,?_⟩
  ·intro p i a;cases a
  ·intro p i a;cases a
  ·intro p q i a;cases a
 have w:LI (aH.new n m) s.z a8.new Lv.new:=by intro e he;cases he
 have x:RI s.z a8.new:=⟨λq y=>absurd rfl y,λq=>⟨fY _,by show(0:Int)<=s.z;omega⟩⟩;refine⟨rfl,?_,?_,j.symm,by omega,t,u,v,w,x,λg d=>?_,d' _,fY _,d' _,d' _,d' _,d' _,d' _,⟨fY _,fY _⟩,λi hi=>?_⟩
 ·show((aH.new n m).cs.length:Int)=_
  rw[hlen];exact U.symm
 ·show(aH.new n m).cs.length<=_
  rw[hlen];exact dJ
 ·have d:g∈List.replicate 64 (0:Int):=d
  rw[(List.mem_replicate.1 d).2];exact⟨fY _,fY _⟩
 ·have hi:a6.has a6.new i=true:=hi
  rw[b]at hi;cases hi
def keeps(s:Setup):wh s (Kp s):=by
 refine⟨λn m q U e f g dJ j h5 _ _=>Kp.new n m q U e f g dJ j h5,λk M I d h=>h.fit d (by omega),λk M I d h=>⟨h.snd d (by omega),λm hm=>?_,λi c hc=>?_⟩,λk M o I d l h _ _=>?_⟩
 ·obtain⟨q,p,rfl⟩:=bQ.1 hm
  have:=(pP h.ac.av h.ac.keys p).1;unfold bZ at this;simp only[bz]at this;show(M.X.L.av.at' q).held+(M.X.L.av.at' q).cf<=(M.X.L.av.at' q).dG;omega
 ·exact(h.ac.inv.ph c (cz hc)).1
 ·have r:=ZO h d l (by omega)
  exact⟨r.uH,⟨r.tk,r.eo.len,λi a b ha t=>r.eo.eo i a b ha t⟩,r.n⟩
end
end
end Go.Proofs.YtlmgompopkamfaaGreatDoor
namespace Go.Proofs
open Go.Shelf
def Tryz.FM:Go.Shelf.Ren:=⟨λ|169=>74|n=>n,λ|70=>177|9=>9|0=>0|72=>180|37=>178|127=>280|3=>3|5=>5|n=>n,λ|n=>n⟩
def Tryz.Ve:Go.Proofs.Lays.n169 Tryz.prog Tryz.FM:={
 mixed:=by kernel_rfl
 f169:=XS.bu func74
 t0:=Tryz.underlying0
 a0:=Tryz.isAgg0
 z0:=Tryz.sizeOf0
 v0:=Tryz.zeroValue0
 t3:=Tryz.underlying3
 a3:=Tryz.isAgg3
 z3:=Tryz.sizeOf3
 v3:=Tryz.zeroValue3
 t9:=Tryz.underlying9
 a9:=Tryz.isAgg9
 z9:=Tryz.sizeOf9
 v9:=Tryz.zeroValue9
 t37:=Tryz.underlying178
 a37:=Tryz.isAgg178
 z37:=Tryz.sizeOf178
 v37:=Tryz.zeroValue178
 t70:=Tryz.underlying177
 a70:=Tryz.isAgg177
 z70:=Tryz.sizeOf177
 v70:=Tryz.zeroValue177
 t72:=Tryz.underlying180
 a72:=Tryz.isAgg180
 z72:=Tryz.sizeOf180
 v72:=Tryz.zeroValue180
 t127:=Tryz.underlying280
 a127:=Tryz.isAgg280
 z127:=Tryz.sizeOf280
 v127:=Tryz.zeroValue280}
def Tryz.IZ:Builder.Extra Tryz.prog Tryz.FM:={
 sizeBuilder:=by kernel_rfl
 liesBuilder:=by kernel_rfl
 t5:=Tryz.underlying5
 a5:=Tryz.isAgg5
 z5:=Tryz.sizeOf5
 v5:=Tryz.zeroValue5
 infoByte:=by kernel_rfl
 cellsByte:=by kernel_rfl
 sizeByte:=by kernel_rfl
 neB5:=by decide}
open Go.RowKit in
def Tryz.Builder_String_any(B b:Nat)(l:List UInt8)(w:World)(h:Lib.IsBuilder 180 5 B b (Lib.byteCells l) w)(a:B<=w.heap.size):Calls Tryz.prog 74 #[.pointer (some ⟨b,0,none⟩)] w λe w'=>e= .returned (.string ⟨l.toArray⟩)/\Below B w w':=Any.Builder_String_any Tryz.Ve Tryz.IZ B b l w h a
def Tryz.AF:Go.Shelf.Ren:=⟨λ|156=>223|165=>324|166=>73|169=>74|240=>135|241=>390|276=>226|277=>432|n=>n,λ|31=>279|9=>9|3=>3|4=>4|0=>0|20=>20|72=>180|76=>183|70=>177|37=>178|75=>169|127=>280|164=>262|5=>5|80=>185|n=>n,λ|n=>n⟩
def Tryz.FL:Go.Proofs.Lays.n156 Tryz.prog Tryz.AF:={
 mixed:=by kernel_rfl
 f156:=XS.bu func223
 f165:=XS.bu func324
 f166:=XS.bu func73
 f169:=XS.bu func74
 f240:=XS.bu func135
 f241:=XS.bu func390
 f276:=XS.bu func226
 f277:=XS.bu func432
 t0:=Tryz.underlying0
 a0:=Tryz.isAgg0
 z0:=Tryz.sizeOf0
 v0:=Tryz.zeroValue0
 t3:=Tryz.underlying3
 a3:=Tryz.isAgg3
 z3:=Tryz.sizeOf3
 v3:=Tryz.zeroValue3
 t4:=Tryz.underlying4
 a4:=Tryz.isAgg4
 z4:=Tryz.sizeOf4
 v4:=Tryz.zeroValue4
 t9:=Tryz.underlying9
 a9:=Tryz.isAgg9
 z9:=Tryz.sizeOf9
 v9:=Tryz.zeroValue9
 t20:=Tryz.underlying20
 a20:=Tryz.isAgg20
 z20:=Tryz.sizeOf20
 v20:=Tryz.zeroValue20
 t31:=Tryz.underlying279
 a31:=Tryz.isAgg279
 z31:=Tryz.sizeOf279
 v31:=Tryz.zeroValue279
 t37:=Tryz.underlying178
 a37:=Tryz.isAgg178
 z37:=Tryz.sizeOf178
 v37:=Tryz.zeroValue178
 t70:=Tryz.underlying177
 a70:=Tryz.isAgg177
 z70:=Tryz.sizeOf177
 v70:=Tryz.zeroValue177
 t72:=Tryz.underlying180
 a72:=Tryz.isAgg180
 z72:=Tryz.sizeOf180
 v72:=Tryz.zeroValue180
 t75:=Tryz.underlying169
 a75:=Tryz.isAgg169
 z75:=Tryz.sizeOf169
 v75:=Tryz.zeroValue169
 t76:=Tryz.underlying183
 a76:=Tryz.isAgg183
 z76:=Tryz.sizeOf183
 v76:=Tryz.zeroValue183
 t127:=Tryz.underlying280
 a127:=Tryz.isAgg280
 z127:=Tryz.sizeOf280
 v127:=Tryz.zeroValue280
 t164:=Tryz.underlying262
 a164:=Tryz.isAgg262
 z164:=Tryz.sizeOf262
 v164:=Tryz.zeroValue262}
def Tryz.C4:Builder.Extra Tryz.prog Tryz.AF:={
 sizeBuilder:=by kernel_rfl
 liesBuilder:=by kernel_rfl
 t5:=Tryz.underlying5
 a5:=Tryz.isAgg5
 z5:=Tryz.sizeOf5
 v5:=Tryz.zeroValue5
 infoByte:=by kernel_rfl
 cellsByte:=by kernel_rfl
 sizeByte:=by kernel_rfl
 neB5:=by decide}
open Go.RowKit in
def Tryz.strings_Join(e2 o c:Nat)(xs:List ByteArray)(sep:ByteArray)(w:World)(a:∀(j:Nat) x,xs[j]?=some x->w.cell? ⟨e2,o+j,none⟩=some (.string x))(b:e2<w.heap.size)(d:xs.length<=140737488355328)(f:xs.length<=c)(hlen:(Lib.join (xs.map (·.data.toList)) sep.data.toList).length<=140737488355328):Calls Tryz.prog 223 #[.slice (some ⟨e2,o,none⟩) xs.length c,.string sep] w λe w'=>e= .returned (.string ⟨(Lib.join (xs.map (·.data.toList)) sep.data.toList).toArray⟩)/\Below w.heap.size w w':=Any.strings_Join Tryz.FL Tryz.C4 e2 o c xs sep w a b d f hlen
def Tryz.Vg:Go.Shelf.Ren:=⟨λ|172=>315|244=>383|245=>384|247=>423|279=>424|280=>425|281=>426|282=>427|287=>461|316=>462|171=>224|205=>463|321=>488|322=>489|243=>325|246=>391|283=>433|284=>434|285=>435|286=>436|129=>252|317=>466|318=>467|319=>468|320=>469|337=>491|338=>492|n=>n,λ|9=>9|3=>3|75=>169|76=>183|4=>4|5=>5|167=>576|37=>178|0=>0|85=>577|2=>2|168=>579|53=>450|175=>600|46=>97|210=>603|127=>280|145=>626|143=>624|21=>21|171=>585|173=>587|212=>606|51=>305|20=>20|213=>607|232=>634|233=>532|80=>185|n=>n,λ|15=>2|16=>3|17=>4|18=>7|19=>8|n=>n⟩
def Tryz.Vf:Go.Proofs.Lays.n172 Tryz.prog Tryz.Vg:={
 mixed:=by kernel_rfl
 f129:=XS.bu func252
 f171:=XS.bu func224
 f172:=XS.bu func315
 f205:=XS.bu func463
 f243:=XS.bu func325
 f244:=XS.bu func383
 f245:=XS.bu func384
 f246:=XS.bu func391
 f247:=XS.bu func423
 f279:=XS.bu func424
 f280:=XS.bu func425
 f281:=XS.bu func426
 f282:=XS.bu func427
 f283:=XS.bu func433
 f284:=XS.bu func434
 f285:=XS.bu func435
 f286:=XS.bu func436
 f287:=XS.bu func461
 f316:=XS.bu func462
 f317:=XS.bu func466
 f318:=XS.bu func467
 f319:=XS.bu func468
 f320:=XS.bu func469
 f321:=XS.bu func488
 f322:=XS.bu func489
 f337:=XS.bu func491
 f338:=XS.bu func492
 t0:=Tryz.underlying0
 a0:=Tryz.isAgg0
 z0:=Tryz.sizeOf0
 v0:=Tryz.zeroValue0
 t2:=Tryz.underlying2
 a2:=Tryz.isAgg2
 z2:=Tryz.sizeOf2
 v2:=Tryz.zeroValue2
 t3:=Tryz.underlying3
 a3:=Tryz.isAgg3
 z3:=Tryz.sizeOf3
 v3:=Tryz.zeroValue3
 t4:=Tryz.underlying4
 a4:=Tryz.isAgg4
 z4:=Tryz.sizeOf4
 v4:=Tryz.zeroValue4
 t5:=Tryz.underlying5
 a5:=Tryz.isAgg5
 z5:=Tryz.sizeOf5
 v5:=Tryz.zeroValue5
 t9:=Tryz.underlying9
 a9:=Tryz.isAgg9
 z9:=Tryz.sizeOf9
 v9:=Tryz.zeroValue9
 t20:=Tryz.underlying20
 a20:=Tryz.isAgg20
 z20:=Tryz.sizeOf20
 v20:=Tryz.zeroValue20
 t21:=Tryz.underlying21
 a21:=Tryz.isAgg21
 z21:=Tryz.sizeOf21
 v21:=Tryz.zeroValue21
 t37:=Tryz.underlying178
 a37:=Tryz.isAgg178
 z37:=Tryz.sizeOf178
 v37:=Tryz.zeroValue178
 t46:=Tryz.underlying97
 a46:=Tryz.isAgg97
 z46:=Tryz.sizeOf97
 v46:=Tryz.zeroValue97
 t51:=Tryz.underlying305
 a51:=Tryz.isAgg305
 z51:=Tryz.sizeOf305
 v51:=Tryz.zeroValue305
 t53:=Tryz.underlying450
 a53:=Tryz.isAgg450
 z53:=Tryz.sizeOf450
 v53:=Tryz.zeroValue450
 t75:=Tryz.underlying169
 a75:=Tryz.isAgg169
 z75:=Tryz.sizeOf169
 v75:=Tryz.zeroValue169
 t76:=Tryz.underlying183
 a76:=Tryz.isAgg183
 z76:=Tryz.sizeOf183
 v76:=Tryz.zeroValue183
 t85:=Tryz.underlying577
 a85:=Tryz.isAgg577
 z85:=Tryz.sizeOf577
 v85:=Tryz.zeroValue577
 t127:=Tryz.underlying280
 a127:=Tryz.isAgg280
 z127:=Tryz.sizeOf280
 v127:=Tryz.zeroValue280
 t143:=Tryz.underlying624
 a143:=Tryz.isAgg624
 z143:=Tryz.sizeOf624
 v143:=Tryz.zeroValue624
 t145:=Tryz.underlying626
 a145:=Tryz.isAgg626
 z145:=Tryz.sizeOf626
 v145:=Tryz.zeroValue626
 t167:=Tryz.underlying576
 a167:=Tryz.isAgg576
 z167:=Tryz.sizeOf576
 v167:=Tryz.zeroValue576
 t168:=Tryz.underlying579
 a168:=Tryz.isAgg579
 z168:=Tryz.sizeOf579
 v168:=Tryz.zeroValue579
 t171:=Tryz.underlying585
 a171:=Tryz.isAgg585
 z171:=Tryz.sizeOf585
 v171:=Tryz.zeroValue585
 t173:=Tryz.underlying587
 a173:=Tryz.isAgg587
 z173:=Tryz.sizeOf587
 v173:=Tryz.zeroValue587
 t175:=Tryz.underlying600
 a175:=Tryz.isAgg600
 z175:=Tryz.sizeOf600
 v175:=Tryz.zeroValue600
 t210:=Tryz.underlying603
 a210:=Tryz.isAgg603
 z210:=Tryz.sizeOf603
 v210:=Tryz.zeroValue603
 t212:=Tryz.underlying606
 a212:=Tryz.isAgg606
 z212:=Tryz.sizeOf606
 v212:=Tryz.zeroValue606
 t213:=Tryz.underlying607
 a213:=Tryz.isAgg607
 z213:=Tryz.sizeOf607
 t232:=Tryz.underlying634
 a232:=Tryz.isAgg634
 z232:=Tryz.sizeOf634
 v232:=Tryz.zeroValue634
 t233:=Tryz.underlying532
 a233:=Tryz.isAgg532
 z233:=Tryz.sizeOf532
 v233:=Tryz.zeroValue532
 g15:=by kernel_rfl
 g16:=by kernel_rfl
 g17:=by kernel_rfl
 g18:=by kernel_rfl
 g19:=by kernel_rfl}
open Go.RowKit in
def Tryz.strconv_Atoi(s:ByteArray)(n:Int)(hl:s.size<=18)(h:Lib.atoi s.data.toList=some n)(w:World):Calls Tryz.prog 315 #[.string s] w λe w'=>e= .returned (.tuple #[.int .i64 n,.nilIface])/\∃t,w'=Lib.bytesWorld w 5 t:=Any.strconv_Atoi Tryz.Vf s n hl h w
def Tryz.Vl:Go.Shelf.Ren:=⟨λ|171=>224|243=>325|246=>391|283=>433|284=>434|285=>435|286=>436|129=>252|317=>466|318=>467|319=>468|320=>469|337=>491|338=>492|n=>n,λ|3=>3|9=>9|2=>2|4=>4|171=>585|0=>0|53=>450|37=>178|5=>5|173=>587|212=>606|51=>305|20=>20|213=>607|46=>97|232=>634|233=>532|n=>n,λ|17=>4|18=>7|19=>8|n=>n⟩
def Tryz.Vk:Go.Proofs.LaysM.n171 Tryz.prog Tryz.Vl:={
 mixed:=by kernel_rfl
 f129:=XS.bu func252
 f171:=XS.bu func224
 f243:=XS.bu func325
 f246:=XS.bu func391
 f283:=XS.bu func433
 f284:=XS.bu func434
 f285:=XS.bu func435
 f286:=XS.bu func436
 f317:=XS.bu func466
 f318:=XS.bu func467
 f319:=XS.bu func468
 f320:=XS.bu func469
 f337:=XS.bu func491
 f338:=XS.bu func492
 t0:=Tryz.underlying0
 a0:=Tryz.isAgg0
 z0:=Tryz.sizeOf0
 v0:=Tryz.zeroValue0
 t2:=Tryz.underlying2
 a2:=Tryz.isAgg2
 z2:=Tryz.sizeOf2
 v2:=Tryz.zeroValue2
 t3:=Tryz.underlying3
 a3:=Tryz.isAgg3
 z3:=Tryz.sizeOf3
 v3:=Tryz.zeroValue3
 t4:=Tryz.underlying4
 a4:=Tryz.isAgg4
 z4:=Tryz.sizeOf4
 v4:=Tryz.zeroValue4
 t5:=Tryz.underlying5
 a5:=Tryz.isAgg5
 z5:=Tryz.sizeOf5
 v5:=Tryz.zeroValue5
 t9:=Tryz.underlying9
 a9:=Tryz.isAgg9
 z9:=Tryz.sizeOf9
 v9:=Tryz.zeroValue9
 t20:=Tryz.underlying20
 a20:=Tryz.isAgg20
 z20:=Tryz.sizeOf20
 v20:=Tryz.zeroValue20
 t37:=Tryz.underlying178
 a37:=Tryz.isAgg178
 z37:=Tryz.sizeOf178
 v37:=Tryz.zeroValue178
 t46:=Tryz.underlying97
 a46:=Tryz.isAgg97
 z46:=Tryz.sizeOf97
 v46:=Tryz.zeroValue97
 t51:=Tryz.underlying305
 a51:=Tryz.isAgg305
 z51:=Tryz.sizeOf305
 v51:=Tryz.zeroValue305
 t53:=Tryz.underlying450
 a53:=Tryz.isAgg450
 z53:=Tryz.sizeOf450
 v53:=Tryz.zeroValue450
 t171:=Tryz.underlying585
 a171:=Tryz.isAgg585
 z171:=Tryz.sizeOf585
 v171:=Tryz.zeroValue585
 t173:=Tryz.underlying587
 a173:=Tryz.isAgg587
 z173:=Tryz.sizeOf587
 v173:=Tryz.zeroValue587
 t212:=Tryz.underlying606
 a212:=Tryz.isAgg606
 z212:=Tryz.sizeOf606
 v212:=Tryz.zeroValue606
 t213:=Tryz.underlying607
 a213:=Tryz.isAgg607
 z213:=Tryz.sizeOf607
 t232:=Tryz.underlying634
 a232:=Tryz.isAgg634
 z232:=Tryz.sizeOf634
 v232:=Tryz.zeroValue634
 t233:=Tryz.underlying532
 a233:=Tryz.isAgg532
 z233:=Tryz.sizeOf532
 v233:=Tryz.zeroValue532
 g17:=by kernel_rfl
 g18:=by kernel_rfl
 g19:=by kernel_rfl
 i0:=by kernel_rfl
 i2:=by kernel_rfl
 i3:=by kernel_rfl
 i4:=by kernel_rfl
 i5:=by kernel_rfl
 i9:=by kernel_rfl
 i20:=by kernel_rfl
 i37:=by kernel_rfl
 i46:=by kernel_rfl
 i51:=by kernel_rfl
 i53:=by kernel_rfl
 i171:=by kernel_rfl
 i173:=by kernel_rfl
 i212:=by kernel_rfl
 i232:=by kernel_rfl
 i233:=by kernel_rfl
 m17:=by kernel_rfl
 m18:=by kernel_rfl
 m19:=by kernel_rfl}
open Go.RowKit Go.Sort Go.Lib in
def Tryz.strconv_Itoa(n:Int)(h0:-9223372036854775808<=n)(U:n<=9223372036854775807)(w:World)(a:Lib.TabIs Tryz.prog w "internal/strconv.uint64pow10" .u64 Lib.pow10Tab):Calls Tryz.prog 224 #[.int .i64 n] w λe w'=>e= .returned (.string ⟨(Lib.itoa n).toArray⟩)/\∃k os,w'=grow (w.drewN k) os:=Any.strconv_Itoa Tryz.Vk n h0 U w a
def Tryz.U9:Go.Shelf.Ren:=⟨λ|145=>210|220=>312|219=>381|217=>419|225=>420|224=>421|267=>422|266=>459|314=>460|n=>n,λ|9=>9|4=>4|59=>366|3=>3|5=>5|46=>97|146=>598|51=>305|n=>n,λ|1=>1|n=>n⟩
def Tryz.U8:Go.Proofs.Lays.n145 Tryz.prog Tryz.U9:={
 mixed:=by kernel_rfl
 f145:=XS.bu func210
 f217:=XS.bu func419
 f219:=XS.bu func381
 f220:=XS.bu func312
 f224:=XS.bu func421
 f225:=XS.bu func420
 f266:=XS.bu func459
 f267:=XS.bu func422
 f314:=XS.bu func460
 t3:=Tryz.underlying3
 a3:=Tryz.isAgg3
 z3:=Tryz.sizeOf3
 v3:=Tryz.zeroValue3
 t4:=Tryz.underlying4
 a4:=Tryz.isAgg4
 z4:=Tryz.sizeOf4
 v4:=Tryz.zeroValue4
 t5:=Tryz.underlying5
 a5:=Tryz.isAgg5
 z5:=Tryz.sizeOf5
 v5:=Tryz.zeroValue5
 t9:=Tryz.underlying9
 a9:=Tryz.isAgg9
 z9:=Tryz.sizeOf9
 v9:=Tryz.zeroValue9
 t46:=Tryz.underlying97
 a46:=Tryz.isAgg97
 z46:=Tryz.sizeOf97
 v46:=Tryz.zeroValue97
 t51:=Tryz.underlying305
 a51:=Tryz.isAgg305
 z51:=Tryz.sizeOf305
 v51:=Tryz.zeroValue305
 t59:=Tryz.underlying366
 a59:=Tryz.isAgg366
 z59:=Tryz.sizeOf366
 v59:=Tryz.zeroValue366
 t146:=Tryz.underlying598
 a146:=Tryz.isAgg598
 z146:=Tryz.sizeOf598
 v146:=Tryz.zeroValue598
 g1:=by kernel_rfl}
open Go.RowKit Go.Lib in
def Tryz.strings_Cut(s sep:ByteArray)(m:Int)(w:World)(hs:s.size<4294967281)(hm:w.cell? ⟨1,0,none⟩=some (.int .i64 m)):Calls Tryz.prog 210 #[.string s,.string sep] w λe w'=>e= .returned (.tuple #[.string ⟨(Lib.cut s.data.toList sep.data.toList).1.toArray⟩,.string ⟨(Lib.cut s.data.toList sep.data.toList).2.1.toArray⟩,.bool (Lib.cut s.data.toList sep.data.toList).2.2])/\∃n,w'=w.drewN n:=Any.strings_Cut Tryz.U8 s sep m w hs hm
def Tryz.Vj:Go.Shelf.Ren:=⟨λ|99=>321|206=>388|n=>n,λ|9=>9|4=>4|3=>3|n=>n,λ|n=>n⟩
def Tryz.Vi:Go.Proofs.Lays.n99 Tryz.prog Tryz.Vj:={
 mixed:=by kernel_rfl
 f99:=XS.bu func321
 f206:=XS.bu func388
 t3:=Tryz.underlying3
 a3:=Tryz.isAgg3
 z3:=Tryz.sizeOf3
 v3:=Tryz.zeroValue3
 t4:=Tryz.underlying4
 a4:=Tryz.isAgg4
 z4:=Tryz.sizeOf4
 v4:=Tryz.zeroValue4
 t9:=Tryz.underlying9
 a9:=Tryz.isAgg9
 z9:=Tryz.sizeOf9
 v9:=Tryz.zeroValue9}
open Go.RowKit Go.Lib in
def Tryz.strings_HasPrefix(s p:ByteArray)(w:World):Calls Tryz.prog 321 #[.string s,.string p] w λe w'=>e= .returned (.bool (Lib.hasPrefix s.data.toList p.data.toList))/\w'=w:=Any.strings_HasPrefix Tryz.Vi s p w
def Tryz.Va:Go.Shelf.Ren:=⟨λ|146=>313|221=>316|268=>385|138=>386|143=>387|195=>428|197=>429|218=>430|219=>381|260=>464|217=>419|225=>420|224=>421|267=>422|266=>459|314=>460|n=>n,λ|9=>9|31=>279|3=>3|4=>4|0=>0|105=>582|21=>21|5=>5|46=>97|119=>506|139=>629|138=>628|146=>598|51=>305|n=>n,λ|1=>1|3=>5|4=>6|n=>n⟩
def Tryz.U':Go.Proofs.Lays.n146 Tryz.prog Tryz.Va:={
 mixed:=by kernel_rfl
 f138:=XS.bu func386
 f143:=XS.bu func387
 f146:=XS.bu func313
 f195:=XS.bu func428
 f197:=XS.bu func429
 f217:=XS.bu func419
 f218:=XS.bu func430
 f219:=XS.bu func381
 f221:=XS.bu func316
 f224:=XS.bu func421
 f225:=XS.bu func420
 f260:=XS.bu func464
 f266:=XS.bu func459
 f267:=XS.bu func422
 f268:=XS.bu func385
 f314:=XS.bu func460
 t0:=Tryz.underlying0
 a0:=Tryz.isAgg0
 z0:=Tryz.sizeOf0
 v0:=Tryz.zeroValue0
 t3:=Tryz.underlying3
 a3:=Tryz.isAgg3
 z3:=Tryz.sizeOf3
 v3:=Tryz.zeroValue3
 t4:=Tryz.underlying4
 a4:=Tryz.isAgg4
 z4:=Tryz.sizeOf4
 v4:=Tryz.zeroValue4
 t5:=Tryz.underlying5
 a5:=Tryz.isAgg5
 z5:=Tryz.sizeOf5
 v5:=Tryz.zeroValue5
 t9:=Tryz.underlying9
 a9:=Tryz.isAgg9
 z9:=Tryz.sizeOf9
 v9:=Tryz.zeroValue9
 t21:=Tryz.underlying21
 a21:=Tryz.isAgg21
 z21:=Tryz.sizeOf21
 v21:=Tryz.zeroValue21
 t31:=Tryz.underlying279
 a31:=Tryz.isAgg279
 z31:=Tryz.sizeOf279
 v31:=Tryz.zeroValue279
 t46:=Tryz.underlying97
 a46:=Tryz.isAgg97
 z46:=Tryz.sizeOf97
 v46:=Tryz.zeroValue97
 t51:=Tryz.underlying305
 a51:=Tryz.isAgg305
 z51:=Tryz.sizeOf305
 v51:=Tryz.zeroValue305
 t105:=Tryz.underlying582
 a105:=Tryz.isAgg582
 z105:=Tryz.sizeOf582
 v105:=Tryz.zeroValue582
 t119:=Tryz.underlying506
 a119:=Tryz.isAgg506
 z119:=Tryz.sizeOf506
 t138:=Tryz.underlying628
 a138:=Tryz.isAgg628
 z138:=Tryz.sizeOf628
 v138:=Tryz.zeroValue628
 t139:=Tryz.underlying629
 a139:=Tryz.isAgg629
 z139:=Tryz.sizeOf629
 v139:=Tryz.zeroValue629
 t146:=Tryz.underlying598
 a146:=Tryz.isAgg598
 z146:=Tryz.sizeOf598
 v146:=Tryz.zeroValue598
 g1:=by kernel_rfl
 g3:=by kernel_rfl
 g4:=by kernel_rfl}
open Go.RowKit Go.Lib in
def Tryz.strings_Split(s sep:ByteArray)(m:Int)(w:World)(hs:s.size<4294967281)(hm:w.cell? ⟨1,0,none⟩=some (.int .i64 m))(U:1<=sep.size):Calls Tryz.prog 313 #[.string s,.string sep] w λe w'=>e= .returned (.slice (some ⟨w.heap.size,0,none⟩) (Lib.countB s sep+1) (Lib.countB s sep+1))/\w'=w.alloc (.cells ((Lib.splitB sep 0 (Lib.countB s sep) s).map Value.string).toArray 9):=Any.strings_Split Tryz.U' (by kernel_rfl) s sep m w hs hm U
def Tryz.Vc:Go.Shelf.Ren:=⟨λ|147=>213|221=>316|268=>385|138=>386|143=>387|195=>428|197=>429|218=>430|219=>381|260=>464|217=>419|225=>420|224=>421|267=>422|266=>459|314=>460|n=>n,λ|9=>9|3=>3|31=>279|4=>4|0=>0|105=>582|21=>21|5=>5|46=>97|119=>506|139=>629|138=>628|146=>598|51=>305|n=>n,λ|1=>1|3=>5|4=>6|n=>n⟩
def Tryz.Vb:Go.Proofs.Lays.n147 Tryz.prog Tryz.Vc:={
 mixed:=by kernel_rfl
 f138:=XS.bu func386
 f143:=XS.bu func387
 f147:=XS.bu func213
 f195:=XS.bu func428
 f197:=XS.bu func429
 f217:=XS.bu func419
 f218:=XS.bu func430
 f219:=XS.bu func381
 f221:=XS.bu func316
 f224:=XS.bu func421
 f225:=XS.bu func420
 f260:=XS.bu func464
 f266:=XS.bu func459
 f267:=XS.bu func422
 f268:=XS.bu func385
 f314:=XS.bu func460
 t0:=Tryz.underlying0
 a0:=Tryz.isAgg0
 z0:=Tryz.sizeOf0
 v0:=Tryz.zeroValue0
 t3:=Tryz.underlying3
 a3:=Tryz.isAgg3
 z3:=Tryz.sizeOf3
 v3:=Tryz.zeroValue3
 t4:=Tryz.underlying4
 a4:=Tryz.isAgg4
 z4:=Tryz.sizeOf4
 v4:=Tryz.zeroValue4
 t5:=Tryz.underlying5
 a5:=Tryz.isAgg5
 z5:=Tryz.sizeOf5
 v5:=Tryz.zeroValue5
 t9:=Tryz.underlying9
 a9:=Tryz.isAgg9
 z9:=Tryz.sizeOf9
 v9:=Tryz.zeroValue9
 t21:=Tryz.underlying21
 a21:=Tryz.isAgg21
 z21:=Tryz.sizeOf21
 v21:=Tryz.zeroValue21
 t31:=Tryz.underlying279
 a31:=Tryz.isAgg279
 z31:=Tryz.sizeOf279
 v31:=Tryz.zeroValue279
 t46:=Tryz.underlying97
 a46:=Tryz.isAgg97
 z46:=Tryz.sizeOf97
 v46:=Tryz.zeroValue97
 t51:=Tryz.underlying305
 a51:=Tryz.isAgg305
 z51:=Tryz.sizeOf305
 v51:=Tryz.zeroValue305
 t105:=Tryz.underlying582
 a105:=Tryz.isAgg582
 z105:=Tryz.sizeOf582
 v105:=Tryz.zeroValue582
 t119:=Tryz.underlying506
 a119:=Tryz.isAgg506
 z119:=Tryz.sizeOf506
 t138:=Tryz.underlying628
 a138:=Tryz.isAgg628
 z138:=Tryz.sizeOf628
 v138:=Tryz.zeroValue628
 t139:=Tryz.underlying629
 a139:=Tryz.isAgg629
 z139:=Tryz.sizeOf629
 v139:=Tryz.zeroValue629
 t146:=Tryz.underlying598
 a146:=Tryz.isAgg598
 z146:=Tryz.sizeOf598
 v146:=Tryz.zeroValue598
 g1:=by kernel_rfl
 g3:=by kernel_rfl
 g4:=by kernel_rfl}
open Go.RowKit Go.Lib in
def Tryz.strings_SplitN(s sep:ByteArray)(n:Nat)(m:Int)(w:World)(hs:s.size<4294967281)(hm:w.cell? ⟨1,0,none⟩=some (.int .i64 m))(U:1<=sep.size)(a:1<=n)(b:n<=9223372036854775807):Calls Tryz.prog 213 #[.string s,.string sep,.int .i64 n] w λe w'=>e= .returned (.slice (some ⟨w.heap.size,0,none⟩) (Lib.splitB sep 0 (min n (s.size+1)-1) s).length (min n (s.size+1)))/\w'=w.alloc (.cells (Lib.cellsOf (Lib.splitB sep 0 (min n (s.size+1)-1) s) (min n (s.size+1))) 9):=Any.strings_SplitN Tryz.Vb (by kernel_rfl) s sep n m w hs hm U a b
def Tryz.AG:Go.Shelf.Ren:=⟨λ|167=>225|156=>223|165=>324|166=>73|169=>74|240=>135|241=>390|276=>226|277=>432|n=>n,λ|31=>279|9=>9|3=>3|4=>4|0=>0|20=>20|72=>180|76=>183|70=>177|37=>178|75=>169|127=>280|164=>262|5=>5|80=>185|n=>n,λ|n=>n⟩
def Tryz.Vd:Go.Proofs.Lays.n167 Tryz.prog Tryz.AG:={
 mixed:=by kernel_rfl
 f167:=XS.bu func225
 f240:=XS.bu func135
 f276:=XS.bu func226
 t0:=Tryz.underlying0
 a0:=Tryz.isAgg0
 z0:=Tryz.sizeOf0
 v0:=Tryz.zeroValue0
 t4:=Tryz.underlying4
 a4:=Tryz.isAgg4
 z4:=Tryz.sizeOf4
 v4:=Tryz.zeroValue4
 t5:=Tryz.underlying5
 a5:=Tryz.isAgg5
 z5:=Tryz.sizeOf5
 v5:=Tryz.zeroValue5
 t9:=Tryz.underlying9
 a9:=Tryz.isAgg9
 z9:=Tryz.sizeOf9
 v9:=Tryz.zeroValue9
 t20:=Tryz.underlying20
 a20:=Tryz.isAgg20
 z20:=Tryz.sizeOf20
 v20:=Tryz.zeroValue20
 t37:=Tryz.underlying178
 a37:=Tryz.isAgg178
 z37:=Tryz.sizeOf178
 v37:=Tryz.zeroValue178
 t70:=Tryz.underlying177
 a70:=Tryz.isAgg177
 z70:=Tryz.sizeOf177
 v70:=Tryz.zeroValue177
 t72:=Tryz.underlying180
 a72:=Tryz.isAgg180
 z72:=Tryz.sizeOf180
 v72:=Tryz.zeroValue180
 t75:=Tryz.underlying169
 a75:=Tryz.isAgg169
 z75:=Tryz.sizeOf169
 v75:=Tryz.zeroValue169
 t164:=Tryz.underlying262
 a164:=Tryz.isAgg262
 z164:=Tryz.sizeOf262
 v164:=Tryz.zeroValue262}
def Tryz.IY:Builder.Extra Tryz.prog Tryz.AG:={
 sizeBuilder:=by kernel_rfl
 liesBuilder:=by kernel_rfl
 t5:=Tryz.underlying5
 a5:=Tryz.isAgg5
 z5:=Tryz.sizeOf5
 v5:=Tryz.zeroValue5
 infoByte:=by kernel_rfl
 cellsByte:=by kernel_rfl
 sizeByte:=by kernel_rfl
 neB5:=by decide}
open Go.RowKit in
def Tryz.Builder_WriteString(B b:Nat)(eU:List Value)(s:ByteArray)(w:World)(h:Lib.IsBuilder 180 5 B b eU w)(hlen:eU.length+s.size<=140737488355328)(a:B<=w.heap.size):Calls Tryz.prog 73 #[.pointer (some ⟨b,0,none⟩),.string s] w λe w'=>e= .returned (.tuple #[.int .i64 s.size,.nilIface])/\(Lib.BuilderAt 180 5 B b (.pointer (some ⟨b,0,none⟩)) (eU++Lib.strCells s) w'/\Below B w w'):=Any.Builder_WriteString (ρ:=Tryz.AF) {Tryz.FL with} Tryz.C4 B b eU s w h hlen a
open Go.RowKit in
def Tryz.Builder_WriteByte(B b:Nat)(eU:List Value)(c:Int)(w:World)(h:Lib.IsBuilder 180 5 B b eU w)(hlen:eU.length+1<=140737488355328)(a:B<=w.heap.size):Calls Tryz.prog 225 #[.pointer (some ⟨b,0,none⟩),.int .u8 c] w λe w'=>e= .returned .nilIface/\(Lib.BuilderAt 180 5 B b (.pointer (some ⟨b,0,none⟩)) (eU++[.int .u8 c]) w'/\Below B w w'):=Any.Builder_WriteByte (ρ:=Tryz.AG) Tryz.Vd Tryz.IY B b eU c w h hlen a
