/- Lemmas that lead to TopApart (their names made short by a program); no condition. -/
import Derived.Test.YtlmgompopkamfaaGreatDoorLH
set_option linter.all false
set_option maxRecDepth 20000
namespace Go.Proofs.YtlmgompopkamfaaGreatDoor
section
open Go.XS Go.bm
structure Ch where
 nl:Nat
 nn:Nat
 ls:Nat->List Nat
structure zt where
 nb:Nat
 eu:Nat
 nd:Nat->N3
 en:Nat->N3
abbrev Ab(b:Nat)(C:Ch)(x:zt)(H:au):au:=
 cl b #[.slice (some ⟨x.nb,0,none⟩) C.nn C.nn,.slice (some ⟨x.eu,0,none⟩) C.nl C.nl]::cl x.nb (dt C.nn x.nd).toArray::cl x.eu (dt C.nl x.en).toArray::H
def Ch.Ok(C:Ch)(x:zt):Prop:=jo C.nl C.nn C.ls x.nd x.en/\C.nl<=1048576/\C.nn<=1048576
def dH(b:Nat)(C:Ch):bc:=BD C.Ok (Ab b C)
def sE(ls:Nat->List Nat)(nl n:Nat):Option Nat:=(List.range nl).find? λk=>(ls k).contains n
def Ch.of(C:Ch)(n:Int):Int:=if 0<=n/\n<(C.nn:Int)then(match sE C.ls C.nl n.toNat with|some k=>(k:Int)|none=>-1)else-1
def Ch.first(C:Ch)(k:Int):Int:=if 0<=k/\k<(C.nl:Int)then bW (C.ls k.toNat)else-1
def Ch.len(C:Ch)(k:Int):Int:=if 0<=k/\k<(C.nl:Int)then((C.ls k.toNat).length:Int)else 0
def Ch.add(C:Ch)(j m:Nat):Ch:={C with ls:=up C.ls j (C.ls j++[m])}
section
variable {B:Heap}{H H0:au}{K:aK}{b:Nat}{C:Ch}{n k:Int}
def l6{q:HP}(t:∀x,C.Ok x->T B (Ab b C x H) q):T B (dH b C::H) q:=mC (λ_ _=>rfl) t
def k2{q:HP}(x:zt)(h:C.Ok x)(t:T B (dH b C::H) q):T B (Ab b C x H) q:=mB x h (λ_ _=>rfl) t
instance abN[h:Ow H (dH b) C H0]:St B H (ad P 349 #[pz b,J k] K) (T B (dH b C::H0) (K (.bool (decide (0<=k/\k<(C.nl:Int)))))):=⟨by
 intro U;refine bf h.pl (l6 λx a=>an (Na _ _) ?_);repeat' first|apply St.go|refine S2.go (λ_=>?_) λ_=>?_|done
 all_goals (refine af (k2 x a (dT U ?_));simp;omega)⟩
instance abO[h:Ow H (dH b) C H0]:St B H (ad P 350 #[pz b,J n] K) (T B (dH b C::H0) (K (.bool (decide (0<=n/\n<(C.nn:Int)))))):=⟨by
 intro U;refine bf h.pl (l6 λx a=>an (Nb _ _) ?_);repeat' first|apply St.go|refine S2.go (λ_=>?_) λ_=>?_|done
 all_goals (refine af (k2 x a (dT U ?_));simp;omega)⟩
def jo.of_eq{nl nn:Nat}{ls:Nat->List Nat}{nd en:Nat->N3}(h:jo nl nn ls nd en){m:Nat}(hm:m<nn):(nd m).2.2=match sE ls nl m with|some k=>(k:Int)|none=>-1:=by
 rcases h.node m hm with⟨e,d⟩|⟨k,a,c,U,e⟩
 ·have:sE ls nl m=none:=pE.2 λj _=>by simpa using d j
  rw[e,this]
 ·have b:m∈ls k:=by rw[U];simp
  have:sE ls nl m=some k:=by
   cases hf:sE ls nl m with
   |none=>exact absurd b (by simpa using pE.1 hf k (by simp;exact(h.jt k m b).1))
   |some j=>have:=List.find?_some hf;rw[h.rh j k m (by simpa using this) b]
  rw[e,this]
instance abM[h:Ow H (dH b) C H0]:St B H (ad P 352 #[pz b,J n] K) (T B (dH b C::H0) (K (J (C.of n)))):=⟨by
 intro U;refine bf h.pl (an (M9 _ _) ?_);unfold Ch.of at U;repeat' first|apply St.go|refine S2.go (λ_=>?_) λ_=>?_|done
 ·rename_i a;rw[aj a]at U;exact U
 ·rename_i a
  rw[ag a]at U;refine l6 λx c=>St.go (uo n.toNat (by omega) (by omega) (by omega) (by omega) (af (k2 x c (dT U ?_))));rw[<-jo.of_eq c.1 (by omega)];rfl⟩
instance abJ[h:Ow H (dH b) C H0]:St B H (ad P 343 #[pz b,J k] K) (T B (dH b C::H0) (K (J (C.first k)))):=⟨by
 intro U;refine bf h.pl (an (M5 _ _) ?_);unfold Ch.first at U
 repeat' first|apply St.go|refine S2.go (λ_=>?_) λ_=>?_|done
 ·rename_i a;rw[aj a]at U;exact U
 ·rename_i a
  rw[ag a]at U;refine l6 λx c=>St.go (uo k.toNat (by omega) (by omega) (by omega) (by omega) (af (k2 x c (dT U ?_))));rw[c.1.ends k.toNat (by omega)];rfl⟩
instance abK[h:Ow H (dH b) C H0]:St B H (ad P 289 #[pz b,J k] K) (T B (dH b C::H0) (K (J (C.len k)))):=⟨by
 intro U;refine bf h.pl (an (M6 _ _) ?_);unfold Ch.len at U;repeat' first|apply St.go|refine S2.go (λ_=>?_) λ_=>?_|done
 ·rename_i a;rw[aj a]at U;exact U
 ·rename_i a
  rw[ag a]at U;refine l6 λx c=>St.go (uo k.toNat (by omega) (by omega) (by omega) (by omega) (af (k2 x c (dT U ?_))));rw[c.1.ends k.toNat (by omega)];rfl⟩
def EM{j m:Nat}{a c:List Nat}(hm:C.ls j=a++m::c)(U:T B (dH b C::H) (K (J (bW c)))):T B (dH b C::H) (ad P 345 #[pz b,J m] K):=by
 refine l6 λx d=>?_;have e:m∈C.ls j:=by rw[hm];simp
 have f:=(d.1.jt j m e).2;refine k2 x d (an (M8 _ _) ?_);repeat' first|apply St.go|refine S2.go (λ_=>?_) λ_=>?_|done
 ·omega
 ·refine l6 λx d=>St.go (uo m rfl (by omega) (by omega) (by omega) (af (k2 x d (dT U ?_))))
  rw[d.1.rD hm];rfl
def Ad{q:HP}(t:(∀j,(C.ls j).length<=1048576)->T B (dH b C::H) q):T B (dH b C::H) q:=l6 λx a=>k2 x a (t λj=>lN (nT C.nn (a.1.nodup j) λm hm=>(a.1.jt j m hm).2) a.2.2)
def Tt{j:Nat}(i:j<C.nl)(U:∀p c,T B (dH b C::ah 1 p (C.ls j).length c (iv .i64 ((C.ls j).map Int.ofNat))::H) (K (.slice p (C.ls j).length c))):T B (dH b C::H) (ad P 258 #[pz b,J j] K):=by
 refine an (M7 _ _) (Ad λhlen=>?_);have hlen:=hlen j;repeat apply St.go
 have e:C.first j=bW (C.ls j):=by unfold Ch.first;rw[ag (by omega),aZ]
 rw[e];refine dL 1 (ur (λf p l c n H'=>∃a d:List Nat,C.ls j=a++d/\n=bW d/\f=d.length/\l=a.length/\H'=ah 1 p l c (iv .i64 (a.map Int.ofNat))::dH b C::H) (C.ls j).length ⟨[],C.ls j,rfl,rfl,rfl,rfl,rfl⟩ ?_);rintro f p l c n H' R ⟨a,d,hd,rfl,rfl,rfl,rfl⟩ g
 cases d with
 |nil=>rw[bW];apply aI (by with_reducible decide);rw[j9]at hd;have:=U p c;rw[hd]at this;exact af this
 |cons z d=>
  rw[bW];repeat' first|refine Sa.go λ_=>?_|refine S2.go (λ_=>?_) λ_=>?_|done
  ·refine eZ rfl ?_ λh c'=>?_
   ·rw[hd]at hlen;simp at hlen;omega
   ·refine aL (dH b) (EM hd ?_)
    apply St.go;have e:iv .i64 (a.map Int.ofNat)++#[J z].toList=iv .i64 ((a++[z]).map Int.ofNat):=by simp[iv]
    rw[e];exact af (g d.length h (a.length+1) c' (bW d) _ (by simp) ⟨a++[z],d,by simp[hd],rfl,rfl,by simp,rfl⟩)
  ·omega
def Ae{j m:Nat}(d:j<C.nl)(hm:m<C.nn)(l:∀k,m∉C.ls k)(U:T B (dH b (C.add j m)::H) (K (.bool true))):T B (dH b C::H) (ad P 266 #[pz b,J j,J m] K):=by
 refine an (MZ _ _ _) (Ad λhlen=>?_);have hlen:=hlen j;repeat' first|apply St.go|refine S2.go (λ_=>?_) λ_=>?_|done
 ·omega
 ·omega
 refine l6 λx h=>?_
 have n:x.nd m=(-1,-1,-1):=by
  rcases h.1.node m hm with⟨e,_⟩|⟨k,a,c,U,e⟩
  ·exact e
  ·exact absurd (by rw[U];simp) (l k)
 have he:=h.1.ends j d;have FM:=h.1.add d hm l;refine St.go (uo m rfl (by omega) (by omega) (by omega) ?_);rw[n];apply aI (by simp[pj]);repeat first|apply St.go|refine Sc.go (by omega) ?_
 rw[aZ,aR,bI];apply qW (j:=0) d (by omega);refine Sc.go rfl ?_;apply zB m rfl (by omega) (by omega);apply St.go;apply qW (j:=0) d (by omega);have g:pj 0 (x.en j)=cj (C.ls j):=by rw[he];rfl
 rw[g]
 have fin:∀nd en,nd=uw x.nd (x.en j).1 j m->en=q5 x.en j m->T B (cl b #[.slice (some ⟨x.nb,0,none⟩) C.nn C.nn,.slice (some ⟨x.eu,0,none⟩) C.nl C.nl]::cl x.nb (dt C.nn nd).toArray::cl x.eu (dt C.nl en).toArray::H) (K (.bool true)):=by rintro _ _ rfl rfl;exact k2 (C:=C.add j m) ⟨x.nb,x.eu,_,_⟩ ⟨FM,h.2⟩ U
 repeat' first|apply St.go|refine S2.go (λ_=>?_) λ_=>?_|done
 ·rename_i o
  have p:C.ls j≠[]:=λe=>by rw[e,qj]at o;omega
  obtain⟨a,y,q,hl⟩:=sY p;have r:=(h.1.jt j y (by rw[q];simp)).2;rw[hl];apply qW (j:=0) d (by omega);rw[g,hl];refine zE y rfl (by omega) (by omega) (by omega) (St.go (oJ (j:=0) d (by omega) ?_));rw[aR];refine qW (j:=2) d (by omega) (oJ (j:=2) d (by omega) (fin _ _ ?_ ?_))
  ·have f:(x.en j).1=(y:Int):=g.trans hl
   simp only[uw,f,aZ,ya];rw[ag (by omega)]
  ·have f:(x.en j).1=(y:Int):=g.trans hl
   have i:(x.en j).2.2=((C.ls j).length:Int):=by rw[he]
   funext a;by_cases ha:a=j
   ·subst ha
    simp only[q5,eJ,x',ya,Bz,By,f];rw[ag (by omega),i,br (by omega)]
   ·simp only[q5,dA _ _ ha]
 ·rename_i s
  rw[aR];refine oJ (j:=1) d (by omega) (St.go (oJ (j:=0) d (by omega) ?_));rw[aR];refine qW (j:=2) d (by omega) (oJ (j:=2) d (by omega) (fin _ _ ?_ ?_))
  ·have f:(x.en j).1=cj (C.ls j):=g
   simp only[uw,f];rw[aj (by omega)]
  ·have f:(x.en j).1=cj (C.ls j):=g
   have i:(x.en j).2.2=((C.ls j).length:Int):=by rw[he]
   funext a;by_cases ha:a=j
   ·subst ha
    simp only[q5,eJ,x',ya,Bz,By,f];rw[aj (by omega),i,br (by omega)]
   ·simp only[q5,dA _ _ ha]
def Ch.drop(C:Ch)(k:Nat)(l:List Nat):Ch:={C with ls:=up C.ls k l}
def Af{j m:Nat}{a c:List Nat}(hm:C.ls j=a++m::c)(U:T B (dH b (C.drop j (a++c))::H) (K (.bool true))):T B (dH b C::H) (ad P 270 #[pz b,J m] K):=by
 refine Ad λhlen=>?_;have hlen:=hlen j;refine l6 λx d=>?_;have A:m∈C.ls j:=by rw[hm];simp
 obtain⟨g,D⟩:=d.1.jt j m A;have hd:=d.1.drop hm;have h:=d.1.rD hm;have he:=d.1.ends j g
 have E:C.of m=(j:Int):=by unfold Ch.of;rw[ag (by omega),aZ,<-jo.of_eq d.1 D,h]
 refine k2 x d (an (M3 _ _) ?_);repeat' first|apply St.go|refine S2.go (λ_=>?_) λ_=>?_|done
 ·omega
 refine l6 λx2 k=>?_;clear d hd h he E;have hd:=k.1.drop hm;have h:=k.1.rD hm;have he:=k.1.ends j g;refine St.go (JY m rfl (by omega) (by omega) ?_);rw[h];refine eg λtb=>?_
 have fin:∀nd en,nd=sJ x2.nd m->en=sI x2.nd x2.en m->T B (cl tb #[J (cj a),J (bW c),J (j:Int)]::cl b #[.slice (some ⟨x2.nb,0,none⟩) C.nn C.nn,.slice (some ⟨x2.eu,0,none⟩) C.nl C.nl]::cl x2.nb (dt C.nn nd).toArray::cl x2.eu (dt C.nl en).toArray::H) (K (.bool true)):=by rintro _ _ rfl rfl;exact dY (k2 (C:=C.drop j (a++c)) ⟨x2.nb,x2.eu,_,_⟩ ⟨hd,k.2⟩ U)
 simp only at*;have Z:C.nl<=1048576:=k.2.1
 have last:∀nd en,up nd m (-1,-1,-1)=sJ x2.nd m->up en j (o8 2 (IntKind.wrap .i64 (pj 2 (en j)-1)) (en j))=sI x2.nd x2.en m->
   T B (cl tb #[J (cj a),J (bW c),J (j:Int)]::cl b #[.slice (some ⟨x2.nb,0,none⟩) C.nn C.nn,.slice (some ⟨x2.eu,0,none⟩) C.nl C.nl]::cl x2.nb (dt C.nn nd).toArray::cl x2.eu (dt C.nl en).toArray::H)
    (bA IntKind.i64 ⟨x2.eu,j*3+2,none⟩ λl=>st ⟨x2.eu,j*3+2,none⟩ (J (IntKind.wrap .i64 (l-1))) (b6 (some ⟨b,0,none⟩) 0 λn o F=>aP (#[J (-1),J (-1)].size=2) (jY n o (↑m) 3 #[J (-1),J (-1),J (-1)] 3 (K (Value.bool true))))):=by
  intro nd en h1 p;refine qW (j:=2) g (by omega) (oJ (j:=2) g (by omega) ?_);repeat first|apply St.go|refine Sc.go rfl ?_
  exact zB m rfl (by omega) (by omega) (fin _ _ h1 p)
 have p:(x2.en j).2.2=((C.ls j).length:Int):=by rw[he]
 have hle:1<=(C.ls j).length:=by rw[hm];simp;omega
 have ends:∀(u v:Int) (en:Nat->N3),(∀i,i≠j->en i=x2.en i)->en j=(u,v,(x2.en j).2.2)->u=(if 0<=bW c then(x2.en j).1 else cj a)->v=(if 0<=cj a then(x2.en j).2.1 else bW c)->up en j (o8 2 (IntKind.wrap .i64 (pj 2 (en j)-1)) (en j))=sI x2.nd x2.en m:=by
  intro u v en G I hu L;funext i;unfold sI;rw[h];simp only[aZ];by_cases hi:i=j
  ·subst hi
   rw[eJ,eJ,I,By,Bz];simp only;rw[p,br (by omega),hu,L]
  ·rw[dA _ _ hi,dA _ _ hi,G i hi]
 have jt:∀z∈C.ls j,z<C.nn:=λz hz=>(k.1.jt j z hz).2
 let q:HP:=bA IntKind.i64 ⟨x2.eu,j*3+2,none⟩ λl=>st ⟨x2.eu,j*3+2,none⟩ (J (IntKind.wrap .i64 (l-1))) (b6 (some ⟨b,0,none⟩) 0 λn o F=>aP (#[J (-1),J (-1)].size=2) (jY n o (↑m) 3 #[J (-1),J (-1),J (-1)] 3 (K (Value.bool true))))
 have mid:∀(nd en:Nat->N3) (v:Int),nd=(if 0<=cj a then up x2.nd (cj a).toNat ((x2.nd (cj a).toNat).1,bW c,(x2.nd (cj a).toNat).2.2)else x2.nd)->(∀i,i≠j->en i=x2.en i)->en j=((x2.en j).1,v,(x2.en j).2.2)->
   v=(if 0<=cj a then(x2.en j).2.1 else bW c)->
   T B (cl tb #[J (cj a),J (bW c),J (j:Int)]::cl b #[.slice (some ⟨x2.nb,0,none⟩) C.nn C.nn,.slice (some ⟨x2.eu,0,none⟩) C.nl C.nl]::cl x2.nb (dt C.nn nd).toArray::cl x2.eu (dt C.nl en).toArray::H)
    (bA IntKind.i64 (ai tb 1) λM=>ae (decide (M>=0)) (b6 (some ⟨b,0,none⟩) 0 λN O aa=>bA IntKind.i64 (ai tb 1) λQ=>bA IntKind.i64 (ai tb 0) λR=>qi N O Q 3 0 (J R) (jn q [])) (bA IntKind.i64 (ai tb 0) λS=>st ⟨x2.eu,j*3,none⟩ (J S) (jn q []))):=by
  intro nd en v V r s t
  have w:∀y,y=(if 0<=bW c then up nd (bW c).toNat (cj a,(nd (bW c).toNat).2.1,(nd (bW c).toNat).2.2)else nd)->up y m (-1,-1,-1)=sJ x2.nd m:=by rintro _ rfl;unfold sJ;rw[h];simp only;rw[<-V]
  repeat' first|apply St.go|refine S2.go (λ_=>?_) λ_=>?_|done
  ·rename_i f
   obtain⟨z,c',rfl⟩:∃z c',c=z::c':=by
    cases c with
    |nil=>exact absurd f (by simp[bW])
    |cons z c'=>exact⟨z,c',rfl⟩
   have W:=jt z (by rw[hm];simp);apply zE z rfl (by omega) (by omega) (by omega);apply St.go;refine last _ _ (w _ ?_) (ends _ v _ r s ?_ t)
   ·rw[ag f];rfl
   ·rw[ag f]
  ·rename_i X
   apply oJ (j:=0) g (by omega);apply St.go;refine last _ _ (w _ ?_) (ends (cj a) v _ (λi hi=>?_) ?_ ?_ t)
   ·rw[aj (by omega)]
   ·rw[dA _ _ hi];exact r i hi
   ·rw[eJ,x',s]
   ·rw[aj (by omega)]
 repeat' first|apply St.go|refine S2.go (λ_=>?_) λ_=>?_|refine Sc.go (by first|omega|exact⟨rfl,rfl⟩) ?_|done
 all_goals (try rw[aZ]);(try simp only[aR,bI])
 ·rename_i f
  have Y:a≠[]:=λe=>by rw[e,qj]at f;omega
  obtain⟨a',z,hz,hl⟩:=sY Y;have W:=jt z (by rw[hm,hz];simp);rw[hl];apply zE z rfl (by omega) (by omega) (by omega);rw[<-hl];iterate 2 (apply St.go)
  refine mid _ _ (x2.en j).2.1 ?_ (λ_ _=>rfl) rfl (by rw[ag f]);rw[ag f,hl];rfl
 ·rename_i X
  apply oJ (j:=1) g (by omega);iterate 2 (apply St.go)
  refine mid _ _ (bW c) ?_ (λi hi=>dA _ _ hi) (by rw[eJ];rfl) (by rw[aj (by omega)]);rw[aj (by omega)]
def Ch.new(nl nn:Nat):Ch:=⟨nl,nn,λ_=>[]⟩
def jo.new(nl nn:Nat):jo nl nn (λ_=>[]) (λ_=>(-1,-1,-1)) (λ_=>(-1,-1,0)):=⟨λn _=> .inl ⟨rfl,by simp⟩,λk _=>rfl,by simp,by simp,by simp⟩
def abi:zc P 422=#[J 0,J 0,J 0]:=by kernel_rfl
def abj:zc P 424=#[J 0,J 0,J 0]:=by kernel_rfl
def Tf:P.cellsOf 422=3:=by kernel_rfl
def Tg:P.cellsOf 424=3:=by kernel_rfl
def Lx:P.bytesOf 422=24:=by kernel_rfl
def Ly:P.bytesOf 424=24:=by kernel_rfl
def Hz(n:Nat):gr #[J 0,J 0,J 0] (n*3)=(dt n λ_=>(0,0,0)).toArray:=by
 apply gE;simp only[List.toList_toArray];refine ym (by simp[gr]) λi j hi a=>?_;simp only[gr,CN,e6,y2];rw[tU (by omega)];simp only[iy,iR];have:(i*3+j)%3=j:=by omega
 simp only[hP,c8,gH,bI,Nat.reduceAdd,this];obtain rfl|rfl|rfl:j=0\/j=1\/j=2:=by omega
 all_goals rfl
def DS{n:Nat}(a:n<=1048576){f:Nat->HP}(t:∀c,T B (cl c (dt n λ_=>(0,0,0)).toArray::H) (f c)):T B H (c5 P 422 n n f):=by refine gy (by omega) (by omega) (by omega) (by rw[Lx];omega) (by kernel_rfl) (by kernel_rfl) λc=>?_;rw[Tf,abi,aZ,Hz];exact t c
def DT{n:Nat}(a:n<=1048576){f:Nat->HP}(t:∀c,T B (cl c (dt n λ_=>(0,0,0)).toArray::H) (f c)):T B H (c5 P 424 n n f):=by refine gy (by omega) (by omega) (by omega) (by rw[Ly];omega) (by kernel_rfl) (by kernel_rfl) λc=>?_;rw[Tg,abj,aZ,Hz];exact t c
instance abL:St B H (ad P 233 #[] K) (T B H (K (.agg #[J (-1),J (-1)]))):=⟨by
 intro U;apply an (Nd);repeat first|refine Sa.go λ_=>?_|refine Sc.go (by first|rfl|exact⟨rfl,rfl⟩) ?_
 exact af U⟩
def Ag{l m:Nat}(hl:l<=1048576)(hm:m<=1048576)(U:∀b,T B (dH b (Ch.new l m)::H) (K (pz b))):T B H (ad P 145 #[J l,J m] K):=by
 apply an (Nc _ _)
 have main:∀b nb eu,T B (cl b #[.slice (some ⟨nb,0,none⟩) m m,.slice (some ⟨eu,0,none⟩) l l]::cl nb (dt m λ_=>(0,0,0)).toArray::cl eu (dt l λ_=>(0,0,0)).toArray::H)
   (b6 (some ⟨b,0,none⟩) 0 λL v M=>bz (dr λf w=>ae (decide (f<(↑v:Int))) (ay (some ⟨b,0,none⟩) λp=>a8 (Addr.add p 0) λq r x=>bH 233 #[] λs=>c7 (λy=>b0 y (Addr.add p 0)=some (Value.slice q r x)) (aP (Array.size s=2) (jY q r f 3 (Array.mk (cV (cV [J 0,J 0,J 0] 0 (Array.toList s)) 2 [J (-1)])) 3 (w [J (IntKind.wrap .i64 (f+1))])))) (b6 (some ⟨b,0,none⟩) 1 λN A O=>bz (dr λg C=>ae (decide (g<(↑A:Int))) (ay (some ⟨b,0,none⟩) λa49=>a8 (Addr.add a49 1) λt u D=>bH 233 #[] λE=>c7 (λF=>b0 F (Addr.add a49 1)=some (Value.slice t u D)) (jY t u g 3 E 2 (C [J (IntKind.wrap .i64 (g+1))]))) (K (pz b))) [J 0])) [J 0]):=by
  intro b nb eu;refine St.go (dh m (by omega) (λk H'=>H'=cl b #[.slice (some ⟨nb,0,none⟩) m m,.slice (some ⟨eu,0,none⟩) l l]::cl nb (dt m λi=>if i<k then(-1,-1,-1)else(0,0,0)).toArray::cl eu (dt l λ_=>(0,0,0)).toArray::H) (by simp) ?_);rintro k H' R G rfl n;repeat' first|apply St.go|refine S2.go (λ_=>?_) λ_=>?_|refine Sc.go rfl ?_|done
  ·show T B _ (jY (some ⟨nb,0,none⟩) m (k:Int) 3 #[J (-1),J (-1),J (-1)] 3 _)
   refine zB k rfl (by omega) (by omega) (n (by omega) _ ?_)
   have e:up (λi=>if i<k then((-1:Int),(-1:Int),(-1:Int))else(0,0,0)) k (-1,-1,-1)=λi=>if i<k+1 then(-1,-1,-1)else(0,0,0):=by
    funext i;unfold up;by_cases h:i=k
    ·subst h;simp
    ·simp only[aj h]
     by_cases a:i<k
     ·rw[ag a,ag (by omega)]
     ·rw[aj a,aj (by omega)]
   rw[e]
  ·obtain rfl:k=m:=by omega
   have e:(dt k λi=>if i<k then((-1:Int),(-1:Int),(-1:Int))else(0,0,0))=dt k λ_=>(-1,-1,-1):=by refine ym (qA _ _) λi j hi o=>?_;rw[tw hi o,ag hi]
   rw[e];apply dh l (by omega) (λz H'=>H'=cl b #[.slice (some ⟨nb,0,none⟩) k k,.slice (some ⟨eu,0,none⟩) l l]::cl nb (dt k λ_=>(-1,-1,-1)).toArray::cl eu (dt l λi=>if i<z then(-1,-1,0)else(0,0,0)).toArray::H) (by simp);rintro z H' R G rfl n;repeat' first|apply St.go|refine S2.go (λ_=>?_) λ_=>?_|done
   ·unfold jY
    rw[cR];refine ba ⟨by omega,by omega⟩ ?_;rw[aZ,aR,bI];refine nH rfl (by rw[hP,qA];omega) (by simp[Value.oneCell']) ?_;apply n (by omega) _
    have I:eB (dt l λi=>if i<z then((-1:Int),(-1:Int),(0:Int))else(0,0,0)).toArray (z*3) #[J (-1),J (-1)].toList=(dt l λi=>if i<z+1 then(-1,-1,0)else(0,0,0)).toArray:=by
     simp only[eB,jK];show(((dt l _).set (z*3+0) (J (-1))).set (z*3+1) (J (-1))).toArray=_;rw[tx (by omega) (by omega),tx (by omega) (by omega)];congr 2;funext i;unfold up;by_cases h:i=z
     ·subst h;simp[x',ya]
     ·simp only[aj h]
      by_cases a:i<z
      ·rw[ag a,ag (by omega)]
      ·rw[aj a,aj (by omega)]
    rw[I]
   ·obtain rfl:z=l:=by omega
    have e:(dt z λi=>if i<z then((-1:Int),(-1:Int),(0:Int))else(0,0,0))=dt z λ_=>(-1,-1,0):=by refine ym (qA _ _) λi j hi o=>?_;rw[tw hi o,ag hi]
    rw[e];exact k2 ⟨nb,eu,_,_⟩ ⟨jo.new z k,hl,hm⟩ (U b)
 repeat' first|apply St.go|refine S2.go (λ_=>?_) λ_=>?_|done
 ·omega
 ·omega
 ·omega
 ·omega
 refine e0 ?_ ?_
 ·refine DS hm λc=>DT hl λd=>eg λb=>St.go ?_
  simp only[aZ];exact af (main b c d)
 ·refine DT hl λd=>DS hm λc=>eg λb=>St.go ?_
  simp only[aZ];exact af (main b c d)
end
end
section
open Go.XS
section
variable {B:Heap}{H:au}{K:aK}
def aF(a:Int):Prop:=-9223372036854775808<=a/\a<=9223372036854775807
instance (a:Int):Decidable (aF a):=by unfold aF;infer_instance
def ux(a b:Int):Int:=if aF (a+b)then a+b else 0
def GV{a b:Int}(ha:aF a)(c:aF b)(U:T B H (K (.tuple #[.int .i64 (ux a b),.bool (decide (aF (a+b)))]))):T B H (ad P 356 #[.int .i64 a,.int .i64 b] K):=by
 apply an (O6 _ _);unfold aF at ha c;rw[aa5 (by omega) (by omega)];split<;>(try split)<;>repeat' first|apply St.go|refine S2.go (λ_=>?_) λ_=>?_|done
 all_goals first
  |(exfalso;omega)
  |(refine dT U ?_;simp only[ux,aF,Value.tuple.injEq,Array.mk.injEq,lH,Value.int.injEq,Value.bool.injEq];((repeat' (first|rfl|(with_reducible apply yZ)|(with_reducible refine jl.2 ?_)|split))<;>first|rfl|omega|(refine@cM _ (_) ?_;omega)|(refine@cP _ (_) ?_;omega)|(refine(@cM _ (_) ?_).symm;omega)|(refine(@cP _ (_) ?_).symm;omega)|(refine jl.2 ?_;omega)|(simp;done)|(simp<;>omega)|(simp at*<;>omega)))
def Hg{p:Int}(U:T B H (K (.bool (decide (0<=p/\p<4))))):T B H (ad P 458 #[.int .i64 p] K):=by refine an (PA _) (S2.go (λ_=>?_) λ_=>?_);all_goals (refine dT U ?_;simp;try omega)
def qs(p e:Int):Int:=if 0<=p/\p<4/\e=p+1 then(if p=3 then 0 else p+1)else 0
def vo(p e:Int):Int:=if 0<=p/\p<4/\1<=e/\e<=4 then(if e=p+1 then 0 else 18)else 2
def Xp{p e:Int}(U:T B H (K (.tuple #[.int .i64 (qs p e),.int .i64 (vo p e)]))):T B H (ad P 418 #[.int .i64 p,.int .i64 e] K):=by
 apply an (Py _ _);simp only[aR];by_cases h:0<=p/\p<4
 ·obtain rfl|rfl|rfl|rfl:p=0\/p=1\/p=2\/p=3:=by omega
  all_goals repeat first|apply St.go|refine Sa.go λ_=>?_|refine Sc.go ⟨rfl,rfl⟩ ?_
  all_goals refine Hg ?_
  all_goals repeat' first|apply St.go|refine aI (by with_reducible decide) ?_|refine S2.go (λ_=>?_) λ_=>?_|refine Sc.go (by omega) ?_|refine bg rfl ?_|done
  all_goals first|(exfalso;omega)|(refine af (dT U ?_)<;>simp only[qs,vo]<;>((repeat' (first|rfl|(with_reducible apply yZ)|(with_reducible refine jl.2 ?_)|split))<;>first|rfl|omega|(refine@cM _ (_) ?_;omega)|(refine@cP _ (_) ?_;omega)|(refine(@cM _ (_) ?_).symm;omega)|(refine(@cP _ (_) ?_).symm;omega)|(refine jl.2 ?_;omega)|(simp;done)|(simp<;>omega)|(simp at*<;>omega)))
 ·repeat first|apply St.go|refine Sa.go λ_=>?_|refine Sc.go ⟨rfl,rfl⟩ ?_
  apply Hg;rw[cP h];repeat apply St.go
  refine af (dT U ?_);simp only[qs,vo]
  ((repeat' (first|rfl|(with_reducible apply yZ)|(with_reducible refine jl.2 ?_)|split))<;>first|rfl|omega|(refine@cM _ (_) ?_;omega)|(refine@cP _ (_) ?_;omega)|(refine(@cM _ (_) ?_).symm;omega)|(refine(@cP _ (_) ?_).symm;omega)|(refine jl.2 ?_;omega)|(simp;done)|(simp<;>omega)|(simp at*<;>omega))
structure Acc where
 dZ:Int
 held:Int
 cB:Int
deriving DecidableEq
abbrev fH(a:Acc):aw:=#[.int .i64 a.dZ,.int .i64 a.held,.int .i64 a.cB]
def eM:Acc:=⟨0,0,0⟩
def cq(a:Acc):Bool:=decide (1<=a.dZ/\a.dZ<=1048576/\0<=a.held/\0<=a.cB/\a.held+a.cB<=a.dZ)
def js(a:Acc):Prop:=aF a.dZ/\aF a.held/\aF a.cB
def su{a:Acc}(ha:js a)(U:T B H (K (.bool (cq a)))):T B H (ad P 398 #[.agg (fH a)] K):=by
 apply an (L0 _);unfold fH;obtain⟨h1,b,c⟩:=ha;repeat first|apply St.go|refine Sa.go λ_=>?_
 apply GV b c;repeat' first|apply St.go|refine S2.go (λ_=>?_) λ_=>?_|done
 all_goals (refine af (dT U ?_);simp only[cq,ux,aF,Value.bool.injEq]at*;((repeat' (first|rfl|(with_reducible apply yZ)|(with_reducible refine jl.2 ?_)|split))<;>first|rfl|omega|(refine@cM _ (_) ?_;omega)|(refine@cP _ (_) ?_;omega)|(refine(@cM _ (_) ?_).symm;omega)|(refine(@cP _ (_) ?_).symm;omega)|(refine jl.2 ?_;omega)|(simp;done)|(simp<;>omega)|(simp at*<;>omega)))
def KD{c:Int}(hc:aF c)(U:T B H (K (.tuple #[.agg (fH (if cq ⟨c,0,0⟩then⟨c,0,0⟩else eM)),.int .i64 (if cq ⟨c,0,0⟩then 0 else 2)]))):T B H (ad P 341 #[.int .i64 c] K):=by
 apply an (LX _);repeat first|refine Sa.go λ_=>?_|refine Sc.go (by first|rfl|exact⟨rfl,rfl⟩) ?_
 refine su (a:=⟨c,0,0⟩) ⟨hc,by show aF 0;decide,by show aF 0;decide⟩ ?_;repeat' first|apply St.go|refine S2.go (λ_=>?_) λ_=>?_|refine Sc.go (by first|rfl|exact⟨rfl,rfl⟩) ?_|done
 all_goals (refine af (dT U ?_);simp[*,fH,eM])
def KC{a:Acc}(ha:js a)(U:T B H (K (.int .i64 (if cq a then a.dZ-a.held else 0)))):T B H (ad P 523 #[.agg (fH a)] K):=by
 apply an (LW _);repeat first|refine Sa.go λ_=>?_|refine Sc.go rfl ?_
 apply su ha;repeat' first|apply St.go|refine S2.go (λ_=>?_) λ_=>?_|done
 ·refine af (dT U ?_)
  simp[*]
 ·rename_i h
  refine af (dT U ?_);have b:=h;simp only[cq,bJ]at b;rw[ag h,br (by omega)]
inductive Ac where|dW|cu|cancel|eG
def Ac.ej:Ac->Acc->Int->Acc
 | .dW,a,n=>{a with cB:=a.cB+n}
 | .cu,a,n=>{a with cB:=a.cB-n,held:=a.held+n}
 | .cancel,a,n=>{a with cB:=a.cB-n}
 | .eG,a,n=>{a with held:=a.held-n}
def Ac.qI:Ac->Int| .dW=>7|_=>20
def Ac.fn:Ac->Nat| .dW=>478| .cu=>452| .cancel=>479| .eG=>480
def Ac.err(c:Ac)(a:Acc)(n:Int):Int:=if cq a/\1<=n then(if n<=1048576/\cq (c.ej a n)then 0 else c.qI)else 2
def Ac.val(c:Ac)(a:Acc)(n:Int):Acc:=if c.err a n=0 then c.ej a n else eM
abbrev lV(c:Ac)(a:Acc)(n:Int):Value:= .tuple #[.agg (fH (c.val a n)),.int .i64 (c.err a n)]
def KG{c:Ac}{a:Acc}{n:Int}(hr:cq a=true)(h1:1<=n)(b:n<=1048576)(U:T B H (K (.agg (fH (c.ej a n))))):T B H (ad P c.fn #[.agg (fH a),.int .i64 n] K):=by
 simp only[cq,bJ]at hr;cases c
 ·apply an (LZ _ _)
  unfold fH;repeat first|apply St.go|refine Sa.go λ_=>?_|refine Sc.go (by first|rfl|exact⟨rfl,rfl⟩) ?_
  rw[br (by omega)];exact af U
 ·apply an (LV _ _)
  unfold fH;repeat first|apply St.go|refine Sa.go λ_=>?_|refine Sc.go (by first|rfl|exact⟨rfl,rfl⟩) ?_
  rw[br (by omega),br (by omega)];exact af U
 ·apply an (LQ _ _)
  unfold fH;repeat first|apply St.go|refine Sa.go λ_=>?_|refine Sc.go (by first|rfl|exact⟨rfl,rfl⟩) ?_
  rw[br (by omega)];exact af U
 ·apply an (LS _ _)
  unfold fH;repeat first|apply St.go|refine Sa.go λ_=>?_|refine Sc.go (by first|rfl|exact⟨rfl,rfl⟩) ?_
  rw[br (by omega)];exact af U
def La(c:Ac):fW P c.fn=true:=by cases c<;>kernel_rfl
def Ky{c:Ac}{a:Acc}{n:Int}(hr:cq a=true)(h1:1<=n)(b:n<=1048576):js (c.ej a n):=by simp only[cq,bJ]at hr;cases c<;>simp only[Ac.ej,js,aF]<;>omega
def wP{c:Ac}{a:Acc}{n:Int}(ha:js a)(U:T B H (K (lV c a n))):T B H (ad P 451 #[.agg (fH a),.int .i64 n,.agg #[.func (.func c.fn) #[] #[],.int .i64 c.qI]] K):=by
 apply an (L1 _ _ _);repeat first|apply St.go|refine Sa.go λ_=>?_|refine Sc.go rfl ?_
 apply su ha;repeat' first|apply St.go|refine S2.go (λ_=>?_) λ_=>?_|refine Sc.go (by first|rfl|exact⟨rfl,rfl⟩) ?_|done
 ·rename_i h
  refine af (dT U ?_);simp[lV,Ac.val,Ac.err,h,eM,fH]
 ·rename_i h h1
  refine af (dT U ?_);simp[lV,Ac.val,Ac.err,h,eM,fH,h1,show¬1<=n by omega]
 ·rename_i h h1 d
  have hw:¬c.qI=0:=by cases c<;>simp[Ac.qI]
  refine af (dT U ?_);simp[lV,Ac.val,Ac.err,h,eM,fH,h1,show 1<=n by omega,show¬n<=1048576 by omega,hw]
 ·rename_i h h1 d
  refine nJ (La c) (KG h (by omega) (by omega) ?_);repeat first|apply St.go|refine Sa.go λ_=>?_|refine Sc.go (by first|rfl|exact⟨rfl,rfl⟩) ?_
  apply su (Ky h (by omega) (by omega));repeat' first|apply St.go|refine S2.go (λ_=>?_) λ_=>?_|refine Sc.go (by first|rfl|exact⟨rfl,rfl⟩) ?_|done
  ·rename_i b
   have hw:¬c.qI=0:=by cases c<;>simp[Ac.qI]
   refine af (dT U ?_);simp[lV,Ac.val,Ac.err,h,eM,fH,show 1<=n by omega,show n<=1048576 by omega,hw,b]
  ·rename_i b
   refine af (dT U ?_);simp[lV,Ac.val,Ac.err,h,show 1<=n by omega,show n<=1048576 by omega,b]
def KE{a:Acc}{n:Int}(ha:js a)(U:T B H (K (lV .dW a n))):T B H (ad P 441 #[.agg (fH a),.int .i64 n] K):=by
 apply an (LY _ _);repeat first|refine Sa.go λ_=>?_|refine Sc.go rfl ?_
 apply wP (c:= .dW) ha;repeat first|apply St.go|refine Sc.go (by first|rfl|exact⟨rfl,rfl⟩) ?_
 exact af U
def zL{a:Acc}{n:Int}(ha:js a)(U:T B H (K (lV .cu a n))):T B H (ad P 414 #[.agg (fH a),.int .i64 n] K):=by
 apply an (LU _ _);repeat first|refine Sa.go λ_=>?_|refine Sc.go rfl ?_
 apply wP (c:= .cu) ha;repeat first|apply St.go|refine Sc.go (by first|rfl|exact⟨rfl,rfl⟩) ?_
 exact af U
def KA{a:Acc}{n:Int}(ha:js a)(U:T B H (K (lV .cancel a n))):T B H (ad P 442 #[.agg (fH a),.int .i64 n] K):=by
 apply an (LP _ _);repeat first|refine Sa.go λ_=>?_|refine Sc.go rfl ?_
 apply wP (c:= .cancel) ha;repeat first|apply St.go|refine Sc.go (by first|rfl|exact⟨rfl,rfl⟩) ?_
 exact af U
def KB{a:Acc}{n:Int}(ha:js a)(U:T B H (K (lV .eG a n))):T B H (ad P 443 #[.agg (fH a),.int .i64 n] K):=by
 apply an (LR _ _);repeat first|refine Sa.go λ_=>?_|refine Sc.go rfl ?_
 apply wP (c:= .eG) ha;repeat first|apply St.go|refine Sc.go (by first|rfl|exact⟨rfl,rfl⟩) ?_
 exact af U
instance {p e:Int}:St B H (ad P 418 #[J p,J e] K) (T B H (K (.tuple #[J (qs p e),J (vo p e)]))):=⟨Xp⟩
instance {a b:Int}:Sc B H (ad P 356 #[J a,J b] K) (aF a/\aF b) (T B H (K (.tuple #[J (ux a b),.bool (decide (aF (a+b)))]))):=⟨λh U=>GV h.1 h.2 U⟩
def tL{n:Int}(h0:0<=n)(h1:n<18446744073709551616):IntKind.wrap .u64 n=n:=by show n%18446744073709551616=n;omega
def GX(x:Int):Int:=IntKind.wrap .u64 (bh .and .u64 (bO .u64 x 1) 6148914691236517205+bh .and .u64 x 6148914691236517205)
def GY(x:Int):Int:=IntKind.wrap .u64 (bh .and .u64 (bO .u64 x 2) 3689348814741910323+bh .and .u64 x 3689348814741910323)
def GZ(x:Int):Int:=bh .and .u64 (IntKind.wrap .u64 (bO .u64 x 4+x)) 1085102592571150095
def xR(s x:Int):Int:=IntKind.wrap .u64 (x+bO .u64 x s)
@[irreducible] def G0 (n:Int):Int:=bh .and .i64 (IntKind.wrap .i64 (xR 32 (xR 16 (xR 8 (GZ (GY (GX n))))))) 127
def nY(n:Int):Bool:=decide (n>0)&&(G0 n==1)
def nK(n b:Int):Int:=n+b-1-(n+b-1)%b
def kl(n b:Int):Bool:=decide (0<=n)&&nY b&&decide (nK n b<=9223372036854775807)
def iY(n b:Int):Int:=if kl n b then nK n b else 0
instance acy{n:Int}:Sc B H (ad P 136 #[J n] K) (aF n) (T B H (K (.bool (nY n)))):=⟨by
 intro a U;unfold aF at a;apply an (O8 _);unfold nY at U;refine S2.go (λ_=>?_) λ_=>?_
 ·rename_i h
  rw[tL (by omega) (by omega)];refine an (OP _) (an (OQ _) ?_);repeat first|apply St.go|refine Sc.go (by omega) ?_
  rw[cM h]at U;apply dT U;unfold G0 xR GZ GY GX;rfl
 ·rename_i h
  rw[cP h]at U;exact U⟩
def Hl{n:Int}(h:nY n=true):0<n:=by unfold nY at h;simp only[cg,bJ]at h;exact h.1
instance acx{n b:Int}:Sc B H (ad P 355 #[J n,J b] K) (aF n/\aF b) (T B H (K (.tuple #[J (iY n b),.bool (kl n b)]))):=⟨by
 rintro⟨d,e⟩ U;apply an (O7 _ _);unfold iY kl at U;repeat' first|apply St.go|refine S2.go (λ_=>?_) λ_=>?_|refine Sc.go (by omega) ?_|done
 ·rename_i h;rw[cP (by omega)]at U;exact U
 ·rename_i h1 a;rw[a,cM (by omega)]at U;exact U
 ··rename_i h1 a
   have:=Hl a;unfold aF at d e;rw[a,cM (by omega)]at U;simp only[ff]at U;rw[tL (n:=n) (by omega) (by omega),tL (n:=b) (by omega) (by omega),tL (n:=n+b) (by omega) (by omega),tL (n:=n+b-1) (by omega) (by omega),y5 (by omega)];have f:=Int.emod_nonneg (n+b-1) (b:=b) (by omega);have c:=y4 (n+b-1) this
   have g:(n+b-1)%b<=n+b-1:=by
    by_cases hc:n+b-1<b
    ·rw[Int.emod_eq_of_lt (by omega) hc];omega
    ·omega
   rw[tL (n:=n+b-1-(n+b-1)%b) (by omega) (by omega)];unfold nK at U;repeat' first|refine S2.go (λ_=>?_) λ_=>?_|refine Sc.go (by omega) ?_|done
   ·rename_i c;rw[cP (by omega)]at U;exact U
   ·rename_i c;rw[cM (by omega),ag rfl]at U
    rw[br (by omega)];exact U⟩
def D6{n b:Int}(h:kl n b=true):n<=iY n b/\iY n b<=9223372036854775807:=by unfold iY;rw[ag h];unfold kl at h;simp only[cg,bJ]at h;have a:=y4 (n+b-1) (Hl h.1.2);unfold nK at*;omega
def KL{n b:Int}(a:aF n):aF (iY n b):=by
 by_cases h:kl n b=true
 ·have:=D6 h
  unfold aF at*;unfold kl at h;simp only[cg,bJ]at h;omega
 ·unfold iY;rw[aj h];unfold aF;omega
def qt(c s a z:Int):Int:=
 if c<0\/s<1\/z<1\/nY a=false then 2 else if s>z\/a>z then 5 else if kl c a=false then 6 else if¬aF (iY c a+s)then 6 else if iY c a+s>z then 9 else 0
def rM(c s a z:Int):Int:=if qt c s a z=0 then iY c a else 0
def o9(c s a z:Int):Int:=if qt c s a z=0 then iY c a+s else 0
instance abG{c s a z:Int}:Sc B H (ad P 277 #[J c,J s,J a,J z] K) (aF c/\aF s/\aF a) (T B H (K (.tuple #[J (rM c s a z),J (o9 c s a z),J (qt c s a z)]))):=⟨by
 rintro⟨hc,hs,ha⟩ U;apply an (MQ _ _ _ _);have d:=KL (b:=a) hc;repeat' first|apply St.go|refine S2.go (λ_=>?_) λ_=>?_|refine Sc.go (by first|omega|(constructor<;>assumption)) ?_|done
 all_goals (refine dT U ?_;clear U;simp_all [rM,o9,qt,ux]<;>omega)⟩
end
end
section
open Go.XS
section
variable {B:Heap}{H:au}{K:aK}
def Xi:aw:=#[.int .i64 60,.int .i64 1,.int .i64 3,.int .i64 40,.int .i64 0,.int .i64 1048575,.int .i64 20,.int .i64 0,.int .i64 1048575,.int .i64 0,.int .i64 0,.int .i64 1048575]
def pS{a:Addr}{vs ds:aw}{n:Nat}{k:HP}(e:vs=ds)(t:T B H (gW a ds n k)):T B H (gW a vs n k):=e▸t
def FN(U:T B H (K (.agg Xi))):T B H (ad P 260 #[] K):=by
 apply an (NO);repeat first|refine Sa.go λ_=>?_|refine Sc.go (by first|rfl|exact⟨rfl,rfl⟩) ?_
 exact af U
def fK(k p g o:Int):Int:=if¬(1<=k/\k<=3)then 1 else if¬(0<=p/\p<=1048575)then 6 else if¬(0<=g/\g<=1048575)then 6 else if¬(0<=o/\o<=1048575)then 6 else 0
def dM(k p g o:Int):Int:=k*1152921504606846976+p*1099511627776+g*1048576+o
def UM{k p g o:Int}(h:¬(1<=k/\k<=3)):fK k p g o=1:=by unfold fK;rw[ag h]
def AH{k p g o:Int}(h:1<=k/\k<=3)(a:¬(0<=p/\p<=1048575/\0<=g/\g<=1048575/\0<=o/\o<=1048575)):fK k p g o=6:=by
 unfold fK;rw[aj (by omega)];split
 ·rfl
 ·split
  ·rfl
  ·rw[ag (by omega)]
def UL{k p g o:Int}(h:1<=k/\k<=3)(a:0<=p/\p<=1048575/\0<=g/\g<=1048575/\0<=o/\o<=1048575):fK k p g o=0:=by unfold fK;rw[aj (by omega),aj (by omega),aj (by omega),aj (by omega)]
def UO{k p g o:Int}(U:T B H (K (.tuple #[J (if fK k p g o=0 then dM k p g o else 0),J (fK k p g o)]))):T B H (ad P 166 #[J k,J p,J g,J o] K):=by
 apply an (NN _ _ _ _);repeat first|refine Sa.go λ_=>?_|refine Sc.go ⟨rfl,rfl⟩ ?_
 refine FN (St.go ?_);rename_i x
 refine qX (λm h i H'=>H'=cl x #[J k,J p,J g,J o]::H/\((m=4/\h=0/\i=0)\/(m=3/\h=k*1152921504606846976/\i=1/\1<=k/\k<=3)\/
   (m=2/\h=k*1152921504606846976+p*1099511627776/\i=2/\1<=k/\k<=3/\0<=p/\p<=1048575)\/
   (m=1/\h=k*1152921504606846976+p*1099511627776+g*1048576/\i=3/\1<=k/\k<=3/\0<=p/\p<=1048575/\0<=g/\g<=1048575)\/
   (m=0/\h=dM k p g o/\i=4/\1<=k/\k<=3/\0<=p/\p<=1048575/\0<=g/\g<=1048575/\0<=o/\o<=1048575))) 4 ⟨rfl,.inl ⟨rfl,rfl,rfl⟩⟩ ?_
 rintro m h i H' R ⟨rfl,b⟩ a;rcases b with⟨rfl,rfl,rfl⟩|⟨rfl,rfl,rfl,h1⟩|⟨rfl,rfl,rfl,h1⟩|⟨rfl,rfl,rfl,h1⟩|⟨rfl,rfl,rfl,h1⟩
 ·repeat first|refine Sa.go λ_=>?_|refine bo (by with_reducible decide) ?_|refine Sc.go (by omega) ?_
  apply pS (ds:=#[J 60,J 1,J 3]) rfl;repeat' first|apply St.go|refine S2.go (λ_=>?_) λ_=>?_|refine Sc.go (by first|omega|exact⟨rfl,rfl⟩) ?_|refine bg rfl ?_|done
  ·refine af (a 3 _ _ _ (by omega) ⟨rfl,.inr (.inl ⟨rfl,?_,rfl,by omega,by omega⟩)⟩)
   rw[show iG .i64 k 60=IntKind.wrap .i64 (k*1152921504606846976)from rfl,jh (n:=k*1152921504606846976) (by omega) (by omega),br (by omega)];omega
  all_goals first|(exfalso;omega)|(refine af (dT U ?_);rw[UM (by omega)];rfl)
 ·repeat first|refine Sa.go λ_=>?_|refine bo (by with_reducible decide) ?_|refine Sc.go (by omega) ?_
  apply pS (ds:=#[J 40,J 0,J 1048575]) rfl;repeat' first|apply St.go|refine aI (by with_reducible decide) ?_|refine S2.go (λ_=>?_) λ_=>?_|refine Sc.go (by first|omega|exact⟨rfl,rfl⟩) ?_|refine bg rfl ?_|done
  ·refine af (a 2 _ _ _ (by omega) ⟨rfl,.inr (.inr (.inl ⟨rfl,?_,rfl,by omega,by omega,by omega,by omega⟩))⟩)
   rw[show iG .i64 p 40=IntKind.wrap .i64 (p*1099511627776)from rfl,jh (n:=p*1099511627776) (by omega) (by omega),br (by omega)]
  all_goals first|(exfalso;omega)|(refine af (dT U ?_);rw[AH (by omega) (by omega)];rfl)
 ·repeat first|refine Sa.go λ_=>?_|refine bo (by with_reducible decide) ?_|refine Sc.go (by omega) ?_
  apply pS (ds:=#[J 20,J 0,J 1048575]) rfl;repeat' first|apply St.go|refine aI (by with_reducible decide) ?_|refine S2.go (λ_=>?_) λ_=>?_|refine Sc.go (by first|omega|exact⟨rfl,rfl⟩) ?_|refine bg rfl ?_|done
  ·refine af (a 1 _ _ _ (by omega) ⟨rfl,.inr (.inr (.inr (.inl ⟨rfl,?_,rfl,by omega,by omega,by omega,by omega,by omega,by omega⟩)))⟩)
   rw[show iG .i64 g 20=IntKind.wrap .i64 (g*1048576)from rfl,jh (n:=g*1048576) (by omega) (by omega),br (by omega)]
  all_goals first|(exfalso;omega)|(refine af (dT U ?_);rw[AH (by omega) (by omega)];rfl)
 ·repeat first|refine Sa.go λ_=>?_|refine bo (by with_reducible decide) ?_|refine Sc.go (by omega) ?_
  apply pS (ds:=#[J 0,J 0,J 1048575]) rfl;repeat' first|apply St.go|refine aI (by with_reducible decide) ?_|refine S2.go (λ_=>?_) λ_=>?_|refine Sc.go (by first|omega|exact⟨rfl,rfl⟩) ?_|refine bg rfl ?_|done
  ·refine af (a 0 _ _ _ (by omega) ⟨rfl,.inr (.inr (.inr (.inr ⟨rfl,?_,rfl,by omega,by omega,by omega,by omega,by omega,by omega,by omega,by omega⟩)))⟩)
   rw[show iG .i64 o 0=IntKind.wrap .i64 (o*1)from rfl,jh (n:=o*1) (by omega) (by omega),br (by omega),Int.mul_one];rfl
  all_goals first|(exfalso;omega)|(refine af (dT U ?_);rw[AH (by omega) (by omega)];rfl)
 ·refine aI (by with_reducible decide) (af (dT U ?_))
  rw[UL (by omega) (by omega)];rfl
def AP{x:Int}(h0:0<=x)(h1:x<=9223372036854775807):bh .and .i64 x 1048575=x%1048576:=by
 obtain⟨n,rfl⟩:=Int.eq_ofNat_of_zero_le h0;have c:n<2^64:=by omega
 have e:(BitVec.ofInt 64 (n:Int)&&&BitVec.ofInt 64 1048575).toNat=n%1048576:=by
  rw[BitVec.toNat_and,BitVec.toNat_ofInt,BitVec.toNat_ofInt];have a:((n:Int)%((2^64:Nat):Int)).toNat=n:=by omega
  rw[a];have b:((1048575:Int)%((2^64:Nat):Int)).toNat=2^20-1:=by decide
  rw[b,Nat.and_two_pow_sub_one_eq_mod]
 show IntKind.wrap .i64 ((BitVec.ofInt 64 (n:Int)&&&BitVec.ofInt 64 1048575).toNat:Int)=_;rw[e,br (by omega)];omega
def xc{x:Int}(h:0<=x)(k:Nat):x.fdiv (2^k)=x/2^k:=by rw[CX];exact Int.le_of_lt (Int.pow_pos (by decide))
def hv(h:Int):Int:=h/1152921504606846976
def gP(h:Int):Int:=h/1099511627776%1048576
def gG(h:Int):Int:=h/1048576%1048576
def iE(h:Int):Int:=h%1048576
def mO(h:Int):Bool:=decide (0<=h/\1<=hv h/\hv h<=3)
def qe(h:Int):Value:=if mO h then .tuple #[.int .i64 (hv h),.int .i64 (gP h),.int .i64 (gG h),.int .i64 (iE h),.bool true]
 else .tuple #[.int .i64 0,.int .i64 0,.int .i64 0,.int .i64 0,.bool false]
def UN{h:Int}(c:aF h)(U:T B H (K (qe h))):T B H (ad P 196 #[J h] K):=by
 apply an (NM _);unfold aF at c;repeat' first|refine Sa.go λ_=>?_|refine S2.go (λ_=>?_) λ_=>?_|done
 ·refine af (dT U ?_)
  rw[qe,aj (by simp only[mO,bJ];omega)]
 refine FN (St.go ?_);rename_i k x;have a:0<=h:=by omega
 have d:bO .i64 h 60=hv h:=xc a 60;have e:bh .and .i64 (bO .i64 h 40) 1048575=gP h:=by rw[show bO .i64 h 40=h/1099511627776 from xc a 40,AP (by omega) (by omega)];rfl
 have f:bh .and .i64 (bO .i64 h 20) 1048575=gG h:=by rw[show bO .i64 h 20=h/1048576 from xc a 20,AP (by omega) (by omega)];rfl
 have s0:bh .and .i64 (bO .i64 h 0) 1048575=iE h:=by rw[show bO .i64 h 0=h/1 from xc a 0,AP (by omega) (by omega),Int.ediv_one];rfl
 have l:0<=gP h/\gP h<=1048575:=by unfold gP;omega
 have n:0<=gG h/\gG h<=1048575:=by unfold gG;omega
 have o:0<=iE h/\iE h<=1048575:=by unfold iE;omega
 have bad:(hv h<1\/hv h>3)->∀H',Sb H' H->T B H' (K (.tuple #[J 0,J 0,J 0,J 0,.bool false])):=by intro g H' hs;refine af (dT U ?_);rw[qe,aj (by simp only[mO,bJ];omega)]
 refine wK (λm i H'=>(m=4/\i=0/\H'=cl x #[J 0,J 0,J 0,J 0]::H)\/((1<=hv h/\hv h<=3)/\(
   (m=3/\i=1/\H'=cl x #[J (hv h),J 0,J 0,J 0]::H)\/(m=2/\i=2/\H'=cl x #[J (hv h),J (gP h),J 0,J 0]::H)\/
   (m=1/\i=3/\H'=cl x #[J (hv h),J (gP h),J (gG h),J 0]::H)\/(m=0/\i=4/\H'=cl x #[J (hv h),J (gP h),J (gG h),J (iE h)]::H)))) 4 (.inl ⟨rfl,rfl,rfl⟩) ?_
 rintro m i H' R j b;rcases j with⟨rfl,rfl,rfl⟩|⟨g,⟨rfl,rfl,rfl⟩|⟨rfl,rfl,rfl⟩|⟨rfl,rfl,rfl⟩|⟨rfl,rfl,rfl⟩⟩
 ·simp only[Int.reduceToNat]
  repeat first|refine Sa.go λ_=>?_|refine bo (by with_reducible decide) ?_|refine Sc.go (by omega) ?_
  apply pS (ds:=#[J 60,J 1,J 3]) rfl;repeat' first|apply St.go|refine aI (by with_reducible decide) ?_|refine S2.go (λ_=>?_) λ_=>?_|refine Sc.go (by first|omega|exact⟨rfl,rfl⟩) ?_|done
  all_goals (simp only[d]at*)
  all_goals first
   |(refine bad ?_ _ inferInstance;omega)
   |(refine af (b 3 _ _ (by omega) (.inr ⟨⟨?_,?_⟩,.inl ⟨rfl,rfl,rfl⟩⟩))<;>omega)
 ·simp only[Int.reduceToNat]
  repeat first|refine Sa.go λ_=>?_|refine bo (by with_reducible decide) ?_|refine Sc.go (by omega) ?_
  apply pS (ds:=#[J 40,J 0,J 1048575]) rfl;repeat' first|apply St.go|refine bo (by with_reducible decide) ?_|refine S2.go (λ_=>?_) λ_=>?_|refine Sc.go (by first|omega|exact⟨rfl,rfl⟩) ?_|done
  all_goals (simp only[e]at*)
  all_goals first
   |(exfalso;omega)
   |(refine af (b 2 _ _ (by omega) (.inr ⟨⟨?_,?_⟩,.inr (.inl ⟨rfl,rfl,rfl⟩)⟩))<;>omega)
 ·simp only[Int.reduceToNat]
  repeat first|refine Sa.go λ_=>?_|refine bo (by with_reducible decide) ?_|refine Sc.go (by omega) ?_
  apply pS (ds:=#[J 20,J 0,J 1048575]) rfl;repeat' first|apply St.go|refine bo (by with_reducible decide) ?_|refine S2.go (λ_=>?_) λ_=>?_|refine Sc.go (by first|omega|exact⟨rfl,rfl⟩) ?_|done
  all_goals (simp only[f]at*)
  all_goals first
   |(exfalso;omega)
   |(refine af (b 1 _ _ (by omega) (.inr ⟨⟨?_,?_⟩,.inr (.inr (.inl ⟨rfl,rfl,rfl⟩))⟩))<;>omega)
 ·simp only[Int.reduceToNat]
  repeat first|refine Sa.go λ_=>?_|refine bo (by with_reducible decide) ?_|refine Sc.go (by omega) ?_
  apply pS (ds:=#[J 0,J 0,J 1048575]) rfl;repeat' first|apply St.go|refine bo (by with_reducible decide) ?_|refine S2.go (λ_=>?_) λ_=>?_|refine Sc.go (by first|omega|exact⟨rfl,rfl⟩) ?_|done
  all_goals (simp only[s0]at*)
  all_goals first
   |(exfalso;omega)
   |(refine af (b 0 _ _ (by omega) (.inr ⟨⟨?_,?_⟩,.inr (.inr (.inr ⟨rfl,rfl,rfl⟩))⟩))<;>omega)
 ·repeat first|apply St.go|refine aI (by with_reducible decide) ?_|refine Sc.go (by omega) ?_
  refine af (dT U ?_);rw[qe,ag (by simp only[mO,bJ];omega)]
instance {h:Int}:Sc B H (ad P 196 #[J h] K) (aF h) (T B H (K (qe h))):=⟨λa b=>UN a b⟩
instance {k p g o:Int}:St B H (ad P 166 #[J k,J p,J g,J o] K) (T B H (K (.tuple #[J (if fK k p g o=0 then dM k p g o else 0),J (fK k p g o)]))):=⟨UO⟩
end
end
section
open Go.XS Go.bm
abbrev sr(a:Acc):Value:= .agg (fH a)
instance :ia P 321 Acc sr eM:=⟨55,by kernel_rfl,py,by kernel_rfl⟩
instance {x y z:Int}:nC sr (.agg #[J x,J y,J z]) ⟨x,y,z⟩:=⟨rfl⟩
instance :fG P 32 4:=fG.of (e:=0) (by kernel_rfl)
structure bG where
 aU:aT
 all:ML Acc
namespace bG
structure Ok(A:bG):Prop where
 n:A.aU.b7.length=64
 all:∀e∈A.all,cq e.2=true
 bX:bQ A.all
abbrev new:bG:=⟨aT.new 64,[]⟩
def at'(A:bG)(p:Int):Acc:=(aQ A.all p).getD eM
def e1(A:bG)(p g:Int):Int:=if A.aU.right p g then 0 else 4
def get(A:bG)(p g:Int):Acc:=if A.aU.right p g then A.at' p else eM
def tf(A:bG)(c:Int):Int:=if cq ⟨c,0,0⟩then(if A.aU.fZ then 0 else 10)else 2
def opened(A:bG)(c:Int):bG:=if cq ⟨c,0,0⟩then(if A.aU.fZ then⟨A.aU.opened,bC A.aU.cG ⟨c,0,0⟩ A.all⟩else A)else A
def sG(A:bG)(p g:Int):Int:=if A.e1 p g=0 then(if(A.get p g).held+(A.get p g).cB>0 then 11 else 0)else A.e1 p g
def close(A:bG)(p g:Int):bG:=if A.sG p g=0 then⟨A.aU.close p g,bN p A.all⟩else A
def cI(A:bG)(w:Ac)(p g n:Int):Int:=if A.e1 p g=0 then w.err (A.get p g) n else A.e1 p g
def bK(A:bG)(w:Ac)(p g n:Int):bG:=if A.cI w p g n=0 then{A with all:=bC p (w.ej (A.get p g) n) A.all}else A
end bG
def Ac.num:Ac->Int| .dW=>1| .cu=>2| .cancel=>3| .eG=>4
structure Dl where
 s:Nat
 r:Nat
abbrev zK(b:Nat)(A:bG)(x:Dl)(H:au):au:=
 cl b #[pz x.s,.map (some x.r)]::ft x.s A.aU::MP sr x.r A.all::H
def gJ(b:Nat)(A:bG):bc:=BX A.Ok (zK b A)
section
variable {B:Heap}{H H0:au}{K:aK}{b:Nat}{A:bG}{p g n c:Int}
def pU{q:HP}(t:∀x,A.Ok->T B (zK b A x H) q):T B (gJ b A::H) q:=pM (λ_ _=>rfl) t
def lU{q:HP}(x:Dl)(h:A.Ok)(t:T B (gJ b A::H) q):T B (zK b A x H) q:=pL x h (λ_ _=>rfl) t
def bG.Ok.Eb(h:A.Ok):js (A.at' p):=by
 unfold bG.at'
 cases b:aQ A.all p with
 |none=>exact⟨by decide,by decide,by decide⟩
 |some a=>have:=h.all _ (jA b);simp only[cq,bJ]at this;simp only[js,aF,fx];omega
def KI(U:∀b,T B (gJ b bG.new::H) (K (pz b))):T B H (ad P 144 #[] K):=by
 apply an (L8);refine B8 (n:=64) (by omega) λs=>?_;repeat first|apply St.go|refine Sa.go λ_=>?_
 rename_i r b;refine bL (q:=IM r λ_=>none) (iT sr ?_);exact af (lU (A:=bG.new) ⟨s,r⟩ ⟨by simp[aT.new],by simp,by simp[bQ,a7,ed]⟩ (U b))
instance abu[h:Ow H (gJ b) A H0]:St B H (ad P 154 #[pz b] K) (T B (gJ b A::H0) (K (.bool true))):=⟨by
 intro U;refine bf h.pl (pU λx a=>an (L7 _) ?_);repeat apply St.go
 exact af (lU x a U)⟩
def zM[h:Ow H (gJ b) A H0](U:A.Ok->T B (gJ b A::H0) (K (.tuple #[.agg (fH (A.get p g)),J (A.e1 p g)]))):T B H (ad P 256 #[pz b,J p,J g] K):=by
 refine bf h.pl (an (L4 _ _ _) ?_);unfold bG.get bG.e1 at U;repeat first|apply St.go|refine Sa.go λ_=>?_
 refine aL (gJ b) (pU λx a=>?_)
 replace U:=U a
 repeat' first|apply St.go|refine S2.go (λ_=>?_) λ_=>?_|refine Sc.go (by first|rfl|exact⟨rfl,rfl⟩) ?_|done
 ·rename_i hr
  rw[hr]at U;exact af (lU x a U)
 ·rename_i hr
  rw[hr]at U;exact af (lU x a U)
def aT.xS{S:aT}:S.opened.b7=S.b7:=by
 unfold aT.opened;split
 ·exact S.Bx.1
 ·rfl
def KJ(hc:aF c)[h:Ow H (gJ b) A H0](U:T B (gJ b (A.opened c)::H0) (K (.tuple #[J (if A.tf c=0 then A.aU.cG else 0),J (if A.tf c=0 then A.aU.fM else 0),J (A.tf c)]))):T B H (ad P 254 #[pz b,J c] K):=by
 refine bf h.pl (an (L6 _ _) ?_);unfold bG.tf bG.opened at U;repeat apply St.go
 apply KD hc;by_cases hr:cq ⟨c,0,0⟩=true
 ·simp only[hr,eb]at U⊢
  repeat first|apply St.go|refine Sa.go λ_=>?_|refine Sc.go ⟨rfl,rfl⟩ ?_
  refine aL (gJ b) (pU λx a=>?_);repeat' first|apply St.go|refine S2.go (λ_=>?_) λ_=>?_|refine Sc.go rfl ?_|done
  ·rename_i d
   have e:A.aU.opened=A.aU:=by unfold aT.fZ at d;unfold aT.opened;rw[d];rfl
   rw[d]at U;rw[e];exact af (lU x a U)
  ·rename_i d
   rw[d]at U;refine af (lU (A:=⟨A.aU.opened,bC A.aU.cG ⟨c,0,0⟩ A.all⟩) x ⟨?_,?_,fu a.bX⟩ U)
   ·rw[aT.xS];exact a.n
   ·intro e he
    rcases(o2 a.bX).1 he with rfl|⟨he,_⟩
    ·exact hr
    ·exact a.all e he
 ·have f:cq ⟨c,0,0⟩=false:=by simpa using hr
  simp only[f,gb,ep]at U⊢;repeat first|apply St.go|refine Sa.go λ_=>?_|refine bo (by with_reducible decide) ?_|refine Sc.go ⟨rfl,rfl⟩ ?_
  exact af U
def Ac.w5:Ac->Nat| .dW=>441| .cu=>414| .cancel=>442| .eG=>443
def K'(w:Ac):fW P w.w5=true:=by cases w<;>kernel_rfl
def KF{w:Ac}{a:Acc}(ha:js a)(U:T B H (K (lV w a n))):T B H (ad P w.w5 #[.agg (fH a),J n] K):=by
 cases w
 ·exact KE ha U
 ·exact zL ha U
 ·exact KA ha U
 ·exact KB ha U
def Ac.As{w:Ac}{a:Acc}(h:w.err a n=0):cq a=true/\1<=n/\cq (w.ej a n)=true/\w.val a n=w.ej a n:=by
 have hw:¬w.qI=0:=by cases w<;>simp[Ac.qI]
 unfold Ac.val;rw[ag h];unfold Ac.err at h;split at h
 ·rename_i h1
  split at h
  ·rename_i b;exact⟨h1.1,h1.2,b.2,rfl⟩
  ·exact absurd h hw
 ·cases h
def KH{w:Ac}[h:Ow H (gJ b) A H0](U:T B (gJ b (A.bK w p g n)::H0) (K (J (A.cI w p g n)))):T B H (ad P 346 #[pz b,J w.num,J p,J g,J n] K):=by
 refine bf h.pl (an (L3 _ _ _ _ _) ?_);apply an (L9);unfold bG.bK bG.cI at U;repeat' first|apply St.go|refine Sa.go λ_=>?_|refine S2.go (λ_=>?_) λ_=>?_|refine Sc.go (by first|rfl|exact⟨rfl,rfl⟩) ?_|done
 ·rename_i h1;exfalso;cases w<;>simp[Ac.num]at h1
 ·rename_i h1;exfalso;cases w<;>simp[Ac.num]at h1
 refine zM λc=>?_;repeat' first|apply St.go|refine Sa.go λ_=>?_|refine S2.go (λ_=>?_) λ_=>?_|refine Sc.go (by first|omega|exact⟨rfl,rfl⟩) ?_|done
 ·rename_i he
  rw[aj he,aj he]at U;exact af U
 ·rename_i he
  rw[ag he]at U
  have hr:A.aU.right p g=true:=by
   unfold bG.e1 at he;split at he
   ·assumption
   ·cases he
  have j:A.get p g=A.at' p:=by unfold bG.get;rw[ag hr]
  have aM:js (A.get p g):=by rw[j];exact c.Eb
  have main:∀i:aK,∀H2,T B H2 (i (lV w (A.get p g) n))->T B H2 (lG P (.func (.func w.w5) #[] #[]) [.agg (fH (A.get p g)),J n] i):=λi H2 t=>nJ (K' w) (KF aM t)
  have k:∀{H2:au} {a:Nat} {f:aK} [bZ B H2 a #[.nilFunc,.func (.func 441) #[] #[],.func (.func 414) #[] #[],.func (.func 442) #[] #[],.func (.func 443) #[] #[]]],T B H2 (f (.func (.func w.w5) #[] #[]))->T B H2 (gN (Addr.add (ai a 0) (Int.toNat w.num)) f):=by
   intro H2 a f _ t;cases w
   ·show T B H2 (gN ⟨a,1,none⟩ f);exact hT (v:= .func (.func 441) #[] #[]) (by simp) t
   ·show T B H2 (gN ⟨a,2,none⟩ f);exact hT (v:= .func (.func 414) #[] #[]) (by simp) t
   ·show T B H2 (gN ⟨a,3,none⟩ f);exact hT (v:= .func (.func 442) #[] #[]) (by simp) t
   ·show T B H2 (gN ⟨a,4,none⟩ f);exact hT (v:= .func (.func 443) #[] #[]) (by simp) t
  refine k (Sc.go rfl (main _ _ ?_));repeat' first|apply St.go|refine S2.go (λ_=>?_) λ_=>?_|refine Sc.go ⟨rfl,rfl⟩ ?_|done
  ·rename_i d
   obtain⟨_,_,l,m⟩:=Ac.As d;rw[ag d,d]at U;refine aL (gJ b) (pU λx c=>?_);repeat first|apply St.go|refine Sc.go rfl ?_
   rw[d];have:=lU (A:={A with all:=bC p (w.ej (A.get p g) n) A.all}) x ⟨c.n,λe he=>?_,fu c.bX⟩ U
   ·rw[<-m]at this
    exact af this
   ·rcases(o2 c.bX).1 he with rfl|⟨he,_⟩
    ·exact l
    ·exact c.all e he
  ·rename_i d
   rw[aj d]at U;exact af U
instance abr[h:Ow H (gJ b) A H0]:St B H (ad P 261 #[pz b,J p,J g] K) (T B (gJ b (A.close p g)::H0) (K (J (A.sG p g)))):=⟨by
 intro U;refine bf h.pl (an (L2 _ _ _) ?_);refine zM λc=>?_;unfold bG.close bG.sG at U;repeat' first|apply St.go|refine Sa.go λ_=>?_|refine S2.go (λ_=>?_) λ_=>?_|refine Sc.go ⟨rfl,rfl⟩ ?_|done
 ·rename_i he;rw[aj he,aj he]at U;exact af U
 ·rename_i he d
  have aM:js (A.get p g):=by
   unfold bG.get;split
   ·exact c.Eb
   ·exact⟨by decide,by decide,by decide⟩
  have i:0<=(A.get p g).held+(A.get p g).cB/\(A.get p g).held+(A.get p g).cB<=1048576:=by
   have hr:A.aU.right p g=true:=by
    unfold bG.e1 at he;split at he
    ·assumption
    ·cases he
   unfold bG.get;rw[ag hr];unfold bG.at'
   cases f:aQ A.all p with
   |none=>simp[eM]
   |some a=>have:=c.all _ (jA f);simp only[cq,bJ]at this;simp only[fx];omega
  rw[br (by omega)]at d;rw[ag he,ag d,aj (by decide)]at U;exact af U
 ·rename_i he d
  have hr:A.aU.right p g=true:=by
   unfold bG.e1 at he;split at he
   ·assumption
   ·cases he
  have i:0<=(A.get p g).held+(A.get p g).cB/\(A.get p g).held+(A.get p g).cB<=1048576:=by
   unfold bG.get;rw[ag hr];unfold bG.at'
   cases f:aQ A.all p with
   |none=>simp[eM]
   |some a=>have:=c.all _ (jA f);simp only[cq,bJ]at this;simp only[fx];omega
  rw[br (by omega)]at d;rw[ag he,aj d,ag rfl]at U;refine aL (gJ b) (pU λx c=>?_);repeat apply St.go
  refine af (lU x ⟨?_,λe he=>c.all e (ta.1 he).1,ml c.bX⟩ U)
  have e:(A.aU.close p g).b7.length=A.aU.b7.length:=by unfold aT.close;rw[ag hr];simp[aT.shut]
  exact e.trans c.n⟩
abbrev Mem:=Int×Acc
abbrev fL(m:Mem):az:=[J m.1,J m.2.dZ,J m.2.held,J m.2.cB]
def gp(m:Mem):(fL m).length=4:=rfl
def bG.members(A:bG):List Mem:=(a7 A.aU.cN).map λp=>(p,A.at' p)
def bG.u4(A:bG):A.members.length=A.aU.cN.length:=by simp[bG.members]
def aW(l:List Mem):az:=l.flatMap fL
def bG.uW{A:bG}(e:A.Ok)(c:A.aU.Ok):A.aU.cN.length<=64:=by
 have h1:=nT 64 (l:=(a7 A.aU.cN).map Int.toNat) ?_ ?_
 ·simp at h1;omega
 ·refine tQ _ (λa b f=>?_) (y6.1 (mg c.bX))
  obtain⟨ha,g,k⟩:=f;obtain⟨x,d,rfl⟩:=bP.1 ha;obtain⟨y,h,rfl⟩:=bP.1 g;have:=c.op x d;have:=c.op y h;omega
 ·intro p i
  obtain⟨q,j,rfl⟩:=bP.1 i;obtain⟨x,d,rfl⟩:=bP.1 j;have:=c.op x d;have:=c.fresh;have:=e.n;omega
instance abt[h:Ow H (gJ b) A H0]:Sa B H (ad P 87 #[pz b] K) (λx:av×Nat=>T B (gJ b A::ah 4 x.1 A.members.length x.2 (aW A.members)::H0) (K (.slice x.1 A.members.length x.2))):=⟨by
 intro U;refine bf h.pl (an (L5 _) ?_);repeat apply St.go
 refine aL (gJ b) (pU λx f=>?_);refine St.go (aL (ft x.s) (n' λy g=>kJ y g ?_));have hlen:A.aU.cN.length<1000000:=by have:=bG.uW f g;omega
 repeat first|apply St.go|refine Sx.go (by omega) λ_=>?_
 rename_i q;refine dL 4 ?_;have i:=A.u4;refine af (H':=ah 4 none 0 0 []::ft x.s A.aU::ah 1 q.1 A.aU.cN.length q.2 (iv .i64 (a7 A.aU.cN))::cl b #[pz x.s,.map (some x.r)]::MP sr x.r A.all::H0) ?_;refine nI A.aU.cN.length (by omega) (λk p l c H'=>l=k/\H'=ah 4 p k c (aW (A.members.take k))::ft x.s A.aU::ah 1 q.1 A.aU.cN.length q.2 (iv .i64 (a7 A.aU.cN))::cl b #[pz x.s,.map (some x.r)]::MP sr x.r A.all::H0) ⟨rfl,rfl⟩ ?_;rintro k p l c H' R n ⟨rfl,rfl⟩ j;refine S2.go (λ_=>?_) λ_=>?_
 ·have a:l<A.aU.cN.length:=by omega
  have d:(a7 A.aU.cN)[l]?=some ((a7 A.aU.cN)[l]'(by simpa using a)):=bj _;generalize(a7 A.aU.cN)[l]'(by simpa using a)=v at d;apply fA l rfl a d;repeat first|apply St.go|refine Sa.go λ_=>?_|refine Sc.go rfl ?_
  refine jP (ds:=(fL (v,A.at' v)).toArray) rfl ?_;refine eZ rfl (by omega) λm c'=>?_;have hm:A.members[l]?=some (v,A.at' v):=by unfold bG.members;rw[e6,d];rfl
  have e:aW (A.members.take l)++(fL (v,A.at' v)).toArray.toList=aW (A.members.take (l+1)):=by rw[ef hm];simp[aW]
  rw[e];exact af (j a m _ c' _ ⟨rfl,rfl⟩)
 ·have hl:l=A.aU.cN.length:=by omega
  have e:A.members.take l=A.members:=ke (by omega);rw[e];have:=U (p,c);rw[i,<-hl]at this;exact af (lU x f this)⟩
end
end
section
open Go.XS Go.bm
structure bE where
 chunks:Int
 ar:bG
namespace bE
def bk(L:bE)(c:Int):Int:=if mO c=true/\hv c=1/\iE c=0 then L.ar.e1 (gP c) (gG c)else 3
def place(L:bE)(c:Int):Int:=if L.bk c=0 then gP c else 0
def x7(L:bE)(c:Int):Int:=if L.bk c=0 then gG c else 0
def uy(L:bE)(c:Int):Bool:=decide (1<=c/\c<=L.chunks/\L.chunks<=1048576)
def rP(L:bE)(c:Int):Int:=if L.uy c then(if L.ar.tf c=0 then fK 1 L.ar.aU.cG L.ar.aU.fM 0 else L.ar.tf c)else 2
def tt(L:bE)(c:Int):Int:=if L.rP c=0 then dM 1 L.ar.aU.cG L.ar.aU.fM 0 else 0
def bR(L:bE)(c:Int):bE:=if L.uy c then{L with ar:=L.ar.opened c}else L
def rR(L:bE)(c:Int):Int:=if L.bk c=0 then L.ar.sG (gP c) (gG c)else L.bk c
def ret(L:bE)(c:Int):bE:=if L.bk c=0 then{L with ar:=L.ar.close (gP c) (gG c)}else L
def cI(L:bE)(w:Ac)(c n:Int):Int:=if L.bk c=0 then L.ar.cI w (gP c) (gG c) n else L.bk c
def bK(L:bE)(w:Ac)(c n:Int):bE:=if L.bk c=0 then{L with ar:=L.ar.bK w (gP c) (gG c) n}else L
end bE
abbrev A5(b:Nat)(L:bE)(x:Nat)(H:au):au:=cl b #[J L.chunks,pz x]::gJ x L.ar::H
def bq(b:Nat)(L:bE):bc:=BX True (A5 b L)
section
variable {B:Heap}{H H0:au}{K:aK}{b:Nat}{L:bE}{p g n c:Int}
def qk{q:HP}(t:∀x,T B (A5 b L x H) q):T B (bq b L::H) q:=pM (λ_ _=>rfl) λx _=>t x
def k8{q:HP}(x:Nat)(t:T B (bq b L::H) q):T B (A5 b L x H) q:=pL x trivial (λ_ _=>rfl) t
def Vv(h1:1<=c)(a:c<=1048576)(U:∀b,T B (bq b ⟨c,bG.new⟩::H) (K (pz b))):T B H (ad P 77 #[J c] K):=by
 apply an (N6 _);refine aI (by simp;omega) (aI (by simp;omega) ?_);refine KI λx=>?_;repeat first|apply St.go|refine Sa.go λ_=>?_
 rename_i b;exact af (k8 x (U b))
instance ab'[h:Ow H (bq b) L H0]:St B H (ad P 86 #[pz b] K) (T B (bq b L::H0) (K (.bool true))):=⟨by
 intro U;refine bf h.pl (qk λx=>an (N5 _) ?_);repeat apply St.go
 exact af (k8 x U)⟩
instance ab9[h:Ow H (bq b) L H0]:Sc B H (ad P 163 #[pz b,J c] K) (aF c) (T B (bq b L::H0) (K (.tuple #[J (L.place c),J (L.x7 c),J (L.bk c)]))):=⟨by
 intro hc U;refine bf h.pl (an (N4 _ _) ?_);unfold bE.place bE.x7 at U;repeat first|apply St.go|refine Sc.go (by omega) ?_
 unfold qe;split
 ·rename_i d
  repeat' first|apply St.go|refine S2.go (λ_=>?_) λ_=>?_|done
  ·rename_i h1
   have e:L.bk c=3:=by unfold bE.bk;rw[aj (by rintro⟨_,a,_⟩;exact h1 a)]
   rw[e]at U;exact af U
  ·rename_i h1 a
   have e:L.bk c=3:=by unfold bE.bk;rw[aj (by rintro⟨_,_,f⟩;exact a f)]
   rw[e]at U;exact af U
  ·rename_i h1 a
   have e:L.bk c=L.ar.e1 (gP c) (gG c):=by unfold bE.bk;rw[ag ⟨d,h1,a⟩]
   rw[e]at U;refine aL (bq b) (qk λx=>?_);refine St.go (zM λg=>?_);repeat' first|apply St.go|refine Sa.go λ_=>?_|refine S2.go (λ_=>?_) λ_=>?_|refine Sc.go ⟨rfl,rfl⟩ ?_|done
   ·rename_i he;rw[aj he,aj he]at U;exact af (k8 x U)
   ·rename_i he;rw[ag he,ag he,he]at U;exact af (k8 x U)
 ·rename_i d
  repeat apply St.go
  have e:L.bk c=3:=by unfold bE.bk;rw[aj (by rintro⟨h1,_⟩;exact d h1)]
  rw[e]at U;exact af U⟩
instance ab5[h:Ow H (bq b) L H0]:Sc B H (ad P 100 #[pz b,J c] K) (aF c) (T B (bq b L::H0) (K (.tuple #[J (L.place c),J (L.bk c)]))):=⟨by
 intro hc U;refine bf h.pl (an (NY _ _) ?_);repeat first|apply St.go|refine Sc.go (by omega) ?_
 exact af U⟩
def xD{w:Ac}(hc:aF c)[h:Ow H (bq b) L H0](U:T B (bq b (L.bK w c n)::H0) (K (J (L.cI w c n)))):T B H (ad P 262 #[pz b,J w.num,J c,J n] K):=by
 refine bf h.pl (an (N2 _ _ _ _) ?_);unfold bE.bK bE.cI at U;repeat' first|apply St.go|refine S2.go (λ_=>?_) λ_=>?_|refine Sc.go (by omega) ?_|done
 ·rename_i he;rw[aj he,aj he]at U;exact af U
 ·rename_i he
  rw[ag he,ag he]at U;unfold bE.place bE.x7;rw[ag he,ag he];refine aL (bq b) (qk λx=>?_);exact St.go (KH (St.go (af (k8 x U))))
instance ab7[h:Ow H (bq b) L H0]:Sc B H (ad P 171 #[pz b,J c,J n] K) (aF c) (T B (bq b (L.bK .dW c n)::H0) (K (J (L.cI .dW c n)))):=⟨by intro hc U;apply an (N0 _ _ _);apply xD (w:= .dW) hc;apply St.go;exact U⟩
instance ab2[h:Ow H (bq b) L H0]:Sc B H (ad P 309 #[pz b,J c,J n] K) (aF c) (T B (bq b (L.bK .cu c n)::H0) (K (J (L.cI .cu c n)))):=⟨by intro hc U;apply an (NV _ _ _);apply xD (w:= .cu) hc;apply St.go;exact U⟩
instance ab0[h:Ow H (bq b) L H0]:Sc B H (ad P 173 #[pz b,J c,J n] K) (aF c) (T B (bq b (L.bK .cancel c n)::H0) (K (J (L.cI .cancel c n)))):=⟨by intro hc U;apply an (NT _ _ _);apply xD (w:= .cancel) hc;apply St.go;exact U⟩
instance ab1[h:Ow H (bq b) L H0]:Sc B H (ad P 292 #[pz b,J c,J n] K) (aF c) (T B (bq b (L.bK .eG c n)::H0) (K (J (L.cI .eG c n)))):=⟨by intro hc U;apply an (NU _ _ _);apply xD (w:= .eG) hc;apply St.go;exact U⟩
instance ab8[h:Ow H (bq b) L H0]:Sc B H (ad P 169 #[pz b,J c] K) (aF c) (T B (bq b (L.ret c)::H0) (K (J (L.rR c)))):=⟨by
 intro hc U;refine bf h.pl (an (N1 _ _) ?_);unfold bE.ret bE.rR at U;repeat' first|apply St.go|refine S2.go (λ_=>?_) λ_=>?_|refine Sc.go (by omega) ?_|done
 ·rename_i he;rw[aj he,aj he]at U;exact af U
 ·rename_i he
  rw[ag he,ag he]at U;unfold bE.place bE.x7;rw[ag he,ag he];refine aL (bq b) (qk λx=>?_);repeat apply St.go
  exact af (k8 x U)⟩
instance abv{m:Int}:St B H (ad P 253 #[J m,J c] K) (T B H (K (.bool (decide (1<=c/\c<=m/\m<=1048576))))):=⟨by
 intro U;apply an (Mj _ _);repeat' first|refine S2.go (λ_=>?_) λ_=>?_|done
 all_goals (refine dT U (congrArg Value.bool ?_);first|(refine jl.2 ?_;omega)|(simp;omega))⟩
instance ab6[h:Ow H (bq b) L H0]:Sc B H (ad P 161 #[pz b,J c] K) (aF c) (T B (bq b (L.bR c)::H0) (K (.tuple #[J (L.tt c),J (L.rP c)]))):=⟨by
 intro hc U;refine bf h.pl (an (NZ _ _) ?_);unfold bE.bR bE.tt bE.rP bE.uy at U;repeat apply St.go
 refine aL (bq b) (qk λx=>?_);repeat' first|apply St.go|refine S2.go (λ_=>?_) λ_=>?_|done
 ·rename_i ha
  rw[cP ha]at U;simp only[gb,ep]at U;exact af (k8 x U)
 ·rename_i ha
  rw[cM ha]at U;apply KJ hc;repeat' first|apply St.go|refine S2.go (λ_=>?_) λ_=>?_|done
  ·rename_i he
   simp only[eb,aj he]at U;exact af (k8 x U)
  ·rename_i he
   simp only[eb,he]at U;rw[ag he,ag he];exact af (k8 x U)⟩
instance ab4[h:Ow H (bq b) L H0]:Sa B H (ad P 40 #[pz b] K) (λx:av×Nat=>T B (bq b L::ah 4 x.1 L.ar.members.length x.2 (aW L.ar.members)::H0) (K (.slice x.1 L.ar.members.length x.2))):=⟨by
 intro U;refine bf h.pl (an (NX _) ?_);repeat apply St.go
 refine aL (bq b) (qk λx=>?_);repeat first|apply St.go|refine Sa.go λ_=>?_
 rename_i y;exact af (k8 x (U y))⟩
def qc{α:Type}{f:α->Bool}{l:List α}{k:Nat}{a:α}(h:∀(j:Nat) (x:α),j<k->l[j]?=some x->f x=false)(ha:l[k]?=some a)(hf:f a=true):l.findIdx? f=some k:=by
 induction l generalizing k with
 |nil=>simp at ha
 |cons x l b=>
  rw[List.findIdx?_cons]
  cases k with
  |zero=>simp at ha;subst ha;rw[ag hf]
  |succ k=>have h0:=h 0 x (by omega) rfl;rw[h0,aj (by simp),b (k:=k) (λj y d c=>h (j+1) y (by omega) (by simpa using c)) (by simpa using ha)];rfl
def oV{α:Type}{f:α->Bool}{l:List α}(h:∀(j:Nat) (x:α),l[j]?=some x->f x=false):l.findIdx? f=none:=by rw[we];intro x a;obtain⟨j,b⟩:=C4 a;exact h j x b
def cS{α:Type}(f:α->Bool)(l:List α):Int:=match l.findIdx? f with|some i=>(i:Int)|none=>-1
def tB{q:av}{l c:Nat}{ms:List Mem}{g:Nat}{ca:aw}{f:Mem->Bool}(o:fW P g=true)[hr:Rd B H q (aW ms)](hl:l=ms.length)(hlen:l<1000000)(hf:∀m∈ms,∀n:aK,T B H (n (.bool (f m)))->T B H (ad P g (Array.mk (Array.toList #[]++[Value.agg (fL m).toArray]++Array.toList ca)) n))(U:T B H (K (J (cS f ms)))):T B H (ad P 353 #[.slice q l c,.func (.func g) #[] ca] K):=by
 apply an (Re _ _ _ _ _);subst hl;refine dh ms.length (by omega) (λk H'=>H'=H/\∀j x,j<k->ms[j]?=some x->f x=false) ⟨rfl,by simp⟩ ?_;rintro k H' R r ⟨rfl,d⟩ p;refine S2.go (λ_=>?_) λ_=>?_
 ·have b:k<ms.length:=by omega
  have h:ms[k]?=some ms[k]:=bj b;refine eD gp (by omega) k rfl b h (lR o (hf _ (eK b) _ ?_));repeat' first|apply St.go|refine S2.go (λ_=>?_) λ_=>?_|done
  ·rename_i i
   unfold cS at U;rw[qc d h i]at U;exact U
  ·rename_i i
   refine p b _ ⟨rfl,λj x s a=>?_⟩;by_cases e:j=k
   ·subst e;rw[h]at a;cases a;exact i
   ·exact d j x (by omega) a
 ·unfold cS at U
  rw[oV λj x a=>d j x (by have:=(bY.1 a).1;omega) a]at U;exact U
def uS{q:HP}(t:L.ar.Ok->L.ar.aU.Ok->T B (bq b L::H) q):T B (bq b L::H) q:=by refine qk λx=>cp (cA _ _ _) (pU λy a=>aL (ft y.s) (n' λz c=>kJ z c ?_));have:=k8 x (t a c);exact af (lU (b:=x) (H:=cl b #[J L.chunks,pz x]::H) y a (af this))
instance abZ[h:Ow H (bq b) L H0]:St B H (ad P 273 #[pz b,J p] K) (T B (bq b L::H0) (K (J (cS (λm:Mem=>m.1==p) L.ar.members)))):=⟨by
 intro U;refine bf h.pl (uS λa c=>?_);have hl:L.ar.members.length<1000000:=by have:=bG.uW a c;rw[L.ar.u4];omega
 apply an (NR _ _);repeat first|apply St.go|refine Sa.go λ_=>?_
 refine tB (ms:=L.ar.members) (f:=λm=>m.1==p) (by kernel_rfl) rfl hl (λm hm d t=>?_) ?_
 ·show T B _ (ad P 354 #[.agg (fL m).toArray,.pointer _] d)
  apply an (NS _ _);repeat first|apply St.go|refine Sa.go λ_=>?_
  exact af t
 ·apply St.go
  exact af U⟩
def uR{α:Type}{f:α->Bool}{l:List α}:cS f l<0↔∀x∈l,f x=false:=by
 unfold cS
 cases h:l.findIdx? f with
 |none=>rw[we]at h;simpa using h
 |some i=>simp only[v8.2 (Int.natCast_nonneg i),false_iff];intro a;rw[we.2 a]at h;cases h
def bE.handle(L:bE)(p:Int):Int:=if cS (λm:Mem=>m.1==p) L.ar.members<0 then 0 else if fK 1 p (L.ar.aU.gen p) 0=0 then dM 1 p (L.ar.aU.gen p) 0 else 0
def bG.Wb{A:bG}(a:A.aU.Ok)(h:¬cS (λm:Mem=>m.1==p) A.members<0):0<=p/\p<(A.aU.b7.length:Int):=by
 rw[uR]at h
 have:∃m∈A.members,m.1=p:=I2 λb=>h λm hm=>by have:¬m.1=p:=λe=>b ⟨m,hm,e⟩;simpa using this
 obtain⟨m,hm,rfl⟩:=this;obtain⟨q,c,rfl⟩:=bP.1 hm;obtain⟨e,he,rfl⟩:=bP.1 c;have:=a.op e he;have:=a.fresh;simp only;omega
instance ab3[h:Ow H (bq b) L H0]:St B H (ad P 181 #[pz b,J p] K) (T B (bq b L::H0) (K (J (L.handle p)))):=⟨by
 intro U;refine bf h.pl (uS λc d=>an (NW _ _) ?_);unfold bE.handle at U;refine St.go (St.go (S2.go (λa=>?_) λa=>?_))
 ·rw[ag a]at U;exact U
 rw[aj a]at U;have e:=bG.Wb d a;refine qk λx=>St.go (aL (gJ x) (pU λy c=>?_));repeat' first|apply St.go|refine S2.go (λ_=>?_) λ_=>?_|refine Sc.go (by omega) ?_|done
 ·rename_i he
  rw[aj he]at U;have:=k8 x U;exact af (lU (b:=x) (H:=cl b #[J L.chunks,pz x]::H0) y c (af this))
 ·have:=k8 x U
  exact af (lU (b:=x) (H:=cl b #[J L.chunks,pz x]::H0) y c (af this))⟩
end
end
section
open Go.XS Go.bm
structure Ring where
 room:Nat
 xs:aN
structure wG where
 cb:Nat
 cells:aN
 head:Nat
structure Ring.Ok(R:Ring)(x:wG):Prop where
 len:x.cells.length=R.room
 room:R.room<=1048576
 head:R.room≠0->x.head<R.room
 le:R.xs.length<=R.room
 at':∀i,i<R.xs.length->x.cells[(x.head+i)%R.room]?=R.xs[i]?
abbrev vy(b:Nat)(R:Ring)(x:wG)(H:au):au:=
 cl b #[.slice (some ⟨x.cb,0,none⟩) R.room R.room,J x.head,J R.xs.length]::cl x.cb (iv .i64 x.cells).toArray::H
def gu(b:Nat)(R:Ring):bc:=BD R.Ok (vy b R)
def yk(R:Ring)(v:Int):Ring:=if R.xs.length=R.room then R else{R with xs:=R.xs++[v]}
abbrev vz(R:Ring):Ring:={R with xs:=R.xs.tail}
section
variable {B:Heap}{H H0:au}{K:aK}{b n:Nat}{R:Ring}{v i:Int}
def tv{q:HP}(t:∀x,R.Ok x->T B (vy b R x H) q):T B (gu b R::H) q:=mC (λ_ _=>rfl) t
def qy{q:HP}(x:wG)(h:R.Ok x)(t:T B (gu b R::H) q):T B (vy b R x H) q:=mB x h (λ_ _=>rfl) t
def Yf(a:n<=1048576)(U:∀b,T B (gu b ⟨n,[]⟩::H) (K (pz b))):T B H (ad P 232 #[J n] K):=by apply an (Qq _);refine aI (by simp) (aI (by simp;omega) (gy (by omega) (by omega) (by omega) (by rw[kZ];omega) (by kernel_rfl) (by kernel_rfl) λg=>?_));rw[l5,mr,lq,iP,aZ,show List.replicate n (J 0)=iv .i64 (List.replicate n 0) by simp[iv]];refine Sa.go λ_=>?_;rename_i b;exact af (qy ⟨g,List.replicate n 0,0⟩ ⟨by simp,a,λh=>by simp only at*;omega,by simp,by simp⟩ (U b))
def BR{x:wG}{k:Nat}(h:R.Ok x)(hr:R.room≠0)(a:k<=1048576)(U:T B (vy b R x H) (K (J (((x.head+k)%R.room:Nat):Int)))):T B (vy b R x H) (ad P 396 #[pz b,J k] K):=by
 apply an (Qz _ _);have:=h.room;have:=h.head hr;repeat first|apply St.go|refine Sc.go (by omega) ?_
 rw[br (by omega),y5 (by omega)];exact U
def HD{k:Nat}{v:Int}(a:R.xs[k]?=some v)(U:T B (gu b R::H) (K (.tuple #[J v,.bool true]))):T B (gu b R::H) (ad P 333 #[pz b,J k] K):=by
 refine tv λx h=>an (Ex _ _) ?_;have c:k<R.xs.length:=(bY.1 a).1;have hle:=h.le;have hr:=h.room;have hlen:=h.len;repeat' first|apply St.go|refine S2.go (λ_=>?_) λ_=>?_|done
 ·omega
 ·omega
 ·apply BR h (by omega) (by omega)
  repeat apply St.go
  have hm:(x.head+k)%R.room<R.room:=pJ _ (by omega);exact fA ((x.head+k)%R.room) rfl hm (by rw[h.at' k c,a]) (af (qy x h U))
def Ye(a:R.xs=[])(U:T B (gu b R::H) (K (.tuple #[J 0,.bool false]))):T B (gu b R::H) (ad P 333 #[pz b,J 0] K):=by
 refine tv λx h=>an (Ex _ _) ?_;have hl:R.xs.length=0:=by rw[a];rfl
 repeat' first|apply St.go|refine aI (by with_reducible decide) ?_|refine S2.go (λ_=>?_) λ_=>?_|done
 ·exact af (qy x h U)
 ·omega
def Ring.hd(R:Ring):Int:=R.xs.headD 0
instance acV[h:Ow H (gu b) R H0]:St B H (ad P 444 #[pz b] K) (T B (gu b R::H0) (K (.tuple #[J R.hd,.bool (!R.xs.isEmpty)]))):=⟨by
 intro U;refine bf h.pl (an (Qr _) ?_);unfold Ring.hd at U
 cases c:R.xs with
 |nil=>rw[c]at U;exact Ye c (St.go U)
 |cons a l=>rw[c]at U;apply HD (by rw[c];rfl);apply St.go;exact U⟩
instance acZ[h:Ow H (gu b) R H0]:St B H (ad P 406 #[pz b] K) (T B (gu b (vz R)::H0) (K (.tuple #[J R.hd,.bool (!R.xs.isEmpty)]))):=⟨by
 intro U;refine bf h.pl (an (Qw _) ?_);repeat' first|apply St.go|refine S2.go (λ_=>?_) λ_=>?_|done
 ·rename_i d
  obtain⟨a,l,c⟩:∃a l,R.xs=a::l:=by
   cases c:R.xs with
   |nil=>rw[c]at d;cases d
   |cons a l=>exact⟨a,l,rfl⟩
  refine aL (gu b) (tv λx h=>?_);have hle:=h.le;have hr:=h.room;have hl:R.xs.length=l.length+1:=by rw[c];rfl
  have g:=h.head (by omega);apply BR (k:=1) h (by omega) (by omega);repeat apply St.go
  rw[show IntKind.wrap .i64 ((R.xs.length:Int)-1)=((vz R).xs.length:Int) by rw[br (by omega)];simp;omega];refine af (qy (R:=vz R) ⟨x.cb,x.cells,(x.head+1)%R.room⟩ ⟨h.len,h.room,λhr=>pJ _ (by simp only at hr;omega),by simp;omega,λi hi=>?_⟩ U);have f:i+1<R.xs.length:=by simp at hi;omega
  have:=h.at' (i+1) f;rw[show((x.head+1)%R.room+i)%R.room=(x.head+(i+1))%R.room by rw[Nat.mod_add_mod];congr 1;omega,this];simp
 ·rename_i d
  have c:R.xs=[]:=by
   cases c:R.xs with
   |nil=>rfl
   |cons a l=>rw[c]at d;cases d
  have e:vz R=R:=by cases R;simp at c;simp[c]
  rw[e]at U;exact U⟩
instance acY[h:Ow H (gu b) R H0]:St B H (ad P 405 #[pz b,J v] K) (T B (gu b (yk R v)::H0) (K (.bool (!decide (R.xs.length=R.room))))):=⟨by
 intro U;refine bf h.pl (tv λx h=>an (Qv _ _) ?_);unfold yk at U;have hle:=h.le;have hr:=h.room;have hlen:=h.len;repeat' first|apply St.go|refine S2.go (λ_=>?_) λ_=>?_|done
 ·rename_i he
  rw[ag (by omega),cM (by omega)]at U;exact af (qy x h U)
 ·rename_i he
  have f:R.xs.length<R.room:=by omega
  rw[aj (by omega),cP (by omega)]at U;apply BR h (by omega) (by omega);repeat apply St.go
  have hm:(x.head+R.xs.length)%R.room<R.room:=pJ _ (by omega);apply zD ((x.head+R.xs.length)%R.room) rfl hm (by omega);repeat apply St.go
  rw[show IntKind.wrap .i64 ((R.xs.length:Int)+1)=((R.xs++[v]).length:Int) by rw[br (by omega)];simp];refine af (qy (R:=⟨R.room,R.xs++[v]⟩) ⟨x.cb,x.cells.set ((x.head+R.xs.length)%R.room) v,x.head⟩ ⟨by simp[hlen],h.room,h.head,by simp;omega,λi hi=>?_⟩ U);simp only[b',c8,gH,bI]at hi;have g:=h.head (by omega);rw[lK];by_cases e:i=R.xs.length
  ·subst e
   rw[ag rfl,ag (by omega)];simp
  ·have d:(x.head+R.xs.length)%R.room≠(x.head+i)%R.room:=by
    intro c;have h1:x.head+R.xs.length<2*R.room:=by omega
    have j:x.head+i<2*R.room:=by omega
    rcases wt (x.head+R.xs.length) R.room with a|a<;>rcases wt (x.head+i) R.room with a2|a2
    ·rw[ov a,ov a2]at c;omega
    ·omega
    ·rw[zp a,ov (by omega),ov a2]at c;omega
    ·rw[zp a,ov (by omega),zp a2,ov (by omega)]at c;omega
   rw[aj d,h.at' i (by omega),gx (by omega)]⟩
instance acW[h:Ow H (gu b) R H0]:St B H (ad P 238 #[pz b] K) (T B (gu b R::H0) (K (J R.xs.length))):=⟨by
 intro U;refine bf h.pl (tv λx h=>an (Qs _) ?_);repeat apply St.go
 exact af (qy x h U)⟩
instance acX[h:Ow H (gu b) R H0]:Sa B H (ad P 153 #[pz b] K) (λx:av=>T B (gu b R::rT 1 x R.xs.length (iv .i64 R.xs)::H0) (K (.slice x R.xs.length R.xs.length))):=⟨by
 intro U;refine bf h.pl (tv λx d=>qy x d (an (Qt _) ?_));have hle:=d.le;have hr:=d.room;repeat apply St.go
 refine gy (by omega) (by omega) (by omega) (by rw[kZ];omega) (by kernel_rfl) (by kernel_rfl) λg=>?_;rw[l5,mr,lq,iP,aZ];repeat first|apply St.go|refine Sa.go λ_=>?_
 refine an (Qx _) (Sa.go λ_=>?_);rename_i a k;refine pR (by kernel_rfl) λro rr l j=>an (Qy _ _) ?_;repeat apply St.go
 have n:∀{q:HP},T B (ah 1 (some ⟨g,0,none⟩) 0 R.xs.length []::lo l ro .ready none::ob rr (.deferred (some []))::cl a #[.slice (some ⟨g,0,none⟩) 0 R.xs.length]::cl k #[pz b]::gu b R::H0) q->T B (cl g (List.replicate R.xs.length (J 0)).toArray::lo l ro .ready none::ob rr (.deferred (some []))::cl a #[.slice (some ⟨g,0,none⟩) 0 R.xs.length]::cl k #[pz b]::gu b R::H0) q:=λt=>kk 1 (l:=R.xs.length) (by simp) (rG (m:=0) (by omega) (by simpa using t))
 refine af (n ?_);refine dh R.xs.length (by omega) (λz H'=>∃p c,H'=ah 1 p z c (iv .i64 (R.xs.take z))::lo l ro .ready none::ob rr (.deferred (some []))::cl a #[.slice p z c]::cl k #[pz b]::gu b R::H0) ⟨_,_,rfl⟩ ?_;rintro z H' s hz ⟨p,c,rfl⟩ o;repeat' first|apply St.go|refine S2.go (λ_=>?_) λ_=>?_|done
 ·have f:z<R.xs.length:=by omega
  have i:R.xs[z]?=some R.xs[z]:=bj f;refine aL (gu b) (HD i ?_);refine St.go (bL (q:=lo l ro .ready none) (oL j ?_));refine St.go (oC ?_);repeat first|apply St.go|refine Sa.go λ_=>?_
  refine eZ rfl (by omega) λr c'=>St.go (bL (q:=lo l ro .busy none) (oD ?_));repeat apply St.go
  have e:iv .i64 (R.xs.take z)++#[J R.xs[z]].toList=iv .i64 (R.xs.take (z+1)):=by rw[ef i,iv,iv,eY];rfl
  rw[e];exact af (o f _ ⟨r,c',rfl⟩)
 ·obtain rfl:z=R.xs.length:=by omega
  rw[ix];refine bL (q:=lo l ro .ready none) (qU (by simp) ?_);refine St.go (an (Q1 _ _ _) (aL (ah 1 p R.xs.length c) (xU λ_ u=>?_)));refine ba (by omega) (ba (by omega) ?_);refine St.go (bL (q:=ob rr (.deferred (some []))) (oK ?_));rw[lx,aZ,iQ];refine aL (ah 1 p R.xs.length c) (Yp ?_);exact af (U p)⟩
end
structure dR where
 n:Nat
 xs:aN
 next:Int
structure wD where
 rb:Nat
 tb:Nat
 lE:aN
 first:Int
structure dR.Ok(L:dR)(x:wD):Prop where
 len:x.lE.length=L.n
 n:L.n<=1048576
 next:0<=L.next
 lE:∀i,i<L.n->(0<=x.lE.getD i 0↔(i:Int)∈L.xs)
 xs:∀i∈L.xs,0<=i/\i<(L.n:Int)
 nd:L.xs.Nodup
abbrev xE(b:Nat)(L:dR)(x:wD)(H:au):au:=
 cl b #[pz x.rb,.slice (some ⟨x.tb,0,none⟩) L.n L.n,J L.next,J x.first]::gu x.rb ⟨L.n,L.xs⟩::cl x.tb (iv .i64 x.lE).toArray::H
def hD(b:Nat)(L:dR):bc:=BD L.Ok (xE b L)
def dR.fO(L:dR)(i:Int):Int:=if 0<=i/\i<(L.n:Int)then(if i∈L.xs then 19 else 0)else 2
abbrev dR.yd(L:dR)(i:Int):dR:={L with xs:=L.xs++[i],next:=L.next+1}
def dR.put(L:dR)(i:Int):dR:=if L.fO i=0 then L.yd i else L
abbrev dR.take(L:dR):dR:={L with xs:=L.xs.tail}
section
variable {B:Heap}{H H0:au}{K:aK}{b n:Nat}{L:dR}{i:Int}
def uX{q:HP}(t:∀x,L.Ok x->T B (xE b L x H) q):T B (hD b L::H) q:=mC (λ_ _=>rfl) t
def nQ{q:HP}(x:wD)(h:L.Ok x)(t:T B (hD b L::H) q):T B (xE b L x H) q:=mB x h (λ_ _=>rfl) t
def dR.Ok.abb{x:wD}(h:L.Ok x):L.xs.length<=L.n:=by
 have h1:(L.xs.map Int.toNat).Nodup:=by refine tQ _ (λa b c=>?_) (y6.1 h.nd);have:=h.xs a c.1;have:=h.xs b c.2.1;have:=c.2.2;omega
 have d:=nT L.n h1 λp e=>by obtain⟨q,f,rfl⟩:=bP.1 e;have:=h.xs q f;omega
 simpa using d
def aaH(a:n<=1048576)(U:∀b,T B (hD b ⟨n,[],0⟩::H) (K (pz b))):T B H (ad P 142 #[J n] K):=by
 refine an (S0 _) (Yf a λr=>?_);repeat apply St.go
 refine gy (by omega) (by omega) (by omega) (by rw[kZ];omega) (by kernel_rfl) (by kernel_rfl) λg=>?_;rw[l5,mr,lq,iP,aZ,show List.replicate n (J 0)=iv .i64 (List.replicate n 0) by simp[iv]];refine dh n (by omega) (λk H'=>H'=cl g (iv .i64 (List.replicate k (-1)++List.replicate (n-k) 0)).toArray::gu r ⟨n,[]⟩::H) (by simp) ?_;rintro k H' R d rfl c;repeat' first|refine Sa.go λ_=>?_|refine S2.go (λ_=>?_) λ_=>?_|refine Sc.go (by omega) ?_|done
 ·rw[aZ,aR,bI]
  apply eE (by simp;omega) rfl;apply c (by omega) _;congr 1;rw[jK];congr 2;simp only[iv];rw[<-jj];congr 1;rw[pI _ _ (by simp),g',kS,show n-k=(n-(k+1))+1 by omega,se,jL,C8];simp
 ·obtain rfl:k=n:=by omega
  rename_i b _;rw[lx,iQ,kS,tZ,j9];refine af (nQ ⟨r,g,List.replicate k (-1),0⟩ ⟨by simp,a,by simp,λi hi=>?_,by simp,by simp⟩ (U b));simp only at hi;simp[hi]
instance adQ[h:Ow H (hD b) L H0]:St B H (ad P 152 #[pz b] K) (T B (hD b L::H0) (K (.bool true))):=⟨by
 intro U;refine bf h.pl (uX λx a=>an (SZ _) ?_);repeat apply St.go
 exact af (nQ x a U)⟩
instance adO[h:Ow H (hD b) L H0]:Sc B H (ad P 361 #[pz b,J i] K) (L.next<4611686018427387904) (T B (hD b (L.put i)::H0) (K (J (L.fO i)))):=⟨by
 intro o U;refine bf h.pl (an (SX _ _) ?_);unfold dR.put at U;repeat' first|apply St.go|refine S2.go (λ_=>?_) λ_=>?_|done
 all_goals refine aL (hD b) (uX λx d=>?_)
 ·have e:L.fO i=2:=by unfold dR.fO;rw[aj (by omega)]
  rw[e,aj (by decide)]at U;exact af (nQ x d U)
 ·have hlen:=d.len
  have E:=d.abb;have u:=d.n;repeat' first|apply St.go|refine S2.go (λ_=>?_) λ_=>?_|done
  ·have e:L.fO i=2:=by unfold dR.fO;rw[aj (by omega)]
   rw[e,aj (by decide)]at U;exact af (nQ x d U)
  ·rename_i h1 F
   have v:x.lE[i.toNat]?=some (x.lE.getD i.toNat 0):=by rw[List.getD,bj (by omega)];rfl
   have k:=d.lE i.toNat (by omega);rw[show((i.toNat:Nat):Int)=i by omega]at k;apply fA i.toNat (by omega) (by omega) v;repeat' first|apply St.go|refine S2.go (λ_=>?_) λ_=>?_|done
   ·rename_i f
    have e:L.fO i=19:=by unfold dR.fO;rw[ag (by omega),ag (k.1 f)]
    rw[e,aj (by decide)]at U;exact af (nQ x d U)
   ·rename_i f m
    exfalso
    have w:(L.xs++[i]).Nodup:=by rw[dP];refine⟨d.nd,by simp,λa ha c hc e=>?_⟩;simp at hc;subst hc;subst e;exact f (k.2 ha)
    have aux:∀z∈L.xs++[i],0<=z:=λz hz=>by
     rcases dO.1 hz with hz|hz
     ·exact(d.xs z hz).1
     ·simp at hz;omega
    have:=nT L.n (l:=(L.xs++[i]).map Int.toNat) ?_ ?_
    ·simp at this m;omega
    ·refine tQ _ (λa b y=>?_) (y6.1 w)
     obtain⟨ha,o,G⟩:=y;have:=aux a ha;have:=aux b o;omega
    ·intro p A
     obtain⟨q,g,rfl⟩:=bP.1 A;rcases dO.1 g with g|g
     ·have:=d.xs q g;omega
     ·simp at g;omega
   ·rename_i f m
    have r:i∉L.xs:=λhm=>f (k.2 hm);have e:L.fO i=0:=by unfold dR.fO;rw[ag (by omega),aj r]
    rw[e,ag rfl]at U
    have C:yk ⟨L.n,L.xs⟩ i=⟨L.n,L.xs++[i]⟩:=by unfold yk;rw[aj (by simpa using m)]
    rw[C];apply zD i.toNat (by omega) (by omega) (by omega);repeat apply St.go
    rw[jh (by have:=d.next;omega) (by omega)];refine af (nQ (L:=L.yd i) ⟨x.rb,x.tb,x.lE.set i.toNat L.next,x.first⟩ ⟨by simp[hlen],u,by have:=d.next;simp only;omega,λj s=>?_,λz hz=>?_,?_⟩ U)
    ·simp only at s
     rw[List.getD,lK];by_cases t:i.toNat=j
     ·subst t
      rw[ag rfl,ag (by omega)];simp only[fx];constructor
      ·intro _;simp;omega
      ·intro _;exact d.next
     ·rw[aj t]
      have:=d.lE j s;rw[List.getD]at this;rw[this];simp;omega
    ·rcases dO.1 hz with hz|hz
     ·exact d.xs z hz
     ·simp at hz;subst hz;simp only;omega
    ·simp only[dP]
     refine⟨d.nd,by simp,λa ha c hc D=>?_⟩;simp at hc;subst hc;subst D;exact r ha⟩
instance adP[h:Ow H (hD b) L H0]:St B H (ad P 366 #[pz b] K) (T B (hD b L.take::H0) (K (.tuple #[J (L.xs.headD 0),J (if L.xs.isEmpty then 20 else 0)]))):=⟨by
 intro U;refine bf h.pl (an (SY _) ?_);repeat apply St.go
 refine aL (hD b) (uX λx d=>?_);repeat' first|apply St.go|refine S2.go (λ_=>?_) λ_=>?_|done
 ·rename_i he
  have c:L.xs=[]:=by
   cases c:L.xs with
   |nil=>rfl
   |cons a l=>rw[c]at he;cases he
  have e:L.take=L:=by cases L;simp at c;simp[c]
  rw[e,c]at U;have k:vz ⟨L.n,L.xs⟩=⟨L.n,L.xs⟩:=by simp[c]
  rw[k];exact af (nQ x d U)
 ·rename_i he
  obtain⟨a,l,c⟩:∃a l,L.xs=a::l:=by
   cases c:L.xs with
   |nil=>rw[c]at he;cases he
   |cons a l=>exact⟨a,l,rfl⟩
  have ha:=d.xs a (by rw[c];simp);have m:(Ring.mk L.n L.xs).hd=a:=by unfold Ring.hd;simp only[c];rfl
  have hlen:=d.len;have o:=d.n;have f:=d.nd
  replace U:T B (hD b L.take::H0) (K (.tuple #[J a,J 0])):=by rw[c]at U;exact U
  rw[c]at f;rw[m];apply zC a.toNat (by omega) (by omega) (by simp;omega);repeat apply St.go
  have e:(iv .i64 x.lE).toArray.setIfInBounds (0+a.toNat) (J (-1))=(iv .i64 (x.lE.set a.toNat (-1))).toArray:=by simp[iv,jj]
  rw[e];refine af (nQ (L:=L.take) ⟨x.rb,x.tb,x.lE.set a.toNat (-1),IntKind.wrap .i64 (x.first+1)⟩ ⟨by simp[hlen],o,d.next,λj g=>?_,λz hz=>d.xs z (List.mem_of_mem_tail hz),?_⟩ U)
  ·simp only at g
   rw[List.getD,lK];by_cases i:a.toNat=j
   ·subst i
    rw[ag rfl,ag (by omega)];simp only[fx,c,List.tail_cons];constructor
    ·intro h;omega
    ·intro h
     rw[show((a.toNat:Nat):Int)=a by omega]at h;exact absurd h (fg.1 f).1
   ·rw[aj i]
    have:=d.lE j g;rw[List.getD]at this;rw[this,c];exact⟨λh=>by simpa[c]using(cL.1 h).resolve_left (by omega),λh=>iw _ (by simpa[c]using h)⟩
  ·simp only[c,List.tail_cons];exact(fg.1 f).2⟩
instance adN[h:Ow H (hD b) L H0]:Sa B H (ad P 85 #[pz b] K) (λx:av=>T B (hD b L::rT 1 x L.xs.length (iv .i64 L.xs)::H0) (K (.slice x L.xs.length L.xs.length))):=⟨by
 intro U;refine bf h.pl (an (SW _) ?_);repeat apply St.go
 refine aL (hD b) (uX λx a=>?_);repeat first|apply St.go|refine Sa.go λ_=>?_
 rename_i y;exact af (nQ x a (U y))⟩
end
end
section
open Go.XS Go.bm
abbrev Tag:=Int×Int
abbrev tD(t:Tag):az:=[J t.1,J t.2]
def lz(t:Tag):(tD t).length=2:=rfl
structure D1 where
 tb:Nat
 mb:Nat
 many:ML Int
abbrev qH(b:Nat)(T:List Tag)(x:D1)(H:au):au:=
 cl b #[.slice (some ⟨x.tb,0,none⟩) T.length T.length,.map (some x.mb)]::cl x.tb (T.flatMap tD).toArray::MP J x.mb x.many::H
def gY(b:Nat)(T:List Tag):bc:=BX (T.length<=1048576) (qH b T)
def jf(T:List Tag)(i:Int):Bool:=decide (0<=i/\i<(T.length:Int))
def e5(T:List Tag)(i:Int):Tag:=T.getD i.toNat (0,0)
def vj(T:List Tag)(i o:Int):Int:=if jf T i then(if o<1 then 2 else if(e5 T i).1=0 then 0 else 19)else 2
def xV(T:List Tag)(i o:Int):List Tag:=if vj T i o=0 then T.set i.toNat (o,(e5 T i).2)else T
def uU(T:List Tag)(i:Int):Int:=if jf T i then(if(e5 T i).1=0 then 20 else 0)else 2
def xB(T:List Tag)(i:Int):List Tag:=if uU T i=0 then T.set i.toNat (0,(e5 T i).2)else T
def vu(T:List Tag)(i:Int):Int:=if jf T i then(if(e5 T i).1=0 then(if(e5 T i).2>=1048575 then 6 else 0)else 19)else 2
def yg(T:List Tag)(i:Int):List Tag:=if vu T i=0 then T.set i.toNat ((e5 T i).1,IntKind.wrap .i64 ((e5 T i).2+1))else T
section
variable {B:Heap}{H H0:au}{K:aK}{b n:Nat}{T:List Tag}{i o:Int}
def vP{q:HP}(t:∀x,T.length<=1048576->XS.T B (qH b T x H) q):XS.T B (gY b T::H) q:=pM (λ_ _=>rfl) t
def lA{q:HP}(x:D1)(h:T.length<=1048576)(t:XS.T B (gY b T::H) q):XS.T B (qH b T x H) q:=pL x h (λ_ _=>rfl) t
def Cj(h:jf T i=true):T[i.toNat]?=some (e5 T i)/\0<=i/\i<(T.length:Int):=by simp only[jf,bJ]at h;refine⟨?_,h⟩;unfold e5;rw[List.getD,bj (by omega)];rfl
instance adA[h:Ow H (gY b) T H0]:St B H (ad P 237 #[pz b,J i] K) (XS.T B (gY b T::H0) (K (.bool (jf T i)))):=⟨by
 intro U;refine bf h.pl (vP λx hl=>an (Sn _ _) ?_);repeat' first|apply St.go|refine S2.go (λ_=>?_) λ_=>?_|done
 all_goals (refine af (lA x hl (dT U (congrArg Value.bool ?_)));unfold jf;first|(refine jl.2 ?_;omega)|(simp;omega))⟩
def Ck(h0:jf T i=false->XS.T B (gY b T::H) (K (.tuple #[.pointer none,J 2])))(h1:∀x,T.length<=1048576->T[i.toNat]?=some (e5 T i)->0<=i->jf T i=true->XS.T B (qH b T x H) (K (.tuple #[.pointer (some ⟨x.tb,i.toNat*2,none⟩),J 0]))):XS.T B (gY b T::H) (ad P 417 #[pz b,J i] K):=by
 refine vP λx hl=>an (Sm _ _) ?_;iterate 6 (apply St.go)
 refine lA x hl ?_;repeat' first|apply St.go|refine S2.go (λ_=>?_) λ_=>?_|done
 ·rename_i h;exact h0 h
 ·rename_i h
  obtain⟨a,c,d⟩:=Cj h;refine vP λx hl=>?_;repeat first|apply St.go|refine Sc.go (by omega) ?_
  rw[aR,bI];exact h1 x hl a c h
instance adx[h:Ow H (gY b) T H0]:St B H (ad P 378 #[pz b,J i,J o] K) (XS.T B (gY b (xV T i o)::H0) (K (J (vj T i o)))):=⟨by
 intro U;refine bf h.pl (an (Sj _ _ _) ?_);unfold xV vj at U;refine Ck (λa=>?_) λx hl d e a=>?_
 ·rw[a]at U
  repeat first|apply St.go|refine bo (by with_reducible decide) ?_
  exact U
 ·rw[a]at U
  simp only[eb]at U;repeat' first|apply St.go|refine S2.go (λ_=>?_) λ_=>?_|done
  ·rename_i h1;rw[ag h1]at U;exact af (lA x hl U)
  ·rename_i h1
   rw[aj h1]at U;refine oE lz d (by omega) rfl (S2.go (λ_=>?_) λ_=>?_)
   ·rename_i c;rw[aj c]at U;exact af (lA x hl U)
   ·rename_i c
    rw[ag c]at U;apply nG (s:=2) (a':=(o,(e5 T i).2)) lz d (by omega) rfl rfl;repeat apply St.go
    have fin:∀m,XS.T B (MP J x.mb m::cl b #[.slice (some ⟨x.tb,0,none⟩) T.length T.length,.map (some x.mb)]::cl x.tb ((T.set i.toNat (o,(e5 T i).2)).flatMap tD).toArray::H0) (K (J 0)):=λm=>by have:=lA (T:=T.set i.toNat (o,(e5 T i).2)) ⟨x.tb,x.mb,m⟩ (by simpa using hl) U;simp only[qH,hb]at this;exact af this
    exact fin _⟩
instance adw[h:Ow H (gY b) T H0]:St B H (ad P 404 #[pz b,J i] K) (XS.T B (gY b (xB T i)::H0) (K (J (uU T i)))):=⟨by
 intro U;refine bf h.pl (an (Si _ _) ?_);unfold xB uU at U;refine Ck (λc=>?_) λx hl a e c=>?_
 ·rw[c]at U
  repeat first|apply St.go|refine bo (by with_reducible decide) ?_
  exact U
 ·rw[c]at U
  simp only[eb]at U;repeat apply St.go
  apply oE lz a (by omega) rfl;repeat' first|apply St.go|refine S2.go (λ_=>?_) λ_=>?_|done
  ·rename_i d;rw[ag d]at U;exact af (lA x hl U)
  ·rename_i d
   rw[aj d]at U
   have fin:∀m,XS.T B (MP J x.mb m::cl b #[.slice (some ⟨x.tb,0,none⟩) T.length T.length,.map (some x.mb)]::cl x.tb ((T.set i.toNat (0,(e5 T i).2)).flatMap tD).toArray::H0) (K (J 0)):=λm=>by have:=lA (T:=T.set i.toNat (0,(e5 T i).2)) ⟨x.tb,x.mb,m⟩ (by simpa using hl) U;simp only[qH,hb]at this;exact af this
   iterate 2 (refine qV lz a (by omega) rfl ?_;repeat' first|apply St.go|refine S2.go (λ_=>?_) λ_=>?_|done)
   ·apply qV lz a (by omega) rfl
    repeat apply St.go
    exact nG (s:=2) (a':=(0,(e5 T i).2)) lz a (by omega) rfl rfl (fin _)
   ·apply nG (s:=2) (a':=(0,(e5 T i).2)) lz a (by omega) rfl rfl
    exact fin _⟩
instance adz[h:Ow H (gY b) T H0]:St B H (ad P 448 #[pz b,J i] K) (XS.T B (gY b (yg T i)::H0) (K (J (vu T i)))):=⟨by
 intro U;refine bf h.pl (an (Sl _ _) ?_);unfold yg vu at U;refine Ck (λc=>?_) λx hl a f c=>?_
 ·rw[c]at U
  repeat first|apply St.go|refine bo (by with_reducible decide) ?_
  exact U
 ·rw[c]at U
  simp only[eb]at U;repeat apply St.go
  refine oE lz a (by omega) rfl (S2.go (λ_=>?_) λ_=>?_)
  ·rename_i d;rw[aj d]at U;exact af (lA x hl U)
  ·rename_i d
   rw[ag d]at U;refine oE lz a (by omega) rfl (S2.go (λ_=>?_) λ_=>?_)
   ·rename_i e;rw[ag e]at U;exact af (lA x hl U)
   ·rename_i e
    rw[aj e]at U;have fin:=lA (T:=T.set i.toNat ((e5 T i).1,IntKind.wrap .i64 ((e5 T i).2+1))) ⟨x.tb,x.mb,x.many⟩ (by simpa using hl) U;simp only[qH,hb]at fin;apply oE (s:=2) (j:=1) lz a (by omega) rfl;refine nG (s:=2) (a':=((e5 T i).1,IntKind.wrap .i64 ((e5 T i).2+1))) lz a (by omega) rfl rfl ?_;exact af fin⟩
def tl(T:List Tag)(i:Int):Int:=if jf T i then(e5 T i).1 else 0
def xk(T:List Tag)(i:Int):Int:=if jf T i then(e5 T i).2 else-1
instance ady[h:Ow H (gY b) T H0]:St B H (ad P 150 #[pz b,J i] K) (XS.T B (gY b T::H0) (K (J (tl T i)))):=⟨by
 intro U;refine bf h.pl (an (Sk _ _) ?_);unfold tl at U;repeat' first|apply St.go|refine S2.go (λ_=>?_) λ_=>?_|done
 ·rename_i a;rw[a]at U;exact U
 ·rename_i a
  rw[a]at U;obtain⟨c,d,e⟩:=Cj a;refine vP λx hl=>?_;apply St.go;apply DN (s:=2) (j:=0) lz i.toNat (by omega) (by omega) c (by omega) rfl;exact af (lA x hl U)⟩
instance adv[h:Ow H (gY b) T H0]:St B H (ad P 151 #[pz b,J i] K) (XS.T B (gY b T::H0) (K (J (xk T i)))):=⟨by
 intro U;refine bf h.pl (an (Sg _ _) ?_);unfold xk at U;repeat' first|apply St.go|refine S2.go (λ_=>?_) λ_=>?_|done
 ·rename_i a;rw[a]at U;exact U
 ·rename_i a
  rw[a]at U;obtain⟨c,d,e⟩:=Cj a;refine vP λx hl=>?_;apply St.go;apply DN (s:=2) (j:=1) lz i.toNat (by omega) (by omega) c (by omega) rfl;exact af (lA x hl U)⟩
def abk:zc P 434=#[J 0,J 0]:=by kernel_rfl
def Th:P.cellsOf 434=2:=by kernel_rfl
def Lz:P.bytesOf 434=16:=by kernel_rfl
def qx{α:Type}{f:α->az}{s:Nat}(a:α)(hf:(f a).length=s)(hs:0<s)(n:Nat):gr (f a).toArray (n*s)=((List.replicate n a).flatMap f).toArray:=by
 apply gE;apply ji;intro k;simp only[gr,CN,e6,y2,List.toList_toArray];by_cases U:k<n*s
 ·have h1:k/s<n:=Nat.div_lt_of_lt_mul (by rw[Df];exact U)
  have b:k%s<s:=pJ _ hs;rw[tU U]
  have d:∀(m q j:Nat),q<m->j<s->((List.replicate m a).flatMap f)[q*s+j]?=(f a)[j]?:=by
   intro m
   induction m with
   |zero=>intro q j h;omega
   |succ m e=>
    intro q j i g;rw[se,gw]
    cases q with
    |zero=>rw[ua,bI,gx (by omega)]
    |succ q=>rw[iu (by rw[hf,gd];omega),hf,show(q+1)*s+j-s=q*s+j by rw[gd];omega];exact e q j (by omega) g
  have c:=d n (k/s) (k%s) h1 b;rw[Nat.div_add_mod']at c;rw[c];simp only[iy,hP,hf];rw[bj (by omega)];simp[hf,b]
 ·rw[iN (by simpa using Nat.le_of_not_lt U),iN]
  ·rfl
  ·simp only[List.length_flatMap,List.map_replicate,List.sum_replicate_nat,hf];omega
def aab(a:n<=1048576)(U:∀b,XS.T B (gY b (List.replicate n (0,0))::H) (K (pz b))):XS.T B H (ad P 137 #[J n] K):=by
 apply an (Sf _);refine aI (by simp) (aI (by simp;omega) (gy (by omega) (by omega) (by omega) (by rw[Lz];omega) (by kernel_rfl) (by kernel_rfl) λg=>?_));rw[Th,abk,aZ,show#[J 0,J 0]=(tD (0,0)).toArray from rfl,qx (f:=tD) (s:=2) (0,0) rfl (by omega)];repeat refine Sa.go λ_=>?_
 rename_i r b;refine bL (q:=IM r λ_=>none) (iT J ?_);have:=lA (T:=List.replicate n (0,0)) ⟨g,r,[]⟩ (by simpa using a) (U b);simp only[qH,g']at this;exact af this
end
end
open Go.XS
section
variable {B:Heap}{H:au}{K:aK}{b o:Nat}{cs:aw}{p q:Addr}{α:Type}{cs2:α->aw}{H2:α->au}
set_option maxRecDepth 100000 in
set_option maxHeartbeats 1600000 in
def WO(h0:cs[o]?=some (.int .u32 0))(h1:cs[o+1]?=some (.int .i32 0))(k6:∀x,(cs2 x)[o]?=some (.int .u32 0))(gl:∀x,(cs2 x)[o+1]?=some (.int .i32 1))(hf:∀Kf:aK,(∀x,T B (cl b (cs2 x)::H2 x) (Kf (.tuple #[])))->T B (cl b (cs.setIfInBounds (o+1) (.int .i32 1))::H) (ad P 376 #[.pointer (some p),.pointer (some q)] Kf))(U:∀x,T B (cl b (((cs2 x).setIfInBounds o (.int .u32 1)).setIfInBounds (o+1) (.int .i32 0))::H2 x) (K (.tuple #[]))):T B (cl b cs::H) (ad P 331 #[.pointer (some ⟨b,o,none⟩),.func (.func 376) #[] #[.pointer (some p),.pointer (some q)]] K):=by
 intro σ ow w hw;subst hw;have s0:o<cs.size:=(gF.1 h0).1;have s1:o+1<cs.size:=(gF.1 h1).1;have c1:=na ow h1;have f1:=ti ow s1;have vi:=tj (i:=o+1) (v:= .int .i32 1) ow;have LL:(w.setCell ⟨b,o+1,none⟩ (.int .i32 1)).cell? ⟨b,o,none⟩=some (.int .u32 0):=na vi (by simp[r3,h0]);have hy:∀(x:Bool) (w:World),(Op.unary .not (.bool x)).run Tryz.prog w= .ok (.bool (!x)) w:=λ_ _=>rfl;have AN:Calls Tryz.prog 376 #[.pointer (some p),.pointer (some q)] (w.setCell ⟨b,o+1,none⟩ (.int .i32 1)) _:=hf (λv eC=>v= .tuple #[]/\∃x,Own B (cl b (cs2 x)::H2 x) eC) (λx σ o=>⟨rfl,x,o⟩) _ vi _ rfl
 go_enter_defers Tryz.func331,Tryz.ntmps331
 go_wp2_with (first|(go_at_call 393;refine(Gm ⟨b,o+1,none⟩ _ (by assumption) (by assumption)).mono ?_;rintro e w' ⟨rfl,rfl⟩)|(go_at_call 330;refine(wW ⟨b,o,none⟩ _ (by assumption)).mono ?_;rintro e w' ⟨rfl,rfl⟩)|(go_at_call 376;refine AN.mono ?_;rintro e w2 ⟨v,rfl,⟨rfl,x,rH⟩,Bq⟩))
 have k6:=k6 x;have gl:=gl x;have BW:o<(cs2 x).size:=(gF.1 k6).1;have BY:o+1<(cs2 x).size:=(gF.1 gl).1;refine leaves_cons (by simp) (by simp[go_sem]) ((Ie ⟨b,o,none⟩ (.int .u32 0) .returning _ (na rH k6) (ti rH BW)).mono ?_);rintro e u' pA ⟨rfl,rfl,rfl⟩;have rI:Own B (cl b ((cs2 x).setIfInBounds o (.int .u32 1))::H2 x) (w2.drew.setCell ⟨b,o,none⟩ (.int .u32 1)).heap:=tj rH;have Br:=tj (i:=o+1) (v:= .int .i32 0) rI;refine leaves_cons (by simp[settle]) (by simp[go_sem]) ((Iy ⟨b,o+1,none⟩ _ _ (na rI (by simp[r3,gl])) (ti rI (by simpa using BY))).mono ?_);rintro e u' pA ⟨rfl,rfl,rfl⟩;have hK:=U x _ Br
 have iF:fj w ((w2.drew.setCell ⟨b,o,none⟩ (.int .u32 1)).setCell ⟨b,o+1,none⟩ (.int .i32 0)):=by rw[setCell_eq,setCell_eq];obtain⟨q1,q2,q3⟩:=Bq;rw[setCell_eq]at q1 q2 q3;exact⟨q1,q2,q3⟩
 simp only[Leaves,settle,results,Tryz.results331];exact⟨.tuple #[],by first|rfl|(simp[go_sem];done)|(simp[go_sem];rfl),.tuple #[],rfl,hK,iF⟩
set_option maxRecDepth 100000 in
set_option maxHeartbeats 1600000 in
def WM(h0:cs[o]?=some (.int .u32 0))(h1:cs[o+1]?=some (.int .i32 0))(k6:∀x,(cs2 x)[o]?=some (.int .u32 0))(gl:∀x,(cs2 x)[o+1]?=some (.int .i32 1))(hf:∀Kf:aK,(∀x,T B (cl b (cs2 x)::H2 x) (Kf (.tuple #[])))->T B (cl b (cs.setIfInBounds (o+1) (.int .i32 1))::H) (ad P 376 #[.pointer (some p),.pointer (some q)] Kf))(U:∀x,T B (cl b (((cs2 x).setIfInBounds o (.int .u32 1)).setIfInBounds (o+1) (.int .i32 0))::H2 x) (K (.tuple #[]))):T B (cl b cs::H) (ad P 234 #[.pointer (some ⟨b,o,none⟩),.func (.func 376) #[] #[.pointer (some p),.pointer (some q)]] K):=by
 intro σ ow w hw;subst hw;have c0:=na ow h0;have hy:∀(x:Bool) (w:World),(Op.unary .not (.bool x)).run Tryz.prog w= .ok (.bool (!x)) w:=λ_ _=>rfl;have AO:Calls Tryz.prog 331 #[.pointer (some ⟨b,o,none⟩),.func (.func 376) #[] #[.pointer (some p),.pointer (some q)]] w _:=WO (K:=λv eC=>v= .tuple #[]/\K (.tuple #[]) eC) h0 h1 k6 gl hf (λx=>dS rfl (U x)) _ ow w rfl
 go_enter Tryz.func234,Tryz.ntmps234
 go_wp2_with (first|(go_at_call 330;refine(wW ⟨b,o,none⟩ _ (by assumption)).mono ?_;rintro e w' ⟨rfl,rfl⟩)|(go_at_call 331;refine AO.mono ?_;rintro e w' ⟨v,rfl,⟨rfl,hK⟩,iF⟩))
 go_end0
 exact⟨_,rfl,hK,iF⟩
end
