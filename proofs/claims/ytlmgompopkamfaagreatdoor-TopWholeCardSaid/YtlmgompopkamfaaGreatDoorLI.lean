/- Lemmas that lead to TopWhole (their names made short by a program); no condition. -/
import Derived.Test.YtlmgompopkamfaaGreatDoorLH
set_option linter.all false
set_option maxRecDepth 20000
namespace Go.Proofs.YtlmgompopkamfaaGreatDoor
section
open Go.XS Go.bn
structure Ch where
 nl:Nat
 nn:Nat
 ls:Nat->List Nat
structure y' where
 nb:Nat
 eD:Nat
 nd:Nat->N3
 en:Nat->N3
abbrev zN(b:Nat)(C:Ch)(x:y')(H:au):au:=
 cl b #[.slice (some ⟨x.nb,0,none⟩) C.nn C.nn,.slice (some ⟨x.eD,0,none⟩) C.nl C.nl]::cl x.nb (dw C.nn x.nd).toArray::cl x.eD (dw C.nl x.en).toArray::H
def Ch.Ok(C:Ch)(x:y'):Prop:=jj C.nl C.nn C.ls x.nd x.en/\C.nl<=1048576/\C.nn<=1048576
def dP(b:Nat)(C:Ch):bg:=BD C.Ok (zN b C)
def sv(ls:Nat->List Nat)(nl n:Nat):Option Nat:=(List.range nl).find? λk=>(ls k).contains n
def Ch.of(C:Ch)(n:Int):Int:=if 0<=n/\n<(C.nn:Int)then(match sv C.ls C.nl n.toNat with|some k=>(k:Int)|none=>-1)else-1
def Ch.first(C:Ch)(k:Int):Int:=if 0<=k/\k<(C.nl:Int)then bU (C.ls k.toNat)else-1
def Ch.len(C:Ch)(k:Int):Int:=if 0<=k/\k<(C.nl:Int)then((C.ls k.toNat).length:Int)else 0
def Ch.add(C:Ch)(j m:Nat):Ch:={C with ls:=up C.ls j (C.ls j++[m])}
section
variable {B:Heap}{H H0:au}{K:aK}{b:Nat}{C:Ch}{n k:Int}
def lS{q:HP}(t:∀x,C.Ok x->T B (zN b C x H) q):T B (dP b C::H) q:=mz (λ_ _=>rfl) t
def kR{q:HP}(x:y')(h:C.Ok x)(t:T B (dP b C::H) q):T B (zN b C x H) q:=my x h (λ_ _=>rfl) t
instance abH[h:Ow H (dP b) C H0]:J B H (ab P 349 #[pz b,D k] K) (T B (dP b C::H0) (K (.bool (decide (0<=k/\k<(C.nl:Int)))))):=⟨by
 intro I;refine bh h.pl (lS λx a=>an (MC _ _) ?_);repeat' first|apply J.go|refine S2.go (λ_=>?_) λ_=>?_|done
 all_goals (refine af (kR x a (eb I ?_));simp;omega)⟩
instance abI[h:Ow H (dP b) C H0]:J B H (ab P 350 #[pz b,D n] K) (T B (dP b C::H0) (K (.bool (decide (0<=n/\n<(C.nn:Int)))))):=⟨by
 intro I;refine bh h.pl (lS λx a=>an (MD _ _) ?_);repeat' first|apply J.go|refine S2.go (λ_=>?_) λ_=>?_|done
 all_goals (refine af (kR x a (eb I ?_));simp;omega)⟩
def jj.of_eq{nl nn:Nat}{ls:Nat->List Nat}{nd en:Nat->N3}(h:jj nl nn ls nd en){m:Nat}(hm:m<nn):(nd m).2.2=match sv ls nl m with|some k=>(k:Int)|none=>-1:=by
 rcases h.node m hm with⟨e,d⟩|⟨k,a,c,I,e⟩
 ·have:sv ls nl m=none:=pA.2 λj _=>by simpa using d j
  rw[e,this]
 ·have b:m∈ls k:=by rw[I];simp
  have:sv ls nl m=some k:=by
   cases hf:sv ls nl m with
   |none=>exact absurd b (by simpa using pA.1 hf k (by simp;exact(h.jm k m b).1))
   |some j=>have:=List.find?_some hf;rw[h.q8 j k m (by simpa using this) b]
  rw[e,this]
instance abG[h:Ow H (dP b) C H0]:J B H (ab P 352 #[pz b,D n] K) (T B (dP b C::H0) (K (D (C.of n)))):=⟨by
 intro I;refine bh h.pl (an (MB _ _) ?_);unfold Ch.of at I;repeat' first|apply J.go|refine S2.go (λ_=>?_) λ_=>?_|done
 ·rename_i a;rw[ak a]at I;exact I
 ·rename_i a
  rw[ah a]at I;refine lS λx c=>J.go (ub n.toNat (by omega) (by omega) (by omega) (by omega) (af (kR x c (eb I ?_))));rw[<-jj.of_eq c.1 (by omega)];rfl⟩
instance abD[h:Ow H (dP b) C H0]:J B H (ab P 343 #[pz b,D k] K) (T B (dP b C::H0) (K (D (C.first k)))):=⟨by
 intro I;refine bh h.pl (an (Mx _ _) ?_);unfold Ch.first at I
 repeat' first|apply J.go|refine S2.go (λ_=>?_) λ_=>?_|done
 ·rename_i a;rw[ak a]at I;exact I
 ·rename_i a
  rw[ah a]at I;refine lS λx c=>J.go (ub k.toNat (by omega) (by omega) (by omega) (by omega) (af (kR x c (eb I ?_))));rw[c.1.ends k.toNat (by omega)];rfl⟩
instance abE[h:Ow H (dP b) C H0]:J B H (ab P 289 #[pz b,D k] K) (T B (dP b C::H0) (K (D (C.len k)))):=⟨by
 intro I;refine bh h.pl (an (My _ _) ?_);unfold Ch.len at I;repeat' first|apply J.go|refine S2.go (λ_=>?_) λ_=>?_|done
 ·rename_i a;rw[ak a]at I;exact I
 ·rename_i a
  rw[ah a]at I;refine lS λx c=>J.go (ub k.toNat (by omega) (by omega) (by omega) (by omega) (af (kR x c (eb I ?_))));rw[c.1.ends k.toNat (by omega)];rfl⟩
def El{j m:Nat}{a c:List Nat}(hm:C.ls j=a++m::c)(I:T B (dP b C::H) (K (D (bU c)))):T B (dP b C::H) (ab P 345 #[pz b,D m] K):=by
 refine lS λx d=>?_;have e:m∈C.ls j:=by rw[hm];simp
 have f:=(d.1.jm j m e).2;refine kR x d (an (MA _ _) ?_);repeat' first|apply J.go|refine S2.go (λ_=>?_) λ_=>?_|done
 ·omega
 ·refine lS λx d=>J.go (ub m rfl (by omega) (by omega) (by omega) (af (kR x d (eb I ?_))))
  rw[d.1.ry hm];rfl
def zO{q:HP}(t:(∀j,(C.ls j).length<=1048576)->T B (dP b C::H) q):T B (dP b C::H) q:=lS λx a=>kR x a (t λj=>jL (nO C.nn (a.1.nodup j) λm hm=>(a.1.jm j m hm).2) a.2.2)
def Tl{j:Nat}(i:j<C.nl)(I:∀p c,T B (dP b C::ai 1 p (C.ls j).length c (iv .i64 ((C.ls j).map Int.ofNat))::H) (K (.slice p (C.ls j).length c))):T B (dP b C::H) (ab P 258 #[pz b,D j] K):=by
 refine an (Mz _ _) (zO λhlen=>?_);have hlen:=hlen j;repeat apply J.go
 have e:C.first j=bU (C.ls j):=by unfold Ch.first;rw[ah (by omega),a7]
 rw[e];refine dR 1 (ud (λf p l c n H'=>∃a d:List Nat,C.ls j=a++d/\n=bU d/\f=d.length/\l=a.length/\H'=ai 1 p l c (iv .i64 (a.map Int.ofNat))::dP b C::H) (C.ls j).length ⟨[],C.ls j,rfl,rfl,rfl,rfl,rfl⟩ ?_);rintro f p l c n H' R ⟨a,d,hd,rfl,rfl,rfl,rfl⟩ g
 cases d with
 |nil=>rw[bU];apply aD (by with_reducible decide);rw[je]at hd;have:=I p c;rw[hd]at this;exact af this
 |cons z d=>
  rw[bU];repeat' first|refine Sa.go λ_=>?_|refine S2.go (λ_=>?_) λ_=>?_|done
  ·refine e0 rfl ?_ λh c'=>?_
   ·rw[hd]at hlen;simp at hlen;omega
   ·refine aN (dP b) (El hd ?_)
    apply J.go;have e:iv .i64 (a.map Int.ofNat)++#[D z].toList=iv .i64 ((a++[z]).map Int.ofNat):=by simp[iv]
    rw[e];exact af (g d.length h (a.length+1) c' (bU d) _ (by simp) ⟨a++[z],d,by simp[hd],rfl,rfl,by simp,rfl⟩)
  ·omega
def zP{j m:Nat}(d:j<C.nl)(hm:m<C.nn)(l:∀k,m∉C.ls k)(I:T B (dP b (C.add j m)::H) (K (.bool true))):T B (dP b C::H) (ab P 266 #[pz b,D j,D m] K):=by
 refine an (Mv _ _ _) (zO λhlen=>?_);have hlen:=hlen j;repeat' first|apply J.go|refine S2.go (λ_=>?_) λ_=>?_|done
 ·omega
 ·omega
 refine lS λx h=>?_
 have n:x.nd m=(-1,-1,-1):=by
  rcases h.1.node m hm with⟨e,_⟩|⟨k,a,c,I,e⟩
  ·exact e
  ·exact absurd (by rw[I];simp) (l k)
 have he:=h.1.ends j d;have xg:=h.1.add d hm l;refine J.go (ub m rfl (by omega) (by omega) (by omega) ?_);rw[n];apply aD (by simp[pj]);repeat first|apply J.go|refine Sc.go (by omega) ?_
 rw[a7,aQ,bJ];apply qS (j:=0) d (by omega);refine Sc.go rfl ?_;apply zi m rfl (by omega) (by omega);apply J.go;apply qS (j:=0) d (by omega);have g:pj 0 (x.en j)=ck (C.ls j):=by rw[he];rfl
 rw[g]
 have fin:∀nd en,nd=ue x.nd (x.en j).1 j m->en=qW x.en j m->T B (cl b #[.slice (some ⟨x.nb,0,none⟩) C.nn C.nn,.slice (some ⟨x.eD,0,none⟩) C.nl C.nl]::cl x.nb (dw C.nn nd).toArray::cl x.eD (dw C.nl en).toArray::H) (K (.bool true)):=by rintro _ _ rfl rfl;exact kR (C:=C.add j m) ⟨x.nb,x.eD,_,_⟩ ⟨xg,h.2⟩ I
 repeat' first|apply J.go|refine S2.go (λ_=>?_) λ_=>?_|done
 ·rename_i o
  have p:C.ls j≠[]:=λe=>by rw[e,qc]at o;omega
  obtain⟨a,y,q,hl⟩:=sO p;have r:=(h.1.jm j y (by rw[q];simp)).2;rw[hl];apply qS (j:=0) d (by omega);rw[g,hl];refine zl y rfl (by omega) (by omega) (by omega) (J.go (oF (j:=0) d (by omega) ?_));rw[aQ];refine qS (j:=2) d (by omega) (oF (j:=2) d (by omega) (fin _ _ ?_ ?_))
  ·have f:(x.en j).1=(y:Int):=g.trans hl
   simp only[ue,f,a7,xU];rw[ah (by omega)]
  ·have f:(x.en j).1=(y:Int):=g.trans hl
   have i:(x.en j).2.2=((C.ls j).length:Int):=by rw[he]
   funext a;by_cases ha:a=j
   ·subst ha
    simp only[qW,eT,xT,xU,Bh,Bg,f];rw[ah (by omega),i,bd (by omega)]
   ·simp only[qW,dF _ _ ha]
 ·rename_i s
  rw[aQ];refine oF (j:=1) d (by omega) (J.go (oF (j:=0) d (by omega) ?_));rw[aQ];refine qS (j:=2) d (by omega) (oF (j:=2) d (by omega) (fin _ _ ?_ ?_))
  ·have f:(x.en j).1=ck (C.ls j):=g
   simp only[ue,f];rw[ak (by omega)]
  ·have f:(x.en j).1=ck (C.ls j):=g
   have i:(x.en j).2.2=((C.ls j).length:Int):=by rw[he]
   funext a;by_cases ha:a=j
   ·subst ha
    simp only[qW,eT,xT,xU,Bh,Bg,f];rw[ak (by omega),i,bd (by omega)]
   ·simp only[qW,dF _ _ ha]
def Ch.drop(C:Ch)(k:Nat)(l:List Nat):Ch:={C with ls:=up C.ls k l}
def zQ{j m:Nat}{a c:List Nat}(hm:C.ls j=a++m::c)(I:T B (dP b (C.drop j (a++c))::H) (K (.bool true))):T B (dP b C::H) (ab P 270 #[pz b,D m] K):=by
 refine zO λhlen=>?_;have hlen:=hlen j;refine lS λx d=>?_;have A:m∈C.ls j:=by rw[hm];simp
 obtain⟨g,E⟩:=d.1.jm j m A;have hd:=d.1.drop hm;have h:=d.1.ry hm;have he:=d.1.ends j g
 have F:C.of m=(j:Int):=by unfold Ch.of;rw[ah (by omega),a7,<-jj.of_eq d.1 E,h]
 refine kR x d (an (Mw _ _) ?_);repeat' first|apply J.go|refine S2.go (λ_=>?_) λ_=>?_|done
 ·omega
 refine lS λx2 k=>?_;clear d hd h he F;have hd:=k.1.drop hm;have h:=k.1.ry hm;have he:=k.1.ends j g;refine J.go (JA m rfl (by omega) (by omega) ?_);rw[h];refine el λtb=>?_
 have fin:∀nd en,nd=sA x2.nd m->en=sy x2.nd x2.en m->T B (cl tb #[D (ck a),D (bU c),D (j:Int)]::cl b #[.slice (some ⟨x2.nb,0,none⟩) C.nn C.nn,.slice (some ⟨x2.eD,0,none⟩) C.nl C.nl]::cl x2.nb (dw C.nn nd).toArray::cl x2.eD (dw C.nl en).toArray::H) (K (.bool true)):=by rintro _ _ rfl rfl;exact ec (kR (C:=C.drop j (a++c)) ⟨x2.nb,x2.eD,_,_⟩ ⟨hd,k.2⟩ I)
 simp only at*;have ac:C.nl<=1048576:=k.2.1
 have last:∀nd en,up nd m (-1,-1,-1)=sA x2.nd m->up en j (o2 2 (IntKind.wrap .i64 (pj 2 (en j)-1)) (en j))=sy x2.nd x2.en m->
   T B (cl tb #[D (ck a),D (bU c),D (j:Int)]::cl b #[.slice (some ⟨x2.nb,0,none⟩) C.nn C.nn,.slice (some ⟨x2.eD,0,none⟩) C.nl C.nl]::cl x2.nb (dw C.nn nd).toArray::cl x2.eD (dw C.nl en).toArray::H)
    (bs IntKind.i64 ⟨x2.eD,j*3+2,none⟩ λl=>st ⟨x2.eD,j*3+2,none⟩ (D (IntKind.wrap .i64 (l-1))) (b5 (some ⟨b,0,none⟩) 0 λn o G=>aR (#[D (-1),D (-1)].size=2) (jZ n o (↑m) 3 #[D (-1),D (-1),D (-1)] 3 (K (Value.bool true))))):=by
  intro nd en U p;refine qS (j:=2) g (by omega) (oF (j:=2) g (by omega) ?_);repeat first|apply J.go|refine Sc.go rfl ?_
  exact zi m rfl (by omega) (by omega) (fin _ _ U p)
 have p:(x2.en j).2.2=((C.ls j).length:Int):=by rw[he]
 have hle:1<=(C.ls j).length:=by rw[hm];simp;omega
 have ends:∀(u v:Int) (en:Nat->N3),(∀i,i≠j->en i=x2.en i)->en j=(u,v,(x2.en j).2.2)->u=(if 0<=bU c then(x2.en j).1 else ck a)->v=(if 0<=ck a then(x2.en j).2.1 else bU c)->up en j (o2 2 (IntKind.wrap .i64 (pj 2 (en j)-1)) (en j))=sy x2.nd x2.en m:=by
  intro u v en L M hu N;funext i;unfold sy;rw[h];simp only[a7];by_cases hi:i=j
  ·subst hi
   rw[eT,eT,M,Bg,Bh];simp only;rw[p,bd (by omega),hu,N]
  ·rw[dF _ _ hi,dF _ _ hi,L i hi]
 have jm:∀z∈C.ls j,z<C.nn:=λz hz=>(k.1.jm j z hz).2
 let q:HP:=bs IntKind.i64 ⟨x2.eD,j*3+2,none⟩ λl=>st ⟨x2.eD,j*3+2,none⟩ (D (IntKind.wrap .i64 (l-1))) (b5 (some ⟨b,0,none⟩) 0 λn o G=>aR (#[D (-1),D (-1)].size=2) (jZ n o (↑m) 3 #[D (-1),D (-1),D (-1)] 3 (K (Value.bool true))))
 have mid:∀(nd en:Nat->N3) (v:Int),nd=(if 0<=ck a then up x2.nd (ck a).toNat ((x2.nd (ck a).toNat).1,bU c,(x2.nd (ck a).toNat).2.2)else x2.nd)->(∀i,i≠j->en i=x2.en i)->en j=((x2.en j).1,v,(x2.en j).2.2)->
   v=(if 0<=ck a then(x2.en j).2.1 else bU c)->
   T B (cl tb #[D (ck a),D (bU c),D (j:Int)]::cl b #[.slice (some ⟨x2.nb,0,none⟩) C.nn C.nn,.slice (some ⟨x2.eD,0,none⟩) C.nl C.nl]::cl x2.nb (dw C.nn nd).toArray::cl x2.eD (dw C.nl en).toArray::H)
    (bs IntKind.i64 (ag tb 1) λO=>ae (decide (O>=0)) (b5 (some ⟨b,0,none⟩) 0 λQ R ad=>bs IntKind.i64 (ag tb 1) λS=>bs IntKind.i64 (ag tb 0) λV=>qa Q R S 3 0 (D V) (jn q [])) (bs IntKind.i64 (ag tb 0) λW=>st ⟨x2.eD,j*3,none⟩ (D W) (jn q []))):=by
  intro nd en v X r s t
  have w:∀y,y=(if 0<=bU c then up nd (bU c).toNat (ck a,(nd (bU c).toNat).2.1,(nd (bU c).toNat).2.2)else nd)->up y m (-1,-1,-1)=sA x2.nd m:=by rintro _ rfl;unfold sA;rw[h];simp only;rw[<-X]
  repeat' first|apply J.go|refine S2.go (λ_=>?_) λ_=>?_|done
  ·rename_i f
   obtain⟨z,c',rfl⟩:∃z c',c=z::c':=by
    cases c with
    |nil=>exact absurd f (by simp[bU])
    |cons z c'=>exact⟨z,c',rfl⟩
   have Y:=jm z (by rw[hm];simp);apply zl z rfl (by omega) (by omega) (by omega);apply J.go;refine last _ _ (w _ ?_) (ends _ v _ r s ?_ t)
   ·rw[ah f];rfl
   ·rw[ah f]
  ·rename_i Z
   apply oF (j:=0) g (by omega);apply J.go;refine last _ _ (w _ ?_) (ends (ck a) v _ (λi hi=>?_) ?_ ?_ t)
   ·rw[ak (by omega)]
   ·rw[dF _ _ hi];exact r i hi
   ·rw[eT,xT,s]
   ·rw[ak (by omega)]
 repeat' first|apply J.go|refine S2.go (λ_=>?_) λ_=>?_|refine Sc.go (by first|omega|exact⟨rfl,rfl⟩) ?_|done
 all_goals (try rw[a7]);(try simp only[aQ,bJ])
 ·rename_i f
  have aa:a≠[]:=λe=>by rw[e,qc]at f;omega
  obtain⟨a',z,hz,hl⟩:=sO aa;have Y:=jm z (by rw[hm,hz];simp);rw[hl];apply zl z rfl (by omega) (by omega) (by omega);rw[<-hl];iterate 2 (apply J.go)
  refine mid _ _ (x2.en j).2.1 ?_ (λ_ _=>rfl) rfl (by rw[ah f]);rw[ah f,hl];rfl
 ·rename_i Z
  apply oF (j:=1) g (by omega);iterate 2 (apply J.go)
  refine mid _ _ (bU c) ?_ (λi hi=>dF _ _ hi) (by rw[eT];rfl) (by rw[ak (by omega)]);rw[ak (by omega)]
def Ch.new(nl nn:Nat):Ch:=⟨nl,nn,λ_=>[]⟩
def jj.new(nl nn:Nat):jj nl nn (λ_=>[]) (λ_=>(-1,-1,-1)) (λ_=>(-1,-1,0)):=⟨λn _=> .inl ⟨rfl,by simp⟩,λk _=>rfl,by simp,by simp,by simp⟩
def abc:zc P 422=#[D 0,D 0,D 0]:=by kernel_rfl
def abd:zc P 424=#[D 0,D 0,D 0]:=by kernel_rfl
def S8:P.cellsOf 422=3:=by kernel_rfl
def S9:P.cellsOf 424=3:=by kernel_rfl
def K3:P.bytesOf 422=24:=by kernel_rfl
def K4:P.bytesOf 424=24:=by kernel_rfl
def G9(n:Nat):gx #[D 0,D 0,D 0] (n*3)=(dw n λ_=>(0,0,0)).toArray:=by
 apply g';simp only[List.toList_toArray];refine yb (by simp[gx]) λi j hi a=>?_;simp only[gx,Cw,fo,yO];rw[tJ (by omega)];simp only[ih,iO];have:(i*3+j)%3=j:=by omega
 simp only[iL,dd,gH,bJ,Nat.reduceAdd,this];obtain rfl|rfl|rfl:j=0\/j=1\/j=2:=by omega
 all_goals rfl
def Dt{n:Nat}(a:n<=1048576){f:Nat->HP}(t:∀c,T B (cl c (dw n λ_=>(0,0,0)).toArray::H) (f c)):T B H (c7 P 422 n n f):=by refine gC (by omega) (by omega) (by omega) (by rw[K3];omega) (by kernel_rfl) (by kernel_rfl) λc=>?_;rw[S8,abc,a7,G9];exact t c
def Du{n:Nat}(a:n<=1048576){f:Nat->HP}(t:∀c,T B (cl c (dw n λ_=>(0,0,0)).toArray::H) (f c)):T B H (c7 P 424 n n f):=by refine gC (by omega) (by omega) (by omega) (by rw[K4];omega) (by kernel_rfl) (by kernel_rfl) λc=>?_;rw[S9,abd,a7,G9];exact t c
instance abF:J B H (ab P 233 #[] K) (T B H (K (.agg #[D (-1),D (-1)]))):=⟨by
 intro I;apply an (MF);repeat first|refine Sa.go λ_=>?_|refine Sc.go (by first|rfl|exact⟨rfl,rfl⟩) ?_
 exact af I⟩
def zR{l m:Nat}(hl:l<=1048576)(hm:m<=1048576)(I:∀b,T B (dP b (Ch.new l m)::H) (K (pz b))):T B H (ab P 145 #[D l,D m] K):=by
 apply an (ME _ _)
 have main:∀b nb eD,T B (cl b #[.slice (some ⟨nb,0,none⟩) m m,.slice (some ⟨eD,0,none⟩) l l]::cl nb (dw m λ_=>(0,0,0)).toArray::cl eD (dw l λ_=>(0,0,0)).toArray::H)
   (b5 (some ⟨b,0,none⟩) 0 λN v O=>bm (cG λf w=>ae (decide (f<(↑v:Int))) (aA (some ⟨b,0,none⟩) λp=>aT (Addr.add p 0) λq r x=>bH 233 #[] λs=>dA (λy=>cA y (Addr.add p 0)=some (Value.slice q r x)) (aR (Array.size s=2) (jZ q r f 3 (Array.mk (cX (cX [D 0,D 0,D 0] 0 (Array.toList s)) 2 [D (-1)])) 3 (w [D (IntKind.wrap .i64 (f+1))])))) (b5 (some ⟨b,0,none⟩) 1 λQ A S=>bm (cG λg C=>ae (decide (g<(↑A:Int))) (aA (some ⟨b,0,none⟩) λa49=>aT (Addr.add a49 1) λt u E=>bH 233 #[] λF=>dA (λG=>cA G (Addr.add a49 1)=some (Value.slice t u E)) (jZ t u g 3 F 2 (C [D (IntKind.wrap .i64 (g+1))]))) (K (pz b))) [D 0])) [D 0]):=by
  intro b nb eD;refine J.go (cF m (by omega) (λk H'=>H'=cl b #[.slice (some ⟨nb,0,none⟩) m m,.slice (some ⟨eD,0,none⟩) l l]::cl nb (dw m λi=>if i<k then(-1,-1,-1)else(0,0,0)).toArray::cl eD (dw l λ_=>(0,0,0)).toArray::H) (by simp) ?_);rintro k H' R L rfl n;repeat' first|apply J.go|refine S2.go (λ_=>?_) λ_=>?_|refine Sc.go rfl ?_|done
  ·show T B _ (jZ (some ⟨nb,0,none⟩) m (k:Int) 3 #[D (-1),D (-1),D (-1)] 3 _)
   refine zi k rfl (by omega) (by omega) (n (by omega) _ ?_)
   have e:up (λi=>if i<k then((-1:Int),(-1:Int),(-1:Int))else(0,0,0)) k (-1,-1,-1)=λi=>if i<k+1 then(-1,-1,-1)else(0,0,0):=by
    funext i;unfold up;by_cases h:i=k
    ·subst h;simp
    ·simp only[ak h]
     by_cases a:i<k
     ·rw[ah a,ah (by omega)]
     ·rw[ak a,ak (by omega)]
   rw[e]
  ·obtain rfl:k=m:=by omega
   have e:(dw k λi=>if i<k then((-1:Int),(-1:Int),(-1:Int))else(0,0,0))=dw k λ_=>(-1,-1,-1):=by refine yb (qs _ _) λi j hi o=>?_;rw[tf hi o,ah hi]
   rw[e];apply cF l (by omega) (λz H'=>H'=cl b #[.slice (some ⟨nb,0,none⟩) k k,.slice (some ⟨eD,0,none⟩) l l]::cl nb (dw k λ_=>(-1,-1,-1)).toArray::cl eD (dw l λi=>if i<z then(-1,-1,0)else(0,0,0)).toArray::H) (by simp);rintro z H' R L rfl n;repeat' first|apply J.go|refine S2.go (λ_=>?_) λ_=>?_|done
   ·unfold jZ
    rw[cT];refine bj ⟨by omega,by omega⟩ ?_;rw[a7,aQ,bJ];refine ny rfl (by rw[iL,qs];omega) (by simp[Value.oneCell']) ?_;apply n (by omega) _
    have M:eH (dw l λi=>if i<z then((-1:Int),(-1:Int),(0:Int))else(0,0,0)).toArray (z*3) #[D (-1),D (-1)].toList=(dw l λi=>if i<z+1 then(-1,-1,0)else(0,0,0)).toArray:=by
     simp only[eH,jI];show(((dw l _).set (z*3+0) (D (-1))).set (z*3+1) (D (-1))).toArray=_;rw[tg (by omega) (by omega),tg (by omega) (by omega)];congr 2;funext i;unfold up;by_cases h:i=z
     ·subst h;simp[xT,xU]
     ·simp only[ak h]
      by_cases a:i<z
      ·rw[ah a,ah (by omega)]
      ·rw[ak a,ak (by omega)]
    rw[M]
   ·obtain rfl:z=l:=by omega
    have e:(dw z λi=>if i<z then((-1:Int),(-1:Int),(0:Int))else(0,0,0))=dw z λ_=>(-1,-1,0):=by refine yb (qs _ _) λi j hi o=>?_;rw[tf hi o,ah hi]
    rw[e];exact kR ⟨nb,eD,_,_⟩ ⟨jj.new z k,hl,hm⟩ (I b)
 repeat' first|apply J.go|refine S2.go (λ_=>?_) λ_=>?_|done
 ·omega
 ·omega
 ·omega
 ·omega
 refine fO ?_ ?_
 ·refine Dt hm λc=>Du hl λd=>el λb=>J.go ?_
  simp only[a7];exact af (main b c d)
 ·refine Du hl λd=>Dt hm λc=>el λb=>J.go ?_
  simp only[a7];exact af (main b c d)
end
end
section
open Go.XS
section
variable {B:Heap}{H:au}{K:aK}
def aF(a:Int):Prop:=-9223372036854775808<=a/\a<=9223372036854775807
instance (a:Int):Decidable (aF a):=by unfold aF;infer_instance
def uf(a b:Int):Int:=if aF (a+b)then a+b else 0
def Gr{a b:Int}(ha:aF a)(c:aF b)(I:T B H (K (.tuple #[.int .i64 (uf a b),.bool (decide (aF (a+b)))]))):T B H (ab P 356 #[.int .i64 a,.int .i64 b] K):=by
 apply an (OE _ _);unfold aF at ha c;rw[aaZ (by omega) (by omega)];split<;>(try split)<;>repeat' first|apply J.go|refine S2.go (λ_=>?_) λ_=>?_|done
 all_goals first
  |(exfalso;omega)
  |(refine eb I ?_;simp only[uf,aF,Value.tuple.injEq,Array.mk.injEq,ly,Value.int.injEq,Value.bool.injEq];((repeat' (first|rfl|(with_reducible apply yL)|(with_reducible refine hZ.2 ?_)|split))<;>first|rfl|omega|(refine@cB _ (_) ?_;omega)|(refine@cD _ (_) ?_;omega)|(refine(@cB _ (_) ?_).symm;omega)|(refine(@cD _ (_) ?_).symm;omega)|(refine hZ.2 ?_;omega)|(simp;done)|(simp<;>omega)|(simp at*<;>omega)))
def GN{p:Int}(I:T B H (K (.bool (decide (0<=p/\p<4))))):T B H (ab P 458 #[.int .i64 p] K):=by refine an (O4 _) (S2.go (λ_=>?_) λ_=>?_);all_goals (refine eb I ?_;simp;try omega)
def qj(p e:Int):Int:=if 0<=p/\p<4/\e=p+1 then(if p=3 then 0 else p+1)else 0
def u9(p e:Int):Int:=if 0<=p/\p<4/\1<=e/\e<=4 then(if e=p+1 then 0 else 18)else 2
def Xb{p e:Int}(I:T B H (K (.tuple #[.int .i64 (qj p e),.int .i64 (u9 p e)]))):T B H (ab P 418 #[.int .i64 p,.int .i64 e] K):=by
 apply an (O3 _ _);simp only[aQ];by_cases h:0<=p/\p<4
 ·obtain rfl|rfl|rfl|rfl:p=0\/p=1\/p=2\/p=3:=by omega
  all_goals repeat first|apply J.go|refine Sa.go λ_=>?_|refine Sc.go ⟨rfl,rfl⟩ ?_
  all_goals refine GN ?_
  all_goals repeat' first|apply J.go|refine aD (by with_reducible decide) ?_|refine S2.go (λ_=>?_) λ_=>?_|refine Sc.go (by omega) ?_|refine a1 rfl ?_|done
  all_goals first|(exfalso;omega)|(refine af (eb I ?_)<;>simp only[qj,u9]<;>((repeat' (first|rfl|(with_reducible apply yL)|(with_reducible refine hZ.2 ?_)|split))<;>first|rfl|omega|(refine@cB _ (_) ?_;omega)|(refine@cD _ (_) ?_;omega)|(refine(@cB _ (_) ?_).symm;omega)|(refine(@cD _ (_) ?_).symm;omega)|(refine hZ.2 ?_;omega)|(simp;done)|(simp<;>omega)|(simp at*<;>omega)))
 ·repeat first|apply J.go|refine Sa.go λ_=>?_|refine Sc.go ⟨rfl,rfl⟩ ?_
  apply GN;rw[cD h];repeat apply J.go
  refine af (eb I ?_);simp only[qj,u9]
  ((repeat' (first|rfl|(with_reducible apply yL)|(with_reducible refine hZ.2 ?_)|split))<;>first|rfl|omega|(refine@cB _ (_) ?_;omega)|(refine@cD _ (_) ?_;omega)|(refine(@cB _ (_) ?_).symm;omega)|(refine(@cD _ (_) ?_).symm;omega)|(refine hZ.2 ?_;omega)|(simp;done)|(simp<;>omega)|(simp at*<;>omega))
structure Acc where
 dG:Int
 held:Int
 cf:Int
deriving DecidableEq
abbrev fP(a:Acc):ax:=#[.int .i64 a.dG,.int .i64 a.held,.int .i64 a.cf]
def eJ:Acc:=⟨0,0,0⟩
def bZ(a:Acc):Bool:=decide (1<=a.dG/\a.dG<=1048576/\0<=a.held/\0<=a.cf/\a.held+a.cf<=a.dG)
def jl(a:Acc):Prop:=aF a.dG/\aF a.held/\aF a.cf
def sh{a:Acc}(ha:jl a)(I:T B H (K (.bool (bZ a)))):T B H (ab P 398 #[.agg (fP a)] K):=by
 apply an (Lu _);unfold fP;obtain⟨U,b,c⟩:=ha;repeat first|apply J.go|refine Sa.go λ_=>?_
 apply Gr b c;repeat' first|apply J.go|refine S2.go (λ_=>?_) λ_=>?_|done
 all_goals (refine af (eb I ?_);simp only[bZ,uf,aF,Value.bool.injEq]at*;((repeat' (first|rfl|(with_reducible apply yL)|(with_reducible refine hZ.2 ?_)|split))<;>first|rfl|omega|(refine@cB _ (_) ?_;omega)|(refine@cD _ (_) ?_;omega)|(refine(@cB _ (_) ?_).symm;omega)|(refine(@cD _ (_) ?_).symm;omega)|(refine hZ.2 ?_;omega)|(simp;done)|(simp<;>omega)|(simp at*<;>omega)))
def Kc{c:Int}(hc:aF c)(I:T B H (K (.tuple #[.agg (fP (if bZ ⟨c,0,0⟩then⟨c,0,0⟩else eJ)),.int .i64 (if bZ ⟨c,0,0⟩then 0 else 2)]))):T B H (ab P 341 #[.int .i64 c] K):=by
 apply an (Lr _);repeat first|refine Sa.go λ_=>?_|refine Sc.go (by first|rfl|exact⟨rfl,rfl⟩) ?_
 refine sh (a:=⟨c,0,0⟩) ⟨hc,by show aF 0;decide,by show aF 0;decide⟩ ?_;repeat' first|apply J.go|refine S2.go (λ_=>?_) λ_=>?_|refine Sc.go (by first|rfl|exact⟨rfl,rfl⟩) ?_|done
 all_goals (refine af (eb I ?_);simp[*,fP,eJ])
def Kb{a:Acc}(ha:jl a)(I:T B H (K (.int .i64 (if bZ a then a.dG-a.held else 0)))):T B H (ab P 523 #[.agg (fP a)] K):=by
 apply an (Lq _);repeat first|refine Sa.go λ_=>?_|refine Sc.go rfl ?_
 apply sh ha;repeat' first|apply J.go|refine S2.go (λ_=>?_) λ_=>?_|done
 ·refine af (eb I ?_)
  simp[*]
 ·rename_i h
  refine af (eb I ?_);have b:=h;simp only[bZ,bz]at b;rw[ah h,bd (by omega)]
inductive Ac where|ee|ct|cancel|eL
def Ac.ez:Ac->Acc->Int->Acc
 | .ee,a,n=>{a with cf:=a.cf+n}
 | .ct,a,n=>{a with cf:=a.cf-n,held:=a.held+n}
 | .cancel,a,n=>{a with cf:=a.cf-n}
 | .eL,a,n=>{a with held:=a.held-n}
def Ac.qB:Ac->Int| .ee=>7|_=>20
def Ac.fn:Ac->Nat| .ee=>478| .ct=>452| .cancel=>479| .eL=>480
def Ac.err(c:Ac)(a:Acc)(n:Int):Int:=if bZ a/\1<=n then(if n<=1048576/\bZ (c.ez a n)then 0 else c.qB)else 2
def Ac.val(c:Ac)(a:Acc)(n:Int):Acc:=if c.err a n=0 then c.ez a n else eJ
abbrev lM(c:Ac)(a:Acc)(n:Int):Value:= .tuple #[.agg (fP (c.val a n)),.int .i64 (c.err a n)]
def Kg{c:Ac}{a:Acc}{n:Int}(hr:bZ a=true)(U:1<=n)(b:n<=1048576)(I:T B H (K (.agg (fP (c.ez a n))))):T B H (ab P c.fn #[.agg (fP a),.int .i64 n] K):=by
 simp only[bZ,bz]at hr;cases c
 ·apply an (Lt _ _)
  unfold fP;repeat first|apply J.go|refine Sa.go λ_=>?_|refine Sc.go (by first|rfl|exact⟨rfl,rfl⟩) ?_
  rw[bd (by omega)];exact af I
 ·apply an (Lp _ _)
  unfold fP;repeat first|apply J.go|refine Sa.go λ_=>?_|refine Sc.go (by first|rfl|exact⟨rfl,rfl⟩) ?_
  rw[bd (by omega),bd (by omega)];exact af I
 ·apply an (Ll _ _)
  unfold fP;repeat first|apply J.go|refine Sa.go λ_=>?_|refine Sc.go (by first|rfl|exact⟨rfl,rfl⟩) ?_
  rw[bd (by omega)];exact af I
 ·apply an (Ln _ _)
  unfold fP;repeat first|apply J.go|refine Sa.go λ_=>?_|refine Sc.go (by first|rfl|exact⟨rfl,rfl⟩) ?_
  rw[bd (by omega)];exact af I
def KJ(c:Ac):gb P c.fn=true:=by cases c<;>kernel_rfl
def J9{c:Ac}{a:Acc}{n:Int}(hr:bZ a=true)(U:1<=n)(b:n<=1048576):jl (c.ez a n):=by simp only[bZ,bz]at hr;cases c<;>simp only[Ac.ez,jl,aF]<;>omega
def wB{c:Ac}{a:Acc}{n:Int}(ha:jl a)(I:T B H (K (lM c a n))):T B H (ab P 451 #[.agg (fP a),.int .i64 n,.agg #[.func (.func c.fn) #[] #[],.int .i64 c.qB]] K):=by
 apply an (Lw _ _ _);repeat first|apply J.go|refine Sa.go λ_=>?_|refine Sc.go rfl ?_
 apply sh ha;repeat' first|apply J.go|refine S2.go (λ_=>?_) λ_=>?_|refine Sc.go (by first|rfl|exact⟨rfl,rfl⟩) ?_|done
 ·rename_i h
  refine af (eb I ?_);simp[lM,Ac.val,Ac.err,h,eJ,fP]
 ·rename_i h U
  refine af (eb I ?_);simp[lM,Ac.val,Ac.err,h,eJ,fP,U,show¬1<=n by omega]
 ·rename_i h U d
  have hw:¬c.qB=0:=by cases c<;>simp[Ac.qB]
  refine af (eb I ?_);simp[lM,Ac.val,Ac.err,h,eJ,fP,U,show 1<=n by omega,show¬n<=1048576 by omega,hw]
 ·rename_i h U d
  refine nz (KJ c) (Kg h (by omega) (by omega) ?_);repeat first|apply J.go|refine Sa.go λ_=>?_|refine Sc.go (by first|rfl|exact⟨rfl,rfl⟩) ?_
  apply sh (J9 h (by omega) (by omega));repeat' first|apply J.go|refine S2.go (λ_=>?_) λ_=>?_|refine Sc.go (by first|rfl|exact⟨rfl,rfl⟩) ?_|done
  ·rename_i b
   have hw:¬c.qB=0:=by cases c<;>simp[Ac.qB]
   refine af (eb I ?_);simp[lM,Ac.val,Ac.err,h,eJ,fP,show 1<=n by omega,show n<=1048576 by omega,hw,b]
  ·rename_i b
   refine af (eb I ?_);simp[lM,Ac.val,Ac.err,h,show 1<=n by omega,show n<=1048576 by omega,b]
def Kd{a:Acc}{n:Int}(ha:jl a)(I:T B H (K (lM .ee a n))):T B H (ab P 441 #[.agg (fP a),.int .i64 n] K):=by
 apply an (Ls _ _);repeat first|refine Sa.go λ_=>?_|refine Sc.go rfl ?_
 apply wB (c:= .ee) ha;repeat first|apply J.go|refine Sc.go (by first|rfl|exact⟨rfl,rfl⟩) ?_
 exact af I
def zq{a:Acc}{n:Int}(ha:jl a)(I:T B H (K (lM .ct a n))):T B H (ab P 414 #[.agg (fP a),.int .i64 n] K):=by
 apply an (Lo _ _);repeat first|refine Sa.go λ_=>?_|refine Sc.go rfl ?_
 apply wB (c:= .ct) ha;repeat first|apply J.go|refine Sc.go (by first|rfl|exact⟨rfl,rfl⟩) ?_
 exact af I
def J'{a:Acc}{n:Int}(ha:jl a)(I:T B H (K (lM .cancel a n))):T B H (ab P 442 #[.agg (fP a),.int .i64 n] K):=by
 apply an (Lj _ _);repeat first|refine Sa.go λ_=>?_|refine Sc.go rfl ?_
 apply wB (c:= .cancel) ha;repeat first|apply J.go|refine Sc.go (by first|rfl|exact⟨rfl,rfl⟩) ?_
 exact af I
def Ka{a:Acc}{n:Int}(ha:jl a)(I:T B H (K (lM .eL a n))):T B H (ab P 443 #[.agg (fP a),.int .i64 n] K):=by
 apply an (Lm _ _);repeat first|refine Sa.go λ_=>?_|refine Sc.go rfl ?_
 apply wB (c:= .eL) ha;repeat first|apply J.go|refine Sc.go (by first|rfl|exact⟨rfl,rfl⟩) ?_
 exact af I
instance {p e:Int}:J B H (ab P 418 #[D p,D e] K) (T B H (K (.tuple #[D (qj p e),D (u9 p e)]))):=⟨Xb⟩
instance {a b:Int}:Sc B H (ab P 356 #[D a,D b] K) (aF a/\aF b) (T B H (K (.tuple #[D (uf a b),.bool (decide (aF (a+b)))]))):=⟨λh I=>Gr h.1 h.2 I⟩
def tA{n:Int}(h0:0<=n)(U:n<18446744073709551616):IntKind.wrap .u64 n=n:=by show n%18446744073709551616=n;omega
def Gt(x:Int):Int:=IntKind.wrap .u64 (bl .and .u64 (bP .u64 x 1) 6148914691236517205+bl .and .u64 x 6148914691236517205)
def Gu(x:Int):Int:=IntKind.wrap .u64 (bl .and .u64 (bP .u64 x 2) 3689348814741910323+bl .and .u64 x 3689348814741910323)
def Gv(x:Int):Int:=bl .and .u64 (IntKind.wrap .u64 (bP .u64 x 4+x)) 1085102592571150095
def xG(s x:Int):Int:=IntKind.wrap .u64 (x+bP .u64 x s)
@[irreducible] def Gw (n:Int):Int:=bl .and .i64 (IntKind.wrap .i64 (xG 32 (xG 16 (xG 8 (Gv (Gu (Gt n))))))) 127
def nT(n:Int):Bool:=decide (n>0)&&(Gw n==1)
def nA(n b:Int):Int:=n+b-1-(n+b-1)%b
def kg(n b:Int):Bool:=decide (0<=n)&&nT b&&decide (nA n b<=9223372036854775807)
def iV(n b:Int):Int:=if kg n b then nA n b else 0
instance acr{n:Int}:Sc B H (ab P 136 #[D n] K) (aF n) (T B H (K (.bool (nT n)))):=⟨by
 intro a I;unfold aF at a;apply an (OG _);unfold nT at I;refine S2.go (λ_=>?_) λ_=>?_
 ·rename_i h
  rw[tA (by omega) (by omega)];refine an (Oi _) (an (Oj _) ?_);repeat first|apply J.go|refine Sc.go (by omega) ?_
  rw[cB h]at I;apply eb I;unfold Gw xG Gv Gu Gt;rfl
 ·rename_i h
  rw[cD h]at I;exact I⟩
def GU{n:Int}(h:nT n=true):0<n:=by unfold nT at h;simp only[b9,bz]at h;exact h.1
instance acq{n b:Int}:Sc B H (ab P 355 #[D n,D b] K) (aF n/\aF b) (T B H (K (.tuple #[D (iV n b),.bool (kg n b)]))):=⟨by
 rintro⟨d,e⟩ I;apply an (OF _ _);unfold iV kg at I;repeat' first|apply J.go|refine S2.go (λ_=>?_) λ_=>?_|refine Sc.go (by omega) ?_|done
 ·rename_i h;rw[cD (by omega)]at I;exact I
 ·rename_i U a;rw[a,cB (by omega)]at I;exact I
 ··rename_i U a
   have:=GU a;unfold aF at d e;rw[a,cB (by omega)]at I;simp only[e5]at I;rw[tA (n:=n) (by omega) (by omega),tA (n:=b) (by omega) (by omega),tA (n:=n+b) (by omega) (by omega),tA (n:=n+b-1) (by omega) (by omega),yS (by omega)];have f:=Int.emod_nonneg (n+b-1) (b:=b) (by omega);have c:=yR (n+b-1) this
   have g:(n+b-1)%b<=n+b-1:=by
    by_cases hc:n+b-1<b
    ·rw[Int.emod_eq_of_lt (by omega) hc];omega
    ·omega
   rw[tA (n:=n+b-1-(n+b-1)%b) (by omega) (by omega)];unfold nA at I;repeat' first|refine S2.go (λ_=>?_) λ_=>?_|refine Sc.go (by omega) ?_|done
   ·rename_i c;rw[cD (by omega)]at I;exact I
   ·rename_i c;rw[cB (by omega),ah rfl]at I
    rw[bd (by omega)];exact I⟩
def DF{n b:Int}(h:kg n b=true):n<=iV n b/\iV n b<=9223372036854775807:=by unfold iV;rw[ah h];unfold kg at h;simp only[b9,bz]at h;have a:=yR (n+b-1) (GU h.1.2);unfold nA at*;omega
def Kl{n b:Int}(a:aF n):aF (iV n b):=by
 by_cases h:kg n b=true
 ·have:=DF h
  unfold aF at*;unfold kg at h;simp only[b9,bz]at h;omega
 ·unfold iV;rw[ak h];unfold aF;omega
def qk(c s a z:Int):Int:=
 if c<0\/s<1\/z<1\/nT a=false then 2 else if s>z\/a>z then 5 else if kg c a=false then 6 else if¬aF (iV c a+s)then 6 else if iV c a+s>z then 9 else 0
def rH(c s a z:Int):Int:=if qk c s a z=0 then iV c a else 0
def o3(c s a z:Int):Int:=if qk c s a z=0 then iV c a+s else 0
instance abA{c s a z:Int}:Sc B H (ab P 277 #[D c,D s,D a,D z] K) (aF c/\aF s/\aF a) (T B H (K (.tuple #[D (rH c s a z),D (o3 c s a z),D (qk c s a z)]))):=⟨by
 rintro⟨hc,hs,ha⟩ I;apply an (Mm _ _ _ _);have d:=Kl (b:=a) hc;repeat' first|apply J.go|refine S2.go (λ_=>?_) λ_=>?_|refine Sc.go (by first|omega|(constructor<;>assumption)) ?_|done
 all_goals (refine eb I ?_;clear I;simp_all [rH,o3,qk,uf]<;>omega)⟩
end
end
section
open Go.XS
section
variable {B:Heap}{H:au}{K:aK}
def W4:ax:=#[.int .i64 60,.int .i64 1,.int .i64 3,.int .i64 40,.int .i64 0,.int .i64 1048575,.int .i64 20,.int .i64 0,.int .i64 1048575,.int .i64 0,.int .i64 0,.int .i64 1048575]
def pL{a:Addr}{vs ds:ax}{n:Nat}{k:HP}(e:vs=ds)(t:T B H (gW a ds n k)):T B H (gW a vs n k):=e▸t
def Fk(I:T B H (K (.agg W4))):T B H (ab P 260 #[] K):=by
 apply an (Nj);repeat first|refine Sa.go λ_=>?_|refine Sc.go (by first|rfl|exact⟨rfl,rfl⟩) ?_
 exact af I
def fS(k p g o:Int):Int:=if¬(1<=k/\k<=3)then 1 else if¬(0<=p/\p<=1048575)then 6 else if¬(0<=g/\g<=1048575)then 6 else if¬(0<=o/\o<=1048575)then 6 else 0
def eM(k p g o:Int):Int:=k*1152921504606846976+p*1099511627776+g*1048576+o
def UF{k p g o:Int}(h:¬(1<=k/\k<=3)):fS k p g o=1:=by unfold fS;rw[ah h]
def Ak{k p g o:Int}(h:1<=k/\k<=3)(a:¬(0<=p/\p<=1048575/\0<=g/\g<=1048575/\0<=o/\o<=1048575)):fS k p g o=6:=by
 unfold fS;rw[ak (by omega)];split
 ·rfl
 ·split
  ·rfl
  ·rw[ah (by omega)]
def UE{k p g o:Int}(h:1<=k/\k<=3)(a:0<=p/\p<=1048575/\0<=g/\g<=1048575/\0<=o/\o<=1048575):fS k p g o=0:=by unfold fS;rw[ak (by omega),ak (by omega),ak (by omega),ak (by omega)]
def UH{k p g o:Int}(I:T B H (K (.tuple #[D (if fS k p g o=0 then eM k p g o else 0),D (fS k p g o)]))):T B H (ab P 166 #[D k,D p,D g,D o] K):=by
 apply an (Ni _ _ _ _);repeat first|refine Sa.go λ_=>?_|refine Sc.go ⟨rfl,rfl⟩ ?_
 refine Fk (J.go ?_);rename_i x
 refine mC (λm h i H'=>H'=cl x #[D k,D p,D g,D o]::H/\((m=4/\h=0/\i=0)\/(m=3/\h=k*1152921504606846976/\i=1/\1<=k/\k<=3)\/
   (m=2/\h=k*1152921504606846976+p*1099511627776/\i=2/\1<=k/\k<=3/\0<=p/\p<=1048575)\/
   (m=1/\h=k*1152921504606846976+p*1099511627776+g*1048576/\i=3/\1<=k/\k<=3/\0<=p/\p<=1048575/\0<=g/\g<=1048575)\/
   (m=0/\h=eM k p g o/\i=4/\1<=k/\k<=3/\0<=p/\p<=1048575/\0<=g/\g<=1048575/\0<=o/\o<=1048575))) 4 ⟨rfl,.inl ⟨rfl,rfl,rfl⟩⟩ ?_
 rintro m h i H' R ⟨rfl,b⟩ a;rcases b with⟨rfl,rfl,rfl⟩|⟨rfl,rfl,rfl,U⟩|⟨rfl,rfl,rfl,U⟩|⟨rfl,rfl,rfl,U⟩|⟨rfl,rfl,rfl,U⟩
 ·repeat first|refine Sa.go λ_=>?_|refine bk (by with_reducible decide) ?_|refine Sc.go (by omega) ?_
  apply pL (ds:=#[D 60,D 1,D 3]) rfl;repeat' first|apply J.go|refine S2.go (λ_=>?_) λ_=>?_|refine Sc.go (by first|omega|exact⟨rfl,rfl⟩) ?_|refine a1 rfl ?_|done
  ·refine af (a 3 _ _ _ (by omega) ⟨rfl,.inr (.inl ⟨rfl,?_,rfl,by omega,by omega⟩)⟩)
   rw[show nI .i64 k 60=IntKind.wrap .i64 (k*1152921504606846976)from rfl,kC (n:=k*1152921504606846976) (by omega) (by omega),bd (by omega)];omega
  all_goals first|(exfalso;omega)|(refine af (eb I ?_);rw[UF (by omega)];rfl)
 ·repeat first|refine Sa.go λ_=>?_|refine bk (by with_reducible decide) ?_|refine Sc.go (by omega) ?_
  apply pL (ds:=#[D 40,D 0,D 1048575]) rfl;repeat' first|apply J.go|refine aD (by with_reducible decide) ?_|refine S2.go (λ_=>?_) λ_=>?_|refine Sc.go (by first|omega|exact⟨rfl,rfl⟩) ?_|refine a1 rfl ?_|done
  ·refine af (a 2 _ _ _ (by omega) ⟨rfl,.inr (.inr (.inl ⟨rfl,?_,rfl,by omega,by omega,by omega,by omega⟩))⟩)
   rw[show nI .i64 p 40=IntKind.wrap .i64 (p*1099511627776)from rfl,kC (n:=p*1099511627776) (by omega) (by omega),bd (by omega)]
  all_goals first|(exfalso;omega)|(refine af (eb I ?_);rw[Ak (by omega) (by omega)];rfl)
 ·repeat first|refine Sa.go λ_=>?_|refine bk (by with_reducible decide) ?_|refine Sc.go (by omega) ?_
  apply pL (ds:=#[D 20,D 0,D 1048575]) rfl;repeat' first|apply J.go|refine aD (by with_reducible decide) ?_|refine S2.go (λ_=>?_) λ_=>?_|refine Sc.go (by first|omega|exact⟨rfl,rfl⟩) ?_|refine a1 rfl ?_|done
  ·refine af (a 1 _ _ _ (by omega) ⟨rfl,.inr (.inr (.inr (.inl ⟨rfl,?_,rfl,by omega,by omega,by omega,by omega,by omega,by omega⟩)))⟩)
   rw[show nI .i64 g 20=IntKind.wrap .i64 (g*1048576)from rfl,kC (n:=g*1048576) (by omega) (by omega),bd (by omega)]
  all_goals first|(exfalso;omega)|(refine af (eb I ?_);rw[Ak (by omega) (by omega)];rfl)
 ·repeat first|refine Sa.go λ_=>?_|refine bk (by with_reducible decide) ?_|refine Sc.go (by omega) ?_
  apply pL (ds:=#[D 0,D 0,D 1048575]) rfl;repeat' first|apply J.go|refine aD (by with_reducible decide) ?_|refine S2.go (λ_=>?_) λ_=>?_|refine Sc.go (by first|omega|exact⟨rfl,rfl⟩) ?_|refine a1 rfl ?_|done
  ·refine af (a 0 _ _ _ (by omega) ⟨rfl,.inr (.inr (.inr (.inr ⟨rfl,?_,rfl,by omega,by omega,by omega,by omega,by omega,by omega,by omega,by omega⟩)))⟩)
   rw[show nI .i64 o 0=IntKind.wrap .i64 (o*1)from rfl,kC (n:=o*1) (by omega) (by omega),bd (by omega),Int.mul_one];rfl
  all_goals first|(exfalso;omega)|(refine af (eb I ?_);rw[Ak (by omega) (by omega)];rfl)
 ·refine aD (by with_reducible decide) (af (eb I ?_))
  rw[UE (by omega) (by omega)];rfl
def Ar{x:Int}(h0:0<=x)(U:x<=9223372036854775807):bl .and .i64 x 1048575=x%1048576:=by
 obtain⟨n,rfl⟩:=Int.eq_ofNat_of_zero_le h0;have c:n<2^64:=by omega
 have e:(BitVec.ofInt 64 (n:Int)&&&BitVec.ofInt 64 1048575).toNat=n%1048576:=by
  rw[BitVec.toNat_and,BitVec.toNat_ofInt,BitVec.toNat_ofInt];have a:((n:Int)%((2^64:Nat):Int)).toNat=n:=by omega
  rw[a];have b:((1048575:Int)%((2^64:Nat):Int)).toNat=2^20-1:=by decide
  rw[b,Nat.and_two_pow_sub_one_eq_mod]
 show IntKind.wrap .i64 ((BitVec.ofInt 64 (n:Int)&&&BitVec.ofInt 64 1048575).toNat:Int)=_;rw[e,bd (by omega)];omega
def wX{x:Int}(h:0<=x)(k:Nat):x.fdiv (2^k)=x/2^k:=by rw[CE];exact Int.le_of_lt (Int.pow_pos (by decide))
def hv(h:Int):Int:=h/1152921504606846976
def gP(h:Int):Int:=h/1099511627776%1048576
def gG(h:Int):Int:=h/1048576%1048576
def iw(h:Int):Int:=h%1048576
def mL(h:Int):Bool:=decide (0<=h/\1<=hv h/\hv h<=3)
def p7(h:Int):Value:=if mL h then .tuple #[.int .i64 (hv h),.int .i64 (gP h),.int .i64 (gG h),.int .i64 (iw h),.bool true]
 else .tuple #[.int .i64 0,.int .i64 0,.int .i64 0,.int .i64 0,.bool false]
def UG{h:Int}(c:aF h)(I:T B H (K (p7 h))):T B H (ab P 196 #[D h] K):=by
 apply an (Nh _);unfold aF at c;repeat' first|refine Sa.go λ_=>?_|refine S2.go (λ_=>?_) λ_=>?_|done
 ·refine af (eb I ?_)
  rw[p7,ak (by simp only[mL,bz];omega)]
 refine Fk (J.go ?_);rename_i k x;have a:0<=h:=by omega
 have d:bP .i64 h 60=hv h:=wX a 60;have e:bl .and .i64 (bP .i64 h 40) 1048575=gP h:=by rw[show bP .i64 h 40=h/1099511627776 from wX a 40,Ar (by omega) (by omega)];rfl
 have f:bl .and .i64 (bP .i64 h 20) 1048575=gG h:=by rw[show bP .i64 h 20=h/1048576 from wX a 20,Ar (by omega) (by omega)];rfl
 have s0:bl .and .i64 (bP .i64 h 0) 1048575=iw h:=by rw[show bP .i64 h 0=h/1 from wX a 0,Ar (by omega) (by omega),Int.ediv_one];rfl
 have l:0<=gP h/\gP h<=1048575:=by unfold gP;omega
 have n:0<=gG h/\gG h<=1048575:=by unfold gG;omega
 have o:0<=iw h/\iw h<=1048575:=by unfold iw;omega
 have bad:(hv h<1\/hv h>3)->∀H',Sb H' H->T B H' (K (.tuple #[D 0,D 0,D 0,D 0,.bool false])):=by intro g H' hs;refine af (eb I ?_);rw[p7,ak (by simp only[mL,bz];omega)]
 refine wu (λm i H'=>(m=4/\i=0/\H'=cl x #[D 0,D 0,D 0,D 0]::H)\/((1<=hv h/\hv h<=3)/\(
   (m=3/\i=1/\H'=cl x #[D (hv h),D 0,D 0,D 0]::H)\/(m=2/\i=2/\H'=cl x #[D (hv h),D (gP h),D 0,D 0]::H)\/
   (m=1/\i=3/\H'=cl x #[D (hv h),D (gP h),D (gG h),D 0]::H)\/(m=0/\i=4/\H'=cl x #[D (hv h),D (gP h),D (gG h),D (iw h)]::H)))) 4 (.inl ⟨rfl,rfl,rfl⟩) ?_
 rintro m i H' R j b;rcases j with⟨rfl,rfl,rfl⟩|⟨g,⟨rfl,rfl,rfl⟩|⟨rfl,rfl,rfl⟩|⟨rfl,rfl,rfl⟩|⟨rfl,rfl,rfl⟩⟩
 ·simp only[Int.reduceToNat]
  repeat first|refine Sa.go λ_=>?_|refine bk (by with_reducible decide) ?_|refine Sc.go (by omega) ?_
  apply pL (ds:=#[D 60,D 1,D 3]) rfl;repeat' first|apply J.go|refine aD (by with_reducible decide) ?_|refine S2.go (λ_=>?_) λ_=>?_|refine Sc.go (by first|omega|exact⟨rfl,rfl⟩) ?_|done
  all_goals (simp only[d]at*)
  all_goals first
   |(refine bad ?_ _ inferInstance;omega)
   |(refine af (b 3 _ _ (by omega) (.inr ⟨⟨?_,?_⟩,.inl ⟨rfl,rfl,rfl⟩⟩))<;>omega)
 ·simp only[Int.reduceToNat]
  repeat first|refine Sa.go λ_=>?_|refine bk (by with_reducible decide) ?_|refine Sc.go (by omega) ?_
  apply pL (ds:=#[D 40,D 0,D 1048575]) rfl;repeat' first|apply J.go|refine bk (by with_reducible decide) ?_|refine S2.go (λ_=>?_) λ_=>?_|refine Sc.go (by first|omega|exact⟨rfl,rfl⟩) ?_|done
  all_goals (simp only[e]at*)
  all_goals first
   |(exfalso;omega)
   |(refine af (b 2 _ _ (by omega) (.inr ⟨⟨?_,?_⟩,.inr (.inl ⟨rfl,rfl,rfl⟩)⟩))<;>omega)
 ·simp only[Int.reduceToNat]
  repeat first|refine Sa.go λ_=>?_|refine bk (by with_reducible decide) ?_|refine Sc.go (by omega) ?_
  apply pL (ds:=#[D 20,D 0,D 1048575]) rfl;repeat' first|apply J.go|refine bk (by with_reducible decide) ?_|refine S2.go (λ_=>?_) λ_=>?_|refine Sc.go (by first|omega|exact⟨rfl,rfl⟩) ?_|done
  all_goals (simp only[f]at*)
  all_goals first
   |(exfalso;omega)
   |(refine af (b 1 _ _ (by omega) (.inr ⟨⟨?_,?_⟩,.inr (.inr (.inl ⟨rfl,rfl,rfl⟩))⟩))<;>omega)
 ·simp only[Int.reduceToNat]
  repeat first|refine Sa.go λ_=>?_|refine bk (by with_reducible decide) ?_|refine Sc.go (by omega) ?_
  apply pL (ds:=#[D 0,D 0,D 1048575]) rfl;repeat' first|apply J.go|refine bk (by with_reducible decide) ?_|refine S2.go (λ_=>?_) λ_=>?_|refine Sc.go (by first|omega|exact⟨rfl,rfl⟩) ?_|done
  all_goals (simp only[s0]at*)
  all_goals first
   |(exfalso;omega)
   |(refine af (b 0 _ _ (by omega) (.inr ⟨⟨?_,?_⟩,.inr (.inr (.inr ⟨rfl,rfl,rfl⟩))⟩))<;>omega)
 ·repeat first|apply J.go|refine aD (by with_reducible decide) ?_|refine Sc.go (by omega) ?_
  refine af (eb I ?_);rw[p7,ah (by simp only[mL,bz];omega)]
instance {h:Int}:Sc B H (ab P 196 #[D h] K) (aF h) (T B H (K (p7 h))):=⟨λa b=>UG a b⟩
instance {k p g o:Int}:J B H (ab P 166 #[D k,D p,D g,D o] K) (T B H (K (.tuple #[D (if fS k p g o=0 then eM k p g o else 0),D (fS k p g o)]))):=⟨UH⟩
end
end
section
open Go.XS Go.bn
abbrev sg(a:Acc):Value:= .agg (fP a)
instance :h2 P 321 Acc sg eJ:=⟨55,by kernel_rfl,pq,by kernel_rfl⟩
instance {x y z:Int}:nm sg (.agg #[D x,D y,D z]) ⟨x,y,z⟩:=⟨rfl⟩
instance :gl P 32 4:=gl.of (e:=0) (by kernel_rfl)
structure bK where
 aX:aV
 all:ML Acc
namespace bK
structure Ok(A:bK):Prop where
 n:A.aX.b6.length=64
 all:∀e∈A.all,bZ e.2=true
 bV:bS A.all
abbrev new:bK:=⟨aV.new 64,[]⟩
def at'(A:bK)(p:Int):Acc:=(aS A.all p).getD eJ
def e8(A:bK)(p g:Int):Int:=if A.aX.right p g then 0 else 4
def get(A:bK)(p g:Int):Acc:=if A.aX.right p g then A.at' p else eJ
def s3(A:bK)(c:Int):Int:=if bZ ⟨c,0,0⟩then(if A.aX.gg then 0 else 10)else 2
def opened(A:bK)(c:Int):bK:=if bZ ⟨c,0,0⟩then(if A.aX.gg then⟨A.aX.opened,bE A.aX.cM ⟨c,0,0⟩ A.all⟩else A)else A
def sx(A:bK)(p g:Int):Int:=if A.e8 p g=0 then(if(A.get p g).held+(A.get p g).cf>0 then 11 else 0)else A.e8 p g
def close(A:bK)(p g:Int):bK:=if A.sx p g=0 then⟨A.aX.close p g,bO p A.all⟩else A
def cN(A:bK)(w:Ac)(p g n:Int):Int:=if A.e8 p g=0 then w.err (A.get p g) n else A.e8 p g
def bM(A:bK)(w:Ac)(p g n:Int):bK:=if A.cN w p g n=0 then{A with all:=bE p (w.ez (A.get p g) n) A.all}else A
end bK
def Ac.num:Ac->Int| .ee=>1| .ct=>2| .cancel=>3| .eL=>4
structure C3 where
 s:Nat
 r:Nat
abbrev zp(b:Nat)(A:bK)(x:C3)(H:au):au:=
 cl b #[pz x.s,.map (some x.r)]::fz x.s A.aX::MP sg x.r A.all::H
def gJ(b:Nat)(A:bK):bg:=BX A.Ok (zp b A)
section
variable {B:Heap}{H H0:au}{K:aK}{b:Nat}{A:bK}{p g n c:Int}
def pO{q:HP}(t:∀x,A.Ok->T B (zp b A x H) q):T B (gJ b A::H) q:=pG (λ_ _=>rfl) t
def lL{q:HP}(x:C3)(h:A.Ok)(t:T B (gJ b A::H) q):T B (zp b A x H) q:=pF x h (λ_ _=>rfl) t
def bK.Ok.DL(h:A.Ok):jl (A.at' p):=by
 unfold bK.at'
 cases b:aS A.all p with
 |none=>exact⟨by decide,by decide,by decide⟩
 |some a=>have:=h.all _ (jv b);simp only[bZ,bz]at this;simp only[jl,aF,fC];omega
def Ki(I:∀b,T B (gJ b bK.new::H) (K (pz b))):T B H (ab P 144 #[] K):=by
 apply an (LD);refine BP (n:=64) (by omega) λs=>?_;repeat first|apply J.go|refine Sa.go λ_=>?_
 rename_i r b;refine bL (q:=IM r λ_=>none) (iQ sg ?_);exact af (lL (A:=bK.new) ⟨s,r⟩ ⟨by simp[aV.new],by simp,by simp[bS,bb,eu]⟩ (I b))
instance abn[h:Ow H (gJ b) A H0]:J B H (ab P 154 #[pz b] K) (T B (gJ b A::H0) (K (.bool true))):=⟨by
 intro I;refine bh h.pl (pO λx a=>an (LC _) ?_);repeat apply J.go
 exact af (lL x a I)⟩
def zr[h:Ow H (gJ b) A H0](I:A.Ok->T B (gJ b A::H0) (K (.tuple #[.agg (fP (A.get p g)),D (A.e8 p g)]))):T B H (ab P 256 #[pz b,D p,D g] K):=by
 refine bh h.pl (an (Lz _ _ _) ?_);unfold bK.get bK.e8 at I;repeat first|apply J.go|refine Sa.go λ_=>?_
 refine aN (gJ b) (pO λx a=>?_)
 replace I:=I a
 repeat' first|apply J.go|refine S2.go (λ_=>?_) λ_=>?_|refine Sc.go (by first|rfl|exact⟨rfl,rfl⟩) ?_|done
 ·rename_i hr
  rw[hr]at I;exact af (lL x a I)
 ·rename_i hr
  rw[hr]at I;exact af (lL x a I)
def aV.xH{S:aV}:S.opened.b6=S.b6:=by
 unfold aV.opened;split
 ·exact S.Bf.1
 ·rfl
def Kj(hc:aF c)[h:Ow H (gJ b) A H0](I:T B (gJ b (A.opened c)::H0) (K (.tuple #[D (if A.s3 c=0 then A.aX.cM else 0),D (if A.s3 c=0 then A.aX.fT else 0),D (A.s3 c)]))):T B H (ab P 254 #[pz b,D c] K):=by
 refine bh h.pl (an (LB _ _) ?_);unfold bK.s3 bK.opened at I;repeat apply J.go
 apply Kc hc;by_cases hr:bZ ⟨c,0,0⟩=true
 ·simp only[hr,dT]at I⊢
  repeat first|apply J.go|refine Sa.go λ_=>?_|refine Sc.go ⟨rfl,rfl⟩ ?_
  refine aN (gJ b) (pO λx a=>?_);repeat' first|apply J.go|refine S2.go (λ_=>?_) λ_=>?_|refine Sc.go rfl ?_|done
  ·rename_i d
   have e:A.aX.opened=A.aX:=by unfold aV.gg at d;unfold aV.opened;rw[d];rfl
   rw[d]at I;rw[e];exact af (lL x a I)
  ·rename_i d
   rw[d]at I;refine af (lL (A:=⟨A.aX.opened,bE A.aX.cM ⟨c,0,0⟩ A.all⟩) x ⟨?_,?_,fA a.bV⟩ I)
   ·rw[aV.xH];exact a.n
   ·intro e he
    rcases(oX a.bV).1 he with rfl|⟨he,_⟩
    ·exact hr
    ·exact a.all e he
 ·have f:bZ ⟨c,0,0⟩=false:=by simpa using hr
  simp only[f,fM,ej]at I⊢;repeat first|apply J.go|refine Sa.go λ_=>?_|refine bk (by with_reducible decide) ?_|refine Sc.go ⟨rfl,rfl⟩ ?_
  exact af I
def Ac.wP:Ac->Nat| .ee=>441| .ct=>414| .cancel=>442| .eL=>443
def KI(w:Ac):gb P w.wP=true:=by cases w<;>kernel_rfl
def Ke{w:Ac}{a:Acc}(ha:jl a)(I:T B H (K (lM w a n))):T B H (ab P w.wP #[.agg (fP a),D n] K):=by
 cases w
 ·exact Kd ha I
 ·exact zq ha I
 ·exact J' ha I
 ·exact Ka ha I
def Ac.z7{w:Ac}{a:Acc}(h:w.err a n=0):bZ a=true/\1<=n/\bZ (w.ez a n)=true/\w.val a n=w.ez a n:=by
 have hw:¬w.qB=0:=by cases w<;>simp[Ac.qB]
 unfold Ac.val;rw[ah h];unfold Ac.err at h;split at h
 ·rename_i U
  split at h
  ·rename_i b;exact⟨U.1,U.2,b.2,rfl⟩
  ·exact absurd h hw
 ·cases h
def Kh{w:Ac}[h:Ow H (gJ b) A H0](I:T B (gJ b (A.bM w p g n)::H0) (K (D (A.cN w p g n)))):T B H (ab P 346 #[pz b,D w.num,D p,D g,D n] K):=by
 refine bh h.pl (an (Ly _ _ _ _ _) ?_);apply an (LF);unfold bK.bM bK.cN at I;repeat' first|apply J.go|refine Sa.go λ_=>?_|refine S2.go (λ_=>?_) λ_=>?_|refine Sc.go (by first|rfl|exact⟨rfl,rfl⟩) ?_|done
 ·rename_i U;exfalso;cases w<;>simp[Ac.num]at U
 ·rename_i U;exfalso;cases w<;>simp[Ac.num]at U
 refine zr λc=>?_;repeat' first|apply J.go|refine Sa.go λ_=>?_|refine S2.go (λ_=>?_) λ_=>?_|refine Sc.go (by first|omega|exact⟨rfl,rfl⟩) ?_|done
 ·rename_i he
  rw[ak he,ak he]at I;exact af I
 ·rename_i he
  rw[ah he]at I
  have hr:A.aX.right p g=true:=by
   unfold bK.e8 at he;split at he
   ·assumption
   ·cases he
  have j:A.get p g=A.at' p:=by unfold bK.get;rw[ah hr]
  have aP:jl (A.get p g):=by rw[j];exact c.DL
  have main:∀i:aK,∀H2,T B H2 (i (lM w (A.get p g) n))->T B H2 (lx P (.func (.func w.wP) #[] #[]) [.agg (fP (A.get p g)),D n] i):=λi H2 t=>nz (KI w) (Ke aP t)
  have k:∀{H2:au} {a:Nat} {f:aK} [bY B H2 a #[.nilFunc,.func (.func 441) #[] #[],.func (.func 414) #[] #[],.func (.func 442) #[] #[],.func (.func 443) #[] #[]]],T B H2 (f (.func (.func w.wP) #[] #[]))->T B H2 (gN (Addr.add (ag a 0) (Int.toNat w.num)) f):=by
   intro H2 a f _ t;cases w
   ·show T B H2 (gN ⟨a,1,none⟩ f);exact hM (v:= .func (.func 441) #[] #[]) (by simp) t
   ·show T B H2 (gN ⟨a,2,none⟩ f);exact hM (v:= .func (.func 414) #[] #[]) (by simp) t
   ·show T B H2 (gN ⟨a,3,none⟩ f);exact hM (v:= .func (.func 442) #[] #[]) (by simp) t
   ·show T B H2 (gN ⟨a,4,none⟩ f);exact hM (v:= .func (.func 443) #[] #[]) (by simp) t
  refine k (Sc.go rfl (main _ _ ?_));repeat' first|apply J.go|refine S2.go (λ_=>?_) λ_=>?_|refine Sc.go ⟨rfl,rfl⟩ ?_|done
  ·rename_i d
   obtain⟨_,_,l,m⟩:=Ac.z7 d;rw[ah d,d]at I;refine aN (gJ b) (pO λx c=>?_);repeat first|apply J.go|refine Sc.go rfl ?_
   rw[d];have:=lL (A:={A with all:=bE p (w.ez (A.get p g) n) A.all}) x ⟨c.n,λe he=>?_,fA c.bV⟩ I
   ·rw[<-m]at this
    exact af this
   ·rcases(oX c.bV).1 he with rfl|⟨he,_⟩
    ·exact l
    ·exact c.all e he
  ·rename_i d
   rw[ak d]at I;exact af I
instance abl[h:Ow H (gJ b) A H0]:J B H (ab P 261 #[pz b,D p,D g] K) (T B (gJ b (A.close p g)::H0) (K (D (A.sx p g)))):=⟨by
 intro I;refine bh h.pl (an (Lx _ _ _) ?_);refine zr λc=>?_;unfold bK.close bK.sx at I;repeat' first|apply J.go|refine Sa.go λ_=>?_|refine S2.go (λ_=>?_) λ_=>?_|refine Sc.go ⟨rfl,rfl⟩ ?_|done
 ·rename_i he;rw[ak he,ak he]at I;exact af I
 ·rename_i he d
  have aP:jl (A.get p g):=by
   unfold bK.get;split
   ·exact c.DL
   ·exact⟨by decide,by decide,by decide⟩
  have i:0<=(A.get p g).held+(A.get p g).cf/\(A.get p g).held+(A.get p g).cf<=1048576:=by
   have hr:A.aX.right p g=true:=by
    unfold bK.e8 at he;split at he
    ·assumption
    ·cases he
   unfold bK.get;rw[ah hr];unfold bK.at'
   cases f:aS A.all p with
   |none=>simp[eJ]
   |some a=>have:=c.all _ (jv f);simp only[bZ,bz]at this;simp only[fC];omega
  rw[bd (by omega)]at d;rw[ah he,ah d,ak (by decide)]at I;exact af I
 ·rename_i he d
  have hr:A.aX.right p g=true:=by
   unfold bK.e8 at he;split at he
   ·assumption
   ·cases he
  have i:0<=(A.get p g).held+(A.get p g).cf/\(A.get p g).held+(A.get p g).cf<=1048576:=by
   unfold bK.get;rw[ah hr];unfold bK.at'
   cases f:aS A.all p with
   |none=>simp[eJ]
   |some a=>have:=c.all _ (jv f);simp only[bZ,bz]at this;simp only[fC];omega
  rw[bd (by omega)]at d;rw[ah he,ak d,ah rfl]at I;refine aN (gJ b) (pO λx c=>?_);repeat apply J.go
  refine af (lL x ⟨?_,λe he=>c.all e (sW.1 he).1,ma c.bV⟩ I)
  have e:(A.aX.close p g).b6.length=A.aX.b6.length:=by unfold aV.close;rw[ah hr];simp[aV.shut]
  exact e.trans c.n⟩
abbrev Mem:=Int×Acc
abbrev fj(m:Mem):aB:=[D m.1,D m.2.dG,D m.2.held,D m.2.cf]
def eP(m:Mem):(fj m).length=4:=rfl
def bK.members(A:bK):List Mem:=(bb A.aX.cP).map λp=>(p,A.at' p)
def bK.uU(A:bK):A.members.length=A.aX.cP.length:=by simp[bK.members]
def aW(l:List Mem):aB:=l.flatMap fj
def bK.uM{A:bK}(e:A.Ok)(c:A.aX.Ok):A.aX.cP.length<=64:=by
 have U:=nO 64 (l:=(bb A.aX.cP).map Int.toNat) ?_ ?_
 ·simp at U;omega
 ·refine tF _ (λa b f=>?_) (yT.1 (l7 c.bV))
  obtain⟨ha,g,k⟩:=f;obtain⟨x,d,rfl⟩:=bQ.1 ha;obtain⟨y,h,rfl⟩:=bQ.1 g;have:=c.op x d;have:=c.op y h;omega
 ·intro p i
  obtain⟨q,j,rfl⟩:=bQ.1 i;obtain⟨x,d,rfl⟩:=bQ.1 j;have:=c.op x d;have:=c.fresh;have:=e.n;omega
instance abm[h:Ow H (gJ b) A H0]:Sa B H (ab P 87 #[pz b] K) (λx:aw×Nat=>T B (gJ b A::ai 4 x.1 A.members.length x.2 (aW A.members)::H0) (K (.slice x.1 A.members.length x.2))):=⟨by
 intro I;refine bh h.pl (an (LA _) ?_);repeat apply J.go
 refine aN (gJ b) (pO λx f=>?_);refine J.go (aN (fz x.s) (n5 λy g=>kA y g ?_));have hlen:A.aX.cP.length<1000000:=by have:=bK.uM f g;omega
 repeat first|apply J.go|refine Sx.go (by omega) λ_=>?_
 rename_i q;refine dR 4 ?_;have i:=A.uU;refine af (H':=ai 4 none 0 0 []::fz x.s A.aX::ai 1 q.1 A.aX.cP.length q.2 (iv .i64 (bb A.aX.cP))::cl b #[pz x.s,.map (some x.r)]::MP sg x.r A.all::H0) ?_;refine oH A.aX.cP.length (by omega) (λk p l c H'=>l=k/\H'=ai 4 p k c (aW (A.members.take k))::fz x.s A.aX::ai 1 q.1 A.aX.cP.length q.2 (iv .i64 (bb A.aX.cP))::cl b #[pz x.s,.map (some x.r)]::MP sg x.r A.all::H0) ⟨rfl,rfl⟩ ?_;rintro k p l c H' R n ⟨rfl,rfl⟩ j;refine S2.go (λ_=>?_) λ_=>?_
 ·have a:l<A.aX.cP.length:=by omega
  have d:(bb A.aX.cP)[l]?=some ((bb A.aX.cP)[l]'(by simpa using a)):=ba _;generalize(bb A.aX.cP)[l]'(by simpa using a)=v at d;apply e1 l rfl a d;repeat first|apply J.go|refine Sa.go λ_=>?_|refine Sc.go rfl ?_
  refine jP (ds:=(fj (v,A.at' v)).toArray) rfl ?_;refine e0 rfl (by omega) λm c'=>?_;have hm:A.members[l]?=some (v,A.at' v):=by unfold bK.members;rw[fo,d];rfl
  have e:aW (A.members.take l)++(fj (v,A.at' v)).toArray.toList=aW (A.members.take (l+1)):=by rw[dQ hm];simp[aW]
  rw[e];exact af (j a m _ c' _ ⟨rfl,rfl⟩)
 ·have hl:l=A.aX.cP.length:=by omega
  have e:A.members.take l=A.members:=j7 (by omega);rw[e];have:=I (p,c);rw[i,<-hl]at this;exact af (lL x f this)⟩
end
end
section
open Go.XS Go.bn
structure bG where
 chunks:Int
 av:bK
namespace bG
def bo(L:bG)(c:Int):Int:=if mL c=true/\hv c=1/\iw c=0 then L.av.e8 (gP c) (gG c)else 3
def place(L:bG)(c:Int):Int:=if L.bo c=0 then gP c else 0
def xQ(L:bG)(c:Int):Int:=if L.bo c=0 then gG c else 0
def ug(L:bG)(c:Int):Bool:=decide (1<=c/\c<=L.chunks/\L.chunks<=1048576)
def rK(L:bG)(c:Int):Int:=if L.ug c then(if L.av.s3 c=0 then fS 1 L.av.aX.cM L.av.aX.fT 0 else L.av.s3 c)else 2
def tc(L:bG)(c:Int):Int:=if L.rK c=0 then eM 1 L.av.aX.cM L.av.aX.fT 0 else 0
def bT(L:bG)(c:Int):bG:=if L.ug c then{L with av:=L.av.opened c}else L
def rL(L:bG)(c:Int):Int:=if L.bo c=0 then L.av.sx (gP c) (gG c)else L.bo c
def ret(L:bG)(c:Int):bG:=if L.bo c=0 then{L with av:=L.av.close (gP c) (gG c)}else L
def cN(L:bG)(w:Ac)(c n:Int):Int:=if L.bo c=0 then L.av.cN w (gP c) (gG c) n else L.bo c
def bM(L:bG)(w:Ac)(c n:Int):bG:=if L.bo c=0 then{L with av:=L.av.bM w (gP c) (gG c) n}else L
end bG
abbrev AI(b:Nat)(L:bG)(x:Nat)(H:au):au:=cl b #[D L.chunks,pz x]::gJ x L.av::H
def bx(b:Nat)(L:bG):bg:=BX True (AI b L)
section
variable {B:Heap}{H H0:au}{K:aK}{b:Nat}{L:bG}{p g n c:Int}
def qd{q:HP}(t:∀x,T B (AI b L x H) q):T B (bx b L::H) q:=pG (λ_ _=>rfl) λx _=>t x
def kY{q:HP}(x:Nat)(t:T B (bx b L::H) q):T B (AI b L x H) q:=pF x trivial (λ_ _=>rfl) t
def Vo(U:1<=c)(a:c<=1048576)(I:∀b,T B (bx b ⟨c,bK.new⟩::H) (K (pz b))):T B H (ab P 77 #[D c] K):=by
 apply an (NB _);refine aD (by simp;omega) (aD (by simp;omega) ?_);refine Ki λx=>?_;repeat first|apply J.go|refine Sa.go λ_=>?_
 rename_i b;exact af (kY x (I b))
instance ab4[h:Ow H (bx b) L H0]:J B H (ab P 86 #[pz b] K) (T B (bx b L::H0) (K (.bool true))):=⟨by
 intro I;refine bh h.pl (qd λx=>an (NA _) ?_);repeat apply J.go
 exact af (kY x I)⟩
instance ab3[h:Ow H (bx b) L H0]:Sc B H (ab P 163 #[pz b,D c] K) (aF c) (T B (bx b L::H0) (K (.tuple #[D (L.place c),D (L.xQ c),D (L.bo c)]))):=⟨by
 intro hc I;refine bh h.pl (an (Nz _ _) ?_);unfold bG.place bG.xQ at I;repeat first|apply J.go|refine Sc.go (by omega) ?_
 unfold p7;split
 ·rename_i d
  repeat' first|apply J.go|refine S2.go (λ_=>?_) λ_=>?_|done
  ·rename_i U
   have e:L.bo c=3:=by unfold bG.bo;rw[ak (by rintro⟨_,a,_⟩;exact U a)]
   rw[e]at I;exact af I
  ·rename_i U a
   have e:L.bo c=3:=by unfold bG.bo;rw[ak (by rintro⟨_,_,f⟩;exact a f)]
   rw[e]at I;exact af I
  ·rename_i U a
   have e:L.bo c=L.av.e8 (gP c) (gG c):=by unfold bG.bo;rw[ah ⟨d,U,a⟩]
   rw[e]at I;refine aN (bx b) (qd λx=>?_);refine J.go (zr λg=>?_);repeat' first|apply J.go|refine Sa.go λ_=>?_|refine S2.go (λ_=>?_) λ_=>?_|refine Sc.go ⟨rfl,rfl⟩ ?_|done
   ·rename_i he;rw[ak he,ak he]at I;exact af (kY x I)
   ·rename_i he;rw[ah he,ah he,he]at I;exact af (kY x I)
 ·rename_i d
  repeat apply J.go
  have e:L.bo c=3:=by unfold bG.bo;rw[ak (by rintro⟨U,_⟩;exact d U)]
  rw[e]at I;exact af I⟩
instance abZ[h:Ow H (bx b) L H0]:Sc B H (ab P 100 #[pz b,D c] K) (aF c) (T B (bx b L::H0) (K (.tuple #[D (L.place c),D (L.bo c)]))):=⟨by
 intro hc I;refine bh h.pl (an (Nu _ _) ?_);repeat first|apply J.go|refine Sc.go (by omega) ?_
 exact af I⟩
def xr{w:Ac}(hc:aF c)[h:Ow H (bx b) L H0](I:T B (bx b (L.bM w c n)::H0) (K (D (L.cN w c n)))):T B H (ab P 262 #[pz b,D w.num,D c,D n] K):=by
 refine bh h.pl (an (Ny _ _ _ _) ?_);unfold bG.bM bG.cN at I;repeat' first|apply J.go|refine S2.go (λ_=>?_) λ_=>?_|refine Sc.go (by omega) ?_|done
 ·rename_i he;rw[ak he,ak he]at I;exact af I
 ·rename_i he
  rw[ah he,ah he]at I;unfold bG.place bG.xQ;rw[ah he,ah he];refine aN (bx b) (qd λx=>?_);exact J.go (Kh (J.go (af (kY x I))))
instance ab1[h:Ow H (bx b) L H0]:Sc B H (ab P 171 #[pz b,D c,D n] K) (aF c) (T B (bx b (L.bM .ee c n)::H0) (K (D (L.cN .ee c n)))):=⟨by intro hc I;apply an (Nw _ _ _);apply xr (w:= .ee) hc;apply J.go;exact I⟩
instance abW[h:Ow H (bx b) L H0]:Sc B H (ab P 309 #[pz b,D c,D n] K) (aF c) (T B (bx b (L.bM .ct c n)::H0) (K (D (L.cN .ct c n)))):=⟨by intro hc I;apply an (Nr _ _ _);apply xr (w:= .ct) hc;apply J.go;exact I⟩
instance abU[h:Ow H (bx b) L H0]:Sc B H (ab P 173 #[pz b,D c,D n] K) (aF c) (T B (bx b (L.bM .cancel c n)::H0) (K (D (L.cN .cancel c n)))):=⟨by intro hc I;apply an (Np _ _ _);apply xr (w:= .cancel) hc;apply J.go;exact I⟩
instance abV[h:Ow H (bx b) L H0]:Sc B H (ab P 292 #[pz b,D c,D n] K) (aF c) (T B (bx b (L.bM .eL c n)::H0) (K (D (L.cN .eL c n)))):=⟨by intro hc I;apply an (Nq _ _ _);apply xr (w:= .eL) hc;apply J.go;exact I⟩
instance ab2[h:Ow H (bx b) L H0]:Sc B H (ab P 169 #[pz b,D c] K) (aF c) (T B (bx b (L.ret c)::H0) (K (D (L.rL c)))):=⟨by
 intro hc I;refine bh h.pl (an (Nx _ _) ?_);unfold bG.ret bG.rL at I;repeat' first|apply J.go|refine S2.go (λ_=>?_) λ_=>?_|refine Sc.go (by omega) ?_|done
 ·rename_i he;rw[ak he,ak he]at I;exact af I
 ·rename_i he
  rw[ah he,ah he]at I;unfold bG.place bG.xQ;rw[ah he,ah he];refine aN (bx b) (qd λx=>?_);repeat apply J.go
  exact af (kY x I)⟩
instance abo{m:Int}:J B H (ab P 253 #[D m,D c] K) (T B H (K (.bool (decide (1<=c/\c<=m/\m<=1048576))))):=⟨by
 intro I;apply an (LP _ _);repeat' first|refine S2.go (λ_=>?_) λ_=>?_|done
 all_goals (refine eb I (congrArg Value.bool ?_);first|(refine hZ.2 ?_;omega)|(simp;omega))⟩
instance ab0[h:Ow H (bx b) L H0]:Sc B H (ab P 161 #[pz b,D c] K) (aF c) (T B (bx b (L.bT c)::H0) (K (.tuple #[D (L.tc c),D (L.rK c)]))):=⟨by
 intro hc I;refine bh h.pl (an (Nv _ _) ?_);unfold bG.bT bG.tc bG.rK bG.ug at I;repeat apply J.go
 refine aN (bx b) (qd λx=>?_);repeat' first|apply J.go|refine S2.go (λ_=>?_) λ_=>?_|done
 ·rename_i ha
  rw[cD ha]at I;simp only[fM,ej]at I;exact af (kY x I)
 ·rename_i ha
  rw[cB ha]at I;apply Kj hc;repeat' first|apply J.go|refine S2.go (λ_=>?_) λ_=>?_|done
  ·rename_i he
   simp only[dT,ak he]at I;exact af (kY x I)
  ·rename_i he
   simp only[dT,he]at I;rw[ah he,ah he];exact af (kY x I)⟩
instance abY[h:Ow H (bx b) L H0]:Sa B H (ab P 40 #[pz b] K) (λx:aw×Nat=>T B (bx b L::ai 4 x.1 L.av.members.length x.2 (aW L.av.members)::H0) (K (.slice x.1 L.av.members.length x.2))):=⟨by
 intro I;refine bh h.pl (an (Nt _) ?_);repeat apply J.go
 refine aN (bx b) (qd λx=>?_);repeat first|apply J.go|refine Sa.go λ_=>?_
 rename_i y;exact af (kY x (I y))⟩
def nD{α:Type}{f:α->Bool}{l:List α}{k:Nat}{a:α}(h:∀(j:Nat) (x:α),j<k->l[j]?=some x->f x=false)(ha:l[k]?=some a)(hf:f a=true):l.findIdx? f=some k:=by
 induction l generalizing k with
 |nil=>simp at ha
 |cons x l b=>
  rw[List.findIdx?_cons]
  cases k with
  |zero=>simp at ha;subst ha;rw[ah hf]
  |succ k=>have h0:=h 0 x (by omega) rfl;rw[h0,ak (by simp),b (k:=k) (λj y d c=>h (j+1) y (by omega) (by simpa using c)) (by simpa using ha)];rfl
def mI{α:Type}{f:α->Bool}{l:List α}(h:∀(j:Nat) (x:α),l[j]?=some x->f x=false):l.findIdx? f=none:=by rw[vO];intro x a;obtain⟨j,b⟩:=CL a;exact h j x b
def cJ{α:Type}(f:α->Bool)(l:List α):Int:=match l.findIdx? f with|some i=>(i:Int)|none=>-1
def tm{q:aw}{l c:Nat}{ms:List Mem}{g:Nat}{ca:ax}{f:Mem->Bool}(o:gb P g=true)[hr:Rd B H q (aW ms)](hl:l=ms.length)(hlen:l<1000000)(hf:∀m∈ms,∀n:aK,T B H (n (.bool (f m)))->T B H (ab P g (Array.mk (Array.toList #[]++[Value.agg (fj m).toArray]++Array.toList ca)) n))(I:T B H (K (D (cJ f ms)))):T B H (ab P 353 #[.slice q l c,.func (.func g) #[] ca] K):=by
 apply an (Q' _ _ _ _ _);subst hl;refine cF ms.length (by omega) (λk H'=>H'=H/\∀j x,j<k->ms[j]?=some x->f x=false) ⟨rfl,by simp⟩ ?_;rintro k H' R r ⟨rfl,d⟩ p;refine S2.go (λ_=>?_) λ_=>?_
 ·have b:k<ms.length:=by omega
  have h:ms[k]?=some ms[k]:=ba b;refine dO eP (by omega) k rfl b h (lI o (hf _ (dz b) _ ?_));repeat' first|apply J.go|refine S2.go (λ_=>?_) λ_=>?_|done
  ·rename_i i
   unfold cJ at I;rw[nD d h i]at I;exact I
  ·rename_i i
   refine p b _ ⟨rfl,λj x s a=>?_⟩;by_cases e:j=k
   ·subst e;rw[h]at a;cases a;exact i
   ·exact d j x (by omega) a
 ·unfold cJ at I
  rw[mI λj x a=>d j x (by have:=(b0.1 a).1;omega) a]at I;exact I
def uJ{q:HP}(t:L.av.Ok->L.av.aX.Ok->T B (bx b L::H) q):T B (bx b L::H) q:=by refine qd λx=>cq (cy _ _ _) (pO λy a=>aN (fz y.s) (n5 λz c=>kA z c ?_));have:=kY x (t a c);exact af (lL (b:=x) (H:=cl b #[D L.chunks,pz x]::H) y a (af this))
instance abT[h:Ow H (bx b) L H0]:J B H (ab P 273 #[pz b,D p] K) (T B (bx b L::H0) (K (D (cJ (λm:Mem=>m.1==p) L.av.members)))):=⟨by
 intro I;refine bh h.pl (uJ λa c=>?_);have hl:L.av.members.length<1000000:=by have:=bK.uM a c;rw[L.av.uU];omega
 apply an (Nn _ _);repeat first|apply J.go|refine Sa.go λ_=>?_
 refine tm (ms:=L.av.members) (f:=λm=>m.1==p) (by kernel_rfl) rfl hl (λm hm d t=>?_) ?_
 ·show T B _ (ab P 354 #[.agg (fj m).toArray,.pointer _] d)
  apply an (No _ _);repeat first|apply J.go|refine Sa.go λ_=>?_
  exact af t
 ·apply J.go
  exact af I⟩
def uG{α:Type}{f:α->Bool}{l:List α}:cJ f l<0↔∀x∈l,f x=false:=by
 unfold cJ
 cases h:l.findIdx? f with
 |none=>rw[vO]at h;simpa using h
 |some i=>simp only[vK.2 (Int.natCast_nonneg i),false_iff];intro a;rw[vO.2 a]at h;cases h
def bG.handle(L:bG)(p:Int):Int:=if cJ (λm:Mem=>m.1==p) L.av.members<0 then 0 else if fS 1 p (L.av.aX.gen p) 0=0 then eM 1 p (L.av.aX.gen p) 0 else 0
def bK.V3{A:bK}(a:A.aX.Ok)(h:¬cJ (λm:Mem=>m.1==p) A.members<0):0<=p/\p<(A.aX.b6.length:Int):=by
 rw[uG]at h
 have:∃m∈A.members,m.1=p:=IA λb=>h λm hm=>by have:¬m.1=p:=λe=>b ⟨m,hm,e⟩;simpa using this
 obtain⟨m,hm,rfl⟩:=this;obtain⟨q,c,rfl⟩:=bQ.1 hm;obtain⟨e,he,rfl⟩:=bQ.1 c;have:=a.op e he;have:=a.fresh;simp only;omega
instance abX[h:Ow H (bx b) L H0]:J B H (ab P 181 #[pz b,D p] K) (T B (bx b L::H0) (K (D (L.handle p)))):=⟨by
 intro I;refine bh h.pl (uJ λc d=>an (Ns _ _) ?_);unfold bG.handle at I;refine J.go (J.go (S2.go (λa=>?_) λa=>?_))
 ·rw[ah a]at I;exact I
 rw[ak a]at I;have e:=bK.V3 d a;refine qd λx=>J.go (aN (gJ x) (pO λy c=>?_));repeat' first|apply J.go|refine S2.go (λ_=>?_) λ_=>?_|refine Sc.go (by omega) ?_|done
 ·rename_i he
  rw[ak he]at I;have:=kY x I;exact af (lL (b:=x) (H:=cl b #[D L.chunks,pz x]::H0) y c (af this))
 ·have:=kY x I
  exact af (lL (b:=x) (H:=cl b #[D L.chunks,pz x]::H0) y c (af this))⟩
end
end
section
open Go.XS Go.bn
structure Ring where
 room:Nat
 xs:aO
structure wo where
 cb:Nat
 cells:aO
 head:Nat
structure Ring.Ok(R:Ring)(x:wo):Prop where
 len:x.cells.length=R.room
 room:R.room<=1048576
 head:R.room≠0->x.head<R.room
 le:R.xs.length<=R.room
 at':∀i,i<R.xs.length->x.cells[(x.head+i)%R.room]?=R.xs[i]?
abbrev vi(b:Nat)(R:Ring)(x:wo)(H:au):au:=
 cl b #[.slice (some ⟨x.cb,0,none⟩) R.room R.room,D x.head,D R.xs.length]::cl x.cb (iv .i64 x.cells).toArray::H
def gy(b:Nat)(R:Ring):bg:=BD R.Ok (vi b R)
def x'(R:Ring)(v:Int):Ring:=if R.xs.length=R.room then R else{R with xs:=R.xs++[v]}
abbrev vj(R:Ring):Ring:={R with xs:=R.xs.tail}
section
variable {B:Heap}{H H0:au}{K:aK}{b n:Nat}{R:Ring}{v i:Int}
def te{q:HP}(t:∀x,R.Ok x->T B (vi b R x H) q):T B (gy b R::H) q:=mz (λ_ _=>rfl) t
def qp{q:HP}(x:wo)(h:R.Ok x)(t:T B (gy b R::H) q):T B (vi b R x H) q:=my x h (λ_ _=>rfl) t
def Yg(a:n<=1048576)(I:∀b,T B (gy b ⟨n,[]⟩::H) (K (pz b))):T B H (ab P 232 #[D n] K):=by apply an (Qm _);refine aD (by simp) (aD (by simp;omega) (gC (by omega) (by omega) (by omega) (by rw[kO];omega) (by kernel_rfl) (by kernel_rfl) λg=>?_));rw[lR,mj,k7,iM,a7,show List.replicate n (D 0)=iv .i64 (List.replicate n 0) by simp[iv]];refine Sa.go λ_=>?_;rename_i b;exact af (qp ⟨g,List.replicate n 0,0⟩ ⟨by simp,a,λh=>by simp only at*;omega,by simp,by simp⟩ (I b))
def Bx{x:wo}{k:Nat}(h:R.Ok x)(hr:R.room≠0)(a:k<=1048576)(I:T B (vi b R x H) (K (D (((x.head+k)%R.room:Nat):Int)))):T B (vi b R x H) (ab P 396 #[pz b,D k] K):=by
 apply an (Qv _ _);have:=h.room;have:=h.head hr;repeat first|apply J.go|refine Sc.go (by omega) ?_
 rw[bd (by omega),yS (by omega)];exact I
def Hd{k:Nat}{v:Int}(a:R.xs[k]?=some v)(I:T B (gy b R::H) (K (.tuple #[D v,.bool true]))):T B (gy b R::H) (ab P 333 #[pz b,D k] K):=by
 refine te λx h=>an (D6 _ _) ?_;have c:k<R.xs.length:=(b0.1 a).1;have hle:=h.le;have hr:=h.room;have hlen:=h.len;repeat' first|apply J.go|refine S2.go (λ_=>?_) λ_=>?_|done
 ·omega
 ·omega
 ·apply Bx h (by omega) (by omega)
  repeat apply J.go
  have hm:(x.head+k)%R.room<R.room:=r6 _ (by omega);exact e1 ((x.head+k)%R.room) rfl hm (by rw[h.at' k c,a]) (af (qp x h I))
def Yf(a:R.xs=[])(I:T B (gy b R::H) (K (.tuple #[D 0,.bool false]))):T B (gy b R::H) (ab P 333 #[pz b,D 0] K):=by
 refine te λx h=>an (D6 _ _) ?_;have hl:R.xs.length=0:=by rw[a];rfl
 repeat' first|apply J.go|refine aD (by with_reducible decide) ?_|refine S2.go (λ_=>?_) λ_=>?_|done
 ·exact af (qp x h I)
 ·omega
def Ring.hd(R:Ring):Int:=R.xs.headD 0
instance acP[h:Ow H (gy b) R H0]:J B H (ab P 444 #[pz b] K) (T B (gy b R::H0) (K (.tuple #[D R.hd,.bool (!R.xs.isEmpty)]))):=⟨by
 intro I;refine bh h.pl (an (Qn _) ?_);unfold Ring.hd at I
 cases c:R.xs with
 |nil=>rw[c]at I;exact Yf c (J.go I)
 |cons a l=>rw[c]at I;apply Hd (by rw[c];rfl);apply J.go;exact I⟩
instance acT[h:Ow H (gy b) R H0]:J B H (ab P 406 #[pz b] K) (T B (gy b (vj R)::H0) (K (.tuple #[D R.hd,.bool (!R.xs.isEmpty)]))):=⟨by
 intro I;refine bh h.pl (an (Qr _) ?_);repeat' first|apply J.go|refine S2.go (λ_=>?_) λ_=>?_|done
 ·rename_i d
  obtain⟨a,l,c⟩:∃a l,R.xs=a::l:=by
   cases c:R.xs with
   |nil=>rw[c]at d;cases d
   |cons a l=>exact⟨a,l,rfl⟩
  refine aN (gy b) (te λx h=>?_);have hle:=h.le;have hr:=h.room;have hl:R.xs.length=l.length+1:=by rw[c];rfl
  have g:=h.head (by omega);apply Bx (k:=1) h (by omega) (by omega);repeat apply J.go
  rw[show IntKind.wrap .i64 ((R.xs.length:Int)-1)=((vj R).xs.length:Int) by rw[bd (by omega)];simp;omega];refine af (qp (R:=vj R) ⟨x.cb,x.cells,(x.head+1)%R.room⟩ ⟨h.len,h.room,λhr=>r6 _ (by simp only at hr;omega),by simp;omega,λi hi=>?_⟩ I);have f:i+1<R.xs.length:=by simp at hi;omega
  have:=h.at' (i+1) f;rw[show((x.head+1)%R.room+i)%R.room=(x.head+(i+1))%R.room by rw[Nat.mod_add_mod];congr 1;omega,this];simp
 ·rename_i d
  have c:R.xs=[]:=by
   cases c:R.xs with
   |nil=>rfl
   |cons a l=>rw[c]at d;cases d
  have e:vj R=R:=by cases R;simp at c;simp[c]
  rw[e]at I;exact I⟩
instance acS[h:Ow H (gy b) R H0]:J B H (ab P 405 #[pz b,D v] K) (T B (gy b (x' R v)::H0) (K (.bool (!decide (R.xs.length=R.room))))):=⟨by
 intro I;refine bh h.pl (te λx h=>an (Qq _ _) ?_);unfold x' at I;have hle:=h.le;have hr:=h.room;have hlen:=h.len;repeat' first|apply J.go|refine S2.go (λ_=>?_) λ_=>?_|done
 ·rename_i he
  rw[ah (by omega),cB (by omega)]at I;exact af (qp x h I)
 ·rename_i he
  have f:R.xs.length<R.room:=by omega
  rw[ak (by omega),cD (by omega)]at I;apply Bx h (by omega) (by omega);repeat apply J.go
  have hm:(x.head+R.xs.length)%R.room<R.room:=r6 _ (by omega);apply zk ((x.head+R.xs.length)%R.room) rfl hm (by omega);repeat apply J.go
  rw[show IntKind.wrap .i64 ((R.xs.length:Int)+1)=((R.xs++[v]).length:Int) by rw[bd (by omega)];simp];refine af (qp (R:=⟨R.room,R.xs++[v]⟩) ⟨x.cb,x.cells.set ((x.head+R.xs.length)%R.room) v,x.head⟩ ⟨by simp[hlen],h.room,h.head,by simp;omega,λi hi=>?_⟩ I);simp only[cr,dd,gH,bJ]at hi;have g:=h.head (by omega);rw[kE];by_cases e:i=R.xs.length
  ·subst e
   rw[ah rfl,ah (by omega)];simp
  ·have d:(x.head+R.xs.length)%R.room≠(x.head+i)%R.room:=by
    intro c;have U:x.head+R.xs.length<2*R.room:=by omega
    have j:x.head+i<2*R.room:=by omega
    rcases vZ (x.head+R.xs.length) R.room with a|a<;>rcases vZ (x.head+i) R.room with a2|a2
    ·rw[oq a,oq a2]at c;omega
    ·omega
    ·rw[y7 a,oq (by omega),oq a2]at c;omega
    ·rw[y7 a,oq (by omega),y7 a2,oq (by omega)]at c;omega
   rw[ak d,h.at' i (by omega),hb (by omega)]⟩
instance acQ[h:Ow H (gy b) R H0]:J B H (ab P 238 #[pz b] K) (T B (gy b R::H0) (K (D R.xs.length))):=⟨by
 intro I;refine bh h.pl (te λx h=>an (Qo _) ?_);repeat apply J.go
 exact af (qp x h I)⟩
instance acR[h:Ow H (gy b) R H0]:Sa B H (ab P 153 #[pz b] K) (λx:aw=>T B (gy b R::rN 1 x R.xs.length (iv .i64 R.xs)::H0) (K (.slice x R.xs.length R.xs.length))):=⟨by
 intro I;refine bh h.pl (te λx d=>qp x d (an (Qp _) ?_));have hle:=d.le;have hr:=d.room;repeat apply J.go
 refine gC (by omega) (by omega) (by omega) (by rw[kO];omega) (by kernel_rfl) (by kernel_rfl) λg=>?_;rw[lR,mj,k7,iM,a7];repeat first|apply J.go|refine Sa.go λ_=>?_
 refine an (Qs _) (Sa.go λ_=>?_);rename_i a k;refine pK (by kernel_rfl) λro rr l j=>an (Qt _ _) ?_;repeat apply J.go
 have n:∀{q:HP},T B (ai 1 (some ⟨g,0,none⟩) 0 R.xs.length []::lo l ro .ready none::ob rr (.deferred (some []))::cl a #[.slice (some ⟨g,0,none⟩) 0 R.xs.length]::cl k #[pz b]::gy b R::H0) q->T B (cl g (List.replicate R.xs.length (D 0)).toArray::lo l ro .ready none::ob rr (.deferred (some []))::cl a #[.slice (some ⟨g,0,none⟩) 0 R.xs.length]::cl k #[pz b]::gy b R::H0) q:=λt=>kf 1 (l:=R.xs.length) (by simp) (rB (m:=0) (by omega) (by simpa using t))
 refine af (n ?_);refine cF R.xs.length (by omega) (λz H'=>∃p c,H'=ai 1 p z c (iv .i64 (R.xs.take z))::lo l ro .ready none::ob rr (.deferred (some []))::cl a #[.slice p z c]::cl k #[pz b]::gy b R::H0) ⟨_,_,rfl⟩ ?_;rintro z H' s hz ⟨p,c,rfl⟩ o;repeat' first|apply J.go|refine S2.go (λ_=>?_) λ_=>?_|done
 ·have f:z<R.xs.length:=by omega
  have i:R.xs[z]?=some R.xs[z]:=ba f;refine aN (gy b) (Hd i ?_);refine J.go (bL (q:=lo l ro .ready none) (oI j ?_));refine J.go (oz ?_);repeat first|apply J.go|refine Sa.go λ_=>?_
  refine e0 rfl (by omega) λr c'=>J.go (bL (q:=lo l ro .busy none) (oA ?_));repeat apply J.go
  have e:iv .i64 (R.xs.take z)++#[D R.xs[z]].toList=iv .i64 (R.xs.take (z+1)):=by rw[dQ i,iv,iv,e6];rfl
  rw[e];exact af (o f _ ⟨r,c',rfl⟩)
 ·obtain rfl:z=R.xs.length:=by omega
  rw[gA];refine bL (q:=lo l ro .ready none) (qQ (by simp) ?_);refine J.go (an (QX _ _ _) (aN (ai 1 p R.xs.length c) (xJ λ_ u=>?_)));refine bj (by omega) (bj (by omega) ?_);refine J.go (bL (q:=ob rr (.deferred (some []))) (oG ?_));rw[lf,a7,iN];refine aN (ai 1 p R.xs.length c) (Yq ?_);exact af (I p)⟩
end
structure ea where
 n:Nat
 xs:aO
 next:Int
structure wi where
 rb:Nat
 tb:Nat
 lr:aO
 first:Int
structure ea.Ok(L:ea)(x:wi):Prop where
 len:x.lr.length=L.n
 n:L.n<=1048576
 next:0<=L.next
 lr:∀i,i<L.n->(0<=x.lr.getD i 0↔(i:Int)∈L.xs)
 xs:∀i∈L.xs,0<=i/\i<(L.n:Int)
 nd:L.xs.Nodup
abbrev xt(b:Nat)(L:ea)(x:wi)(H:au):au:=
 cl b #[pz x.rb,.slice (some ⟨x.tb,0,none⟩) L.n L.n,D L.next,D x.first]::gy x.rb ⟨L.n,L.xs⟩::cl x.tb (iv .i64 x.lr).toArray::H
def hB(b:Nat)(L:ea):bg:=BD L.Ok (xt b L)
def ea.gh(L:ea)(i:Int):Int:=if 0<=i/\i<(L.n:Int)then(if i∈L.xs then 19 else 0)else 2
abbrev ea.xX(L:ea)(i:Int):ea:={L with xs:=L.xs++[i],next:=L.next+1}
def ea.put(L:ea)(i:Int):ea:=if L.gh i=0 then L.xX i else L
abbrev ea.take(L:ea):ea:={L with xs:=L.xs.tail}
section
variable {B:Heap}{H H0:au}{K:aK}{b n:Nat}{L:ea}{i:Int}
def uN{q:HP}(t:∀x,L.Ok x->T B (xt b L x H) q):T B (hB b L::H) q:=mz (λ_ _=>rfl) t
def nK{q:HP}(x:wi)(h:L.Ok x)(t:T B (hB b L::H) q):T B (xt b L x H) q:=my x h (λ_ _=>rfl) t
def ea.Ok.aa6{x:wi}(h:L.Ok x):L.xs.length<=L.n:=by
 have U:(L.xs.map Int.toNat).Nodup:=by refine tF _ (λa b c=>?_) (yT.1 h.nd);have:=h.xs a c.1;have:=h.xs b c.2.1;have:=c.2.2;omega
 have d:=nO L.n U λp e=>by obtain⟨q,f,rfl⟩:=bQ.1 e;have:=h.xs q f;omega
 simpa using d
def aaD(a:n<=1048576)(I:∀b,T B (hB b ⟨n,[],0⟩::H) (K (pz b))):T B H (ab P 142 #[D n] K):=by
 refine an (SR _) (Yg a λr=>?_);repeat apply J.go
 refine gC (by omega) (by omega) (by omega) (by rw[kO];omega) (by kernel_rfl) (by kernel_rfl) λg=>?_;rw[lR,mj,k7,iM,a7,show List.replicate n (D 0)=iv .i64 (List.replicate n 0) by simp[iv]];refine cF n (by omega) (λk H'=>H'=cl g (iv .i64 (List.replicate k (-1)++List.replicate (n-k) 0)).toArray::gy r ⟨n,[]⟩::H) (by simp) ?_;rintro k H' R d rfl c;repeat' first|refine Sa.go λ_=>?_|refine S2.go (λ_=>?_) λ_=>?_|refine Sc.go (by omega) ?_|done
 ·rw[a7,aQ,bJ]
  apply eB (by simp;omega) rfl;apply c (by omega) _;congr 1;rw[jI];congr 2;simp only[iv];rw[<-jh];congr 1;rw[pD _ _ (by simp),jG,lF,show n-k=(n-(k+1))+1 by omega,r4,jJ,List.replicate_succ'];simp
 ·obtain rfl:k=n:=by omega
  rename_i b _;rw[lf,iN,lF,tP,je];refine af (nK ⟨r,g,List.replicate k (-1),0⟩ ⟨by simp,a,by simp,λi hi=>?_,by simp,by simp⟩ (I b));simp only at hi;simp[hi]
instance adJ[h:Ow H (hB b) L H0]:J B H (ab P 152 #[pz b] K) (T B (hB b L::H0) (K (.bool true))):=⟨by
 intro I;refine bh h.pl (uN λx a=>an (SQ _) ?_);repeat apply J.go
 exact af (nK x a I)⟩
instance adH[h:Ow H (hB b) L H0]:Sc B H (ab P 361 #[pz b,D i] K) (L.next<4611686018427387904) (T B (hB b (L.put i)::H0) (K (D (L.gh i)))):=⟨by
 intro o I;refine bh h.pl (an (SO _ _) ?_);unfold ea.put at I;repeat' first|apply J.go|refine S2.go (λ_=>?_) λ_=>?_|done
 all_goals refine aN (hB b) (uN λx d=>?_)
 ·have e:L.gh i=2:=by unfold ea.gh;rw[ak (by omega)]
  rw[e,ak (by decide)]at I;exact af (nK x d I)
 ·have hlen:=d.len
  have F:=d.aa6;have u:=d.n;repeat' first|apply J.go|refine S2.go (λ_=>?_) λ_=>?_|done
  ·have e:L.gh i=2:=by unfold ea.gh;rw[ak (by omega)]
   rw[e,ak (by decide)]at I;exact af (nK x d I)
  ·rename_i U G
   have v:x.lr[i.toNat]?=some (x.lr.getD i.toNat 0):=by rw[List.getD,ba (by omega)];rfl
   have k:=d.lr i.toNat (by omega);rw[show((i.toNat:Nat):Int)=i by omega]at k;apply e1 i.toNat (by omega) (by omega) v;repeat' first|apply J.go|refine S2.go (λ_=>?_) λ_=>?_|done
   ·rename_i f
    have e:L.gh i=19:=by unfold ea.gh;rw[ah (by omega),ah (k.1 f)]
    rw[e,ak (by decide)]at I;exact af (nK x d I)
   ·rename_i f m
    exfalso
    have w:(L.xs++[i]).Nodup:=by rw[dZ];refine⟨d.nd,by simp,λa ha c hc e=>?_⟩;simp at hc;subst hc;subst e;exact f (k.2 ha)
    have aux:∀z∈L.xs++[i],0<=z:=λz hz=>by
     rcases dL.1 hz with hz|hz
     ·exact(d.xs z hz).1
     ·simp at hz;omega
    have:=nO L.n (l:=(L.xs++[i]).map Int.toNat) ?_ ?_
    ·simp at this m;omega
    ·refine tF _ (λa b y=>?_) (yT.1 w)
     obtain⟨ha,o,M⟩:=y;have:=aux a ha;have:=aux b o;omega
    ·intro p A
     obtain⟨q,g,rfl⟩:=bQ.1 A;rcases dL.1 g with g|g
     ·have:=d.xs q g;omega
     ·simp at g;omega
   ·rename_i f m
    have r:i∉L.xs:=λhm=>f (k.2 hm);have e:L.gh i=0:=by unfold ea.gh;rw[ah (by omega),ak r]
    rw[e,ah rfl]at I
    have C:x' ⟨L.n,L.xs⟩ i=⟨L.n,L.xs++[i]⟩:=by unfold x';rw[ak (by simpa using m)]
    rw[C];apply zk i.toNat (by omega) (by omega) (by omega);repeat apply J.go
    rw[kC (by have:=d.next;omega) (by omega)];refine af (nK (L:=L.xX i) ⟨x.rb,x.tb,x.lr.set i.toNat L.next,x.first⟩ ⟨by simp[hlen],u,by have:=d.next;simp only;omega,λj s=>?_,λz hz=>?_,?_⟩ I)
    ·simp only at s
     rw[List.getD,kE];by_cases t:i.toNat=j
     ·subst t
      rw[ah rfl,ah (by omega)];simp only[fC];constructor
      ·intro _;simp;omega
      ·intro _;exact d.next
     ·rw[ak t]
      have:=d.lr j s;rw[List.getD]at this;rw[this];simp;omega
    ·rcases dL.1 hz with hz|hz
     ·exact d.xs z hz
     ·simp at hz;subst hz;simp only;omega
    ·simp only[dZ]
     refine⟨d.nd,by simp,λa ha c hc E=>?_⟩;simp at hc;subst hc;subst E;exact r ha⟩
instance adI[h:Ow H (hB b) L H0]:J B H (ab P 366 #[pz b] K) (T B (hB b L.take::H0) (K (.tuple #[D (L.xs.headD 0),D (if L.xs.isEmpty then 20 else 0)]))):=⟨by
 intro I;refine bh h.pl (an (SP _) ?_);repeat apply J.go
 refine aN (hB b) (uN λx d=>?_);repeat' first|apply J.go|refine S2.go (λ_=>?_) λ_=>?_|done
 ·rename_i he
  have c:L.xs=[]:=by
   cases c:L.xs with
   |nil=>rfl
   |cons a l=>rw[c]at he;cases he
  have e:L.take=L:=by cases L;simp at c;simp[c]
  rw[e,c]at I;have k:vj ⟨L.n,L.xs⟩=⟨L.n,L.xs⟩:=by simp[c]
  rw[k];exact af (nK x d I)
 ·rename_i he
  obtain⟨a,l,c⟩:∃a l,L.xs=a::l:=by
   cases c:L.xs with
   |nil=>rw[c]at he;cases he
   |cons a l=>exact⟨a,l,rfl⟩
  have ha:=d.xs a (by rw[c];simp);have m:(Ring.mk L.n L.xs).hd=a:=by unfold Ring.hd;simp only[c];rfl
  have hlen:=d.len;have o:=d.n;have f:=d.nd
  replace I:T B (hB b L.take::H0) (K (.tuple #[D a,D 0])):=by rw[c]at I;exact I
  rw[c]at f;rw[m];apply zj a.toNat (by omega) (by omega) (by simp;omega);repeat apply J.go
  have e:(iv .i64 x.lr).toArray.setIfInBounds (0+a.toNat) (D (-1))=(iv .i64 (x.lr.set a.toNat (-1))).toArray:=by simp[iv,jh]
  rw[e];refine af (nK (L:=L.take) ⟨x.rb,x.tb,x.lr.set a.toNat (-1),IntKind.wrap .i64 (x.first+1)⟩ ⟨by simp[hlen],o,d.next,λj g=>?_,λz hz=>d.xs z (List.mem_of_mem_tail hz),?_⟩ I)
  ·simp only at g
   rw[List.getD,kE];by_cases i:a.toNat=j
   ·subst i
    rw[ah rfl,ah (by omega)];simp only[fC,c,List.tail_cons];constructor
    ·intro h;omega
    ·intro h
     rw[show((a.toNat:Nat):Int)=a by omega]at h;exact absurd h (fp.1 f).1
   ·rw[ak i]
    have:=d.lr j g;rw[List.getD]at this;rw[this,c];exact⟨λh=>by simpa[c]using(cR.1 h).resolve_left (by omega),λh=>iJ _ (by simpa[c]using h)⟩
  ·simp only[c,List.tail_cons];exact(fp.1 f).2⟩
instance adG[h:Ow H (hB b) L H0]:Sa B H (ab P 85 #[pz b] K) (λx:aw=>T B (hB b L::rN 1 x L.xs.length (iv .i64 L.xs)::H0) (K (.slice x L.xs.length L.xs.length))):=⟨by
 intro I;refine bh h.pl (an (SN _) ?_);repeat apply J.go
 refine aN (hB b) (uN λx a=>?_);repeat first|apply J.go|refine Sa.go λ_=>?_
 rename_i y;exact af (nK x a (I y))⟩
end
end
section
open Go.XS Go.bn
abbrev Tag:=Int×Int
abbrev tp(t:Tag):aB:=[D t.1,D t.2]
def lh(t:Tag):(tp t).length=2:=rfl
structure DB where
 tb:Nat
 mb:Nat
 many:ML Int
abbrev qz(b:Nat)(T:List Tag)(x:DB)(H:au):au:=
 cl b #[.slice (some ⟨x.tb,0,none⟩) T.length T.length,.map (some x.mb)]::cl x.tb (T.flatMap tp).toArray::MP D x.mb x.many::H
def gY(b:Nat)(T:List Tag):bg:=BX (T.length<=1048576) (qz b T)
def jc(T:List Tag)(i:Int):Bool:=decide (0<=i/\i<(T.length:Int))
def fc(T:List Tag)(i:Int):Tag:=T.getD i.toNat (0,0)
def u4(T:List Tag)(i o:Int):Int:=if jc T i then(if o<1 then 2 else if(fc T i).1=0 then 0 else 19)else 2
def xK(T:List Tag)(i o:Int):List Tag:=if u4 T i o=0 then T.set i.toNat (o,(fc T i).2)else T
def uK(T:List Tag)(i:Int):Int:=if jc T i then(if(fc T i).1=0 then 20 else 0)else 2
def xp(T:List Tag)(i:Int):List Tag:=if uK T i=0 then T.set i.toNat (0,(fc T i).2)else T
def vf(T:List Tag)(i:Int):Int:=if jc T i then(if(fc T i).1=0 then(if(fc T i).2>=1048575 then 6 else 0)else 19)else 2
def x5(T:List Tag)(i:Int):List Tag:=if vf T i=0 then T.set i.toNat ((fc T i).1,IntKind.wrap .i64 ((fc T i).2+1))else T
section
variable {B:Heap}{H H0:au}{K:aK}{b n:Nat}{T:List Tag}{i o:Int}
def vz{q:HP}(t:∀x,T.length<=1048576->XS.T B (qz b T x H) q):XS.T B (gY b T::H) q:=pG (λ_ _=>rfl) t
def lj{q:HP}(x:DB)(h:T.length<=1048576)(t:XS.T B (gY b T::H) q):XS.T B (qz b T x H) q:=pF x h (λ_ _=>rfl) t
def B1(h:jc T i=true):T[i.toNat]?=some (fc T i)/\0<=i/\i<(T.length:Int):=by simp only[jc,bz]at h;refine⟨?_,h⟩;unfold fc;rw[List.getD,ba (by omega)];rfl
instance adt[h:Ow H (gY b) T H0]:J B H (ab P 237 #[pz b,D i] K) (XS.T B (gY b T::H0) (K (.bool (jc T i)))):=⟨by
 intro I;refine bh h.pl (vz λx hl=>an (Si _ _) ?_);repeat' first|apply J.go|refine S2.go (λ_=>?_) λ_=>?_|done
 all_goals (refine af (lj x hl (eb I (congrArg Value.bool ?_)));unfold jc;first|(refine hZ.2 ?_;omega)|(simp;omega))⟩
def B2(h0:jc T i=false->XS.T B (gY b T::H) (K (.tuple #[.pointer none,D 2])))(U:∀x,T.length<=1048576->T[i.toNat]?=some (fc T i)->0<=i->jc T i=true->XS.T B (qz b T x H) (K (.tuple #[.pointer (some ⟨x.tb,i.toNat*2,none⟩),D 0]))):XS.T B (gY b T::H) (ab P 417 #[pz b,D i] K):=by
 refine vz λx hl=>an (Sg _ _) ?_;iterate 6 (apply J.go)
 refine lj x hl ?_;repeat' first|apply J.go|refine S2.go (λ_=>?_) λ_=>?_|done
 ·rename_i h;exact h0 h
 ·rename_i h
  obtain⟨a,c,d⟩:=B1 h;refine vz λx hl=>?_;repeat first|apply J.go|refine Sc.go (by omega) ?_
  rw[aQ,bJ];exact U x hl a c h
instance adq[h:Ow H (gY b) T H0]:J B H (ab P 378 #[pz b,D i,D o] K) (XS.T B (gY b (xK T i o)::H0) (K (D (u4 T i o)))):=⟨by
 intro I;refine bh h.pl (an (Sd _ _ _) ?_);unfold xK u4 at I;refine B2 (λa=>?_) λx hl d e a=>?_
 ·rw[a]at I
  repeat first|apply J.go|refine bk (by with_reducible decide) ?_
  exact I
 ·rw[a]at I
  simp only[dT]at I;repeat' first|apply J.go|refine S2.go (λ_=>?_) λ_=>?_|done
  ·rename_i U;rw[ah U]at I;exact af (lj x hl I)
  ·rename_i U
   rw[ak U]at I;refine oB lh d (by omega) rfl (S2.go (λ_=>?_) λ_=>?_)
   ·rename_i c;rw[ak c]at I;exact af (lj x hl I)
   ·rename_i c
    rw[ah c]at I;apply nt (s:=2) (a':=(o,(fc T i).2)) lh d (by omega) rfl rfl;repeat apply J.go
    have fin:∀m,XS.T B (MP D x.mb m::cl b #[.slice (some ⟨x.tb,0,none⟩) T.length T.length,.map (some x.mb)]::cl x.tb ((T.set i.toNat (o,(fc T i).2)).flatMap tp).toArray::H0) (K (D 0)):=λm=>by have:=lj (T:=T.set i.toNat (o,(fc T i).2)) ⟨x.tb,x.mb,m⟩ (by simpa using hl) I;simp only[qz,hg]at this;exact af this
    exact fin _⟩
instance adp[h:Ow H (gY b) T H0]:J B H (ab P 404 #[pz b,D i] K) (XS.T B (gY b (xp T i)::H0) (K (D (uK T i)))):=⟨by
 intro I;refine bh h.pl (an (R9 _ _) ?_);unfold xp uK at I;refine B2 (λc=>?_) λx hl a e c=>?_
 ·rw[c]at I
  repeat first|apply J.go|refine bk (by with_reducible decide) ?_
  exact I
 ·rw[c]at I
  simp only[dT]at I;repeat apply J.go
  apply oB lh a (by omega) rfl;repeat' first|apply J.go|refine S2.go (λ_=>?_) λ_=>?_|done
  ·rename_i d;rw[ah d]at I;exact af (lj x hl I)
  ·rename_i d
   rw[ak d]at I
   have fin:∀m,XS.T B (MP D x.mb m::cl b #[.slice (some ⟨x.tb,0,none⟩) T.length T.length,.map (some x.mb)]::cl x.tb ((T.set i.toNat (0,(fc T i).2)).flatMap tp).toArray::H0) (K (D 0)):=λm=>by have:=lj (T:=T.set i.toNat (0,(fc T i).2)) ⟨x.tb,x.mb,m⟩ (by simpa using hl) I;simp only[qz,hg]at this;exact af this
   iterate 2 (refine qR lh a (by omega) rfl ?_;repeat' first|apply J.go|refine S2.go (λ_=>?_) λ_=>?_|done)
   ·apply qR lh a (by omega) rfl
    repeat apply J.go
    exact nt (s:=2) (a':=(0,(fc T i).2)) lh a (by omega) rfl rfl (fin _)
   ·apply nt (s:=2) (a':=(0,(fc T i).2)) lh a (by omega) rfl rfl
    exact fin _⟩
instance ads[h:Ow H (gY b) T H0]:J B H (ab P 448 #[pz b,D i] K) (XS.T B (gY b (x5 T i)::H0) (K (D (vf T i)))):=⟨by
 intro I;refine bh h.pl (an (Sf _ _) ?_);unfold x5 vf at I;refine B2 (λc=>?_) λx hl a f c=>?_
 ·rw[c]at I
  repeat first|apply J.go|refine bk (by with_reducible decide) ?_
  exact I
 ·rw[c]at I
  simp only[dT]at I;repeat apply J.go
  refine oB lh a (by omega) rfl (S2.go (λ_=>?_) λ_=>?_)
  ·rename_i d;rw[ak d]at I;exact af (lj x hl I)
  ·rename_i d
   rw[ah d]at I;refine oB lh a (by omega) rfl (S2.go (λ_=>?_) λ_=>?_)
   ·rename_i e;rw[ah e]at I;exact af (lj x hl I)
   ·rename_i e
    rw[ak e]at I;have fin:=lj (T:=T.set i.toNat ((fc T i).1,IntKind.wrap .i64 ((fc T i).2+1))) ⟨x.tb,x.mb,x.many⟩ (by simpa using hl) I;simp only[qz,hg]at fin;apply oB (s:=2) (j:=1) lh a (by omega) rfl;refine nt (s:=2) (a':=((fc T i).1,IntKind.wrap .i64 ((fc T i).2+1))) lh a (by omega) rfl rfl ?_;exact af fin⟩
def s7(T:List Tag)(i:Int):Int:=if jc T i then(fc T i).1 else 0
def w8(T:List Tag)(i:Int):Int:=if jc T i then(fc T i).2 else-1
instance adr[h:Ow H (gY b) T H0]:J B H (ab P 150 #[pz b,D i] K) (XS.T B (gY b T::H0) (K (D (s7 T i)))):=⟨by
 intro I;refine bh h.pl (an (Se _ _) ?_);unfold s7 at I;repeat' first|apply J.go|refine S2.go (λ_=>?_) λ_=>?_|done
 ·rename_i a;rw[a]at I;exact I
 ·rename_i a
  rw[a]at I;obtain⟨c,d,e⟩:=B1 a;refine vz λx hl=>?_;apply J.go;apply Dr (s:=2) (j:=0) lh i.toNat (by omega) (by omega) c (by omega) rfl;exact af (lj x hl I)⟩
instance ado[h:Ow H (gY b) T H0]:J B H (ab P 151 #[pz b,D i] K) (XS.T B (gY b T::H0) (K (D (w8 T i)))):=⟨by
 intro I;refine bh h.pl (an (R8 _ _) ?_);unfold w8 at I;repeat' first|apply J.go|refine S2.go (λ_=>?_) λ_=>?_|done
 ·rename_i a;rw[a]at I;exact I
 ·rename_i a
  rw[a]at I;obtain⟨c,d,e⟩:=B1 a;refine vz λx hl=>?_;apply J.go;apply Dr (s:=2) (j:=1) lh i.toNat (by omega) (by omega) c (by omega) rfl;exact af (lj x hl I)⟩
def abe:zc P 434=#[D 0,D 0]:=by kernel_rfl
def Ta:P.cellsOf 434=2:=by kernel_rfl
def K5:P.bytesOf 434=16:=by kernel_rfl
def qo{α:Type}{f:α->aB}{s:Nat}(a:α)(hf:(f a).length=s)(hs:0<s)(n:Nat):gx (f a).toArray (n*s)=((List.replicate n a).flatMap f).toArray:=by
 apply g';apply jf;intro k;simp only[gx,Cw,fo,yO,List.toList_toArray];by_cases I:k<n*s
 ·have U:k/s<n:=Nat.div_lt_of_lt_mul (by rw[CX];exact I)
  have b:k%s<s:=r6 _ hs;rw[tJ I]
  have d:∀(m q j:Nat),q<m->j<s->((List.replicate m a).flatMap f)[q*s+j]?=(f a)[j]?:=by
   intro m
   induction m with
   |zero=>intro q j h;omega
   |succ m e=>
    intro q j i g;rw[r4,gz]
    cases q with
    |zero=>rw[tR,bJ,hb (by omega)]
    |succ q=>rw[iI (by rw[hf,gk];omega),hf,show(q+1)*s+j-s=q*s+j by rw[gk];omega];exact e q j (by omega) g
  have c:=d n (k/s) (k%s) U b;rw[Nat.div_add_mod']at c;rw[c];simp only[ih,iL,hf];rw[ba (by omega)];simp[hf,b]
 ·rw[jg (by simpa using Nat.le_of_not_lt I),jg]
  ·rfl
  ·simp only[List.length_flatMap,List.map_replicate,List.sum_replicate_nat,hf];omega
def Z'(a:n<=1048576)(I:∀b,XS.T B (gY b (List.replicate n (0,0))::H) (K (pz b))):XS.T B H (ab P 137 #[D n] K):=by
 apply an (R7 _);refine aD (by simp) (aD (by simp;omega) (gC (by omega) (by omega) (by omega) (by rw[K5];omega) (by kernel_rfl) (by kernel_rfl) λg=>?_));rw[Ta,abe,a7,show#[D 0,D 0]=(tp (0,0)).toArray from rfl,qo (f:=tp) (s:=2) (0,0) rfl (by omega)];repeat refine Sa.go λ_=>?_
 rename_i r b;refine bL (q:=IM r λ_=>none) (iQ D ?_);have:=lj (T:=List.replicate n (0,0)) ⟨g,r,[]⟩ (by simpa using a) (I b);simp only[qz,jG]at this;exact af this
end
end
open Go.XS
section
variable {B:Heap}{H:au}{K:aK}{b o:Nat}{cs:ax}{p q:Addr}{α:Type}{cs2:α->ax}{H2:α->au}
set_option maxRecDepth 100000 in
set_option maxHeartbeats 1600000 in
def Wz(h0:cs[o]?=some (.int .u32 0))(U:cs[o+1]?=some (.int .i32 0))(kW:∀x,(cs2 x)[o]?=some (.int .u32 0))(gr:∀x,(cs2 x)[o+1]?=some (.int .i32 1))(hf:∀Kf:aK,(∀x,T B (cl b (cs2 x)::H2 x) (Kf (.tuple #[])))->T B (cl b (cs.setIfInBounds (o+1) (.int .i32 1))::H) (ab P 376 #[.pointer (some p),.pointer (some q)] Kf))(I:∀x,T B (cl b (((cs2 x).setIfInBounds o (.int .u32 1)).setIfInBounds (o+1) (.int .i32 0))::H2 x) (K (.tuple #[]))):T B (cl b cs::H) (ab P 331 #[.pointer (some ⟨b,o,none⟩),.func (.func 376) #[] #[.pointer (some p),.pointer (some q)]] K):=by
 intro σ ow w hw;subst hw;have s0:o<cs.size:=(gF.1 h0).1;have s1:o+1<cs.size:=(gF.1 U).1;have c1:=mW ow U;have f1:=s5 ow s1;have u3:=s6 (i:=o+1) (v:= .int .i32 1) ow;have Lf:(w.setCell ⟨b,o+1,none⟩ (.int .i32 1)).cell? ⟨b,o,none⟩=some (.int .u32 0):=mW u3 (by simp[rV,h0]);have hy:∀(x:Bool) (w:World),(Op.unary .not (.bool x)).run Tryz.prog w= .ok (.bool (!x)) w:=λ_ _=>rfl;have Ap:Calls Tryz.prog 376 #[.pointer (some p),.pointer (some q)] (w.setCell ⟨b,o+1,none⟩ (.int .i32 1)) _:=hf (λv eI=>v= .tuple #[]/\∃x,Own B (cl b (cs2 x)::H2 x) eI) (λx σ o=>⟨rfl,x,o⟩) _ u3 _ rfl
 go_enter_defers Tryz.func331,Tryz.ntmps331
 go_wp2_with (first|(go_at_call 393;refine(FQ ⟨b,o+1,none⟩ _ (by assumption) (by assumption)).mono ?_;rintro e w' ⟨rfl,rfl⟩)|(go_at_call 330;refine(wI ⟨b,o,none⟩ _ (by assumption)).mono ?_;rintro e w' ⟨rfl,rfl⟩)|(go_at_call 376;refine Ap.mono ?_;rintro e w2 ⟨v,rfl,⟨rfl,x,rC⟩,A9⟩))
 have kW:=kW x;have gr:=gr x;have BE:o<(cs2 x).size:=(gF.1 kW).1;have BF:o+1<(cs2 x).size:=(gF.1 gr).1;refine leaves_cons (by simp) (by simp[go_sem]) ((HJ ⟨b,o,none⟩ (.int .u32 0) .returning _ (mW rC kW) (s5 rC BE)).mono ?_);rintro e u' pr ⟨rfl,rfl,rfl⟩;have rD:Own B (cl b ((cs2 x).setIfInBounds o (.int .u32 1))::H2 x) (w2.drew.setCell ⟨b,o,none⟩ (.int .u32 1)).heap:=s6 rC;have A':=s6 (i:=o+1) (v:= .int .i32 0) rD;refine leaves_cons (by simp[settle]) (by simp[go_sem]) ((H6 ⟨b,o+1,none⟩ _ _ (mW rD (by simp[rV,gr])) (s5 rD (by simpa using BF))).mono ?_);rintro e u' pr ⟨rfl,rfl,rfl⟩;have hK:=I x _ A'
 have nF:ft w ((w2.drew.setCell ⟨b,o,none⟩ (.int .u32 1)).setCell ⟨b,o+1,none⟩ (.int .i32 0)):=by rw[setCell_eq,setCell_eq];obtain⟨q1,q2,q3⟩:=A9;rw[setCell_eq]at q1 q2 q3;exact⟨q1,q2,q3⟩
 simp only[Leaves,settle,results,Tryz.results331];exact⟨.tuple #[],by first|rfl|(simp[go_sem];done)|(simp[go_sem];rfl),.tuple #[],rfl,hK,nF⟩
set_option maxRecDepth 100000 in
set_option maxHeartbeats 1600000 in
def Wx(h0:cs[o]?=some (.int .u32 0))(U:cs[o+1]?=some (.int .i32 0))(kW:∀x,(cs2 x)[o]?=some (.int .u32 0))(gr:∀x,(cs2 x)[o+1]?=some (.int .i32 1))(hf:∀Kf:aK,(∀x,T B (cl b (cs2 x)::H2 x) (Kf (.tuple #[])))->T B (cl b (cs.setIfInBounds (o+1) (.int .i32 1))::H) (ab P 376 #[.pointer (some p),.pointer (some q)] Kf))(I:∀x,T B (cl b (((cs2 x).setIfInBounds o (.int .u32 1)).setIfInBounds (o+1) (.int .i32 0))::H2 x) (K (.tuple #[]))):T B (cl b cs::H) (ab P 234 #[.pointer (some ⟨b,o,none⟩),.func (.func 376) #[] #[.pointer (some p),.pointer (some q)]] K):=by
 intro σ ow w hw;subst hw;have c0:=mW ow h0;have hy:∀(x:Bool) (w:World),(Op.unary .not (.bool x)).run Tryz.prog w= .ok (.bool (!x)) w:=λ_ _=>rfl;have Aq:Calls Tryz.prog 331 #[.pointer (some ⟨b,o,none⟩),.func (.func 376) #[] #[.pointer (some p),.pointer (some q)]] w _:=Wz (K:=λv eI=>v= .tuple #[]/\K (.tuple #[]) eI) h0 U kW gr hf (λx=>dU rfl (I x)) _ ow w rfl
 go_enter Tryz.func234,Tryz.ntmps234
 go_wp2_with (first|(go_at_call 330;refine(wI ⟨b,o,none⟩ _ (by assumption)).mono ?_;rintro e w' ⟨rfl,rfl⟩)|(go_at_call 331;refine Aq.mono ?_;rintro e w' ⟨v,rfl,⟨rfl,hK⟩,nF⟩))
 go_end0
 exact⟨_,rfl,hK,nF⟩
end
