/- Lemmas that lead to TopWhole (their names made short by a program); no condition. -/
import Derived.Test.YtlmgompopkamfaaGreatDoorLI
set_option linter.all false
set_option maxRecDepth 20000
set_option synthInstance.checkSynthOrder false
namespace Go.Proofs.YtlmgompopkamfaaGreatDoor
open Go.XS Go.bn
section
structure bA where
 ph:Nat
 own:Int
 gen:Int
 data:Option (List UInt8)
structure aH where
 size:Nat
 cs:List bA
 free:aO
 br:Nat
structure fq where
 c:bA
 q:Nat
 w:aw
structure M4 where
 a:Int
 b:Int
 c:Int
 d:Int
abbrev M4.mv(m:M4)(p:Nat):M4:=match p with
 |0=>⟨m.a-1,m.b+1,m.c,m.d⟩
 |1=>⟨m.a,m.b-1,m.c+1,m.d⟩
 |2=>⟨m.a,m.b,m.c-1,m.d+1⟩
 |_=>⟨m.a+1,m.b,m.c,m.d-1⟩
abbrev fh(r:fq):aB:=[.int .u32 (if r.c.data.isSome then 1 else 0),.int .i32 0,.int .u32 0,D r.c.ph,.pointer (r.c.data.map λ_=>⟨r.q,0,none⟩),.pointer r.w]
def hp(r:fq):(fh r).length=6:=rfl
def lQ(r:fq):Option bg:=r.c.data.map (ey r.q)
def e3(rs:List fq):bg:=eG (rs.filterMap lQ)
def fm(c:bA):Tag:=(c.own,c.gen)
def bA.zero:bA:=⟨0,0,0,none⟩
structure hJ where
 tb:Nat
 fb:Nat
 cb:Nat
 kb:Nat
 rs:List fq
 ev:aO
 m:M4
abbrev lg(n size:Nat)(x:hJ):ax:=
 #[pz x.tb,pz x.fb,.slice (some ⟨x.cb,0,none⟩) n n,D size,D x.m.a,D x.m.b,D x.m.c,D x.m.d,pz x.kb]
abbrev hF(b:Nat)(S:aH)(x:hJ)(H:au):au:=
 cl b (lg S.cs.length S.size x)::gY x.tb (S.cs.map fm)::fI x.fb S.cs.length S.free::cl x.cb (x.rs.flatMap fh).toArray::e3 x.rs::eC x.kb 4 x.ev::H
def aH.many(S:aH)(k:Nat):Nat:=S.cs.countP λc=>c.ph==k
structure aH.Inv(S:aH):Prop where
 n1:1<=S.cs.length
 n2:S.cs.length<=1048576
 s1:64<=S.size
 s2:S.size<=1048576
 ph:∀c∈S.cs,c.ph<=2/\0<=c.own/\(c.ph≠1->c.own=0)/\(c.ph=1->1<=c.own)/\0<=c.gen/\c.gen<=S.br/\(c.data=none->c.ph=0)/\∀d,c.data=some d->d.length=S.size
 free:∀i:Int,i∈S.free↔∃c,S.cs[i.toNat]?=some c/\0<=i/\c.ph=0
 nodup:S.free.Nodup
 w5:S.free.length=S.many 0
structure aH.Ok(S:aH)(x:hJ):Prop where
 rs:x.rs.map (·.c)=S.cs
 w:∀r∈x.rs,r.w=none
 sR:x.m.a=S.many 0
 mb:x.m.b=S.many 1
 sT:x.m.c=S.many 2
 md:x.m.d=0
 ev:∀e∈x.ev,e<=S.br
 inv:S.Inv
def cj(b:Nat)(S:aH):bg:=BD S.Ok (hF b S)
def aH.at'(S:aH)(i:Int):bA:=S.cs.getD i.toNat bA.zero
def aH.ok(S:aH)(i:Int):Bool:=decide (0<=i/\i<(S.cs.length:Int))
section
variable {B:Heap}{H H0:au}{K:aK}{b n:Nat}{S:aH}{i o g:Int}
def pf{q:HP}(t:∀x,S.Ok x->T B (hF b S x H) q):T B (cj b S::H) q:=mz (λ_ _=>rfl) t
def hT{q:HP}(x:hJ)(h:S.Ok x)(t:T B (cj b S::H) q):T B (hF b S x H) q:=my x h (λ_ _=>rfl) t
def aH.hQ(h:S.ok i=true):S.cs[i.toNat]?=some (S.at' i)/\0<=i/\i<(S.cs.length:Int):=by simp only[aH.ok,bz]at h;refine⟨?_,h⟩;unfold aH.at';rw[List.getD,ba (by omega)];rfl
instance {xs:aO}[h:Ow H (fI b n) xs H0]:J B H (ab P 375 #[pz b] K) (T B (fI b n xs.dropLast::H0) (K (.tuple #[D (xs.getLast?.getD 0),.bool (decide (0<xs.length))]))):=⟨λt=>bh h.pl (Uw t)⟩
instance {v:Int}{xs:aO}[h:Ow H (fI b n) xs H0]:J B H (ab P 449 #[pz b,D v] K) (T B (fI b n (l5 n xs v)::H0) (K (.bool (jy n xs v)))):=⟨λt=>bh h.pl (Ur t)⟩
instance {v y:Int}{xs:aO}[h:Ow H (eC b n) xs H0]:J B H (ab P 300 #[pz b,D v,D y] K) (T B (eC b n (fG xs v y)::H0) (K (D (iq xs v y)))):=⟨λt=>bh h.pl (Tu t)⟩
instance {v:Int}{xs:aO}[h:Ow H (eC b n) xs H0]:J B H (ab P 82 #[pz b,D v] K) (T B (eC b n xs::H0) (K (D (hq xs v)))):=⟨λt=>bh h.pl (Tv t)⟩
def E6{α β:Type}{f:α->Option β}{l:List α}{i:Nat}{a a':α}{v:β}(ha:l[i]?=some a)(b:f a=some v)(c:f a'=none):(l.filterMap f).Perm (v::(l.set i a').filterMap f):=by
 induction l generalizing i with
 |nil=>simp at ha
 |cons x l d=>
  cases i with
  |zero=>simp at ha;subst ha;simp[lA,b,c]
  |succ i=>
   have:=d (by simpa using ha);simp only[iK,lA];split
   ·exact this
   ·exact(mm _ this).trans (cy _ _ _)
def wx{Hs a:au}{q:bg}{p:HP}(h:Hs.Perm (q::a))(t:T B (q::eG a::H) p):T B (eG Hs::H) p:=by refine lJ (cq (IC _ h) ?_);rw[qE];refine cq (List.perm_middle).symm (jQ ?_);exact bh (.tail .head) t
def wy{Hs a:au}{q:bg}{p:HP}(h:Hs.Perm (q::a))(t:T B (eG Hs::H) p):T B (q::eG a::H) p:=by refine bh (.tail .head) (lJ ?_);refine cq (List.perm_middle) ?_;rw[<-qE];exact cq (IC _ h.symm) (jQ t)
def zE{rs:List fq}{i:Nat}{r:fq}{d:List UInt8}{p:HP}(hr:rs[i]?=some r)(hd:r.c.data=some d)(t:T B (ey r.q d::e3 (rs.set i ⟨bA.zero,0,none⟩)::H) p):T B (e3 rs::H) p:=by unfold e3 at*;exact wx (E6 hr (by simp[lQ,hd]) (by simp[lQ,bA.zero])) t
def wK{rs:List fq}{i:Nat}{r:fq}{d:List UInt8}{p:HP}(hi:i<rs.length)(hd:r.c.data=some d)(t:T B (e3 (rs.set i r)::H) p):T B (ey r.q d::e3 (rs.set i ⟨bA.zero,0,none⟩)::H) p:=by
 refine wy ?_ t;have:=E6 (f:=lQ) (l:=rs.set i r) (i:=i) (a':=⟨bA.zero,0,none⟩) (a:=r) (v:=ey r.q d) (by simp[hi]) (by simp[lQ,hd]) (by simp[lQ,bA.zero])
 rwa [vV]at this
def sD{xs:aO}{k:Int}{c:Nat}(hl:xs.length=4)(h:∀e∈xs,0<=e/\e<=(c:Int))(I:0<=k/\k<4)(hc:c<1000000000):iq xs k 1=0/\∀e∈fG xs k 1,e<=((c+1:Nat):Int):=by
 have b:hq xs k<=(c:Int):=by
  unfold hq;rw[ah I.1,List.getD]
  cases a:xs[k.toNat]? with
  |none=>simp
  |some e=>have:=h e (cz a);simpa using this.2
 have he:iq xs k 1=0:=by unfold iq;rw[ah ⟨I.1,by omega,by omega⟩,ak (by unfold k2;omega)]
 refine⟨he,λe hm=>?_⟩;unfold fG at hm;rw[ah he]at hm;rcases j5 hm with U|rfl
 ·have:=h e U;omega
 ·omega
abbrev mM(r:fq):fq:=⟨⟨if r.c.ph=3 then 0 else r.c.ph+1,r.c.own,r.c.gen,r.c.data⟩,r.q,r.w⟩
abbrev oV(x:hJ)(i:Nat)(r:fq):hJ:={x with m:=x.m.mv r.c.ph,rs:=x.rs.set i (mM r),ev:=fG x.ev (r.c.ph:Int) 1}
def yo{x:hJ}{size i:Nat}{r:fq}{e:Int}{Ha l o:au}(hr:x.rs[i]?=some r)(p:r.c.ph<=3)(he:e=(r.c.ph:Int)+1)(hm:∀v∈[x.m.a,x.m.b,x.m.c,x.m.d],-1000000000<v/\v<1000000000)(g:iq x.ev (r.c.ph:Int) 1=0)[U:Pl H (cl b (lg n size x)) Ha][t:Pl Ha (cl x.cb (x.rs.flatMap fh).toArray) l][u:Pl l (eC x.kb 4 x.ev) o](I:T B (cl b (lg n size (oV x i r))::cl x.cb ((x.rs.set i (mM r)).flatMap fh).toArray::eC x.kb 4 (fG x.ev (r.c.ph:Int) 1)::o) (K (D 0))):T B H (ab P 379 #[pz b,.pointer (some ⟨x.cb,i*6,none⟩),D e] K):=by
 subst he;refine bh U.pl (bh (.tail t.pl) (bh (.tail (.tail u.pl)) (an (R3 _ _ _) ?_)));simp only[cR,jH,ji,C1,forall_eq]at hm;obtain⟨sR,mb,sT,md⟩:=hm;apply oB hp hr (by omega) rfl;repeat' first|apply J.go|refine S2.go (λ_=>?_) λ_=>?_|done
 ·rename_i h
  exact absurd (by unfold u9;rw[ah ⟨by omega,by omega,by omega,by omega⟩,ah rfl]) h
 ·obtain⟨⟨ph,ow,j,k⟩,q,w⟩:=r
  simp only at p g hr⊢;obtain rfl|rfl|rfl|rfl:ph=0\/ph=1\/ph=2\/ph=3:=by omega
  ·have f:qj ((0:Nat):Int) (((0:Nat):Int)+1)=((1:Nat):Int):=by decide
   apply qR hp hr (by omega) rfl;simp only[f];refine bj ⟨by decide,by decide⟩ ?_;simp only[aQ,a7,bJ,Nat.reduceAdd];repeat first|apply J.go|refine Sc.go (by omega) ?_
   simp only[aQ,a7,bJ,Nat.reduceAdd];repeat first|apply J.go|refine Sc.go (by omega) ?_
   apply nt (s:=6) (a':=mM ⟨⟨0,ow,j,k⟩,q,w⟩) hp hr (by omega) rfl rfl;rw[bd (by omega),bd (by omega),show IntKind.wrap .i64 (((0:Nat):Int)+1-1)=((0:Nat):Int) by decide];repeat apply J.go
   rw[g];dsimp only[oV,M4.mv]at I;exact af I
  ·have f:qj ((1:Nat):Int) (((1:Nat):Int)+1)=((2:Nat):Int):=by decide
   apply qR hp hr (by omega) rfl;simp only[f];refine bj ⟨by decide,by decide⟩ ?_;simp only[aQ,a7,bJ,Nat.reduceAdd];repeat first|apply J.go|refine Sc.go (by omega) ?_
   simp only[aQ,a7,bJ,Nat.reduceAdd];repeat first|apply J.go|refine Sc.go (by omega) ?_
   apply nt (s:=6) (a':=mM ⟨⟨1,ow,j,k⟩,q,w⟩) hp hr (by omega) rfl rfl;rw[bd (by omega),bd (by omega),show IntKind.wrap .i64 (((1:Nat):Int)+1-1)=((1:Nat):Int) by decide];repeat apply J.go
   rw[g];dsimp only[oV,M4.mv]at I;exact af I
  ·have f:qj ((2:Nat):Int) (((2:Nat):Int)+1)=((3:Nat):Int):=by decide
   apply qR hp hr (by omega) rfl;simp only[f];refine bj ⟨by decide,by decide⟩ ?_;simp only[aQ,a7,bJ,Nat.reduceAdd];repeat first|apply J.go|refine Sc.go (by omega) ?_
   simp only[aQ,a7,bJ,Nat.reduceAdd];repeat first|apply J.go|refine Sc.go (by omega) ?_
   apply nt (s:=6) (a':=mM ⟨⟨2,ow,j,k⟩,q,w⟩) hp hr (by omega) rfl rfl;rw[bd (by omega),bd (by omega),show IntKind.wrap .i64 (((2:Nat):Int)+1-1)=((2:Nat):Int) by decide];repeat apply J.go
   rw[g];dsimp only[oV,M4.mv]at I;exact af I
  ·have f:qj ((3:Nat):Int) (((3:Nat):Int)+1)=((0:Nat):Int):=by decide
   apply qR hp hr (by omega) rfl;simp only[f];refine bj ⟨by decide,by decide⟩ ?_;simp only[aQ,a7,bJ,Nat.reduceAdd];repeat first|apply J.go|refine Sc.go (by omega) ?_|refine a1 rfl ?_
   simp only[aQ,a7,bJ,Nat.reduceAdd];apply J.go;apply nt (s:=6) (a':=mM ⟨⟨3,ow,j,k⟩,q,w⟩) hp hr (by omega) rfl rfl;rw[bd (by omega),bd (by omega),show IntKind.wrap .i64 (((3:Nat):Int)+1-1)=((3:Nat):Int) by decide];repeat apply J.go
   rw[g];dsimp only[oV,M4.mv]at I;exact af I
def BU{x:hJ}{size:Nat}[h:bY B H b (lg n size x)](I:T B H (K (.bool true))):T B H (ab P 83 #[pz b] K):=by
 apply an (R2 _);repeat apply J.go
 exact I
def HK{x:hJ}{size:Nat}[h:bY B H b (lg n size x)](h0:0<=i)(U:i<(n:Int))(I:T B H (K (.tuple #[.pointer (some ⟨x.cb,i.toNat*6,none⟩),D 0]))):T B H (ab P 149 #[pz b,D i] K):=by
 refine an (D9 _ _) (J.go (BU ?_));repeat' first|apply J.go|refine S2.go (λ_=>?_) λ_=>?_|refine Sc.go (by omega) ?_|done
 ·omega
 ·omega
 ·rw[aQ,bJ];exact I
def Z1{x:hJ}{size:Nat}[h:bY B H b (lg n size x)](h0:¬(0<=i/\i<(n:Int)))(I:T B H (K (.tuple #[.pointer none,D 2]))):T B H (ab P 149 #[pz b,D i] K):=by
 refine an (D9 _ _) (J.go (BU ?_));repeat' first|apply J.go|refine S2.go (λ_=>?_) λ_=>?_|refine Sc.go (by omega) ?_|done
 ·exact I
 ·exact I
 ·omega
instance adn[h:Ow H (cj b) S H0]:J B H (ab P 83 #[pz b] K) (T B (cj b S::H0) (K (.bool true))):=⟨λI=>bh h.pl (pf λx ok=>BU (x:=x) (n:=S.cs.length) (size:=S.size) (hT x ok I))⟩
def aH.Ok.row{x:hJ}(ok:S.Ok x)(h:S.ok i=true):∃q,x.rs[i.toNat]?=some ⟨S.at' i,q,none⟩:=by
 obtain⟨U,a,b⟩:=aH.hQ h;have hm:=ok.rs▸U;rw[fo]at hm
 cases hr:x.rs[i.toNat]? with
 |none=>rw[hr]at hm;cases hm
 |some r=>rw[hr]at hm;obtain⟨c,q,w⟩:=r;have hw:=ok.w _ (cz hr);simp only[ih,iO]at hm hw;exact⟨q,by rw[hw,hm]⟩
def yn(d:S.ok i=false->T B (cj b S::H) (K (.tuple #[.pointer none,D 2])))(e:∀x q,S.Ok x->S.ok i=true->x.rs[i.toNat]?=some ⟨S.at' i,q,none⟩->0<=i->i<(S.cs.length:Int)->T B (hF b S x H) (K (.tuple #[.pointer (some ⟨x.cb,i.toNat*6,none⟩),D 0]))):T B (cj b S::H) (ab P 149 #[pz b,D i] K):=by
 refine pf λx ok=>?_;by_cases h:S.ok i=true
 ·obtain⟨q,f⟩:=ok.row h
  obtain⟨_,a,c⟩:=aH.hQ h;exact HK a c (e x q ok h f a c)
 ·rw[CB]at h
  exact Z1 (by simpa[aH.ok]using h) (hT x ok (d h))
def Hf{rs:List fq}{k:Nat}{r:fq}(hr:rs[k]?=some r):∃A C,A.length=k*6/\rs.flatMap fh=A++(fh r++C)/\∀r',(rs.set k r').flatMap fh=A++(fh r'++C):=by
 induction rs generalizing k with
 |nil=>simp at hr
 |cons y rs a=>
  cases k with
  |zero=>simp at hr;subst hr;exact⟨[],rs.flatMap fh,rfl,by simp,λr'=>by simp⟩
  |succ k=>obtain⟨A,C,U,b,c⟩:=a (by simpa using hr);exact⟨fh y++A,C,by rw[cr,U,hp];omega,by rw[gz,b,er],λr'=>by rw[iK,gz,c,er]⟩
def vm{A R C:aB}{k j:Nat}{v:Value}(b:A.length=k)(h:R[j]?=some v):(A++(R++C)).toArray[k+j]?=some v:=by have a:j<R.length:=(b0.1 h).1;rw[dY,iI (by omega),show k+j-A.length=j by omega,hb a,h]
def yc{A R C:aB}{k j:Nat}{v:Value}(b:A.length=k)(a:j<R.length):(A++(R++C)).toArray.setIfInBounds (k+j) v=(A++(R.set j v++C)).toArray:=by rw[jI,pD _ _ (by omega),show k+j-A.length=j by omega,pC _ _ a]
def Es{l:List bA}{k:Nat}{c c':bA}(f:bA->Bool)(I:l[k]?=some c):(l.set k c').countP f+(if f c then 1 else 0)=l.countP f+(if f c' then 1 else 0):=by
 induction l generalizing k with
 |nil=>simp at I
 |cons y l a=>
  cases k with
  |zero=>simp at I;subst I;simp only[jJ,py];omega
  |succ k=>have:=a (by simpa using I);simp only[iK,py];omega
def bA.Ok(c:bA)(size br:Nat):Prop:=c.ph<=2/\0<=c.own/\(c.ph≠1->c.own=0)/\(c.ph=1->1<=c.own)/\0<=c.gen/\c.gen<=br/\(c.data=none->c.ph=0)/\∀d,c.data=some d->d.length=size
def wk{x:hJ}(ok:S.Ok x){k:Nat}{c c':bA}{q:Nat}{f ev':aO}{g:M4}(I:S.cs[k]?=some c)(hc:c'.Ok S.size (S.br+1))(hf:∀i:Int,i∈f↔(i∈S.free/\i≠k)\/(i=k/\c'.ph=0))(nd:f.Nodup)(v:f.length+(if c.ph=0 then 1 else 0)=S.free.length+(if c'.ph=0 then 1 else 0))(ha:g.a+(if c.ph=0 then 1 else 0)=x.m.a+(if c'.ph=0 then 1 else 0))(z:g.b+(if c.ph=1 then 1 else 0)=x.m.b+(if c'.ph=1 then 1 else 0))(A:g.c+(if c.ph=2 then 1 else 0)=x.m.c+(if c'.ph=2 then 1 else 0))(hd:g.d=0)(o:∀e∈ev',e<=((S.br+1:Nat):Int)):aH.Ok ⟨S.size,S.cs.set k c',f,S.br+1⟩ {x with rs:=x.rs.set k ⟨c',q,none⟩,m:=g,ev:=ev'}:=by
 have s:=(b0.1 I).1;have inv:=ok.inv
 have l:∀p,aH.many ⟨S.size,S.cs.set k c',f,S.br+1⟩ p+(if c.ph=p then 1 else 0)=S.many p+(if c'.ph=p then 1 else 0):=λp=>by have:=Es (c':=c') (λc=>c.ph==p) I;simpa[aH.many]using this
 have h0:=l 0;have U:=l 1;have n:=l 2;have B:=ok.sR;have C:=ok.mb;have D:=ok.sT;refine⟨?_,?_,?_,?_,?_,hd,o,?_⟩
 ·simp only[jh,ok.rs]
 ·intro r hr
  rcases j5 hr with h|rfl
  ·exact ok.w r h
  ·rfl
 ·simp only;split at h0<;>split at h0<;>simp_all<;>omega
 ·simp only;split at U<;>split at U<;>simp_all<;>omega
 ·simp only;split at n<;>split at n<;>simp_all<;>omega
 ·refine⟨by simpa using inv.n1,by simpa using inv.n2,inv.s1,inv.s2,λy t=>?_,λj=>?_,nd,?_⟩
  ·rcases j5 t with h|rfl
   ·have:=inv.ph y h
    refine⟨this.1,this.2.1,this.2.2.1,this.2.2.2.1,this.2.2.2.2.1,?_,this.2.2.2.2.2.2.1,this.2.2.2.2.2.2.2⟩;have:=this.2.2.2.2.2.1;simp only;omega
   ·exact hc
  ·rw[hf,inv.free]
   simp only[kE];by_cases e:j=k
   ·subst e
    simp[s]
   ·simp only[e,ne_eq,not_false_eq_true,kK,false_and,ji]
    by_cases u:0<=j
    ·rw[ak (by omega)]
    ·simp[u]
  ·have:=inv.w5
   simp only;omega
def aH.du(S:aH):Int:=S.free.getLast?.getD 0
abbrev pk(S:aH)(o:Int)(c:bA):bA:=⟨1,o,c.gen,some (c.data.getD (List.replicate S.size 0))⟩
def aH.take(S:aH)(o:Int):aH:=if S.free=[]then S else⟨S.size,S.cs.set S.du.toNat (pk S o (S.at' S.du)),S.free.dropLast,S.br+1⟩
def B3{x:hJ}(ok:S.Ok x)(hf:S.free≠[]):S.ok S.du=true/\(S.at' S.du).ph=0/\S.du∈S.free/\∀j:Int,j∈S.free.dropLast↔j∈S.free/\j≠S.du:=by
 have hl:S.free.getLast?=some (S.free.getLast hf):=CN hf;have hi:S.du=S.free.getLast hf:=by unfold aH.du;rw[hl];rfl
 have hm:S.du∈S.free:=by rw[hi];exact List.getLast_mem hf
 obtain⟨c,U,a,b⟩:=(ok.inv.free _).1 hm;have d:S.at' S.du=c:=by unfold aH.at';rw[List.getD,U];rfl
 have f:=(b0.1 U).1;refine⟨by simp only[aH.ok,bz];omega,by rw[d];exact b,hm,λj=>?_⟩;have nd:=ok.inv.nodup;have e:=tG hf;rw[<-hi]at e;rw[<-e]at nd
 have hy:S.du∉S.free.dropLast:=λh=>by have:=dZ.1 nd;exact this.2.2 _ h _ (by simp) rfl
 constructor
 ·intro h
  exact⟨List.dropLast_subset _ h,λa=>hy (a▸h)⟩
 ·rintro⟨h,a⟩
  rw[<-e]at h;rcases dL.1 h with h|h
  ·exact h
  ·simp at h;exact absurd h a
def HV{x:hJ}(ok:S.Ok x)(hf:S.free≠[])(g:1<=o){q:Nat}{ev':aO}(b:∀e∈ev',e<=((S.br+1:Nat):Int)):(S.take o).Ok {x with rs:=x.rs.set S.du.toNat ⟨pk S o (S.at' S.du),q,none⟩,m:=x.m.mv 0,ev:=ev'}:=by
 obtain⟨U,a,i,c⟩:=B3 ok hf;obtain⟨I,f,k⟩:=aH.hQ U;have hc:=ok.inv.ph _ (cz I);unfold aH.take;rw[ak hf];refine wk ok I ?_ (λj=>?_) ?_ ?_ ?_ ?_ ?_ ?_ b
 ·refine⟨by simp,by simp;omega,by simp,by simp;omega,hc.2.2.2.2.1,?_,by simp,?_⟩
  ·have:=hc.2.2.2.2.2.1;simp only;omega
  ·rintro d ⟨⟩
   cases hd:(S.at' S.du).data with
   |none=>simp
   |some d=>exact hc.2.2.2.2.2.2.2 d hd
 ·rw[c]
  simp only[Nat.one_ne_zero,and_false,ji];rw[rX f]
 ·exact List.Nodup.sublist (List.dropLast_sublist _) ok.inv.nodup
 ·rw[a];simp only[Nat.one_ne_zero,ej,dT,List.length_dropLast]
  have:S.free.length≠0:=λh=>hf (kF.1 h);omega
 ·simp[a,M4.mv]
 ·simp[a,M4.mv]
 ·simp[a,M4.mv]
 ·exact ok.md
instance abB:Sx B H (ab P 377 #[D n] K) (1<=n/\n<=1048576) (λq:Nat=>T B (ey q (List.replicate n 0)::H) (K (pz q))):=⟨λh t=>Lb h.1 h.2 t⟩
def K0{rs:List fq}{k:Nat}{r:fq}(hr:rs[k]?=some r)(hd:r.c.data=none):e3 rs=e3 (rs.set k ⟨bA.zero,0,none⟩):=by
 unfold e3;apply congrArg eG
 induction rs generalizing k with
 |nil=>simp at hr
 |cons y l a=>
  cases k with
  |zero=>simp at hr;subst hr;simp[lA,lQ,hd,bA.zero]
  |succ k=>rw[iK,lA,lA,a (by simpa using hr)]
abbrev rh(size:Nat)(c:bA):bA:=⟨c.ph,c.own,c.gen,some (c.data.getD (List.replicate size 0))⟩
def Z2{x:hJ}{k f g:Nat}{size:Nat}{r:fq}(hr:x.rs[k]?=some r)(U:64<=size)(u:size<=1048576)(I:∀q,T B (cl f #[pz b]::cl g #[.pointer (some ⟨x.cb,k*6,none⟩)]::cl b (lg n size x)::cl x.cb ((x.rs.set k ⟨rh size r.c,q,r.w⟩).flatMap fh).toArray::e3 (x.rs.set k ⟨rh size r.c,q,r.w⟩)::H0) (K (.tuple #[]))):T B (cl f #[pz b]::cl g #[.pointer (some ⟨x.cb,k*6,none⟩)]::cl b (lg n size x)::cl x.cb (x.rs.flatMap fh).toArray::e3 x.rs::H0) (ab P 234 #[.pointer (some ⟨x.cb,k*6,none⟩),.func (.func 376) #[] #[pz f,pz g]] K):=by
 obtain⟨A,C,a,i,m⟩:=Hf hr;obtain⟨⟨ph,ow,l,p⟩,q,w⟩:=r
 cases p with
 |some d=>
  refine bh (.tail (.tail (.tail .head))) (GA (b:=x.cb) (o:=k*6) (cs:=(x.rs.flatMap fh).toArray) ?_ ?_)
  ·rw[i];exact vm (j:=0) a rfl
  ·have I:=I q
   simp only[rh,fC]at I
   have e:x.rs.set k ⟨⟨ph,ow,l,some d⟩,q,w⟩=x.rs:=by
    apply jf;intro j;rw[kE];split
    ·rename_i h;subst h;rw[hr];split
     ·rfl
     ·rename_i h;exact absurd (b0.1 hr).1 h
    ·rfl
   rw[e]at I;exact af I
 |none=>
  refine bh (.tail (.tail (.tail .head))) (Wx (b:=x.cb) (o:=k*6) (cs:=(x.rs.flatMap fh).toArray) (α:=Nat)
   (cs2:=λq=>(A++([.int .u32 0,.int .i32 1,.int .u32 0,D ph,pz q,.pointer w]++C)).toArray)
   (H2:=λq=>ey q (List.replicate size 0)::cl f #[pz b]::cl g #[.pointer (some ⟨x.cb,k*6,none⟩)]::cl b (lg n size x)::e3 x.rs::H0) ?_ ?_ ?_ ?_ ?_ ?_)
  ·rw[i];exact vm (j:=0) a rfl
  ·rw[i];exact vm (j:=1) a rfl
  ·intro q;exact vm (j:=0) a rfl
  ·intro q;exact vm (j:=1) a rfl
  ·intro Kf s
   rw[i,yc a (by simp)];show T B (cl x.cb (A++([.int .u32 0,.int .i32 1,.int .u32 0,D ph,.pointer none,.pointer w]++C)).toArray::_) _;apply an (RZ _ _);repeat first|apply J.go|refine Sx.go (by omega) λ_=>?_
   rename_i q;unfold cO;rw[cT,aQ];have y:A.length+6<=(A++([.int .u32 0,.int .i32 1,.int .u32 0,D ph,.pointer none,.pointer w]++C)).toArray.size:=by simp
   refine bL (q:=cl x.cb (A++([.int .u32 0,.int .i32 1,.int .u32 0,D ph,.pointer none,.pointer w]++C)).toArray) (eB (by omega) rfl ?_);rw[yc a (by simp)];simp only[iK,jJ];exact af (s q)
  ·intro q
   have t:∀(R:aB) (v:Value),0<R.length->(A++(R++C)).toArray.setIfInBounds (k*6) v=(A++(R.set 0 v++C)).toArray:=λR v h=>yc a h;rw[t _ _ (by simp),yc a (by simp)];have I:=I q;rw[m _]at I;rw[K0 hr rfl];simp only[iK,jJ];refine aN (ey q) (aN e3 (cq (cy _ _ _) (wK (r:=⟨⟨ph,ow,l,some (List.replicate size 0)⟩,q,w⟩) (b0.1 hr).1 rfl ?_)));exact af (H':=cl f #[pz b]::cl g #[.pointer (some ⟨x.cb,k*6,none⟩)]::cl b (lg n size x)::cl x.cb (A++([.int .u32 1,.int .i32 0,.int .u32 0,D ph,pz q,.pointer w]++C)).toArray::e3 (x.rs.set k ⟨⟨ph,ow,l,some (List.replicate size 0)⟩,q,w⟩)::H0) I
def BJ{rs:List fq}{k:Nat}{r r':fq}(h:fh r=fh r'):(rs.set k r).flatMap fh=(rs.set k r').flatMap fh:=by
 induction rs generalizing k with
 |nil=>rfl
 |cons y l a=>cases k with
  |zero=>rw[jJ,jJ,gz,gz,h]
  |succ k=>rw[iK,iK,gz,gz,a]
def YN{rs:List fq}{k:Nat}{r r':fq}(h:lQ r=lQ r'):e3 (rs.set k r)=e3 (rs.set k r'):=by
 unfold e3;apply congrArg eG
 induction rs generalizing k with
 |nil=>rfl
 |cons y l a=>cases k with
  |zero=>rw[jJ,jJ,lA,lA,h]
  |succ k=>rw[iK,iK,lA,lA,a]
def Hv{rs:List fq}{k:Nat}{r r':fq}(hr:rs[k]?=some r)(h:lQ r=lQ r'):e3 rs=e3 (rs.set k r'):=by
 unfold e3;apply congrArg eG
 induction rs generalizing k with
 |nil=>simp at hr
 |cons y l a=>cases k with
  |zero=>simp at hr;subst hr;rw[jJ,lA,lA,h]
  |succ k=>rw[iK,lA,lA,a (by simpa using hr)]
def zJ{xs:aO}{p:HP}(t:xs.length=4->(∀e∈xs,0<=e)->T B (eC b 4 xs::H) p):T B (eC b 4 xs::H) p:=zK λ_ _ U a=>t U λe he=>(a e he).1
def aH.Ok.ms{x:hJ}(ok:S.Ok x):∀v∈[x.m.a,x.m.b,x.m.c,x.m.d],-1000000000<v/\v<1000000000:=by have e:=ok.inv.n2;have h:∀k,S.many k<=1048576:=λk=>jL mn e;have h0:=h 0;have U:=h 1;have f:=h 2;simp only[cR,jH,ji,C1,forall_eq,ok.sR,ok.mb,ok.sT,ok.md];omega
instance adm[h:Ow H (cj b) S H0]:Sc B H (ab P 308 #[pz b,D o] K) (1<=o/\S.br<1000000) (T B (cj b (S.take o)::H0) (K (.tuple #[D (if S.free=[]then 0 else S.du),D (if S.free=[]then 20 else 0)]))):=⟨by
 intro⟨m,E⟩ I;refine bh h.pl (an (RY _ _) ?_);repeat' first|apply J.go|refine Sa.go λ_=>?_|refine S2.go (λ_=>?_) λ_=>?_|done
 ·omega
 rename_i p _;refine aN (cj b) (pf λx ok=>?_);by_cases hf:S.free=[]
 ·have e:S.take o=S:=by unfold aH.take;rw[ah hf]
  rw[e,ah hf,ah hf]at I;have hd:S.free.dropLast=S.free:=by rw[hf];rfl
  repeat' first|apply J.go|refine S2.go (λ_=>?_) λ_=>?_|done
  ·rw[hd]
   exact af (hT x ok I)
  all_goals (exfalso;simp[hf]at*)
 ·obtain⟨aP,a,F,G⟩:=B3 ok hf
  obtain⟨c,L,M⟩:=aH.hQ aP;obtain⟨s,d⟩:=ok.row aP;rw[ak hf,ak hf]at I;have inv:=ok.inv;have t:S.free.getLast?.getD 0=S.du:=rfl;have u:0<S.free.length:=r1.2 hf;apply J.go;apply J.go;rw[t,cB u];repeat first|apply J.go|refine Sa.go λ_=>?_|refine Sc.go (by omega) ?_
  rw[aQ,aQ];simp only[bJ,mx];rename_i v;refine bL (q:=e3 x.rs) ?_;refine bL (q:=cl x.cb (x.rs.flatMap fh).toArray) ?_;refine bL (q:=cl b (lg S.cs.length S.size x)) ?_;refine bL (q:=cl v #[.pointer (some ⟨x.cb,S.du.toNat*6,none⟩)]) ?_;refine bL (q:=cl p #[pz b]) ?_;refine Z2 (r:=⟨S.at' S.du,s,none⟩) d inv.s1 inv.s2 λq=>?_;have w:jc (S.cs.map fm) S.du=true:=by simp only[jc,fe,bz];omega
  have f:fc (S.cs.map fm) S.du=fm (S.at' S.du):=by unfold fc;rw[List.getD,fo,c];rfl
  have g:u4 (S.cs.map fm) S.du o=0:=by have:=(inv.ph _ (cz c)).2.2.1 (by omega);unfold u4;rw[ah w,ak (by omega),f];exact ah this
  have y:xK (S.cs.map fm) S.du o=(S.cs.set S.du.toNat (pk S o (S.at' S.du))).map fm:=by unfold xK;rw[ah g,jh,f];rfl
  apply J.go;apply J.go;apply J.go;apply J.go;rw[g,y];apply J.go;apply J.go;repeat apply J.go
  have z:=(b0.1 d).1;refine aN (eC x.kb 4) (zJ λA C=>?_);have j:=sD (k:=0) A (λe he=>⟨C e he,ok.ev e he⟩) (by omega) (by omega:S.br<1000000000)
  refine yo (x:={x with rs:=x.rs.set S.du.toNat ⟨rh S.size (S.at' S.du),q,none⟩}) (n:=S.cs.length) (size:=S.size) (i:=S.du.toNat)
   (r:=⟨rh S.size (S.at' S.du),q,none⟩) ?_ ?_ ?_ ok.ms ?_ ?_
  ·simp[z]
  ·simp only;omega
  ·simp only[a];rfl
  ·simp only[a];exact j.1
  ·have e:S.take o=⟨S.size,S.cs.set S.du.toNat (pk S o (S.at' S.du)),S.free.dropLast,S.br+1⟩:=by unfold aH.take;rw[ak hf]
   have gf:=HV (q:=q) ok hf m j.2;rw[e]at I gf;have l:=hT _ gf I;simp only[hF,hg]at l;rw[YN (r:=⟨rh S.size (S.at' S.du),q,none⟩) (r':=⟨pk S o (S.at' S.du),q,none⟩) rfl];simp only[oV,a,vV];rw[BJ (r:=mM ⟨rh S.size (S.at' S.du),q,none⟩) (r':=⟨pk S o (S.at' S.du),q,none⟩) (by simp[a])];apply J.go;exact af l⟩
def aH.kk(S:aH)(i o:Int):Int:=if S.ok i then(if(S.at' i).ph=1/\(S.at' i).own=o then 0 else 18)else 2
abbrev oQ(c:bA):bA:=⟨2,0,c.gen,c.data⟩
def aH.defer(S:aH)(i o:Int):aH:=if S.kk i o=0 then⟨S.size,S.cs.set i.toNat (oQ (S.at' i)),S.free,S.br+1⟩else S
def Ey{x:hJ}(ok:S.Ok x)(hi:S.ok i=true)(a:(S.at' i).ph=1){q:Nat}{ev':aO}(b:∀e∈ev',e<=((S.br+1:Nat):Int)):aH.Ok ⟨S.size,S.cs.set i.toNat (oQ (S.at' i)),S.free,S.br+1⟩ {x with rs:=x.rs.set i.toNat ⟨oQ (S.at' i),q,none⟩,m:=x.m.mv 1,ev:=ev'}:=by
 obtain⟨I,d,f⟩:=aH.hQ hi;have hc:=ok.inv.ph _ (cz I);refine wk ok I ?_ (λj=>?_) ok.inv.nodup ?_ ?_ ?_ ?_ ?_ b
 ·refine⟨by simp,by simp,by simp,by simp,hc.2.2.2.2.1,?_,?_,hc.2.2.2.2.2.2.2⟩
  ·have:=hc.2.2.2.2.2.1;simp only;omega
  ·intro h;have:=hc.2.2.2.2.2.2.1 h;omega
 ·refine⟨λh=> .inl ⟨h,λe=>?_⟩,λh=>h.elim (λh=>h.1) λh=>absurd h.2 (by simp)⟩
  obtain⟨c,U,g,k⟩:=(ok.inv.free _).1 h;subst e;rw[a7,I]at U;cases U;omega
 ·simp[a]
 ·simp[a,M4.mv]
 ·simp[a,M4.mv]
 ·simp[a,M4.mv]
 ·exact ok.md
instance adh[h:Ow H (cj b) S H0]:Sc B H (ab P 360 #[pz b,D i,D o] K) (S.br<1000000) (T B (cj b (S.defer i o)::H0) (K (D (S.kk i o)))):=⟨by
 intro z I;refine bh h.pl (an (RS _ _ _) ?_);unfold aH.defer at I;refine yn (λt=>?_) λx q ok aP f A C=>?_
 ·have e:S.kk i o=2:=by unfold aH.kk;rw[t];rfl
  rw[e,ak (by omega)]at I;repeat first|apply J.go|refine bk (by with_reducible decide) ?_
  exact I
 ·have inv:=ok.inv
  obtain⟨l,_,_⟩:=aH.hQ aP;have m:jc (S.cs.map fm) i=true:=by simp only[jc,fe,bz];omega
  have g:fc (S.cs.map fm) i=fm (S.at' i):=by unfold fc;rw[List.getD,fo,l];rfl
  have hd:S.kk i o=if(S.at' i).ph=1/\(S.at' i).own=o then 0 else 18:=by unfold aH.kk;rw[ah aP]
  have j:s7 (S.cs.map fm) i=(S.at' i).own:=by unfold s7;rw[ah m,g];rfl
  repeat apply J.go
  apply oB hp f (by omega) rfl;repeat' first|apply J.go|refine S2.go (λ_=>?_) λ_=>?_|done
  ·rename_i U
   rw[ak (by rintro⟨a,_⟩;exact U (by simp only[a];rfl))]at hd;rw[hd,ak (by omega)]at I;exact af (hT x ok I)
  ·rename_i U a
   rw[j]at a;rw[ak (by rintro⟨_,d⟩;exact a d)]at hd;rw[hd,ak (by omega)]at I;exact af (hT x ok I)
  ·rename_i U a d
   rw[j]at a;have c:(S.at' i).ph=1:=by simp only at U;omega
   have:=(inv.ph _ (cz l)).2.2.2.1 c;refine absurd ?_ d;unfold uK;rw[ah m,g,ak (by show¬(S.at' i).own=0;omega)]
  ·rename_i U a d
   rw[j]at a;have c:(S.at' i).ph=1:=by simp only at U;omega
   have u:uK (S.cs.map fm) i=0:=d;rw[ah ⟨c,a⟩]at hd;rw[hd,ah rfl]at I
   have v:xp (S.cs.map fm) i=(S.cs.set i.toNat (oQ (S.at' i))).map fm:=by unfold xp;rw[ah u,jh,g];rfl
   rw[v];refine aN (eC x.kb 4) (zJ λw y=>?_);have p:=sD (k:=1) w (λe he=>⟨y e he,ok.ev e he⟩) (by omega) (by omega:S.br<1000000000);refine yo (x:=x) (n:=S.cs.length) (size:=S.size) (i:=i.toNat) (r:=⟨S.at' i,q,none⟩) f ?_ ?_ ok.ms ?_ ?_
   ·simp only;omega
   ·simp only[c];rfl
   ·simp only[c];exact p.1
   ·have gf:=Ey (q:=q) ok aP c p.2
    have s:=hT _ gf I;simp only[hF,hg]at s;simp only[oV,c];rw[BJ (r:=mM ⟨S.at' i,q,none⟩) (r':=⟨oQ (S.at' i),q,none⟩) (by simp[c])];rw[Hv (r:=⟨S.at' i,q,none⟩) (r':=⟨oQ (S.at' i),q,none⟩) f rfl];apply J.go;exact af s⟩
def vw(aP:S.ok i=true):jc (S.cs.map fm) i=true/\fc (S.cs.map fm) i=fm (S.at' i):=by obtain⟨a,h0,U⟩:=aH.hQ aP;exact⟨by simp only[jc,fe,bz];omega,by unfold fc;rw[List.getD,fo,a];rfl⟩
def WW(aP:S.ok i=true):s7 (S.cs.map fm) i=(S.at' i).own:=by unfold s7;rw[ah (vw aP).1,(vw aP).2];rfl
def Ah(aP:S.ok i=true):w8 (S.cs.map fm) i=(S.at' i).gen:=by unfold w8;rw[ah (vw aP).1,(vw aP).2];rfl
def Dk{rs:List fq}{k j:Nat}{r:fq}{v:Value}{p:HP}[h:bY B H b (rs.flatMap fh).toArray](ha:rs[k]?=some r)(a:j<6)(c:(fh r)[j]?=some v)(t:T B H p):T B H (dA (λσ=>cA σ (Addr.add ⟨b,k*6,none⟩ j)=some v) p):=by rw[aQ];exact nr (vn hp ha a c) t
abbrev dc(c:bA):aB:=[D c.ph,D c.own,D c.gen]
instance adg[h:Ow H (cj b) S H0]:J B H (ab P 84 #[pz b,D i] K) (T B (cj b S::H0) (K (.tuple #[.agg (dc (if S.ok i then S.at' i else bA.zero)).toArray,.bool (S.ok i)]))):=⟨by
 intro I;refine bh h.pl (an (RR _ _) ?_);refine Sa.go λ_=>?_;rename_i k;refine aN (cj b) (yn (λc=>?_) λx q ok aP a d e=>?_)
 ·rw[c]at I
  repeat first|apply J.go|refine bk (by with_reducible decide) ?_|refine Sc.go (by first|rfl|exact⟨rfl,rfl⟩) ?_
  exact af I
 ·rw[aP]at I
  repeat apply J.go
  apply qR hp a (by omega) rfl;repeat apply J.go
  apply Dk a (by omega) rfl;repeat apply J.go
  apply Dk a (by omega) rfl;rw[WW aP,Ah aP];repeat refine Sc.go (by first|rfl|exact⟨rfl,rfl⟩) ?_
  exact af (hT x ok I)⟩
def aH.jt(S:aH)(i g:Int):Int:=if S.ok i then(if(S.at' i).ph=1/\(S.at' i).gen=g then 0 else 4)else 2
def HL(c:S.jt i g≠0->T B (cj b S::H) (K (.tuple #[.pointer none,D (S.jt i g)])))(j:∀x q d,S.Ok x->S.ok i=true->x.rs[i.toNat]?=some ⟨S.at' i,q,none⟩->(S.at' i).data=some d->S.jt i g=0->T B (hF b S x H) (K (.tuple #[pz q,D 0]))):T B (cj b S::H) (ab P 296 #[pz b,D i,D g] K):=by
 refine an (R4 _ _ _) (yn (λk=>?_) λx q ok aP f n o=>?_)
 ·have e:S.jt i g=2:=by unfold aH.jt;rw[k];rfl
  rw[e]at c;repeat first|apply J.go|refine bk (by with_reducible decide) ?_
  exact c (by omega)
 ·have hd:S.jt i g=if(S.at' i).ph=1/\(S.at' i).gen=g then 0 else 4:=by unfold aH.jt;rw[ah aP]
  repeat apply J.go
  apply oB hp f (by omega) rfl;repeat' first|apply J.go|refine S2.go (λ_=>?_) λ_=>?_|done
  ·rename_i U
   rw[ak (by rintro⟨a,_⟩;exact U (by simp only[a];rfl))]at hd;rw[hd]at c;exact af (hT x ok (c (by omega)))
  ·rename_i U a
   rw[Ah aP]at a;rw[ak (by rintro⟨_,l⟩;exact a l)]at hd;rw[hd]at c;exact af (hT x ok (c (by omega)))
  ·rename_i U a
   rw[Ah aP]at a;have m:(S.at' i).ph=1:=by simp only at U;omega
   rw[ah ⟨m,a⟩]at hd;have hc:=ok.inv.ph _ (cz (aH.hQ aP).1)
   cases h:(S.at' i).data with
   |none=>have:=hc.2.2.2.2.2.2.1 h;omega
   |some d=>exact wt hp f (by omega) (by simp[h]) (af (j x q d ok aP f h hd))
def aH.q7(S:aH)(i:Int):List UInt8:=(S.at' i).data.getD []
def aH.uO(S:aH)(i g a m:Int):Int:=if S.jt i g=0 then iu (S.q7 i).length a m else S.jt i g
def aH.loadT(S:aH)(i g a m:Int):List UInt8:=if S.jt i g=0 then xu (S.q7 i) a m else[]
instance adi{a m:Int}[h:Ow H (cj b) S H0]:J B H (ab P 200 #[pz b,D i,D g,D a,D m] K) (T B (cj b S::H0) (K (.tuple #[.string ⟨(S.loadT i g a m).toArray⟩,D (S.uO i g a m)]))):=⟨by
 intro I;refine bh h.pl (an (RT _ _ _ _ _) ?_);unfold aH.uO aH.loadT at I;refine HL (λc=>?_) λx q d ok aP e f hl=>?_
 ·rw[ak c,ak c]at I
  repeat' first|apply J.go|refine S2.go (λ_=>?_) λ_=>?_|done
  ·exact I
  ·rename_i h;exact absurd h c
 ·rw[ah hl,ah hl,show S.q7 i=d by unfold aH.q7;rw[f];rfl]at I
  repeat apply J.go
  refine aN e3 (zE e f (La ?_));refine J.go (aN e3 (bh (.tail .head) (wK (b0.1 e).1 f ?_)));rw[<-Hv e rfl];exact af (hT x ok I)⟩
def h6(c:bA):(dc c).length=3:=rfl
def abg:zc P 83=(dc bA.zero).toArray:=by kernel_rfl
def Tc:P.cellsOf 83=3:=by kernel_rfl
def K7:P.bytesOf 83=24:=by kernel_rfl
instance adf[h:Ow H (cj b) S H0]:Sa B H (ab P 38 #[pz b] K) (λq:Nat=>T B (cj b S::ai 3 (some ⟨q,0,none⟩) S.cs.length S.cs.length (S.cs.flatMap dc)::H0) (K (.slice (some ⟨q,0,none⟩) S.cs.length S.cs.length))):=⟨by
 intro I;refine bh h.pl (an (RP _) ?_);repeat apply J.go
 refine aN (cj b) (pf λx ok=>?_);have n2:=ok.inv.n2;refine J.go (hT x ok ?_);refine gC (by omega) (by omega) (by omega) (by rw[K7];omega) (by kernel_rfl) (by kernel_rfl) λq=>?_;rw[Tc,abg,a7,qo (f:=dc) (s:=3) bA.zero rfl (by omega)];refine cF S.cs.length (by omega) (λk H'=>H'=cl q ((S.cs.take k++List.replicate (S.cs.length-k) bA.zero).flatMap dc).toArray::cj b S::H0) (by simp) ?_;rintro k H' R d rfl a;repeat' first|apply J.go|refine S2.go (λ_=>?_) λ_=>?_|refine Sc.go (by omega) ?_|done
 ·have c:k<S.cs.length:=by omega
  have aP:S.ok (k:Int)=true:=by simp only[aH.ok,bz];omega
  rw[ah aP,aQ,a7,bJ];refine bh (.tail .head) ?_;apply JY h6 (by simp;omega) rfl;apply a c _
  have e:(S.cs.take k++List.replicate (S.cs.length-k) bA.zero).set k (S.at' k)=S.cs.take (k+1)++List.replicate (S.cs.length-(k+1)) bA.zero:=by rw[pD _ _ (by rw[ff];omega),ff,show k-min k S.cs.length=0 by omega,show S.cs.length-k=(S.cs.length-(k+1))+1 by omega,r4,jJ,List.take_add_one,er];have U:=(aH.hQ aP).1;rw[a7]at U;rw[U];rfl
  rw[e]
 ·have he:k=S.cs.length:=by omega
  subst he;simp only[gA,lF,tP,je];refine kf (l:=S.cs.length) 3 (by simp[dr h6]) ?_;exact af (I q)⟩
instance adk[h:Ow H (cj b) S H0]:J B H (ab P 140 #[pz b] K) (T B (cj b S::H0) (K (D S.size))):=⟨by
 intro I;refine bh h.pl (pf λx ok=>an (RV _) ?_);repeat apply J.go
 exact af (hT x ok I)⟩
instance adj[h:Ow H (cj b) S H0]:J B H (ab P 204 #[pz b] K) (T B (cj b S::H0) (K (.agg #[D (S.many 0),D (S.many 1),D (S.many 2),D 0]))):=⟨by
 intro I;refine bh h.pl (pf λx ok=>an (RU _) ?_);rw[<-ok.sR,<-ok.mb,<-ok.sT]at I;have hd:=ok.md;repeat first|apply J.go|refine Sa.go λ_=>?_
 unfold jX;rw[cT,aQ,bJ];refine iS #[D x.m.a,D x.m.b,D x.m.c,D x.m.d] rfl (λj e=>?_) ?_
 ·obtain rfl|rfl|rfl|rfl:j=0\/j=1\/j=2\/j=3:=by omega
  all_goals rfl
 ·repeat refine Sc.go (by first|rfl|exact⟨rfl,rfl⟩) ?_
  rw[hd];exact af (hT x ok I)⟩
def abb:zc P 317=(fh ⟨bA.zero,0,none⟩).toArray:=by kernel_rfl
def S6:P.cellsOf 317=6:=by kernel_rfl
def K1:P.bytesOf 317=40:=by kernel_rfl
def aH.new(n size:Nat):aH:=⟨size,List.replicate n bA.zero,ht n 0,0⟩
def uV{size:Nat}{tb fb cb kb:Nat}(U:1<=n)(d:n<=1048576)(f:64<=size)(g:size<=1048576)(nd:(ht n 0).Nodup):(aH.new n size).Ok ⟨tb,fb,cb,kb,List.replicate n ⟨bA.zero,0,none⟩,List.replicate 4 0,⟨n,0,0,0⟩⟩:=by
 have hz:∀k,(aH.new n size).many k=if k=0 then n else 0:=λk=>by
  simp only[aH.many,aH.new,IF,bA.zero];by_cases e:k=0
  ·subst e;simp
  ·rw[ak (by simp;omega),ak e]
 have hlen:(ht n 0).length=n:=by simp[ht]
 refine⟨by simp[aH.new],λr hr=>by rw[lz hr],by simp[hz],by simp[hz],by simp[hz],rfl,λe he=>by rw[lz he];simp[aH.new],?_⟩;refine⟨by simpa[aH.new]using U,by simpa[aH.new]using d,f,g,λc hc=>?_,λj=>?_,nd,by rw[hz,ah rfl];exact hlen⟩
 ·rw[lz hc];simp[bA.zero,aH.new]
 ·show j∈ht n 0↔_
  rw[z1];simp only[aH.new];constructor
  ·rintro⟨a,b⟩
   exact⟨bA.zero,by rw[r0,ah (by omega)],by omega,rfl⟩
  ·rintro⟨c,a,b,_⟩
   rw[r0]at a;split at a
   ·omega
   ·cases a
instance :Sx B H (ab P 137 #[D n] K) (n<=1048576) (λq=>T B (gY q (List.replicate n (0,0))::H) (K (pz q))):=⟨λh t=>Z' h t⟩
instance :Sx B H (ab P 138 #[D n] K) (n<=1048576) (λq=>T B (fI q n (ht n 0)::H) (K (pz q))):=⟨λh t=>Ut h t⟩
instance :Sa B H (ab P 139 #[D 4] K) (λq=>T B (eC q 4 (List.replicate 4 0)::H) (K (pz q))):=⟨λt=>Et (n:=4) (by omega) (by omega) t⟩
instance {f:Nat->HP}:Sx B H (c7 P 317 n n f) (n<=1048576) (λq=>T B (cl q ((List.replicate n ⟨bA.zero,0,none⟩).flatMap fh).toArray::H) (f q)):=⟨λh t=>by refine gC (by omega) (by omega) (by omega) (by rw[K1];omega) (by kernel_rfl) (by kernel_rfl) λq=>?_;rw[S6,abb,a7,qo (f:=fh) (s:=6) _ rfl (by omega)];exact t q⟩
def oW(c z:Int):Bool:=decide (1<=c/\c<=1048576/\64<=z/\z<=1048576)&&nT z
def ZZ{c z:Int}(f:oW c z=false->T B H (K (.tuple #[.pointer none,D 2])))(k:∀n m q:Nat,c=n->z=m->1<=n->n<=1048576->64<=m->m<=1048576->nT z=true->T B (cj q (aH.new n m)::H) (K (.tuple #[pz q,D 0]))):T B H (ab P 75 #[D c,D z] K):=by
 apply an (RO _ _);repeat' first|apply J.go|refine S2.go (λ_=>?_) λ_=>?_|done
 ·exact f (by simp[oW];omega)
 ·exact f (by simp[oW];omega)
 ·exact f (by simp[oW];omega)
 ·exact f (by simp[oW];omega)
 ·refine Sc.go (by unfold aF;omega) ?_
  refine J.go (S2.go (λg=>?_) λg=>?_)
  ·exact f (by simp[oW,g])
  obtain⟨n,rfl⟩:∃n:Nat,c=n:=⟨c.toNat,by omega⟩;obtain⟨m,rfl⟩:∃m:Nat,z=m:=⟨z.toNat,by omega⟩;have U:1<=n:=by omega
  have h:n<=1048576:=by omega
  have i:64<=m:=by omega
  have j:m<=1048576:=by omega
  have fin:∀tb fb cb kb q,T B (cl q #[pz tb,pz fb,.slice (some ⟨cb,0,none⟩) n n,D m,D n,D 0,D 0,D 0,pz kb]::
    gY tb (List.replicate n (0,0))::fI fb n (ht n 0)::cl cb ((List.replicate n ⟨bA.zero,0,none⟩).flatMap fh).toArray::eC kb 4 (List.replicate 4 0)::H) (K (.tuple #[pz q,D 0])):=λtb fb cb kb q=>by
   refine aN (fI fb n) (uB λnd _ _=>?_);have:=hT _ (uV (tb:=tb) (fb:=fb) (cb:=cb) (kb:=kb) U h i j nd) (k n m q rfl rfl U h i j g);refine jQ (Hs:=[]) ?_;simp only[hF,aH.new,jG,List.map_replicate,fm,bA.zero]at this;rw[show(⟨⟨0,0,0,none⟩,0,none⟩:fq)=⟨bA.zero,0,none⟩from rfl]at this
   have e:e3 (List.replicate n ⟨bA.zero,0,none⟩)=eG []:=by unfold e3;rw[show(List.replicate n (⟨bA.zero,0,none⟩:fq)).filterMap lQ=[] by rw[List.filterMap_eq_nil_iff];intro r hr;rw[lz hr];rfl]
   rw[e]at this;exact af this
  refine J.go (J.go ?_);simp only[a7];refine fO ?_ ?_
  ·repeat first|apply J.go|refine Sx.go (by omega) λ_=>?_
   refine fO ?_ ?_
   ·repeat first|apply J.go|refine Sx.go (by omega) λ_=>?_
    refine fO ?_ ?_
    ·repeat first|apply J.go|refine Sa.go λ_=>?_|refine Sc.go (by omega) ?_|refine Sx.go (by omega) λ_=>?_
     rename_i a b c d e;exact af (fin a b c d e)
    ·repeat first|apply J.go|refine Sa.go λ_=>?_|refine Sc.go (by omega) ?_|refine Sx.go (by omega) λ_=>?_
     rename_i a b c d e;exact af (fin a b d c e)
   ·repeat first|apply J.go|refine Sa.go λ_=>?_|refine Sc.go (by omega) ?_|refine Sx.go (by omega) λ_=>?_
    rename_i a b c d e;exact af (fin a c b d e)
  ·repeat first|apply J.go|refine Sa.go λ_=>?_|refine Sc.go (by omega) ?_|refine Sx.go (by omega) λ_=>?_
   rename_i a b c d e;exact af (fin b c a d e)
end
end
section
def aH.gh(S:aH)(i g a:Int)(t:List UInt8):Int:=if S.jt i g=0 then iu (S.q7 i).length a t.length else S.jt i g
abbrev l6(c:bA)(a:Int)(t:List UInt8):bA:=⟨c.ph,c.own,c.gen,some (stored (c.data.getD []) a t)⟩
def aH.put(S:aH)(i g a:Int)(t:List UInt8):aH:=if S.jt i g=0 then⟨S.size,S.cs.set i.toNat (l6 (S.at' i) a t),S.free,S.br+1⟩else S
section
variable {B:Heap}{H H0:au}{K:aK}{b n:Nat}{S:aH}{i o g:Int}
instance adl{a:Int}{t:List UInt8}[h:Ow H (cj b) S H0]:J B H (ab P 199 #[pz b,D i,D g,D a,.string ⟨t.toArray⟩] K) (T B (cj b (S.put i g a t)::H0) (K (D (S.gh i g a t)))):=⟨by
 intro I;refine bh h.pl (an (RX _ _ _ _ _) ?_);unfold aH.put aH.gh at I;refine HL (λl=>?_) λx q d ok aP n f hl=>?_
 ·rw[ak l,ak l]at I
  repeat' first|apply J.go|refine S2.go (λ_=>?_) λ_=>?_|done
  ·exact I
  ·rename_i h;exact absurd h l
 ·rw[ah hl,ah hl,show S.q7 i=d by unfold aH.q7;rw[f];rfl]at I
  obtain⟨k,F,G⟩:=aH.hQ aP;have hc:=ok.inv.ph _ (cz k);repeat apply J.go
  refine aN e3 (zE n f (Lc ?_));apply J.go;have p:l6 (S.at' i) a t=⟨(S.at' i).ph,(S.at' i).own,(S.at' i).gen,some (stored d a t)⟩:=by unfold l6;rw[f];rfl
  refine aN e3 (bh (.tail .head) (wK (r:=⟨l6 (S.at' i) a t,q,none⟩) (b0.1 n).1 (by rw[p]) ?_))
  have gf:aH.Ok ⟨S.size,S.cs.set i.toNat (l6 (S.at' i) a t),S.free,S.br+1⟩ {x with rs:=x.rs.set i.toNat ⟨l6 (S.at' i) a t,q,none⟩,m:=x.m,ev:=x.ev}:=by
   refine wk ok k ?_ (λj=>?_) ok.inv.nodup ?_ ?_ ?_ ?_ ok.md ?_
   ·refine⟨hc.1,hc.2.1,hc.2.2.1,hc.2.2.2.1,hc.2.2.2.2.1,?_,by simp,?_⟩
    ·have:=hc.2.2.2.2.2.1;simp only;omega
    ·rintro y s
     cases s;rw[Z4,f];exact hc.2.2.2.2.2.2.2 d f
   ·constructor
    ·intro h
     by_cases e:j=(i.toNat:Int)
     ·refine .inr ⟨e,?_⟩
      obtain⟨c,U,L,u⟩:=(ok.inv.free _).1 h;subst e;rw[a7,k]at U;cases U;exact u
     ·exact .inl ⟨h,e⟩
    ·rintro(⟨h,_⟩|⟨rfl,h⟩)
     ·exact h
     ·exact(ok.inv.free _).2 ⟨S.at' i,by rw[a7];exact k,by omega,h⟩
   ·rfl
   ·rfl
   ·rfl
   ·rfl
   ·intro e he;have:=ok.ev e he;omega
  have o:=hT _ gf I;simp only[hF,hg]at o
  have v:(x.rs.set i.toNat ⟨l6 (S.at' i) a t,q,none⟩).flatMap fh=x.rs.flatMap fh:=by obtain⟨A,C,M,w,z⟩:=Hf n;rw[z,w,p];simp[f]
  have E:(S.cs.set i.toNat (l6 (S.at' i) a t)).map fm=S.cs.map fm:=by
   rw[jh];apply jf;intro j;rw[kE];split
   ·rename_i e;subst e
    rw[fo,k,ah (by rw[fe];omega)];rfl
   ·rfl
  rw[v,E]at o;exact af o⟩
end
abbrev pv(c:bA):bA:=⟨3,c.own,c.gen,c.data⟩
abbrev pX(S:aH)(c:bA):bA:=⟨0,0,c.gen+1,some (List.replicate S.size 0)⟩
def aH.fX(S:aH)(i:Int):aH:=⟨S.size,S.cs.set i.toNat (pX S (S.at' i)),S.free++[i],S.br+1⟩
structure qV where
 x:hJ
 q:Nat
 w:Nat
 d:List UInt8
abbrev yD(b:Nat)(S:aH)(i:Int)(pl:Nat)(y:qV)(H:au):au:=
 cl b (lg S.cs.length S.size {y.x with m:=y.x.m.mv 2})::gY y.x.tb (S.cs.map fm)::fI y.x.fb S.cs.length S.free::cl y.x.cb ((y.x.rs.set i.toNat ⟨pv (S.at' i),y.q,some ⟨y.w,0,none⟩⟩).flatMap fh).toArray::
  ey y.q y.d::e3 (y.x.rs.set i.toNat ⟨bA.zero,0,none⟩)::cl y.w (wS y.q pl)::eC y.x.kb 4 (fG y.x.ev 2 1)::H
structure qV.Ok(S:aH)(i:Int)(pl:Nat)(y:qV):Prop where
 ok:S.Ok y.x
 aP:S.ok i=true
 row:y.x.rs[i.toNat]?=some ⟨S.at' i,y.q,none⟩
 ph:(S.at' i).ph=2
 len:y.d.length=S.size
 ple:pl<=S.size
 zs:∀j,j<pl->y.d[j]?=some 0
 re:y.x.ev.length=4/\∀e∈y.x.ev,0<=e
 clk:S.br<1000000
def tx(b:Nat)(S:aH)(i:Int)(pl:Nat):bg:=BD (qV.Ok S i pl) (yD b S i pl)
section
variable {B:Heap}{H H0:au}{K:aK}{b n pl:Nat}{S:aH}{i o g:Int}
def Im{q:HP}(t:∀y,qV.Ok S i pl y->T B (yD b S i pl y H) q):T B (tx b S i pl::H) q:=mz (λ_ _=>rfl) t
def Cl{q:HP}(y:qV)(h:qV.Ok S i pl y)(t:T B (tx b S i pl::H) q):T B (yD b S i pl y H) q:=my y h (λ_ _=>rfl) t
def ZY(aP:S.ok i=true)(a:(S.at' i).ph=2)(p:S.br<1000000)(I:T B (tx b S i 0::H) (K (D 0))):T B (cj b S::H) (ab P 407 #[pz b,D i] K):=by
 refine an (RQ _ _) (yn (λg=>?_) λx q ok _ c y z=>?_)
 ·rw[aP]at g;cases g
 repeat apply J.go
 obtain⟨t,_,_⟩:=aH.hQ aP;have hc:=ok.inv.ph _ (cz t)
 obtain⟨d,f⟩:∃d,(S.at' i).data=some d:=by
  cases h:(S.at' i).data with
  |none=>have:=hc.2.2.2.2.2.2.1 h;omega
  |some d=>exact⟨d,rfl⟩
 have u:=(b0.1 c).1;refine aN (eC x.kb 4) (zJ λl m=>?_);have v:=sD (k:=2) l (λe he=>⟨m e he,ok.ev e he⟩) (by omega) (by omega:S.br<1000000000);refine yo (x:=x) (n:=S.cs.length) (size:=S.size) (i:=i.toNat) (r:=⟨S.at' i,q,none⟩) c ?_ ?_ ok.ms ?_ ?_
 ·simp only;omega
 ·simp only[a];rfl
 ·simp only[a];exact v.1
 ·repeat apply J.go
  have o:(x.rs.set i.toNat (mM ⟨S.at' i,q,none⟩))[i.toNat]?=some (mM ⟨S.at' i,q,none⟩):=by simp[u]
  refine wt (s:=6) (j:=4) hp o (by omega) (by simp[f]) (aN e3 (zE c f (YB λw=>?_)));refine J.go (nt (s:=6) (a':=⟨pv (S.at' i),q,some ⟨w,0,none⟩⟩) hp o (by omega) rfl (by simp[a]) ?_);rw[vV];simp only[a,oV];have:=Cl ⟨x,q,w,d⟩ ⟨ok,aP,c,a,hc.2.2.2.2.2.2.2 d f,qK _,by simp,⟨l,m⟩,p⟩ I;simp only[yD]at this;exact af this
def Ii{x:hJ}(ok:S.Ok x)(aP:S.ok i=true)(b:(S.at' i).ph=2){q:Nat}{ev':aO}(g:∀e∈ev',e<=((S.br+1:Nat):Int)):(S.fX i).Ok {x with rs:=x.rs.set i.toNat ⟨pX S (S.at' i),q,none⟩,m:=(x.m.mv 2).mv 3,ev:=ev'}:=by
 obtain⟨f,k,l⟩:=aH.hQ aP;have hc:=ok.inv.ph _ (cz f)
 have hy:i∉S.free:=λh=>by obtain⟨c,U,n,o⟩:=(ok.inv.free _).1 h;rw[f]at U;cases U;omega
 refine wk ok f ?_ (λj=>?_) ?_ ?_ ?_ ?_ ?_ ?_ g
 ·refine⟨by simp,by simp,by simp,by simp,?_,?_,by simp,?_⟩
  ·have:=hc.2.2.2.2.1;simp only;omega
  ·have:=hc.2.2.2.2.2.1;simp only;omega
  ·rintro d ⟨⟩;simp
 ·rw[rX k,dL,fB]
  constructor
  ·rintro(h|rfl)
   ·exact .inl ⟨h,λe=>hy (e▸h)⟩
   ·exact .inr ⟨rfl,rfl⟩
  ·rintro(h|h)
   ·exact .inl h.1
   ·exact .inr h.1
 ·rw[dZ]
  exact⟨ok.inv.nodup,by simp,λa ha c hc=>by rw[fB]at hc;subst hc;exact λe=>hy (e▸ha)⟩
 ·simp[b]
 ·simp[b,M4.mv]
 ·simp[b,M4.mv]
 ·simp[b,M4.mv]
 ·have:=ok.md;simp[M4.mv];omega
def Lg{xs:aO}{k:Int}{c:Nat}(hl:xs.length=4)(h0:∀e∈xs,0<=e)(h:∀e∈xs,e<=(c:Int))(I:0<=k/\k<4)(hc:c<1000000):(fG xs k 1).length=4/\∀e∈fG xs k 1,0<=e:=by
 obtain⟨a,d⟩:=sD hl (λe he=>⟨h0 e he,h e he⟩) I (by omega:c<1000000000);unfold fG;rw[ah a];refine⟨by simpa using hl,λe he=>?_⟩;rcases j5 he with U|rfl
 ·exact h0 e U
 ·have:0<=hq xs k:=by
   unfold hq;split
   ·rw[List.getD]
    cases b:xs[k.toNat]? with
    |none=>simp
    |some e=>simpa using h0 e (cz b)
   ·omega
  omega
def aH.Ok.V9{x:hJ}(ok:S.Ok x):(0<=x.m.a/\x.m.a<=1048576)/\(0<=x.m.b/\x.m.b<=1048576)/\(0<=x.m.c/\x.m.c<=1048576)/\x.m.d=0:=by have e:=ok.inv.n2;have h:∀k,S.many k<=1048576:=λk=>jL mn e;have h0:=h 0;have U:=h 1;have f:=h 2;rw[ok.sR,ok.mb,ok.sT,ok.md];omega
def T1{xs:aO}{c:Nat}(hl:xs.length=4)(h:∀e∈xs,0<=e/\e<=(c:Int))(hc:c<1000000):iq (fG xs 2 1) 3 1=0/\∀e∈fG (fG xs 2 1) 3 1,e<=((c+1:Nat):Int):=by
 obtain⟨d,a⟩:=sD (k:=2) hl h (by omega) (by omega:c<1000000000);obtain⟨l1,l2⟩:=Lg (k:=2) hl (λe he=>(h e he).1) (λe he=>(h e he).2) (by omega) hc;obtain⟨b,g⟩:=sD (k:=3) l1 (λe he=>⟨l2 e he,a e he⟩) (by omega) (by omega);refine⟨b,λe he=>?_⟩
 have i:hq (fG xs 2 1) 3=hq xs 3:=by unfold fG;rw[ah d];simp[hq]
 have j:hq xs 3<=(c:Int):=by
  unfold hq;rw[ah (by omega),List.getD]
  cases f:xs[(3:Int).toNat]? with
  |none=>simp
  |some e=>have:=h e (cz f);simpa using this.2
 unfold fG at he;rw[ah (show iq (if iq xs 2 1=0 then xs.set (Int.toNat 2) (hq xs 2+1)else xs) 3 1=0 from b)]at he;rcases j5 he with U|U
 ·exact a e U
 ·have U:e=hq (fG xs 2 1) 3+1:=U
  omega
def Z0(Z:pl<S.size)(I:∀pl',pl<pl'->pl'<S.size->T B (tx b S i pl'::H) (K (.tuple #[.bool false,D 0])))(L:T B (cj b (S.fX i)::H) (K (.tuple #[.bool true,D 0]))):T B (tx b S i pl::H) (ab P 408 #[pz b,D i,D 64] K):=by
 refine Im λy M=>an (RW _ _ _) ?_;obtain⟨x,q,w,d⟩:=y;obtain⟨ok,aP,f,o,hlen,aa,p,⟨g,k⟩,t⟩:=M;obtain⟨u,v,z⟩:=aH.hQ aP;have hc:=ok.inv.ph _ (cz u);have ac:=ok.inv.s2;simp only at ok f hlen p g k
 obtain⟨d0,N⟩:∃d,(S.at' i).data=some d:=by
  cases h:(S.at' i).data with
  |none=>have:=hc.2.2.2.2.2.2.1 h;omega
  |some d=>exact⟨d,rfl⟩
 change T B (cl b (lg S.cs.length S.size {x with m:=x.m.mv 2})::gY x.tb (S.cs.map fm)::fI x.fb S.cs.length S.free::cl x.cb ((x.rs.set i.toNat ⟨pv (S.at' i),q,some ⟨w,0,none⟩⟩).flatMap fh).toArray::
  ey q d::e3 (x.rs.set i.toNat ⟨bA.zero,0,none⟩)::cl w (wS q pl)::eC x.kb 4 (fG x.ev 2 1)::H) _
 apply HK v z;have l:=(b0.1 f).1;have a:(x.rs.set i.toNat ⟨pv (S.at' i),q,some ⟨w,0,none⟩⟩)[i.toNat]?=some ⟨pv (S.at' i),q,some ⟨w,0,none⟩⟩:=by simp[l]
 repeat first|apply J.go|refine aD (by with_reducible decide) ?_
 refine oB hp a (by omega) rfl (S2.go (λ_=>?_) λ_=>?_)
 ·rename_i h;exact absurd rfl h
 apply wt (s:=6) (j:=5) hp a (by omega) rfl;refine aN (ey q) (bL (q:=cl w (wS q pl)) (YD (by omega) (by omega) ?_));have O:stepOf (d.length-pl) 64<=d.length-pl:=HI (by omega);have Q:1<=stepOf (d.length-pl) 64:=by unfold stepOf;split<;>omega
 generalize hm:stepOf (d.length-pl) 64=m at O Q⊢;have ad:(bN d pl (List.replicate m 0)).length=d.length:=tv (by simp;omega);repeat apply J.go
 refine wt (s:=6) (j:=5) hp a (by omega) rfl (YC (by omega) ?_)
 have A:∀j,j<pl+m->(bN d pl (List.replicate m 0))[j]?=some 0:=λj R=>by
  rw[Cc (by simp;omega)];simp only[jG];by_cases h:pl<=j
  ·rw[ah ⟨h,R⟩,r0,ah (by omega)]
  ·rw[ak (by omega)];exact p j (by omega)
 repeat' first|apply J.go|refine S2.go (λ_=>?_) λ_=>?_|done
 ·rename_i ae
  have:=Cl ⟨x,q,w,bN d pl (List.replicate m 0)⟩ ⟨ok,aP,f,o,by simp only;omega,by omega,A,⟨g,k⟩,t⟩ (I (pl+m) (by omega) (by omega));exact af this
 ·rename_i hd
  have V:bN d pl (List.replicate m 0)=List.replicate S.size 0:=by
   apply jf;intro j;by_cases h:j<S.size
   ·rw[A j (by omega),r0,ah h]
   ·rw[jg (by omega),jg (by simp;omega)]
  rw[V];apply nt (s:=6) (a':=⟨pv (S.at' i),q,none⟩) hp a (by omega) rfl rfl;rw[vV];obtain⟨W,C⟩:=vw aP;have E:(S.at' i).own=0:=hc.2.2.1 (by omega);have ag:=hc.2.2.2.2.1;have ai:=hc.2.2.2.2.2.1
  have F:vf (S.cs.map fm) i=0:=by unfold vf;rw[ah W,C,ah (show(fm (S.at' i)).1=0 from E),ak (show¬(fm (S.at' i)).2>=1048575 by show¬(S.at' i).gen>=1048575;omega)]
  have X:x5 (S.cs.map fm) i=(S.cs.set i.toNat (pX S (S.at' i))).map fm:=by unfold x5;rw[ah F,jh,C];congr 1;show((S.at' i).own,IntKind.wrap .i64 ((S.at' i).gen+1))=(0,(S.at' i).gen+1);rw[E,bd (by omega)]
  have hy:i∉S.free:=λh=>by obtain⟨c,U,aj,al⟩:=(ok.inv.free _).1 h;rw[u]at U;cases U;omega
  have Y:l5 S.cs.length S.free i=S.free++[i]:=by unfold l5;rw[ah];unfold jy;refine cB ⟨v,z,?_⟩;have:=GQ (xs:=S.free) (x:=i);rw[cD hy]at this;simpa using this
  repeat' first|apply J.go|refine S2.go (λ_=>?_) λ_=>?_|done
  ·rename_i h;exact absurd F h
  rw[X];rw[Y];obtain⟨v1,v2⟩:=T1 g (λe he=>⟨k e he,ok.ev e he⟩) t;obtain⟨sR,mb,sT,md⟩:=ok.V9;refine yo (x:={x with m:=x.m.mv 2,rs:=x.rs.set i.toNat ⟨pv (S.at' i),q,none⟩,ev:=fG x.ev 2 1}) (n:=S.cs.length) (size:=S.size) (i:=i.toNat) (r:=⟨pv (S.at' i),q,none⟩) ?_ ?_ ?_ ?_ ?_ ?_
  ·simp[l]
  ·simp
  ·rfl
  ·simp only[M4.mv,cR,jH,ji,C1,forall_eq]
   omega
  ·exact v1
  apply J.go;have G:=hT _ (Ii (q:=q) ok aP o v2) L;simp only[hF,aH.fX,hg]at G;refine aN (ey q) (aN e3 (cq (cy _ _ _) (wK (r:=⟨pX S (S.at' i),q,none⟩) l rfl ?_)));simp only[oV,vV];rw[BJ (r:=mM ⟨pv (S.at' i),q,none⟩) (r':=⟨pX S (S.at' i),q,none⟩) (by simp[N])];exact af G
end
end
section
structure Rec where
 line:ea
 gw:Nat
 dx:Int
structure tX where
 tb:Nat
 lb:Nat
 mb:Nat
 kb:Nat
 xs:aO
 wm:Wm
 f:Int
abbrev vg(b sb:Nat)(R:Rec)(x:tX)(H:au):au:=
 cl b #[pz x.tb,pz sb,pz x.lb,pz x.mb,pz x.kb,D R.gw]::
  e2 x.tb x.xs::hB x.lb R.line::cl x.mb (gi x.wm)::eC x.kb 2 [R.dx,x.f]::H
structure Rec.Ok(R:Rec)(x:tX):Prop where
 gw:1<=R.gw/\R.gw<=1048576
 xs:x.xs.length=64
 nn:∀y∈x.xs,0<=y/\y<=9223372036854775807
def dC(b sb:Nat)(R:Rec):bg:=BD R.Ok (vg b sb R)
section
variable {B:Heap}{H H0 Ha:au}{K:aK}{b sb n:Nat}{R:Rec}{S:aH}{i o g:Int}
def qn{q:HP}(t:∀x,R.Ok x->T B (vg b sb R x H) q):T B (dC b sb R::H) q:=mz (λ_ _=>rfl) t
def mZ{q:HP}(x:tX)(h:R.Ok x)(t:T B (dC b sb R::H) q):T B (vg b sb R x H) q:=my x h (λ_ _=>rfl) t
instance acF[h:Ow H (dC b sb) R H0]:J B H (ab P 81 #[pz b] K) (T B (dC b sb R::H0) (K (.bool true))):=⟨by
 intro I;refine bh h.pl (qn λx ok=>an (Py _) ?_);repeat apply J.go
 exact af (mZ x ok I)⟩
def XD{cs:ax}[k:bY B H b cs](ha:cs[1]?=some (pz sb))(aP:S.ok i=true)(c:(S.at' i).ph=2)(d:S.br<1000000)(I:T B (cj sb (S.fX i)::H) (K (D 0))):T B (cj sb S::H) (ab P 367 #[pz b,D i] K):=by
 apply an (PA _ _)
 have ld:∀{q:bg} {f:aw->HP},T B (q::H) (f (some ⟨sb,0,none⟩))->T B (q::H) (bc (some ⟨b,0,none⟩) 1 f):=λt=>by unfold bc;rw[cT,aQ];exact ke ha t
 refine ld (ZY aP c d ?_);repeat apply J.go
 refine Im λy a=>Cl y a ?_;have e:0<S.size:=by have:=a.ok.inv.s1;omega
 refine uc (λm H'=>∃pl,pl<S.size/\m=S.size-pl/\H'=tx sb S i pl::H) S.size ⟨0,e,rfl,rfl⟩ ?_;rintro m H' R ⟨pl,g,rfl,rfl⟩ h;refine ld (Z0 g (λpl' U j=>?_) ?_)
 ·repeat apply J.go
  exact h (S.size-pl') _ (by omega) ⟨pl',j,rfl,rfl⟩
 ·repeat apply J.go
  exact I
instance :Sa B H (ab P 141 #[D 64] K) (λb=>T B (e2 b (List.replicate 64 0)::H) (K (pz b))):=⟨λt=>aao (n:=64) (by omega) t⟩
instance :Sx B H (ab P 142 #[D n] K) (n<=1048576) (λb=>T B (hB b ⟨n,[],0⟩::H) (K (pz b))):=⟨λh t=>aaD h t⟩
instance {m:Int}:Sx B H (ab P 143 #[D m] K) (0<=m/\m<=1048576) (λb=>T B (cl b (gi ⟨m,false,false,0,0,0⟩)::H) (K (pz b))):=⟨λh t=>aaK h.1 h.2 t⟩
instance :Sa B H (ab P 139 #[D 2] K) (λq=>T B (eC q 2 [0,0]::H) (K (pz q))):=⟨λt=>Et (n:=2) (by omega) (by omega) t⟩
def s'(q l:Int):Bool:=decide (1<=q/\q<=1048576/\0<=l/\l<=1048576)
def XA{q l:Int}[h:Ow H (cj sb) S H0](f:s' q l=false->T B (cj sb S::H0) (K (.tuple #[.pointer none,D 2])))(g:∀(m:Nat) b,q=m->1<=m->m<=1048576->T B (dC b sb ⟨⟨S.cs.length,[],0⟩,m,0⟩::cj sb S::H0) (K (.tuple #[pz b,D 0]))):T B H (ab P 76 #[pz sb,D q,D l] K):=by
 refine bh h.pl (pf λx ok=>hT x ok (an (Pp _ _ _) ?_));have s1:=ok.inv.s1;have n2:=ok.inv.n2;repeat' first|apply J.go|refine Sa.go λ_=>?_|refine S2.go (λ_=>?_) λ_=>?_|refine Sx.go (by omega) λ_=>?_|done
 ·rename_i U;omega
 ·rename_i U;exact f (by simp[s'];omega)
 ·rename_i U;exact f (by simp[s'];omega)
 ·rename_i U;exact f (by simp[s'];omega)
 ·rename_i U;exact f (by simp[s'];omega)
 ·rename_i e c d k a z
  obtain⟨m,rfl⟩:∃m:Nat,q=m:=⟨q.toNat,by omega⟩;refine af (mZ ⟨e,d,k,a,List.replicate 64 0,⟨l,false,false,0,0,0⟩,0⟩ ⟨⟨by simp only;omega,by simp only;omega⟩,by simp,λy i=>by rw[lz i];decide⟩ (g m z rfl (by omega) (by omega)))
def Rec.gh(R:Rec)(S:aH)(i o:Int):Int:=if S.kk i o=0 then R.line.gh i else S.kk i o
def Rec.put(R:Rec)(S:aH)(i o:Int):Rec:=if S.kk i o=0 then{R with line:=R.line.put i}else R
instance acH[h:Ow H (dC b sb) R Ha][a:Ow Ha (cj sb) S H0]:Sc B H (ab P 291 #[pz b,D i,D o] K) (S.br<1000000/\R.line.next<4611686018427387904) (T B (dC b sb (R.put S i o)::cj sb (S.defer i o)::H0) (K (D (R.gh S i o)))):=⟨by
 intro⟨hc,c⟩ I;refine bh h.pl (bh (.tail a.pl) (an (Pr _ _ _) ?_));unfold Rec.put Rec.gh at I;refine J.go (J.go (J.go (aN (dC b sb) (qn λx ok=>?_))));repeat' first|apply J.go|refine S2.go (λ_=>?_) λ_=>?_|refine Sc.go (by omega) ?_|done
 ·rename_i he
  rw[ak he,ak he]at I;exact af (mZ x ok I)
 ·rename_i he
  rw[ah he,ah he]at I;exact af (mZ (R:={R with line:=R.line.put i}) x ⟨ok.gw,ok.xs,ok.nn⟩ I)⟩
instance acI[h:Ow H (dC b sb) R H0]:J B H (ab P 37 #[pz b] K) (T B (dC b sb R::H0) (K (D R.dx))):=⟨by
 intro I;refine bh h.pl (an (Pt _) ?_);repeat apply J.go
 refine aN (dC b sb) (qn λx ok=>?_);repeat apply J.go
 exact af (mZ x ok I)⟩
instance acJ[h:Ow H (dC b sb) R H0]:Sa B H (ab P 39 #[pz b] K) (λy:aw=>T B (dC b sb R::rN 1 y R.line.xs.length (iv .i64 R.line.xs)::H0) (K (.slice y R.line.xs.length R.line.xs.length))):=⟨by
 intro I;refine bh h.pl (an (Pu _) ?_);repeat apply J.go
 refine aN (dC b sb) (qn λx ok=>?_);repeat first|apply J.go|refine Sa.go λ_=>?_
 rename_i y;exact af (mZ x ok (I y))⟩
instance acK[h:Ow H (dC b sb) R H0]:Sa B H (ab P 208 #[pz b,D i] K) (λw:Int=>0<=w/\w<=9223372036854775807->T B (dC b sb R::H0) (K (D w))):=⟨by
 intro I;refine bh h.pl (an (Pv _ _) ?_);repeat apply J.go
 refine aN (dC b sb) (qn λx ok=>?_);refine J.go (aN (e2 x.tb) (aas ?_));refine J.go (af (mZ x ok (I _ ?_)));unfold vE;split
 ·rw[List.getD]
  cases a:x.xs[i.toNat]? with
  |none=>simp
  |some y=>exact ok.nn y (cz a)
 ·omega⟩
instance acG{m:Int}[h:Ow H (dC b sb) R H0]:Sc B H (ab P 195 #[pz b,D i,D m] K) (aF m) (T B (dC b sb R::H0) (K (D (if 0<=i/\i<64/\0<=m then 0 else 2)))):=⟨by
 intro hm I;unfold aF at hm;refine bh h.pl (an (Pq _ _ _) ?_);repeat apply J.go
 refine aN (dC b sb) (qn λx ok=>?_);have j:=ok.xs;apply J.go;by_cases c:rF x.xs i m
 ·have a:0<=i/\i<64/\0<=m:=by unfold rF at c;omega
  rw[ah a]at I;obtain⟨k,rfl⟩:∃k:Nat,i=k:=⟨i.toNat,by omega⟩;have f:k<x.xs.length:=by omega
  have d:x.xs[k]?=some x.xs[k]:=ba f;have e:=ok.nn _ (cz d);refine aN (e2 x.tb) (aap d a.2.2 (by omega) e.1 e.2 ?_);refine J.go (af (mZ {x with xs:=x.xs.set k (u5 x.xs[k] m)} ⟨ok.gw,by simpa using ok.xs,λy g=>?_⟩ I));rcases j5 g with U|U
  ·exact ok.nn y U
  ·subst U;unfold u5;split<;>omega
 ·have a:¬(0<=i/\i<64/\0<=m):=λh=>c (by unfold rF;omega)
  rw[ak a]at I;refine aN (e2 x.tb) (aaq c ?_);apply J.go;exact af (mZ x ok I)⟩
def gZ(S:aH)(l:aO):aH:=l.foldl aH.fX S
def aaN(S:aH)(l:aO)(i:Int):gZ S (l++[i])=(gZ S l).fX i:=by simp[gZ]
def aaL{j:Int}(hi:0<=i)(a:0<=j)(h:i≠j):(S.fX i).at' j=S.at' j:=by unfold aH.at' aH.fX;simp only[List.getD];rw[oh (by omega)]
def aaM{l:aO}{j:Int}(hl:∀i∈l,0<=i)(a:0<=j)(h:j∉l):(gZ S l).at' j=S.at' j/\(gZ S l).cs.length=S.cs.length/\(gZ S l).br=S.br+l.length:=by
 induction l generalizing S with
 |nil=>exact⟨rfl,rfl,rfl⟩
 |cons i l b=>have:=b (S:=S.fX i) (λi h=>hl i (by simp[h])) (λc=>h (by simp[c]));have U:(gZ S (i::l))=gZ (S.fX i) l:=rfl;rw[U];refine⟨this.1.trans (aaL (hl i (by simp)) a λe=>h (by simp[e])),this.2.1.trans (by simp[aH.fX]),this.2.2.trans (by simp[aH.fX];omega)⟩
def ea.Fits(L:ea)(S:aH):Prop:=L.xs.Nodup/\∀i∈L.xs,S.ok i=true/\(S.at' i).ph=2
instance acL[h:Ow H (dC b sb) R H0]:Sa B H (ab P 299 #[pz b] K) (λk=>T B (cl k #[pz b]::H) (K (.func (.func 365) #[] #[pz k]))):=⟨by intro I;apply an (Pw _);refine Sa.go λ_=>?_;exact I _⟩
def Rec.many(R:Rec):Nat:=min R.gw R.line.xs.length
def Rec.tick(R:Rec):Rec:={R with line:={R.line with xs:=R.line.xs.drop R.many},dx:=R.dx+1}
def vA(R:Rec)(S:aH):aH:=gZ S (R.line.xs.take R.many)
abbrev vB(b sb:Nat)(R:Rec)(S:aH)(x:tX)(ro:Loop)(rr lp a d aj aa:Nat)(q:aw)(l c:Nat)(ys:aO)(H0:au)(k:Nat)(p:aw)(c':Nat):au:=
 cj sb (gZ S (R.line.xs.take k))::hB x.lb ⟨R.line.n,R.line.xs.drop k,R.line.next⟩::ai 1 p k c' (iv .i64 (R.line.xs.take k))::cl d #[.slice p k c']::
  cl b #[pz x.tb,pz sb,pz x.lb,pz x.mb,pz x.kb,D R.gw]::e2 x.tb x.xs::cl x.mb (gi x.wm)::eC x.kb 2 [R.dx,x.f]::
  lo lp ro .ready none::ob rr (.deferred (some []))::cl a #[pz b]::cl aj #[D 0]::cl aa #[.slice none 0 0]::ai 1 q l c (iv .i64 ys)::H0
def UK{xs:aO}{k:Nat}(h:k<xs.length):(xs.drop k).headD 0=xs[k]/\(xs.drop k).isEmpty=false:=by rw[tI h];exact⟨rfl,rfl⟩
def XC{q:aw}{l c:Nat}{ys:aO}{x:tX}{ro:Loop}{rr lp d a aj aa:Nat}{E:HP}(hw:R.line.Fits S)(hc:S.br+R.line.xs.length<1000000)(X:1<=R.gw/\R.gw<=1048576)(s:mB P ro (ta λf t m o=>iY f (ae (m !=0) (st (ag aa 0) (Value.slice none 0 0) (st (ag aj 0) (D m) (fx f (some Code.ret) (o (Value.bool false))))) (aT (ag a 0) λu v w=>al #[D t] 3 λy=>cI P #[31,31] u v w (some (ag y 0)) 1 1 λz A C=>st (ag a 0) (Value.slice z A C) (fx f none (o (Value.bool true)))))))(fin:∀p c',T B (vB b sb R S x ro rr lp d a aj aa q l c ys H0 R.many p c') E):T B (vB b sb R S x ro rr lp d a aj aa q l c ys H0 0 none 0) (ab P 365 #[.func (.yield lp) #[] #[],pz d] λ_=>E):=by
 refine an (Px _ _) (J.go (J.go (cF R.gw (by omega) (λk H'=>k<=R.line.xs.length/\∃p c',H'=vB b sb R S x ro rr lp d a aj aa q l c ys H0 k p c') ⟨qK _,_,_,rfl⟩ ?_)));rintro k H' Y Z ⟨ac,p,c',rfl⟩ F;refine S2.go (λr=>?_) λad=>?_
 ·have r:k<R.gw:=by omega
  refine J.go (J.go (J.go (J.go ?_)));by_cases g:k<R.line.xs.length
  ·obtain⟨U,G⟩:=UK g
   simp only[U,G,fM,ej];have h:R.line.xs[k]?=some R.line.xs[k]:=ba g;obtain⟨aP,H⟩:=hw.2 _ (cz h);obtain⟨ah,I,ai⟩:=aH.hQ aP;have K:∀i∈R.line.xs.take k,0<=i:=λi hi=>(aH.hQ (hw.2 i (kH hi)).1).2.1
   have hy:R.line.xs[k]∉R.line.xs.take k:=λhm=>by obtain⟨j,L,e⟩:=qH hm;rw[ff]at L;rw[List.getElem_take]at e;exact kJ.1 hw.1 j k (by omega) g (by omega) e
   obtain⟨M,w2,N⟩:=aaM (S:=S) K I hy;rw[ff]at N;repeat apply J.go
   refine aN (cj sb) (XD rfl (by simp only[aH.ok,w2];exact aP) (by rw[M];exact H) (by omega) ?_);refine J.go (bL (q:=lo lp ro .ready none) (oI s ?_));refine J.go (oz ?_);repeat first|apply J.go|refine Sa.go λ_=>?_
   refine e0 rfl (by omega) λO Q=>J.go (bL (q:=lo lp ro .busy none) (oA ?_));repeat apply J.go
   have e:iv .i64 (R.line.xs.take k)++#[D R.line.xs[k]].toList=iv .i64 (R.line.xs.take (k+1)):=by rw[dQ h,iv,iv,e6];rfl
   have V:(gZ S (R.line.xs.take k)).fX R.line.xs[k]=gZ S (R.line.xs.take (k+1)):=by rw[dQ h,aaN]
   rw[e,V];have:=F r _ ⟨by omega,O,Q,rfl⟩;simp only[vB]at this;rw[show R.line.xs.drop (k+1)=(R.line.xs.drop k).tail by simp]at this;exact af this
  ·have W:k=R.line.xs.length:=by omega
   have hd:R.line.xs.drop k=[]:=by rw[W];simp
   have hm:R.many=k:=by unfold Rec.many;omega
   simp only[hd,List.isEmpty_nil,dT];apply bk (by with_reducible decide);have:=fin p c';simp only[vB,hm,hd]at this;change T B (hB x.lb ⟨R.line.n,[],R.line.next⟩::_) _;exact af this
 ·have hm:R.many=k:=by unfold Rec.many;omega
  have:=fin p c';rw[hm]at this;exact this
def aa0(z:Int):-9223372036854775808<=IntKind.wrap .i64 z/\IntKind.wrap .i64 z<=9223372036854775807:=by
 show-9223372036854775808<=(if(true&&decide (z%18446744073709551616>=9223372036854775808))=true then z%18446744073709551616-18446744073709551616 else z%18446744073709551616)/\(if(true&&decide (z%18446744073709551616>=9223372036854775808))=true then z%18446744073709551616-18446744073709551616 else z%18446744073709551616)<=9223372036854775807;rw[e5];by_cases h:z%18446744073709551616>=9223372036854775808
 ·rw[ah (cB h)];omega
 ·rw[ak (by simpa using h)];omega
def Kt{xs ys:aO}{lack:Int}(h:xs.length=64)(c:ys.length<=64)(d:∀y∈xs,0<=y/\y<=9223372036854775807)(hl:lack<=9223372036854775807):(asked xs lack ys).length=64/\∀y∈asked xs lack ys,0<=y/\y<=9223372036854775807:=by
 unfold asked;rw[ah (by omega)];refine⟨by rw[cr,n6,jG];omega,λy hm=>?_⟩;rcases dL.1 hm with U|U
 ·obtain⟨j,a,rfl⟩:=qH U
  have b:j<ys.length:=by rw[n6]at a;exact a
  obtain⟨e,_⟩:=BS lack ys j ys[j] (ba b);rw[ba a,iO]at e;rw[e];obtain⟨t1,t2,t3⟩:=B7 ys[j] (rest lack ys j);obtain⟨f,g,i⟩:=Bt lack ys j;refine⟨t1,?_⟩;by_cases h0:0<=rest lack ys j
  ·have:=t2 h0;omega
  ·have:=t3 (by omega);omega
 ·rw[lz U];decide
def XB{q:aw}{l c:Nat}{ys:aO}(hl:l=ys.length)(m:l<=64)(hw:R.line.Fits S)(hc:S.br+R.line.xs.length<1000000)(n:0<=R.dx/\R.dx<1000000)(I:∀p c,T B (dC b sb R.tick::cj sb (vA R S)::ai 1 p R.many c (iv .i64 (R.line.xs.take R.many))::H0) (K (.tuple #[.slice p R.many c,D 0]))):T B (dC b sb R::cj sb S::ai 1 q l c (iv .i64 ys)::H0) (ab P 201 #[pz b,.slice q l c] K):=by
 refine an (Ps _ _ _ _) (Sa.go λaa=>Sa.go λaj=>J.go (J.go (J.go ?_)));apply aD (by simp;omega);refine Sa.go λe=>Sa.go λg=>pK (by kernel_rfl) λro rr lp h=>aN (dC b sb) (qn λx ok=>?_)
 refine dR 1 (af (H':=cj sb S::hB x.lb R.line::ai 1 none 0 0 []::cl e #[.slice none 0 0]::
  cl b #[pz x.tb,pz sb,pz x.lb,pz x.mb,pz x.kb,D R.gw]::e2 x.tb x.xs::cl x.mb (gi x.wm)::eC x.kb 2 [R.dx,x.f]::
  lo lp ro .ready none::ob rr (.deferred (some []))::cl g #[pz b]::cl aj #[D 0]::cl aa #[.slice none 0 0]::ai 1 q l c (iv .i64 ys)::H0) ?_)
 refine XC (R:=R) (S:=S) (x:=x) hw hc ok.gw h λp c'=>?_;refine bL (q:=lo lp ro .ready none) (qQ (by simp) ?_);repeat first|apply J.go|refine Sc.go (by omega) ?_
 refine bL (q:=cl x.mb (gi x.wm)) (aaH ?_);repeat apply J.go
 apply aaI
 have a:∀w:Wm,-9223372036854775808<=(if w.low then IntKind.wrap .i64 (w.mark-w.level)else 0)/\(if w.low then IntKind.wrap .i64 (w.mark-w.level)else 0)<=9223372036854775807:=λw=>by
  split
  ·exact aa0 _
  ·decide
 generalize(wY x.wm ((gZ S (R.line.xs.take R.many)).many 0:Nat))=w;have a:=a w;generalize(if w.low then IntKind.wrap .i64 (w.mark-w.level)else 0)=lack at a;repeat apply J.go
 refine aN (e2 x.tb) (aan Rd.rd hl (by rw[ok.xs];omega) a.1 a.2 ?_);rw[ah (by rw[ok.xs];omega)];repeat apply J.go
 refine bL (q:=ob rr (.deferred (some []))) (oG ?_);repeat apply J.go
 obtain⟨i,a2⟩:=Kt (lack:=lack) (ys:=ys) ok.xs (by omega) ok.nn a.2
 have j:fG [R.dx,x.f] 0 1=[R.dx+1,x.f]:=by
  have:iq [R.dx,x.f] 0 1=0:=by unfold iq hq k2;simp;omega
  unfold fG;rw[ah this];simp[hq]
 obtain⟨d,k⟩:∃d,fG [R.dx+1,x.f] 1 R.many=[R.dx+1,d]:=by
  unfold fG;split
  ·exact⟨_,rfl⟩
  ·exact⟨_,rfl⟩
 rw[j,k];have:=mZ (R:=R.tick) {x with xs:=asked x.xs lack ys,wm:=w,f:=d} ⟨ok.gw,i,a2⟩ (I p c');simp only[vg,Rec.tick,vA]at this;exact af this
end
end
section
instance acZ:gl P 33 5:=gl.of (e:=0) (by kernel_rfl)
def Cs:zc P 160=fa dD:=by kernel_rfl
def Ej:P.cellsOf 160=5:=by kernel_rfl
def wL:P.bytesOf 160=40:=by kernel_rfl
abbrev aE(t:Tk):aB:=[D t.id,D t.aM,D t.count,D t.state,D t.b1]
def ep(t:Tk):(aE t).length=5:=rfl
structure a6 where
 all:List Tk
 bD:ML Unit
structure DC where
 r:Nat
 p:aw
 c:Nat
abbrev rR(b:Nat)(T:a6)(x:DC)(H:au):au:=
 cl b #[.slice x.p T.all.length x.c,.map (some x.r)]::ai 5 x.p T.all.length x.c (T.all.flatMap aE)::MP (λ_:Unit=>Value.agg #[]) x.r T.bD::H
structure a6.Ok(T:a6):Prop where
 len:T.all.length<=1048576
 bV:bS T.bD
 ids:∀i∈bb T.bD,1<=i/\i<=(T.all.length:Int)
 pl:T.bD.length<=256
def dE(b:Nat)(T:a6):bg:=BX T.Ok (rR b T)
namespace a6
abbrev new:a6:=⟨[],[]⟩
def has(T:a6)(i:Int):Bool:=decide (1<=i/\i<=(T.all.length:Int))
def at'(T:a6)(i:Int):Tk:=T.all.getD (i-1).toNat dD
def get(T:a6)(i:Int):Tk:=if T.has i then T.at' i else dD
def e8(T:a6)(i:Int):Int:=if T.has i then 0 else 12
def next(T:a6):Int:=(T.all.length:Int)+1
def jr(T:a6)(c n:Int):Int:=if oY T.next c n=0 then(if 256<=T.bD.length\/1048576<T.next then 10 else 0)else oY T.next c n
def i7(T:a6)(c n:Int):a6:=if T.jr c n=0 then⟨T.all++[iA T.next c n],bE T.next () T.bD⟩else T
def cN(T:a6)(f:Tk->Tk)(e:Tk->Int)(i:Int):Int:=if T.has i then e (T.at' i)else 12
def bM(T:a6)(f:Tk->Tk)(e:Tk->Int)(i:Int):a6:=if T.cN f e i=0 then⟨T.all.set (i-1).toNat (f (T.at' i)),if(f (T.at' i)).state=1 then T.bD else bO i T.bD⟩else T
end a6
section
variable {B:Heap}{H H0:au}{K:aK}{b n:Nat}{T:a6}{i c m:Int}
def tu{q:HP}(t:∀x,T.Ok->XS.T B (rR b T x H) q):XS.T B (dE b T::H) q:=pG (λ_ _=>rfl) t
def mg{q:HP}(x:DC)(h:T.Ok)(t:XS.T B (dE b T::H) q):XS.T B (rR b T x H) q:=pF x h (λ_ _=>rfl) t
def a6.Am(h:T.has i=true):T.all[(i-1).toNat]?=some (T.at' i)/\1<=i/\i<=(T.all.length:Int):=by simp only[a6.has,bz]at h;refine⟨?_,h⟩;unfold a6.at';rw[List.getD,ba (by omega)];rfl
instance adz:Sa B H (ab P 78 #[] K) (λb=>XS.T B (dE b a6.new::H) (K (pz b))):=⟨by
 intro I;apply an (SC);repeat refine Sa.go λ_=>?_
 rename_i r b;refine bL (q:=IM r λ_=>none) (iQ (λ_:Unit=>Value.agg #[]) (dR 5 ?_));have:=mg ⟨r,none,0⟩ ⟨by simp[a6.new],by simp[a6.new,bS,bb,eu],by simp[a6.new,bb],by simp[a6.new]⟩ (I b);simp only[rR,gH,CK]at this;exact af this⟩
instance adC[h:Ow H (dE b) T H0]:J B H (ab P 88 #[pz b] K) (XS.T B (dE b T::H0) (K (.bool true))):=⟨by
 intro I;refine bh h.pl (tu λx hs=>an (SB _) ?_);repeat apply J.go
 exact af (mg x hs I)⟩
instance adu{a:Int}:J B H (ab P 263 #[D a,D c,D m] K) (XS.T B H (K (.tuple #[.agg #[D (nN a c m).id,D (nN a c m).aM,D (nN a c m).count,D (nN a c m).state,D (nN a c m).b1],D (oY a c m)]))):=⟨λt=>aad t⟩
instance adw[h:Ow H (dE b) T H0]:Sc B H (ab P 175 #[pz b,D i] K) (aF i) (XS.T B (dE b T::H0) (K (.tuple #[.agg (aE (T.get i)).toArray,D (T.e8 i)]))):=⟨by
 intro hi I;unfold aF at hi;refine bh h.pl (an (Su _ _) ?_);unfold a6.get a6.e8 at I;repeat' first|apply J.go|refine Sa.go λ_=>?_|refine S2.go (λ_=>?_) λ_=>?_|refine Sc.go (by first|rfl|exact⟨rfl,rfl⟩) ?_|done
 ·rename_i U
  have a:T.has i=false:=by simp[a6.has];omega
  rw[a]at I;exact af I
 ·rename_i U
  refine aN (dE b) (tu λx hs=>?_);repeat' first|apply J.go|refine S2.go (λ_=>?_) λ_=>?_|refine Sc.go (by first|rfl|exact⟨rfl,rfl⟩) ?_|done
  ·rename_i c
   have a:T.has i=false:=by simp[a6.has];omega
   rw[a]at I;exact af (mg x hs I)
  ·rename_i c
   have a:T.has i=true:=by simp[a6.has];omega
   rw[a]at I;obtain⟨d,_,_⟩:=a6.Am a;refine dO ep (by omega) (i-1).toNat (by rw[bd (by omega)];omega) (by omega) d ?_;repeat refine Sc.go (by first|rfl|exact⟨rfl,rfl⟩) ?_
   exact af (mg x hs I)⟩
def V6{k:Int}{m:ML Unit}:(bE k () m).length<=m.length+1:=by
 induction m with
 |nil=>simp[bE]
 |cons e m a=>unfold bE;split<;>(try split)<;>simp<;>omega
instance ady[h:Ow H (dE b) T H0]:Sc B H (ab P 172 #[pz b,D c,D m] K) (aF c/\aF m) (XS.T B (dE b (T.i7 c m)::H0) (K (.tuple #[D (if T.jr c m=0 then T.next else 0),D (T.jr c m)]))):=⟨by
 intro hi I;unfold aF at hi;refine bh h.pl (an (Sw _ _ _) ?_);unfold a6.i7 at I;repeat apply J.go
 refine aN (dE b) (tu λx hs=>?_);have hlen:=hs.len;apply J.go;have hw:IntKind.wrap .i64 ((T.all.length:Int)+1)=T.next:=by rw[bd (by omega)];rfl
 rw[hw];have o:T.next=(T.all.length:Int)+1:=rfl
 repeat' first|apply J.go|refine Sa.go λ_=>?_|refine S2.go (λ_=>?_) λ_=>?_|refine Sc.go (by first|rfl|exact⟨rfl,rfl⟩) ?_|done
 ·rename_i he
  have e:T.jr c m=oY T.next c m:=by unfold a6.jr;rw[ak he]
  rw[e,ak he,ak he]at I;exact af (mg x hs I)
 ·rename_i he U
  have e:T.jr c m=10:=by unfold a6.jr;rw[ah he,ah (.inl (by omega))]
  rw[e,ak (by decide),ak (by decide)]at I;exact af (mg x hs I)
 ·rename_i he U d
  have e:T.jr c m=10:=by unfold a6.jr;rw[ah he,ah (.inr (by omega))]
  rw[e,ak (by decide),ak (by decide)]at I;exact af (mg x hs I)
 ·rename_i k he U d p
  have e:T.jr c m=0:=by unfold a6.jr;rw[ah he,ak (by omega)]
  have a:nN T.next c m=iA T.next c m:=by
   unfold nN;unfold oY at he;split at he
   ·rename_i h;rw[ah h]
   ·cases he
  rw[e,ah rfl,ah rfl]at I;refine jP (ds:=(aE (iA T.next c m)).toArray) (by rw[a];rfl) ?_;refine e0 rfl (by omega) λf c'=>?_;repeat apply J.go
  have g:a6.Ok ⟨T.all++[iA T.next c m],bE T.next () T.bD⟩:=by
   refine⟨by simp;omega,fA hs.bV,λj i=>?_,?_⟩
   ·obtain⟨e,l,rfl⟩:=bQ.1 i
    rcases(oX hs.bV).1 l with rfl|⟨n,_⟩
    ·simp;omega
    ·have:=hs.ids e.1 (bQ.2 ⟨e,n,rfl⟩);simp;omega
   ·have:=V6 (k:=T.next) (m:=T.bD);simp only;omega
  have:=mg ⟨x.r,f,c'⟩ g I;rw[a];simp only[rR,cr,dd,gH,bJ,og,gz,CK,je]at this;exact af this⟩
def B6{f:Tk->Tk}{e:Tk->Int}{g:Nat}[h:Ow H (dE b) T H0](hi:aF i)(l:gb P g=true)(hf:∀(H2:au) (t:Tk) (q:aK),XS.T B H2 (q (.tuple #[.agg (aE (f t)).toArray,D (e t)]))->XS.T B H2 (ab P g #[.agg (aE t).toArray] q))(I:XS.T B (dE b (T.bM f e i)::H0) (K (D (T.cN f e i)))):XS.T B H (ab P 267 #[pz b,D i,.agg #[.func (.func g) #[] #[]]] K):=by
 refine bh h.pl (an (SA _ _ _) ?_);unfold a6.bM at I;have u:=hi;unfold aF at hi;repeat' first|apply J.go|refine Sa.go λ_=>?_|refine S2.go (λ_=>?_) λ_=>?_|refine Sc.go (by first|omega|rfl|exact⟨rfl,rfl⟩) ?_|done
 ·rename_i he
  have l:T.has i=false:=by
   unfold a6.e8 at he
   cases a:T.has i with
   |false=>rfl
   |true=>rw[a]at he;exact absurd rfl he
  have m:T.cN f e i=12:=by unfold a6.cN;rw[l];rfl
  have n:T.e8 i=12:=by unfold a6.e8;rw[l];rfl
  rw[m,ak (by decide)]at I;rw[n];exact af I
 ·rename_i he
  have a:T.has i=true:=by
   unfold a6.e8 at he
   cases a:T.has i with
   |true=>rfl
   |false=>rw[a]at he;cases he
  have m:T.cN f e i=e (T.at' i):=by unfold a6.cN;rw[a];rfl
  have n:T.get i=T.at' i:=by unfold a6.get;rw[a];rfl
  obtain⟨v,U,r⟩:=a6.Am a;rw[n];rw[m]at I;refine nz l (hf _ _ _ ?_);repeat' first|apply J.go|refine S2.go (λ_=>?_) λ_=>?_|refine Sc.go ⟨rfl,rfl⟩ ?_|done
  ·rename_i d
   rw[ak d]at I;exact af I
  ·rename_i d
   rw[ah d,d]at I;refine aN (dE b) (tu λx hs=>?_);have hlen:=hs.len;repeat first|apply J.go|refine Sc.go rfl ?_
   refine JB (c:=x.c) (f:=aE) (rs:=T.all) (a':=f (T.at' i)) ep (by omega) (i-1).toNat (by rw[bd (by omega)];omega) (by omega) rfl ?_
   have aP:∀p,bS p->(∀j∈bb p,j∈bb T.bD)->p.length<=T.bD.length->a6.Ok ⟨T.all.set (i-1).toNat (f (T.at' i)),p⟩:=λp U r d=>⟨by simpa using hs.len,U,λj k=>by simpa using hs.ids j (r j k),jL d hs.pl⟩
   repeat' first|apply J.go|refine S2.go (λ_=>?_) λ_=>?_|done
   ·rename_i o
    rw[ak o]at I
    have:=mg x (aP (bO i T.bD) (ma hs.bV) (λj k=>by obtain⟨y,s,rfl⟩:=bQ.1 k;exact bQ.2 ⟨y,(sW.1 s).1,rfl⟩) (y1 _ _)) I
    simp only[rR,hg]at this;exact af this
   ·rename_i o
    rw[ah o]at I;have:=mg x (aP T.bD hs.bV (λj k=>k) (d' _)) I;simp only[rR,hg]at this;exact af this
instance adx[h:Ow H (dE b) T H0]:Sc B H (ab P 310 #[pz b,D i] K) (aF i) (XS.T B (dE b (T.bM (c8 · 2) check i)::H0) (K (D (T.cN (c8 · 2) check i)))):=⟨by intro hi I;apply an (Sv _ _);apply B6 (f:=(c8 · 2)) (e:=check) hi (by kernel_rfl) (λH2 t a hK=>aac hK);apply J.go;exact I⟩
instance adv[h:Ow H (dE b) T H0]:Sc B H (ab P 176 #[pz b,D i] K) (aF i) (XS.T B (dE b (T.bM (c8 · 3) check i)::H0) (K (D (T.cN (c8 · 3) check i)))):=⟨by intro hi I;apply an (St _ _);apply B6 (f:=(c8 · 3)) (e:=check) hi (by kernel_rfl) (λH2 t a hK=>aab hK);apply J.go;exact I⟩
instance adA[h:Ow H (dE b) T H0]:Sc B H (ab P 206 #[pz b,D i] K) (aF i) (XS.T B (dE b (T.bM j3 kx i)::H0) (K (D (T.cN j3 kx i)))):=⟨by intro hi I;apply an (Sy _ _);apply B6 (f:=j3) (e:=kx) hi (by kernel_rfl) (λH2 t a hK=>aae hK);apply J.go;exact I⟩
def a6.cZ(T:a6):List Tk:=(bb T.bD).map T.at'
def a6.xP(T:a6):T.cZ.length=T.bD.length:=by simp[a6.cZ]
instance adB[h:Ow H (dE b) T H0]:Sa B H (ab P 41 #[pz b] K) (λx:aw×Nat=>XS.T B (dE b T::ai 5 x.1 T.cZ.length x.2 (T.cZ.flatMap aE)::H0) (K (.slice x.1 T.cZ.length x.2))):=⟨by
 intro I;refine bh h.pl (an (Sz _) ?_);repeat apply J.go
 refine aN (dE b) (tu λx hs=>?_);have hlen:=hs.len;have t:=hs.pl;repeat apply J.go
 refine gC (by omega) (by omega) (by omega) (by rw[wL];omega) (by kernel_rfl) (by kernel_rfl) λq=>?_;rw[Ej,Cs,show fa dD=(aE dD).toArray from rfl,a7,qo (f:=aE) (s:=5) dD rfl (by omega)];refine kf (l:=T.bD.length) 5 (by simp[dr ep]) (rB (m:=0) (by omega) ?_);rw[tR,r5];repeat first|apply J.go|refine Sx.go (by omega) λ_=>?_
 rename_i y;have g:=T.xP;refine af (H':=ai 5 (some ⟨q,0,none⟩) 0 T.bD.length []::ai 1 y.1 T.bD.length y.2 (iv .i64 (bb T.bD))::ai 5 x.p T.all.length x.c (T.all.flatMap aE)::cl b #[.slice x.p T.all.length x.c,.map (some x.r)]::MP (λ_:Unit=>Value.agg #[]) x.r T.bD::H0) ?_;refine oH T.bD.length (by omega) (λk p l c H'=>l=k/\H'=ai 5 p k c ((T.cZ.take k).flatMap aE)::ai 1 y.1 T.bD.length y.2 (iv .i64 (bb T.bD))::ai 5 x.p T.all.length x.c (T.all.flatMap aE)::cl b #[.slice x.p T.all.length x.c,.map (some x.r)]::MP (λ_:Unit=>Value.agg #[]) x.r T.bD::H0) ⟨rfl,rfl⟩ ?_;rintro k p l c H' R u ⟨rfl,rfl⟩ i;refine S2.go (λ_=>?_) λ_=>?_
 ·have a:l<T.bD.length:=by omega
  have d:(bb T.bD)[l]?=some ((bb T.bD)[l]'(by simpa using a)):=ba _;generalize(bb T.bD)[l]'(by simpa using a)=v at d;have j:=hs.ids v (cz d);have n:T.has v=true:=by simp only[a6.has,bz];exact j
  refine e1 l rfl a d (J.go (aN (ai 5 x.p T.all.length x.c) ?_));refine dO ep (by omega) (v-1).toNat (by rw[bd (by omega)];omega) (by omega) (a6.Am n).1 ?_;repeat first|refine Sa.go λ_=>?_|refine Sc.go rfl ?_
  refine jP (ds:=(aE (T.at' v)).toArray) rfl ?_;refine aN (ai 5 p l c) (e0 (s:=5) (c:=c) rfl (by omega) λo c'=>?_);have hm:T.cZ[l]?=some (T.at' v):=by unfold a6.cZ;rw[fo,d];rfl
  have e:(T.cZ.take l).flatMap aE++(aE (T.at' v)).toArray.toList=(T.cZ.take (l+1)).flatMap aE:=by rw[dQ hm];simp
  rw[e];exact af (i a o _ c' _ ⟨rfl,rfl⟩)
 ·have hl:l=T.bD.length:=by omega
  have e:T.cZ.take l=T.cZ:=j7 (by omega);rw[e];have:=I (p,c);rw[g,<-hl]at this;exact af (mg x hs this)⟩
end
end
structure Qe where
 id:Int
 cl:Int
 nd:Nat
structure Qu where
 L:List (Int×Int)
 f':Nat
abbrev oN(E:List Qe):Ch:=⟨1,256,λk=>if k=0 then E.map (·.nd)else[]⟩
abbrev mV(E:List Qe):Ch:=⟨64,256,λk=>(E.filter λe=>e.cl==(k:Int)).map (·.nd)⟩
structure ox where
 cb:Nat
 ob:Nat
 fb:Nat
 r:Nat
 E:List Qe
 S:aV
 m:ML Int
 ids:aO
 b6:aO
abbrev ky(x:ox):aB:=(pz x.cb)::(pz x.ob)::(pz x.fb):: .map (some x.r)::(iv .i64 x.ids++iv .i64 x.b6)
abbrev rI(b:Nat)(Q:Qu)(x:ox)(H:au):au:=
 cl b (ky x).toArray::dP x.cb (oN x.E)::dP x.ob (mV x.E)::fz x.fb x.S::MP D x.r x.m::H
structure Qu.Ok(Q:Qu)(x:ox):Prop where
 L:x.E.map (λe=>(e.id,e.cl))=Q.L
 Gi:(x.E.map (·.nd)).Nodup
 Ft:(x.E.map (·.id)).Nodup
 e:∀e∈x.E,1<=e.id/\0<=e.cl/\e.cl<64/\e.nd<256/\x.ids[e.nd]?=some e.id/\x.b6[e.nd]?=some (x.S.gen e.nd)/\x.S.b7 e.nd=true
 m:∀k,aS x.m k=(x.E.find? λe=>e.id==k).map λe=>(e.nd:Int)
 li:x.ids.length=256
 sQ:x.b6.length=256
 AB:x.S.b6.length=256
 fr:x.S.fresh<=Q.f'
def eR(b:Nat)(Q:Qu):bg:=BD Q.Ok (rI b Q)
def Qu.head(Q:Qu)(c:Int):Int:=match Q.L.find? (λe=>e.2==c)with|some e=>e.1|none=>0
section
variable {B:Heap}{H H0:au}{K:aK}{b n:Nat}{Q:Qu}{i c:Int}
def xY{q:HP}(t:∀x,Q.Ok x->T B (rI b Q x H) q):T B (eR b Q::H) q:=mz (λ_ _=>rfl) t
def rJ{q:HP}(x:ox)(h:Q.Ok x)(t:T B (eR b Q::H) q):T B (rI b Q x H) q:=my x h (λ_ _=>rfl) t
instance acE[h:Ow H (eR b) Q H0]:J B H (ab P 264 #[pz b] K) (T B (eR b Q::H0) (K (.bool true))):=⟨by
 intro I;refine bh h.pl (xY λx ok=>an (Pn _) ?_);repeat apply J.go
 exact af (rJ x ok I)⟩
def Xs{x:ox}{k:Nat}(I:k<256)(hi:x.ids.length=256):(ky x).toArray[0+4+k]?=some (D (x.ids.getD k 0)):=by rw[dY,show 0+4+k=k+4 by omega];show(iv .i64 x.ids++iv .i64 x.b6)[k]?=_;rw[hb (by simpa using hi▸I)];exact lT (by rw[List.getD,ba (by omega)];rfl)
def Xr{x:ox}{k:Nat}(I:k<256)(hi:x.ids.length=256)(a:x.b6.length=256):(ky x).toArray[0+260+k]?=some (D (x.b6.getD k 0)):=by rw[dY,show 0+260+k=(256+k)+4 by omega];show(iv .i64 x.ids++iv .i64 x.b6)[256+k]?=_;rw[iI (by simp[hi])];simp only[Fx,hi,y6];exact lT (by rw[List.getD,ba (by omega)];rfl)
def Xu{x:ox}{k:Nat}{v:Int}(I:k<256)(hi:x.ids.length=256):(ky x).toArray.setIfInBounds (0+4+k) (D v)=(ky {x with ids:=x.ids.set k v}).toArray:=by rw[jI,show 0+4+k=k+1+1+1+1 by omega];simp only[ky,iK];rw[pC _ _ (by simpa using hi▸I)];simp[iv,jh]
def Xt{x:ox}{k:Nat}{v:Int}(I:k<256)(hi:x.ids.length=256):(ky x).toArray.setIfInBounds (0+260+k) (D v)=(ky {x with b6:=x.b6.set k v}).toArray:=by rw[jI,show 0+260+k=(256+k)+1+1+1+1 by omega];simp only[ky,iK];rw[pD _ _ (by simp[hi])];simp[iv,jh,hi]
instance acD[h:Ow H (eR b) Q H0]:Sa B H (ab P 269 #[pz b,D i] K) (λx:ox=>Q.Ok x->T B (rI b Q x H0) (K (D (match x.E.find? (λe=>e.id==i)with|some e=>(e.nd:Int)|none=>-1)))):=⟨by
 intro I;refine bh h.pl (an (Pk _ _) ?_);repeat apply J.go
 refine aN (eR b) (xY λx ok=>?_);have I:=I x ok;have hm:=ok.m i
 cases hf:x.E.find? (λe=>e.id==i)with
 |none=>
  rw[hf]at I hm;repeat' first|apply J.go|refine S2.go (λ_=>?_) λ_=>?_|done
  ·exact af I
  ·rename_i a;rw[hm]at a;cases a
 |some e=>
  rw[hf]at I hm;repeat' first|apply J.go|refine S2.go (λ_=>?_) λ_=>?_|done
  ·rename_i a;rw[hm]at a;cases a
  ·rw[hm];exact af I⟩
def Ug{E:List Qe}{p:Qe->Bool}:E.find? p=(E.filter p).head?:=by rw[List.head?_filter]
def Uh{E:List Qe}{c:Int}:((E.map λe=>(e.id,e.cl)).find? λe=>e.2==c)=(E.find? λe=>e.cl==c).map λe=>(e.id,e.cl):=by rw[List.find?_map];rfl
instance acB[h:Ow H (eR b) Q H0]:J B H (ab P 255 #[pz b,D c] K) (T B (eR b Q::H0) (K (D (Q.head c)))):=⟨by
 intro I;refine bh h.pl (an (Pj _ _) ?_);unfold Qu.head at I;repeat apply J.go
 refine aN (eR b) (xY λx ok=>?_);repeat apply J.go
 apply an (Pm _ _);rw[<-ok.L,Uh,Ug]at I;by_cases hc:0<=c/\c<64
 ·have d:(mV x.E).first c=bU ((x.E.filter λe=>e.cl==c).map (·.nd)):=by
   unfold Ch.first
   rw[ah (by exact hc)];show bU ((x.E.filter λe=>e.cl==((c.toNat:Nat):Int)).map (·.nd))=_;rw[rX hc.1]
  rw[d]
  cases a:(x.E.filter λe=>e.cl==c)with
  |nil=>
   rw[a]at I;repeat first|apply J.go|refine bk (by with_reducible decide) ?_
   exact af (rJ x ok I)
  |cons e l=>rw[a]at I;have he:=ok.e e (pB.1 (by rw[a];simp:e∈x.E.filter λe=>e.cl==c)).1;have f:bU ((e::l).map (·.nd))=(e.nd:Int):=rfl;rw[f];refine aD (by simp) (J.go (bj (by omega) ?_));rw[aQ,aQ,a7];apply a1 (Xs he.2.2.2.1 ok.li);rw[List.getD,he.2.2.2.2.1];exact J.go (af (rJ x ok I))
 ·have a:(x.E.filter λe=>e.cl==c)=[]:=by
   rw[II];intro e hm h;have:=ok.e e hm;have:e.cl=c:=by simpa using h
   omega
  have d:(mV x.E).first c=-1:=by
   unfold Ch.first
   rw[ak (by exact hc)]
  rw[d];rw[a]at I;repeat first|apply J.go|refine bk (by with_reducible decide) ?_
  exact af (rJ x ok I)⟩
def Zj{S:aV}{a:Nat}(c:S.Ok)(hl:S.b6.length=256)(hf:S.fresh<=(a:Int))(ha:a<256):S.gg=true/\(0<=S.cM/\S.cM<256)/\S.b7 S.cM=false/\S.opened.fresh<=((a+1:Nat):Int)/\S.opened.b6=S.b6/\S.fT=S.gen S.cM/\∀j,S.opened.b7 j=(decide (j=S.cM)||S.b7 j):=by
 have k:=c.fresh
 have g:∀p,(p∈S.closed\/S.fresh<=p)->S.b7 p=false:=λp b=>by
  unfold aV.b7
  cases i:aS S.cP p with
  |none=>rfl
  |some v=>
   have:=c.op _ (jv i);rcases b with b|b
   ·exact absurd b this.2.2.2
   ·have:=this.2.2.1;simp only at this;omega
 have h:∀(p j:Int) (S':aV),(aS (bE p true S.cP) j).getD false=(decide (j=p)||S.b7 j):=λp j _=>by
  rw[gR c.bV];by_cases e:j=p
  ·rw[ah e];simp[e]
  ·rw[ak e];simp[e,aV.b7]
 cases hc:S.closed.getLast? with
 |some p=>
  have b:S.pick=({S with closed:=S.closed.dropLast},p,true):=by unfold aV.pick;rw[hc]
  have hm:p∈S.closed:=y3 hc;have l:=c.cl p hm;have U:S.cM=p:=by unfold aV.cM;rw[b];rfl
  have d:S.opened=⟨S.b6,bE p true S.cP,S.closed.dropLast,S.fresh⟩:=by unfold aV.opened;rw[b];rfl
  have f:S.fT=S.gen p:=by unfold aV.fT;rw[b];rfl
  rw[U,d,f];refine⟨by unfold aV.gg;rw[b],by omega,g p (.inl hm),by simp only;omega,rfl,rfl,λj=>h p j S⟩
 |none=>
  have b:S.pick=({S with fresh:=S.fresh+1},S.fresh,true):=by unfold aV.pick;rw[hc];exact ah (by omega)
  have U:S.cM=S.fresh:=by unfold aV.cM;rw[b];rfl
  have d:S.opened=⟨S.b6,bE S.fresh true S.cP,S.closed,S.fresh+1⟩:=by unfold aV.opened;rw[b];rfl
  have f:S.fT=S.gen S.fresh:=by unfold aV.fT;rw[b];rfl
  rw[U,d,f];refine⟨by unfold aV.gg;rw[b],by omega,g _ (.inr (by omega)),by simp only;omega,rfl,rfl,λj=>h _ j S⟩
def Tg(E:List Qe)(e:Qe):(oN E).add 0 e.nd=oN (E++[e]):=by
 unfold Ch.add oN;congr 1;funext k;unfold up;by_cases h:k=0
 ·subst h;simp
 ·simp[h]
def WT(E:List Qe)(e:Qe){k:Nat}(I:e.cl=k):(mV E).add k e.nd=mV (E++[e]):=by
 unfold Ch.add mV;congr 1;funext j;unfold up;by_cases h:j=k
 ·subst h;simp[mo,I]
 ·have:(e.cl==(j:Int))=false:=by rw[I];simp;omega
  simp[h,mo,this]
instance acz[h:Ow H (eR b) Q H0]:Sc B H (ab P 174 #[pz b,D i,D c] K) (1<=i/\(0<=c/\c<64)/\(∀e∈Q.L,e.1≠i)/\Q.f'<256) (T B (eR b ⟨Q.L++[(i,c)],Q.f'+1⟩::H0) (K (D 0))):=⟨by
 rintro⟨U,⟨w,A⟩,C,F⟩ I;refine bh h.pl (an (Pf _ _ _) ?_);repeat' first|apply J.go|refine S2.go (λ_=>?_) λ_=>?_|done
 ·omega
 ·omega
 ·omega
 refine aN (eR b) (xY λx ok=>?_);have n:∀e∈x.E,e.id≠i:=λe he=>C (e.id,e.cl) (by rw[<-ok.L];exact bQ.2 ⟨e,he,rfl⟩)
 have o:x.E.find? (λe=>e.id==i)=none:=by rw[pA];intro e he;simpa using n e he
 have hm:=ok.m i;rw[o]at hm;refine aN (fz x.fb) (n5 λy p=>kA y p ?_);refine aN (MP D x.r) (ov λs=>qN s ?_);obtain⟨p1,p2,p3,p4,p5,t,l⟩:=Zj p ok.AB ok.fr F;have G:=ok.AB;refine J.go (J.go ?_);rw[hm];repeat' first|apply J.go|refine Sa.go λ_=>?_|refine aD (by with_reducible decide) ?_|refine S2.go (λ_=>?_) λ_=>?_|refine Sc.go (by omega) ?_|done
 ·rename_i h;rw[p1]at h;cases h
 obtain⟨k,M⟩:∃k:Nat,x.S.cM=k:=⟨x.S.cM.toNat,by omega⟩;rw[M]at p2 p3 t l⊢;have f:k<256:=by omega
 rw[a7,aQ,aQ];refine bL (q:=cl b (ky x).toArray) (eB (by simp[ky,ok.li,ok.sQ];omega) rfl ?_);rw[Xu f ok.li];refine Sc.go (by omega) ?_;simp only[aQ,a7];refine bL (q:=cl b (ky {x with ids:=x.ids.set k i}).toArray) (eB (by simp[ky,ok.li,ok.sQ];omega) rfl ?_);rw[Xt f (by simpa using ok.li)]
 have g:∀e∈x.E,e.nd≠k:=λe he N=>by have:=(ok.e e he).2.2.2.2.2.2;rw[N,p3]at this;cases this
 obtain⟨h7,rfl⟩:∃h7:Nat,c=h7:=⟨c.toNat,by omega⟩;refine J.go (aN (dP x.cb) (zP (by simp) (by simpa using f) (λj=>?_) ?_))
 ·show¬k∈(if j=0 then x.E.map (·.nd)else[])
  split
  ·intro hm;obtain⟨e,he,d⟩:=bQ.1 hm;exact g e he d
  ·simp
 repeat apply J.go
 refine aN (dP x.ob) (zP (by simp only[mV];omega) (by simpa using f) (λj=>?_) ?_)
 ·show¬k∈(x.E.filter λe=>e.cl==(j:Int)).map (·.nd)
  intro hm;obtain⟨e,he,d⟩:=bQ.1 hm;exact g e (pB.1 he).1 d
 rw[Tg x.E ⟨i,h7,k⟩,WT x.E ⟨i,h7,k⟩ rfl];apply J.go
 have gf:Qu.Ok ⟨Q.L++[(i,(h7:Int))],Q.f'+1⟩ ⟨x.cb,x.ob,x.fb,x.r,x.E++[⟨i,h7,k⟩],x.S.opened,bE i (k:Int) x.m,x.ids.set k i,x.b6.set k x.S.fT⟩:=by
  refine⟨by simp[ok.L],?_,?_,λe he=>?_,λj=>?_,by simpa using ok.li,by simpa using ok.sQ,by simp only[p5];exact G,p4⟩
  ·simp only[e6,c4,oj]
   rw[dZ];refine⟨ok.Gi,by simp,λa ha z hz=>?_⟩;rw[fB]at hz;subst hz;obtain⟨e,he,rfl⟩:=bQ.1 ha;exact g e he
  ·simp only[e6,c4,oj]
   rw[dZ];refine⟨ok.Ft,by simp,λa ha z hz=>?_⟩;rw[fB]at hz;subst hz;obtain⟨e,he,rfl⟩:=bQ.1 ha;exact n e he
  ·simp only at he⊢
   rcases dL.1 he with he|he
   ·have d:=ok.e e he
    have u:=g e he;refine⟨d.1,d.2.1,d.2.2.1,d.2.2.2.1,by rw[oh (Ne.symm u)];exact d.2.2.2.2.1,by rw[oh (Ne.symm u)];unfold aV.gen;rw[p5];exact d.2.2.2.2.2.1,by rw[l,d.2.2.2.2.2.2];simp⟩
   ·rw[fB]at he
    subst he;refine⟨U,w,A,f,by simp[ok.li,f],?_,by rw[l];simp⟩;simp only;rw[tK (by rw[ok.sQ];exact f),t];unfold aV.gen;rw[p5]
  ·simp only
   rw[gR s];by_cases e:j=i
   ·rw[ah e,e,vP,o]
    simp
   ·rw[ak e,ok.m j,vP]
    have:([⟨i,h7,k⟩]:List Qe).find? (λe=>e.id==j)=none:=by rw[pA];intro y v;rw[fB]at v;subst v;simpa using Ne.symm e
    rw[this,Option.or_none]
 have:=rJ _ gf I;simp only[rI]at this;exact af this⟩
def Th(A C:List Qe)(e:Qe):(oN (A++e::C)).drop 0 (A.map (·.nd)++C.map (·.nd))=oN (A++C):=by
 unfold Ch.drop oN;congr 1;funext k;unfold up;by_cases h:k=0
 ·subst h;simp
 ·simp[h]
def WU(A C:List Qe)(e:Qe){k:Nat}(I:e.cl=k):(mV (A++e::C)).drop k ((A.filter λe=>e.cl==(k:Int)).map (·.nd)++(C.filter λe=>e.cl==(k:Int)).map (·.nd))=mV (A++C):=by
 unfold Ch.drop mV;congr 1;funext j;unfold up;by_cases h:j=k
 ·subst h;simp[mo]
 ·have:(e.cl==(j:Int))=false:=by rw[I];simp;omega
  simp[h,mo,this]
abbrev Qu.drop(Q:Qu)(i:Int):Qu:=⟨Q.L.filter λe=>e.1 !=i,Q.f'⟩
instance acA[h:Ow H (eR b) Q H0]:Sc B H (ab P 177 #[pz b,D i] K) (∃e∈Q.L,e.1=i) (T B (eR b (Q.drop i)::H0) (K (D 0))):=⟨by
 intro hi I;refine bh h.pl (an (Ph _ _) ?_);refine J.go (J.go (J.go ?_));refine Sa.go λx=>?_;intro ok
 have⟨e,he,l⟩:∃e∈x.E,e.id=i:=by obtain⟨y,d,s⟩:=hi;rw[<-ok.L]at d;obtain⟨e,he,rfl⟩:=bQ.1 d;exact⟨e,he,s⟩
 obtain⟨A,C,k⟩:=vL he;have f:=ok.Ft;have g:=ok.Gi;rw[k]at f g;simp only[e6,c4]at f g;rw[dZ]at f g;have o:∀y∈A,y.id≠i/\y.nd≠e.nd:=λy d=>⟨λh=>f.2.2 _ (bQ.2 ⟨y,d,rfl⟩) e.id (by simp) (h.trans l.symm),λh=>g.2.2 _ (bQ.2 ⟨y,d,rfl⟩) e.nd (by simp) h⟩;have hC:∀y∈C,y.id≠i/\y.nd≠e.nd:=λy d=>⟨λh=>(fp.1 f.2.1).1 (bQ.2 ⟨y,d,by rw[h,l]⟩),λh=>(fp.1 g.2.1).1 (bQ.2 ⟨y,d,h⟩)⟩
 have hf:x.E.find? (λe=>e.id==i)=some e:=by rw[k,vP,pA.2 λy d=>by simpa using(o y d).1,List.find?_cons,l];simp
 rw[hf];obtain⟨Z,aa,ac,t,ad,u,v⟩:=ok.e e he;refine J.go (aD (by simp) ?_);repeat apply J.go
 rw[k];refine aN (dP x.cb) (zQ (j:=0) (m:=e.nd) (a:=A.map (·.nd)) (c:=C.map (·.nd)) (by simp) ?_);rw[Th];repeat apply J.go
 obtain⟨h7,p⟩:∃h7:Nat,e.cl=h7:=⟨e.cl.toNat,by omega⟩;refine aN (dP x.ob) (zQ (j:=h7) (m:=e.nd) (a:=(A.filter λe=>e.cl==(h7:Int)).map (·.nd)) (c:=(C.filter λe=>e.cl==(h7:Int)).map (·.nd)) (by simp[mo,p]) ?_);rw[WU A C e p];repeat first|apply J.go|refine Sc.go (by simp;omega) ?_
 simp only[aQ,a7];apply a1 (Xr t ok.li ok.sQ);rw[List.getD,u,fC];repeat apply J.go
 have hr:x.S.right e.nd (x.S.gen e.nd)=true:=by unfold aV.right;rw[v];simp
 have w:x.S.close e.nd (x.S.gen e.nd)=x.S.shut e.nd:=by unfold aV.close;rw[ah hr]
 rw[w];refine aN (MP D x.r) (ov λF=>qN F ?_)
 have G:x.E.filter (λe=>e.id !=i)=A++C:=by rw[k,mo,List.filter_cons,ak (by simp[l]),qF.2 λy d=>by simpa using(o y d).1,qF.2 λy d=>by simpa using(hC y d).1]
 have gf:Qu.Ok (Q.drop i) {x with E:=A++C,S:=x.S.shut e.nd,m:=bO i x.m}:=by
  have q:∀y∈A++C,y∈x.E/\y.id≠i/\y.nd≠e.nd:=λy d=>by
   rcases dL.1 d with d|d
   ·exact⟨by rw[k];simp[d],o y d⟩
   ·exact⟨by rw[k];simp[d],hC y d⟩
  refine⟨?_,?_,?_,λy d=>?_,λj=>?_,ok.li,ok.sQ,by simpa[aV.shut]using ok.AB,ok.fr⟩
  ·show List.map _ (A++C)=Q.L.filter _
   rw[<-ok.L,vN,<-G];rfl
  ·simp only[e6]
   rw[dZ];exact⟨g.1,(fp.1 g.2.1).2,λa ha z hz=>g.2.2 a ha z (by simp only[cR];exact .inr hz)⟩
  ·simp only[e6]
   rw[dZ];exact⟨f.1,(fp.1 f.2.1).2,λa ha z hz=>f.2.2 a ha z (by simp only[cR];exact .inr hz)⟩
  ·obtain⟨U,ae,M⟩:=q y d
   obtain⟨N,O,R,V,W,X,Y⟩:=ok.e y U;refine⟨N,O,R,V,W,?_,?_⟩
   ·simp only
    rw[X];unfold aV.gen aV.shut;simp only[a7,List.getD];rw[oh (Ne.symm M)]
   ·simp only
    unfold aV.b7 aV.shut at*;simp only;rw[mR,ak (by omega)];exact Y
  ·simp only
   rw[mR];by_cases n:j=i
   ·rw[ah n,n,pA.2 λy d=>by simpa using(q y d).2.1];rfl
   ·rw[ak n,ok.m j,k,vP,vP,List.find?_cons]
    have:(e.id==j)=false:=by rw[l];simpa using Ne.symm n
    rw[this]
 have:=rJ _ gf I;simp only[rI]at this;exact af this⟩
def aba:zc P 294=(.pointer none:: .pointer none:: .pointer none:: .map none::(iv .i64 (List.replicate 256 0)++iv .i64 (List.replicate 256 0))).toArray:=by kernel_rfl
instance acC:Sa B H (ab P 79 #[] K) (λb=>T B (eR b ⟨[],0⟩::H) (K (pz b))):=⟨by
 intro I;apply an (Pe);refine zR (l:=1) (m:=256) (by omega) (by omega) λcb=>?_;apply J.go;refine zR (l:=64) (m:=256) (by omega) (by omega) λob=>?_;apply J.go;refine BP (n:=256) (by omega) λfb=>?_;repeat first|apply J.go|refine Sa.go λ_=>?_
 rename_i r b;refine bL (q:=IM r λ_=>none) (iQ D ?_)
 have ok:Qu.Ok ⟨[],0⟩ ⟨cb,ob,fb,r,[],aV.new 256,[],List.replicate 256 0,List.replicate 256 0⟩:=⟨rfl,by simp,by simp,by simp,λk=>rfl,by simp,by simp,by simp[aV.new],by simp[aV.new]⟩
 have:=rJ _ ok (I b);simp only[rI]at this;rw[aba];have a:oN []=Ch.new 1 256:=by unfold Ch.new oN;congr 1;funext k;split<;>rfl
 have c:mV []=Ch.new 64 256:=rfl;rw[a,c]at this;refine cq (cy _ _ _) (jP (ds:=(ky ⟨cb,ob,fb,r,[],aV.new 256,[],List.replicate 256 0,List.replicate 256 0⟩).toArray) rfl ?_);exact af this⟩
end
