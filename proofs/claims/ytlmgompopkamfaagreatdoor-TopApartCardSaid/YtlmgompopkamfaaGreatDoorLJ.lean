/- Lemmas that lead to TopApart (their names made short by a program); no condition. -/
import Derived.Test.YtlmgompopkamfaaGreatDoorLI
set_option linter.all false
set_option maxRecDepth 20000
set_option synthInstance.checkSynthOrder false
namespace Go.Proofs.YtlmgompopkamfaaGreatDoor
open Go.XS Go.bm
section
structure bD where
 ph:Nat
 own:Int
 gen:Int
 data:Option (List UInt8)
structure aE where
 size:Nat
 cs:List bD
 free:aN
 bl:Nat
structure fh where
 c:bD
 q:Nat
 w:av
structure M4 where
 a:Int
 b:Int
 c:Int
 d:Int
abbrev M4.mv(m:M4)(p:Nat):M4:=match p with
 |0=>⟨m.a-1,m.b+1,m.c,m.d⟩
 |1=>⟨m.a,m.b-1,m.c+1,m.d⟩
 |2=>⟨m.a,m.b,m.c-1,m.d+1⟩
 |_=>⟨m.a+1,m.b,m.c,m.d-1⟩
abbrev e9(r:fh):az:=[.int .u32 (if r.c.data.isSome then 1 else 0),.int .i32 0,.int .u32 0,J r.c.ph,.pointer (r.c.data.map λ_=>⟨r.q,0,none⟩),.pointer r.w]
def ho(r:fh):(e9 r).length=6:=rfl
def l4(r:fh):Option bc:=r.c.data.map (ei r.q)
def eV(rs:List fh):bc:=eA (rs.filterMap l4)
def fe(c:bD):Tag:=(c.own,c.gen)
def bD.zero:bD:=⟨0,0,0,none⟩
structure hR where
 tb:Nat
 fb:Nat
 cb:Nat
 kb:Nat
 rs:List fh
 ev:aN
 m:M4
abbrev ly(n size:Nat)(x:hR):aw:=
 #[pz x.tb,pz x.fb,.slice (some ⟨x.cb,0,none⟩) n n,J size,J x.m.a,J x.m.b,J x.m.c,J x.m.d,pz x.kb]
abbrev hJ(b:Nat)(S:aE)(x:hR)(H:au):au:=
 cl b (ly S.cs.length S.size x)::gY x.tb (S.cs.map fe)::fD x.fb S.cs.length S.free::cl x.cb (x.rs.flatMap e9).toArray::eV x.rs::er x.kb 4 x.ev::H
def aE.many(S:aE)(k:Nat):Nat:=S.cs.countP λc=>c.ph==k
structure aE.Inv(S:aE):Prop where
 n1:1<=S.cs.length
 n2:S.cs.length<=1048576
 s1:64<=S.size
 s2:S.size<=1048576
 ph:∀c∈S.cs,c.ph<=2/\0<=c.own/\(c.ph≠1->c.own=0)/\(c.ph=1->1<=c.own)/\0<=c.gen/\c.gen<=S.bl/\(c.data=none->c.ph=0)/\∀d,c.data=some d->d.length=S.size
 free:∀i:Int,i∈S.free↔∃c,S.cs[i.toNat]?=some c/\0<=i/\c.ph=0
 nodup:S.free.Nodup
 xh:S.free.length=S.many 0
structure aE.Ok(S:aE)(x:hR):Prop where
 rs:x.rs.map (·.c)=S.cs
 w:∀r∈x.rs,r.w=none
 s6:x.m.a=S.many 0
 mb:x.m.b=S.many 1
 s8:x.m.c=S.many 2
 md:x.m.d=0
 ev:∀e∈x.ev,e<=S.bl
 inv:S.Inv
def cf(b:Nat)(S:aE):bc:=BD S.Ok (hJ b S)
def aE.at'(S:aE)(i:Int):bD:=S.cs.getD i.toNat bD.zero
def aE.ok(S:aE)(i:Int):Bool:=decide (0<=i/\i<(S.cs.length:Int))
section
variable {B:Heap}{H H0:au}{K:aK}{b n:Nat}{S:aE}{i o g:Int}
def pv{q:HP}(t:∀x,S.Ok x->T B (hJ b S x H) q):T B (cf b S::H) q:=mC (λ_ _=>rfl) t
def h4{q:HP}(x:hR)(h:S.Ok x)(t:T B (cf b S::H) q):T B (hJ b S x H) q:=mB x h (λ_ _=>rfl) t
def aE.hG(h:S.ok i=true):S.cs[i.toNat]?=some (S.at' i)/\0<=i/\i<(S.cs.length:Int):=by simp only[aE.ok,bJ]at h;refine⟨?_,h⟩;unfold aE.at';rw[List.getD,bj (by omega)];rfl
instance {xs:aN}[h:Ow H (fD b n) xs H0]:St B H (ad P 375 #[pz b] K) (T B (fD b n xs.dropLast::H0) (K (.tuple #[J (xs.getLast?.getD 0),.bool (decide (0<xs.length))]))):=⟨λt=>bf h.pl (UD t)⟩
instance {v:Int}{xs:aN}[h:Ow H (fD b n) xs H0]:St B H (ad P 449 #[pz b,J v] K) (T B (fD b n (mf n xs v)::H0) (K (.bool (jC n xs v)))):=⟨λt=>bf h.pl (Uy t)⟩
instance {v y:Int}{xs:aN}[h:Ow H (er b n) xs H0]:St B H (ad P 300 #[pz b,J v,J y] K) (T B (er b n (fB xs v y)::H0) (K (J (iC xs v y)))):=⟨λt=>bf h.pl (TC t)⟩
instance {v:Int}{xs:aN}[h:Ow H (er b n) xs H0]:St B H (ad P 82 #[pz b,J v] K) (T B (er b n xs::H0) (K (J (hp xs v)))):=⟨λt=>bf h.pl (TD t)⟩
def Fy{α β:Type}{f:α->Option β}{l:List α}{i:Nat}{a a':α}{v:β}(ha:l[i]?=some a)(b:f a=some v)(c:f a'=none):(l.filterMap f).Perm (v::(l.set i a').filterMap f):=by
 induction l generalizing i with
 |nil=>simp at ha
 |cons x l d=>
  cases i with
  |zero=>simp at ha;subst ha;simp[lJ,b,c]
  |succ i=>
   have:=d (by simpa using ha);simp only[iO,lJ];split
   ·exact this
   ·exact(mu _ this).trans (cA _ _ _)
def wL{Hs a:au}{q:bc}{p:HP}(h:Hs.Perm (q::a))(t:T B (q::eA a::H) p):T B (eA Hs::H) p:=by refine lS (cp (I4 _ h) ?_);rw[qL];refine cp (List.perm_middle).symm (jQ ?_);exact bf (.tail .head) t
def wM{Hs a:au}{q:bc}{p:HP}(h:Hs.Perm (q::a))(t:T B (eA Hs::H) p):T B (q::eA a::H) p:=by refine bf (.tail .head) (lS ?_);refine cp (List.perm_middle) ?_;rw[<-qL];exact cp (I4 _ h.symm) (jQ t)
def zX{rs:List fh}{i:Nat}{r:fh}{d:List UInt8}{p:HP}(hr:rs[i]?=some r)(hd:r.c.data=some d)(t:T B (ei r.q d::eV (rs.set i ⟨bD.zero,0,none⟩)::H) p):T B (eV rs::H) p:=by unfold eV at*;exact wL (Fy hr (by simp[l4,hd]) (by simp[l4,bD.zero])) t
def wY{rs:List fh}{i:Nat}{r:fh}{d:List UInt8}{p:HP}(hi:i<rs.length)(hd:r.c.data=some d)(t:T B (eV (rs.set i r)::H) p):T B (ei r.q d::eV (rs.set i ⟨bD.zero,0,none⟩)::H) p:=by
 refine wM ?_ t;have:=Fy (f:=l4) (l:=rs.set i r) (i:=i) (a':=⟨bD.zero,0,none⟩) (a:=r) (v:=ei r.q d) (by simp[hi]) (by simp[l4,hd]) (by simp[l4,bD.zero])
 rwa [wk]at this
def sM{xs:aN}{k:Int}{c:Nat}(hl:xs.length=4)(h:∀e∈xs,0<=e/\e<=(c:Int))(U:0<=k/\k<4)(hc:c<1000000000):iC xs k 1=0/\∀e∈fB xs k 1,e<=((c+1:Nat):Int):=by
 have b:hp xs k<=(c:Int):=by
  unfold hp;rw[ag U.1,List.getD]
  cases a:xs[k.toNat]? with
  |none=>simp
  |some e=>have:=h e (cr a);simpa using this.2
 have he:iC xs k 1=0:=by unfold iC;rw[ag ⟨U.1,by omega,by omega⟩,aj (by unfold lg;omega)]
 refine⟨he,λe hm=>?_⟩;unfold fB at hm;rw[ag he]at hm;rcases ka hm with h1|rfl
 ·have:=h e h1;omega
 ·omega
abbrev mQ(r:fh):fh:=⟨⟨if r.c.ph=3 then 0 else r.c.ph+1,r.c.own,r.c.gen,r.c.data⟩,r.q,r.w⟩
abbrev oZ(x:hR)(i:Nat)(r:fh):hR:={x with m:=x.m.mv r.c.ph,rs:=x.rs.set i (mQ r),ev:=fB x.ev (r.c.ph:Int) 1}
def yB{x:hR}{size i:Nat}{r:fh}{e:Int}{Ha l o:au}(hr:x.rs[i]?=some r)(p:r.c.ph<=3)(he:e=(r.c.ph:Int)+1)(hm:∀v∈[x.m.a,x.m.b,x.m.c,x.m.d],-1000000000<v/\v<1000000000)(g:iC x.ev (r.c.ph:Int) 1=0)[h1:Pl H (cl b (ly n size x)) Ha][t:Pl Ha (cl x.cb (x.rs.flatMap e9).toArray) l][u:Pl l (er x.kb 4 x.ev) o](U:T B (cl b (ly n size (oZ x i r))::cl x.cb ((x.rs.set i (mQ r)).flatMap e9).toArray::er x.kb 4 (fB x.ev (r.c.ph:Int) 1)::o) (K (J 0))):T B H (ad P 379 #[pz b,.pointer (some ⟨x.cb,i*6,none⟩),J e] K):=by
 subst he;refine bf h1.pl (bf (.tail t.pl) (bf (.tail (.tail u.pl)) (an (R8 _ _ _) ?_)));simp only[cL,jJ,jm,Dj,forall_eq]at hm;obtain⟨s6,mb,s8,md⟩:=hm;apply oE ho hr (by omega) rfl;repeat' first|apply St.go|refine S2.go (λ_=>?_) λ_=>?_|done
 ·rename_i h
  exact absurd (by unfold vo;rw[ag ⟨by omega,by omega,by omega,by omega⟩,ag rfl]) h
 ·obtain⟨⟨ph,ow,j,k⟩,q,w⟩:=r
  simp only at p g hr⊢;obtain rfl|rfl|rfl|rfl:ph=0\/ph=1\/ph=2\/ph=3:=by omega
  ·have f:qs ((0:Nat):Int) (((0:Nat):Int)+1)=((1:Nat):Int):=by decide
   apply qV ho hr (by omega) rfl;simp only[f];refine ba ⟨by decide,by decide⟩ ?_;simp only[aR,aZ,bI,Nat.reduceAdd];repeat first|apply St.go|refine Sc.go (by omega) ?_
   simp only[aR,aZ,bI,Nat.reduceAdd];repeat first|apply St.go|refine Sc.go (by omega) ?_
   apply nG (s:=6) (a':=mQ ⟨⟨0,ow,j,k⟩,q,w⟩) ho hr (by omega) rfl rfl;rw[br (by omega),br (by omega),show IntKind.wrap .i64 (((0:Nat):Int)+1-1)=((0:Nat):Int) by decide];repeat apply St.go
   rw[g];dsimp only[oZ,M4.mv]at U;exact af U
  ·have f:qs ((1:Nat):Int) (((1:Nat):Int)+1)=((2:Nat):Int):=by decide
   apply qV ho hr (by omega) rfl;simp only[f];refine ba ⟨by decide,by decide⟩ ?_;simp only[aR,aZ,bI,Nat.reduceAdd];repeat first|apply St.go|refine Sc.go (by omega) ?_
   simp only[aR,aZ,bI,Nat.reduceAdd];repeat first|apply St.go|refine Sc.go (by omega) ?_
   apply nG (s:=6) (a':=mQ ⟨⟨1,ow,j,k⟩,q,w⟩) ho hr (by omega) rfl rfl;rw[br (by omega),br (by omega),show IntKind.wrap .i64 (((1:Nat):Int)+1-1)=((1:Nat):Int) by decide];repeat apply St.go
   rw[g];dsimp only[oZ,M4.mv]at U;exact af U
  ·have f:qs ((2:Nat):Int) (((2:Nat):Int)+1)=((3:Nat):Int):=by decide
   apply qV ho hr (by omega) rfl;simp only[f];refine ba ⟨by decide,by decide⟩ ?_;simp only[aR,aZ,bI,Nat.reduceAdd];repeat first|apply St.go|refine Sc.go (by omega) ?_
   simp only[aR,aZ,bI,Nat.reduceAdd];repeat first|apply St.go|refine Sc.go (by omega) ?_
   apply nG (s:=6) (a':=mQ ⟨⟨2,ow,j,k⟩,q,w⟩) ho hr (by omega) rfl rfl;rw[br (by omega),br (by omega),show IntKind.wrap .i64 (((2:Nat):Int)+1-1)=((2:Nat):Int) by decide];repeat apply St.go
   rw[g];dsimp only[oZ,M4.mv]at U;exact af U
  ·have f:qs ((3:Nat):Int) (((3:Nat):Int)+1)=((0:Nat):Int):=by decide
   apply qV ho hr (by omega) rfl;simp only[f];refine ba ⟨by decide,by decide⟩ ?_;simp only[aR,aZ,bI,Nat.reduceAdd];repeat first|apply St.go|refine Sc.go (by omega) ?_|refine bg rfl ?_
   simp only[aR,aZ,bI,Nat.reduceAdd];apply St.go;apply nG (s:=6) (a':=mQ ⟨⟨3,ow,j,k⟩,q,w⟩) ho hr (by omega) rfl rfl;rw[br (by omega),br (by omega),show IntKind.wrap .i64 (((3:Nat):Int)+1-1)=((3:Nat):Int) by decide];repeat apply St.go
   rw[g];dsimp only[oZ,M4.mv]at U;exact af U
def Cc{x:hR}{size:Nat}[h:bZ B H b (ly n size x)](U:T B H (K (.bool true))):T B H (ad P 83 #[pz b] K):=by
 apply an (R7 _);repeat apply St.go
 exact U
def Ig{x:hR}{size:Nat}[h:bZ B H b (ly n size x)](h0:0<=i)(h1:i<(n:Int))(U:T B H (K (.tuple #[.pointer (some ⟨x.cb,i.toNat*6,none⟩),J 0]))):T B H (ad P 149 #[pz b,J i] K):=by
 refine an (EA _ _) (St.go (Cc ?_));repeat' first|apply St.go|refine S2.go (λ_=>?_) λ_=>?_|refine Sc.go (by omega) ?_|done
 ·omega
 ·omega
 ·rw[aR,bI];exact U
def Z0{x:hR}{size:Nat}[h:bZ B H b (ly n size x)](h0:¬(0<=i/\i<(n:Int)))(U:T B H (K (.tuple #[.pointer none,J 2]))):T B H (ad P 149 #[pz b,J i] K):=by
 refine an (EA _ _) (St.go (Cc ?_));repeat' first|apply St.go|refine S2.go (λ_=>?_) λ_=>?_|refine Sc.go (by omega) ?_|done
 ·exact U
 ·exact U
 ·omega
instance adu[h:Ow H (cf b) S H0]:St B H (ad P 83 #[pz b] K) (T B (cf b S::H0) (K (.bool true))):=⟨λU=>bf h.pl (pv λx ok=>Cc (x:=x) (n:=S.cs.length) (size:=S.size) (h4 x ok U))⟩
def aE.Ok.row{x:hR}(ok:S.Ok x)(h:S.ok i=true):∃q,x.rs[i.toNat]?=some ⟨S.at' i,q,none⟩:=by
 obtain⟨h1,a,b⟩:=aE.hG h;have hm:=ok.rs▸h1;rw[e6]at hm
 cases hr:x.rs[i.toNat]? with
 |none=>rw[hr]at hm;cases hm
 |some r=>rw[hr]at hm;obtain⟨c,q,w⟩:=r;have hw:=ok.w _ (cr hr);simp only[iy,iR]at hm hw;exact⟨q,by rw[hw,hm]⟩
def yA(d:S.ok i=false->T B (cf b S::H) (K (.tuple #[.pointer none,J 2])))(e:∀x q,S.Ok x->S.ok i=true->x.rs[i.toNat]?=some ⟨S.at' i,q,none⟩->0<=i->i<(S.cs.length:Int)->T B (hJ b S x H) (K (.tuple #[.pointer (some ⟨x.cb,i.toNat*6,none⟩),J 0]))):T B (cf b S::H) (ad P 149 #[pz b,J i] K):=by
 refine pv λx ok=>?_;by_cases h:S.ok i=true
 ·obtain⟨q,f⟩:=ok.row h
  obtain⟨_,a,c⟩:=aE.hG h;exact Ig a c (e x q ok h f a c)
 ·rw[CS]at h
  exact Z0 (by simpa[aE.ok]using h) (h4 x ok (d h))
def HF{rs:List fh}{k:Nat}{r:fh}(hr:rs[k]?=some r):∃A C,A.length=k*6/\rs.flatMap e9=A++(e9 r++C)/\∀r',(rs.set k r').flatMap e9=A++(e9 r'++C):=by
 induction rs generalizing k with
 |nil=>simp at hr
 |cons y rs a=>
  cases k with
  |zero=>simp at hr;subst hr;exact⟨[],rs.flatMap e9,rfl,by simp,λr'=>by simp⟩
  |succ k=>obtain⟨A,C,h1,b,c⟩:=a (by simpa using hr);exact⟨e9 y++A,C,by rw[b',h1,ho];omega,by rw[gw,b,el],λr'=>by rw[iO,gw,c,el]⟩
def vC{A R C:az}{k j:Nat}{v:Value}(b:A.length=k)(h:R[j]?=some v):(A++(R++C)).toArray[k+j]?=some v:=by have a:j<R.length:=(bY.1 h).1;rw[dE,iu (by omega),show k+j-A.length=j by omega,gx a,h]
def yn{A R C:az}{k j:Nat}{v:Value}(b:A.length=k)(a:j<R.length):(A++(R++C)).toArray.setIfInBounds (k+j) v=(A++(R.set j v++C)).toArray:=by rw[jK,pI _ _ (by omega),show k+j-A.length=j by omega,pH _ _ a]
def ET{l:List bD}{k:Nat}{c c':bD}(f:bD->Bool)(U:l[k]?=some c):(l.set k c').countP f+(if f c then 1 else 0)=l.countP f+(if f c' then 1 else 0):=by
 induction l generalizing k with
 |nil=>simp at U
 |cons y l a=>
  cases k with
  |zero=>simp at U;subst U;simp only[jL,r6];omega
  |succ k=>have:=a (by simpa using U);simp only[iO,r6];omega
def bD.Ok(c:bD)(size bl:Nat):Prop:=c.ph<=2/\0<=c.own/\(c.ph≠1->c.own=0)/\(c.ph=1->1<=c.own)/\0<=c.gen/\c.gen<=bl/\(c.data=none->c.ph=0)/\∀d,c.data=some d->d.length=size
def wF{x:hR}(ok:S.Ok x){k:Nat}{c c':bD}{q:Nat}{f ev':aN}{g:M4}(U:S.cs[k]?=some c)(hc:c'.Ok S.size (S.bl+1))(hf:∀i:Int,i∈f↔(i∈S.free/\i≠k)\/(i=k/\c'.ph=0))(nd:f.Nodup)(v:f.length+(if c.ph=0 then 1 else 0)=S.free.length+(if c'.ph=0 then 1 else 0))(ha:g.a+(if c.ph=0 then 1 else 0)=x.m.a+(if c'.ph=0 then 1 else 0))(z:g.b+(if c.ph=1 then 1 else 0)=x.m.b+(if c'.ph=1 then 1 else 0))(A:g.c+(if c.ph=2 then 1 else 0)=x.m.c+(if c'.ph=2 then 1 else 0))(hd:g.d=0)(o:∀e∈ev',e<=((S.bl+1:Nat):Int)):aE.Ok ⟨S.size,S.cs.set k c',f,S.bl+1⟩ {x with rs:=x.rs.set k ⟨c',q,none⟩,m:=g,ev:=ev'}:=by
 have s:=(bY.1 U).1;have inv:=ok.inv
 have l:∀p,aE.many ⟨S.size,S.cs.set k c',f,S.bl+1⟩ p+(if c.ph=p then 1 else 0)=S.many p+(if c'.ph=p then 1 else 0):=λp=>by have:=ET (c':=c') (λc=>c.ph==p) U;simpa[aE.many]using this
 have h0:=l 0;have h1:=l 1;have n:=l 2;have B:=ok.s6;have C:=ok.mb;have D:=ok.s8;refine⟨?_,?_,?_,?_,?_,hd,o,?_⟩
 ·simp only[jj,ok.rs]
 ·intro r hr
  rcases ka hr with h|rfl
  ·exact ok.w r h
  ·rfl
 ·simp only;split at h0<;>split at h0<;>simp_all<;>omega
 ·simp only;split at h1<;>split at h1<;>simp_all<;>omega
 ·simp only;split at n<;>split at n<;>simp_all<;>omega
 ·refine⟨by simpa using inv.n1,by simpa using inv.n2,inv.s1,inv.s2,λy t=>?_,λj=>?_,nd,?_⟩
  ·rcases ka t with h|rfl
   ·have:=inv.ph y h
    refine⟨this.1,this.2.1,this.2.2.1,this.2.2.2.1,this.2.2.2.2.1,?_,this.2.2.2.2.2.2.1,this.2.2.2.2.2.2.2⟩;have:=this.2.2.2.2.2.1;simp only;omega
   ·exact hc
  ·rw[hf,inv.free]
   simp only[lK];by_cases e:j=k
   ·subst e
    simp[s]
   ·simp only[e,ne_eq,not_false_eq_true,kT,false_and,jm]
    by_cases u:0<=j
    ·rw[aj (by omega)]
    ·simp[u]
  ·have:=inv.xh
   simp only;omega
def aE.dp(S:aE):Int:=S.free.getLast?.getD 0
abbrev pw(S:aE)(o:Int)(c:bD):bD:=⟨1,o,c.gen,some (c.data.getD (List.replicate S.size 0))⟩
def aE.take(S:aE)(o:Int):aE:=if S.free=[]then S else⟨S.size,S.cs.set S.dp.toNat (pw S o (S.at' S.dp)),S.free.dropLast,S.bl+1⟩
def Cl{x:hR}(ok:S.Ok x)(hf:S.free≠[]):S.ok S.dp=true/\(S.at' S.dp).ph=0/\S.dp∈S.free/\∀j:Int,j∈S.free.dropLast↔j∈S.free/\j≠S.dp:=by
 have hl:S.free.getLast?=some (S.free.getLast hf):=C6 hf;have hi:S.dp=S.free.getLast hf:=by unfold aE.dp;rw[hl];rfl
 have hm:S.dp∈S.free:=by rw[hi];exact List.getLast_mem hf
 obtain⟨c,h1,a,b⟩:=(ok.inv.free _).1 hm;have d:S.at' S.dp=c:=by unfold aE.at';rw[List.getD,h1];rfl
 have f:=(bY.1 h1).1;refine⟨by simp only[aE.ok,bJ];omega,by rw[d];exact b,hm,λj=>?_⟩;have nd:=ok.inv.nodup;have e:=tR hf;rw[<-hi]at e;rw[<-e]at nd
 have hy:S.dp∉S.free.dropLast:=λh=>by have:=dP.1 nd;exact this.2.2 _ h _ (by simp) rfl
 constructor
 ·intro h
  exact⟨List.dropLast_subset _ h,λa=>hy (a▸h)⟩
 ·rintro⟨h,a⟩
  rw[<-e]at h;rcases dO.1 h with h|h
  ·exact h
  ·simp at h;exact absurd h a
def Iq{x:hR}(ok:S.Ok x)(hf:S.free≠[])(g:1<=o){q:Nat}{ev':aN}(b:∀e∈ev',e<=((S.bl+1:Nat):Int)):(S.take o).Ok {x with rs:=x.rs.set S.dp.toNat ⟨pw S o (S.at' S.dp),q,none⟩,m:=x.m.mv 0,ev:=ev'}:=by
 obtain⟨h1,a,i,c⟩:=Cl ok hf;obtain⟨U,f,k⟩:=aE.hG h1;have hc:=ok.inv.ph _ (cr U);unfold aE.take;rw[aj hf];refine wF ok U ?_ (λj=>?_) ?_ ?_ ?_ ?_ ?_ ?_ b
 ·refine⟨by simp,by simp;omega,by simp,by simp;omega,hc.2.2.2.2.1,?_,by simp,?_⟩
  ·have:=hc.2.2.2.2.2.1;simp only;omega
  ·rintro d ⟨⟩
   cases hd:(S.at' S.dp).data with
   |none=>simp
   |some d=>exact hc.2.2.2.2.2.2.2 d hd
 ·rw[c]
  simp only[Nat.one_ne_zero,and_false,jm];rw[r5 f]
 ·exact List.Nodup.sublist (List.dropLast_sublist _) ok.inv.nodup
 ·rw[a];simp only[Nat.one_ne_zero,ep,eb,List.length_dropLast]
  have:S.free.length≠0:=λh=>hf (kO.1 h);omega
 ·simp[a,M4.mv]
 ·simp[a,M4.mv]
 ·simp[a,M4.mv]
 ·exact ok.md
instance abH:Sx B H (ad P 377 #[J n] K) (1<=n/\n<=1048576) (λq:Nat=>T B (ei q (List.replicate n 0)::H) (K (pz q))):=⟨λh t=>LH h.1 h.2 t⟩
def Lt{rs:List fh}{k:Nat}{r:fh}(hr:rs[k]?=some r)(hd:r.c.data=none):eV rs=eV (rs.set k ⟨bD.zero,0,none⟩):=by
 unfold eV;apply congrArg eA
 induction rs generalizing k with
 |nil=>simp at hr
 |cons y l a=>
  cases k with
  |zero=>simp at hr;subst hr;simp[lJ,l4,hd,bD.zero]
  |succ k=>rw[iO,lJ,lJ,a (by simpa using hr)]
abbrev rv(size:Nat)(c:bD):bD:=⟨c.ph,c.own,c.gen,some (c.data.getD (List.replicate size 0))⟩
def Z1{x:hR}{k f g:Nat}{size:Nat}{r:fh}(hr:x.rs[k]?=some r)(h1:64<=size)(u:size<=1048576)(U:∀q,T B (cl f #[pz b]::cl g #[.pointer (some ⟨x.cb,k*6,none⟩)]::cl b (ly n size x)::cl x.cb ((x.rs.set k ⟨rv size r.c,q,r.w⟩).flatMap e9).toArray::eV (x.rs.set k ⟨rv size r.c,q,r.w⟩)::H0) (K (.tuple #[]))):T B (cl f #[pz b]::cl g #[.pointer (some ⟨x.cb,k*6,none⟩)]::cl b (ly n size x)::cl x.cb (x.rs.flatMap e9).toArray::eV x.rs::H0) (ad P 234 #[.pointer (some ⟨x.cb,k*6,none⟩),.func (.func 376) #[] #[pz f,pz g]] K):=by
 obtain⟨A,C,a,i,m⟩:=HF hr;obtain⟨⟨ph,ow,l,p⟩,q,w⟩:=r
 cases p with
 |some d=>
  refine bf (.tail (.tail (.tail .head))) (G4 (b:=x.cb) (o:=k*6) (cs:=(x.rs.flatMap e9).toArray) ?_ ?_)
  ·rw[i];exact vC (j:=0) a rfl
  ·have U:=U q
   simp only[rv,fx]at U
   have e:x.rs.set k ⟨⟨ph,ow,l,some d⟩,q,w⟩=x.rs:=by
    apply ji;intro j;rw[lK];split
    ·rename_i h;subst h;rw[hr];split
     ·rfl
     ·rename_i h;exact absurd (bY.1 hr).1 h
    ·rfl
   rw[e]at U;exact af U
 |none=>
  refine bf (.tail (.tail (.tail .head))) (WM (b:=x.cb) (o:=k*6) (cs:=(x.rs.flatMap e9).toArray) (α:=Nat)
   (cs2:=λq=>(A++([.int .u32 0,.int .i32 1,.int .u32 0,J ph,pz q,.pointer w]++C)).toArray)
   (H2:=λq=>ei q (List.replicate size 0)::cl f #[pz b]::cl g #[.pointer (some ⟨x.cb,k*6,none⟩)]::cl b (ly n size x)::eV x.rs::H0) ?_ ?_ ?_ ?_ ?_ ?_)
  ·rw[i];exact vC (j:=0) a rfl
  ·rw[i];exact vC (j:=1) a rfl
  ·intro q;exact vC (j:=0) a rfl
  ·intro q;exact vC (j:=1) a rfl
  ·intro Kf s
   rw[i,yn a (by simp)];show T B (cl x.cb (A++([.int .u32 0,.int .i32 1,.int .u32 0,J ph,.pointer none,.pointer w]++C)).toArray::_) _;apply an (R6 _ _);repeat first|apply St.go|refine Sx.go (by omega) λ_=>?_
   rename_i q;unfold cJ;rw[cR,aR];have y:A.length+6<=(A++([.int .u32 0,.int .i32 1,.int .u32 0,J ph,.pointer none,.pointer w]++C)).toArray.size:=by simp
   refine bL (q:=cl x.cb (A++([.int .u32 0,.int .i32 1,.int .u32 0,J ph,.pointer none,.pointer w]++C)).toArray) (eE (by omega) rfl ?_);rw[yn a (by simp)];simp only[iO,jL];exact af (s q)
  ·intro q
   have t:∀(R:az) (v:Value),0<R.length->(A++(R++C)).toArray.setIfInBounds (k*6) v=(A++(R.set 0 v++C)).toArray:=λR v h=>yn a h;rw[t _ _ (by simp),yn a (by simp)];have U:=U q;rw[m _]at U;rw[Lt hr rfl];simp only[iO,jL];refine aL (ei q) (aL eV (cp (cA _ _ _) (wY (r:=⟨⟨ph,ow,l,some (List.replicate size 0)⟩,q,w⟩) (bY.1 hr).1 rfl ?_)));exact af (H':=cl f #[pz b]::cl g #[.pointer (some ⟨x.cb,k*6,none⟩)]::cl b (ly n size x)::cl x.cb (A++([.int .u32 1,.int .i32 0,.int .u32 0,J ph,pz q,.pointer w]++C)).toArray::eV (x.rs.set k ⟨⟨ph,ow,l,some (List.replicate size 0)⟩,q,w⟩)::H0) U
def B2{rs:List fh}{k:Nat}{r r':fh}(h:e9 r=e9 r'):(rs.set k r).flatMap e9=(rs.set k r').flatMap e9:=by
 induction rs generalizing k with
 |nil=>rfl
 |cons y l a=>cases k with
  |zero=>rw[jL,jL,gw,gw,h]
  |succ k=>rw[iO,iO,gw,gw,a]
def YM{rs:List fh}{k:Nat}{r r':fh}(h:l4 r=l4 r'):eV (rs.set k r)=eV (rs.set k r'):=by
 unfold eV;apply congrArg eA
 induction rs generalizing k with
 |nil=>rfl
 |cons y l a=>cases k with
  |zero=>rw[jL,jL,lJ,lJ,h]
  |succ k=>rw[iO,iO,lJ,lJ,a]
def HV{rs:List fh}{k:Nat}{r r':fh}(hr:rs[k]?=some r)(h:l4 r=l4 r'):eV rs=eV (rs.set k r'):=by
 unfold eV;apply congrArg eA
 induction rs generalizing k with
 |nil=>simp at hr
 |cons y l a=>cases k with
  |zero=>simp at hr;subst hr;rw[jL,lJ,lJ,h]
  |succ k=>rw[iO,lJ,lJ,a (by simpa using hr)]
def z7{xs:aN}{p:HP}(t:xs.length=4->(∀e∈xs,0<=e)->T B (er b 4 xs::H) p):T B (er b 4 xs::H) p:=z8 λ_ _ h1 a=>t h1 λe he=>(a e he).1
def aE.Ok.ms{x:hR}(ok:S.Ok x):∀v∈[x.m.a,x.m.b,x.m.c,x.m.d],-1000000000<v/\v<1000000000:=by have e:=ok.inv.n2;have h:∀k,S.many k<=1048576:=λk=>lN r7 e;have h0:=h 0;have h1:=h 1;have f:=h 2;simp only[cL,jJ,jm,Dj,forall_eq,ok.s6,ok.mb,ok.s8,ok.md];omega
instance adt[h:Ow H (cf b) S H0]:Sc B H (ad P 308 #[pz b,J o] K) (1<=o/\S.bl<1000000) (T B (cf b (S.take o)::H0) (K (.tuple #[J (if S.free=[]then 0 else S.dp),J (if S.free=[]then 20 else 0)]))):=⟨by
 intro⟨m,D⟩ U;refine bf h.pl (an (R5 _ _) ?_);repeat' first|apply St.go|refine Sa.go λ_=>?_|refine S2.go (λ_=>?_) λ_=>?_|done
 ·omega
 rename_i p _;refine aL (cf b) (pv λx ok=>?_);by_cases hf:S.free=[]
 ·have e:S.take o=S:=by unfold aE.take;rw[ag hf]
  rw[e,ag hf,ag hf]at U;have hd:S.free.dropLast=S.free:=by rw[hf];rfl
  repeat' first|apply St.go|refine S2.go (λ_=>?_) λ_=>?_|done
  ·rw[hd]
   exact af (h4 x ok U)
  all_goals (exfalso;simp[hf]at*)
 ·obtain⟨aM,a,E,F⟩:=Cl ok hf
  obtain⟨c,G,I⟩:=aE.hG aM;obtain⟨s,d⟩:=ok.row aM;rw[aj hf,aj hf]at U;have inv:=ok.inv;have t:S.free.getLast?.getD 0=S.dp:=rfl;have u:0<S.free.length:=r9.2 hf;apply St.go;apply St.go;rw[t,cM u];repeat first|apply St.go|refine Sa.go λ_=>?_|refine Sc.go (by omega) ?_
  rw[aR,aR];simp only[bI,mA];rename_i v;refine bL (q:=eV x.rs) ?_;refine bL (q:=cl x.cb (x.rs.flatMap e9).toArray) ?_;refine bL (q:=cl b (ly S.cs.length S.size x)) ?_;refine bL (q:=cl v #[.pointer (some ⟨x.cb,S.dp.toNat*6,none⟩)]) ?_;refine bL (q:=cl p #[pz b]) ?_;refine Z1 (r:=⟨S.at' S.dp,s,none⟩) d inv.s1 inv.s2 λq=>?_;have w:jf (S.cs.map fe) S.dp=true:=by simp only[jf,eX,bJ];omega
  have f:e5 (S.cs.map fe) S.dp=fe (S.at' S.dp):=by unfold e5;rw[List.getD,e6,c];rfl
  have g:vj (S.cs.map fe) S.dp o=0:=by have:=(inv.ph _ (cr c)).2.2.1 (by omega);unfold vj;rw[ag w,aj (by omega),f];exact ag this
  have y:xV (S.cs.map fe) S.dp o=(S.cs.set S.dp.toNat (pw S o (S.at' S.dp))).map fe:=by unfold xV;rw[ag g,jj,f];rfl
  apply St.go;apply St.go;apply St.go;apply St.go;rw[g,y];apply St.go;apply St.go;repeat apply St.go
  have z:=(bY.1 d).1;refine aL (er x.kb 4) (z7 λA C=>?_);have j:=sM (k:=0) A (λe he=>⟨C e he,ok.ev e he⟩) (by omega) (by omega:S.bl<1000000000)
  refine yB (x:={x with rs:=x.rs.set S.dp.toNat ⟨rv S.size (S.at' S.dp),q,none⟩}) (n:=S.cs.length) (size:=S.size) (i:=S.dp.toNat)
   (r:=⟨rv S.size (S.at' S.dp),q,none⟩) ?_ ?_ ?_ ok.ms ?_ ?_
  ·simp[z]
  ·simp only;omega
  ·simp only[a];rfl
  ·simp only[a];exact j.1
  ·have e:S.take o=⟨S.size,S.cs.set S.dp.toNat (pw S o (S.at' S.dp)),S.free.dropLast,S.bl+1⟩:=by unfold aE.take;rw[aj hf]
   have fY:=Iq (q:=q) ok hf m j.2;rw[e]at U fY;have l:=h4 _ fY U;simp only[hJ,hb]at l;rw[YM (r:=⟨rv S.size (S.at' S.dp),q,none⟩) (r':=⟨pw S o (S.at' S.dp),q,none⟩) rfl];simp only[oZ,a,wk];rw[B2 (r:=mQ ⟨rv S.size (S.at' S.dp),q,none⟩) (r':=⟨pw S o (S.at' S.dp),q,none⟩) (by simp[a])];apply St.go;exact af l⟩
def aE.kq(S:aE)(i o:Int):Int:=if S.ok i then(if(S.at' i).ph=1/\(S.at' i).own=o then 0 else 18)else 2
abbrev oT(c:bD):bD:=⟨2,0,c.gen,c.data⟩
def aE.defer(S:aE)(i o:Int):aE:=if S.kq i o=0 then⟨S.size,S.cs.set i.toNat (oT (S.at' i)),S.free,S.bl+1⟩else S
def EZ{x:hR}(ok:S.Ok x)(hi:S.ok i=true)(a:(S.at' i).ph=1){q:Nat}{ev':aN}(b:∀e∈ev',e<=((S.bl+1:Nat):Int)):aE.Ok ⟨S.size,S.cs.set i.toNat (oT (S.at' i)),S.free,S.bl+1⟩ {x with rs:=x.rs.set i.toNat ⟨oT (S.at' i),q,none⟩,m:=x.m.mv 1,ev:=ev'}:=by
 obtain⟨U,d,f⟩:=aE.hG hi;have hc:=ok.inv.ph _ (cr U);refine wF ok U ?_ (λj=>?_) ok.inv.nodup ?_ ?_ ?_ ?_ ?_ b
 ·refine⟨by simp,by simp,by simp,by simp,hc.2.2.2.2.1,?_,?_,hc.2.2.2.2.2.2.2⟩
  ·have:=hc.2.2.2.2.2.1;simp only;omega
  ·intro h;have:=hc.2.2.2.2.2.2.1 h;omega
 ·refine⟨λh=> .inl ⟨h,λe=>?_⟩,λh=>h.elim (λh=>h.1) λh=>absurd h.2 (by simp)⟩
  obtain⟨c,h1,g,k⟩:=(ok.inv.free _).1 h;subst e;rw[aZ,U]at h1;cases h1;omega
 ·simp[a]
 ·simp[a,M4.mv]
 ·simp[a,M4.mv]
 ·simp[a,M4.mv]
 ·exact ok.md
instance ado[h:Ow H (cf b) S H0]:Sc B H (ad P 360 #[pz b,J i,J o] K) (S.bl<1000000) (T B (cf b (S.defer i o)::H0) (K (J (S.kq i o)))):=⟨by
 intro z U;refine bf h.pl (an (RX _ _ _) ?_);unfold aE.defer at U;refine yA (λt=>?_) λx q ok aM f A C=>?_
 ·have e:S.kq i o=2:=by unfold aE.kq;rw[t];rfl
  rw[e,aj (by omega)]at U;repeat first|apply St.go|refine bo (by with_reducible decide) ?_
  exact U
 ·have inv:=ok.inv
  obtain⟨l,_,_⟩:=aE.hG aM;have m:jf (S.cs.map fe) i=true:=by simp only[jf,eX,bJ];omega
  have g:e5 (S.cs.map fe) i=fe (S.at' i):=by unfold e5;rw[List.getD,e6,l];rfl
  have hd:S.kq i o=if(S.at' i).ph=1/\(S.at' i).own=o then 0 else 18:=by unfold aE.kq;rw[ag aM]
  have j:tl (S.cs.map fe) i=(S.at' i).own:=by unfold tl;rw[ag m,g];rfl
  repeat apply St.go
  apply oE ho f (by omega) rfl;repeat' first|apply St.go|refine S2.go (λ_=>?_) λ_=>?_|done
  ·rename_i h1
   rw[aj (by rintro⟨a,_⟩;exact h1 (by simp only[a];rfl))]at hd;rw[hd,aj (by omega)]at U;exact af (h4 x ok U)
  ·rename_i h1 a
   rw[j]at a;rw[aj (by rintro⟨_,d⟩;exact a d)]at hd;rw[hd,aj (by omega)]at U;exact af (h4 x ok U)
  ·rename_i h1 a d
   rw[j]at a;have c:(S.at' i).ph=1:=by simp only at h1;omega
   have:=(inv.ph _ (cr l)).2.2.2.1 c;refine absurd ?_ d;unfold uU;rw[ag m,g,aj (by show¬(S.at' i).own=0;omega)]
  ·rename_i h1 a d
   rw[j]at a;have c:(S.at' i).ph=1:=by simp only at h1;omega
   have u:uU (S.cs.map fe) i=0:=d;rw[ag ⟨c,a⟩]at hd;rw[hd,ag rfl]at U
   have v:xB (S.cs.map fe) i=(S.cs.set i.toNat (oT (S.at' i))).map fe:=by unfold xB;rw[ag u,jj,g];rfl
   rw[v];refine aL (er x.kb 4) (z7 λw y=>?_);have p:=sM (k:=1) w (λe he=>⟨y e he,ok.ev e he⟩) (by omega) (by omega:S.bl<1000000000);refine yB (x:=x) (n:=S.cs.length) (size:=S.size) (i:=i.toNat) (r:=⟨S.at' i,q,none⟩) f ?_ ?_ ok.ms ?_ ?_
   ·simp only;omega
   ·simp only[c];rfl
   ·simp only[c];exact p.1
   ·have fY:=EZ (q:=q) ok aM c p.2
    have s:=h4 _ fY U;simp only[hJ,hb]at s;simp only[oZ,c];rw[B2 (r:=mQ ⟨S.at' i,q,none⟩) (r':=⟨oT (S.at' i),q,none⟩) (by simp[c])];rw[HV (r:=⟨S.at' i,q,none⟩) (r':=⟨oT (S.at' i),q,none⟩) f rfl];apply St.go;exact af s⟩
def vM(aM:S.ok i=true):jf (S.cs.map fe) i=true/\e5 (S.cs.map fe) i=fe (S.at' i):=by obtain⟨a,h0,h1⟩:=aE.hG aM;exact⟨by simp only[jf,eX,bJ];omega,by unfold e5;rw[List.getD,e6,a];rfl⟩
def Xb(aM:S.ok i=true):tl (S.cs.map fe) i=(S.at' i).own:=by unfold tl;rw[ag (vM aM).1,(vM aM).2];rfl
def AD(aM:S.ok i=true):xk (S.cs.map fe) i=(S.at' i).gen:=by unfold xk;rw[ag (vM aM).1,(vM aM).2];rfl
def DG{rs:List fh}{k j:Nat}{r:fh}{v:Value}{p:HP}[h:bZ B H b (rs.flatMap e9).toArray](ha:rs[k]?=some r)(a:j<6)(c:(e9 r)[j]?=some v)(t:T B H p):T B H (c7 (λσ=>b0 σ (Addr.add ⟨b,k*6,none⟩ j)=some v) p):=by rw[aR];exact eT (vD ho ha a c) t
abbrev fo(c:bD):az:=[J c.ph,J c.own,J c.gen]
instance adn[h:Ow H (cf b) S H0]:St B H (ad P 84 #[pz b,J i] K) (T B (cf b S::H0) (K (.tuple #[.agg (fo (if S.ok i then S.at' i else bD.zero)).toArray,.bool (S.ok i)]))):=⟨by
 intro U;refine bf h.pl (an (RW _ _) ?_);refine Sa.go λ_=>?_;rename_i k;refine aL (cf b) (yA (λc=>?_) λx q ok aM a d e=>?_)
 ·rw[c]at U
  repeat first|apply St.go|refine bo (by with_reducible decide) ?_|refine Sc.go (by first|rfl|exact⟨rfl,rfl⟩) ?_
  exact af U
 ·rw[aM]at U
  repeat apply St.go
  apply qV ho a (by omega) rfl;repeat apply St.go
  apply DG a (by omega) rfl;repeat apply St.go
  apply DG a (by omega) rfl;rw[Xb aM,AD aM];repeat refine Sc.go (by first|rfl|exact⟨rfl,rfl⟩) ?_
  exact af (h4 x ok U)⟩
def aE.gC(S:aE)(i g:Int):Int:=if S.ok i then(if(S.at' i).ph=1/\(S.at' i).gen=g then 0 else 4)else 2
def Ih(c:S.gC i g≠0->T B (cf b S::H) (K (.tuple #[.pointer none,J (S.gC i g)])))(j:∀x q d,S.Ok x->S.ok i=true->x.rs[i.toNat]?=some ⟨S.at' i,q,none⟩->(S.at' i).data=some d->S.gC i g=0->T B (hJ b S x H) (K (.tuple #[pz q,J 0]))):T B (cf b S::H) (ad P 296 #[pz b,J i,J g] K):=by
 refine an (R9 _ _ _) (yA (λk=>?_) λx q ok aM f n o=>?_)
 ·have e:S.gC i g=2:=by unfold aE.gC;rw[k];rfl
  rw[e]at c;repeat first|apply St.go|refine bo (by with_reducible decide) ?_
  exact c (by omega)
 ·have hd:S.gC i g=if(S.at' i).ph=1/\(S.at' i).gen=g then 0 else 4:=by unfold aE.gC;rw[ag aM]
  repeat apply St.go
  apply oE ho f (by omega) rfl;repeat' first|apply St.go|refine S2.go (λ_=>?_) λ_=>?_|done
  ·rename_i h1
   rw[aj (by rintro⟨a,_⟩;exact h1 (by simp only[a];rfl))]at hd;rw[hd]at c;exact af (h4 x ok (c (by omega)))
  ·rename_i h1 a
   rw[AD aM]at a;rw[aj (by rintro⟨_,l⟩;exact a l)]at hd;rw[hd]at c;exact af (h4 x ok (c (by omega)))
  ·rename_i h1 a
   rw[AD aM]at a;have m:(S.at' i).ph=1:=by simp only at h1;omega
   rw[ag ⟨m,a⟩]at hd;have hc:=ok.inv.ph _ (cr (aE.hG aM).1)
   cases h:(S.at' i).data with
   |none=>have:=hc.2.2.2.2.2.2.1 h;omega
   |some d=>exact wJ ho f (by omega) (by simp[h]) (af (j x q d ok aM f h hd))
def aE.hV(S:aE)(i:Int):List UInt8:=(S.at' i).data.getD []
def aE.s5(S:aE)(i g a m:Int):Int:=if S.gC i g=0 then hW (S.hV i).length a m else S.gC i g
def aE.loadT(S:aE)(i g a m:Int):List UInt8:=if S.gC i g=0 then uY (S.hV i) a m else[]
instance adp{a m:Int}[h:Ow H (cf b) S H0]:St B H (ad P 200 #[pz b,J i,J g,J a,J m] K) (T B (cf b S::H0) (K (.tuple #[.string ⟨(S.loadT i g a m).toArray⟩,J (S.s5 i g a m)]))):=⟨by
 intro U;refine bf h.pl (an (RY _ _ _ _ _) ?_);unfold aE.s5 aE.loadT at U;refine Ih (λc=>?_) λx q d ok aM e f hl=>?_
 ·rw[aj c,aj c]at U
  repeat' first|apply St.go|refine S2.go (λ_=>?_) λ_=>?_|done
  ·exact U
  ·rename_i h;exact absurd h c
 ·rw[ag hl,ag hl,show S.hV i=d by unfold aE.hV;rw[f];rfl]at U
  repeat apply St.go
  refine aL eV (zX e f (LG ?_));refine St.go (aL eV (bf (.tail .head) (wY (bY.1 e).1 f ?_)));rw[<-HV e rfl];exact af (h4 x ok U)⟩
def p7(c:bD):(fo c).length=3:=rfl
def abm:zc P 83=(fo bD.zero).toArray:=by kernel_rfl
def Tj:P.cellsOf 83=3:=by kernel_rfl
def LB:P.bytesOf 83=24:=by kernel_rfl
instance adm[h:Ow H (cf b) S H0]:Sa B H (ad P 38 #[pz b] K) (λq:Nat=>T B (cf b S::ah 3 (some ⟨q,0,none⟩) S.cs.length S.cs.length (S.cs.flatMap fo)::H0) (K (.slice (some ⟨q,0,none⟩) S.cs.length S.cs.length))):=⟨by
 intro U;refine bf h.pl (an (RU _) ?_);repeat apply St.go
 refine aL (cf b) (pv λx ok=>?_);have n2:=ok.inv.n2;refine St.go (h4 x ok ?_);refine gy (by omega) (by omega) (by omega) (by rw[LB];omega) (by kernel_rfl) (by kernel_rfl) λq=>?_;rw[Tj,abm,aZ,qx (f:=fo) (s:=3) bD.zero rfl (by omega)];refine dh S.cs.length (by omega) (λk H'=>H'=cl q ((S.cs.take k++List.replicate (S.cs.length-k) bD.zero).flatMap fo).toArray::cf b S::H0) (by simp) ?_;rintro k H' R d rfl a;repeat' first|apply St.go|refine S2.go (λ_=>?_) λ_=>?_|refine Sc.go (by omega) ?_|done
 ·have c:k<S.cs.length:=by omega
  have aM:S.ok (k:Int)=true:=by simp only[aE.ok,bJ];omega
  rw[ag aM,aR,aZ,bI];refine bf (.tail .head) ?_;apply Kl p7 (by simp;omega) rfl;apply a c _
  have e:(S.cs.take k++List.replicate (S.cs.length-k) bD.zero).set k (S.at' k)=S.cs.take (k+1)++List.replicate (S.cs.length-(k+1)) bD.zero:=by rw[pI _ _ (by rw[fv];omega),fv,show k-min k S.cs.length=0 by omega,show S.cs.length-k=(S.cs.length-(k+1))+1 by omega,se,jL,List.take_add_one,el];have h1:=(aE.hG aM).1;rw[aZ]at h1;rw[h1];rfl
  rw[e]
 ·have he:k=S.cs.length:=by omega
  subst he;simp only[ix,kS,tZ,j9];refine kk (l:=S.cs.length) 3 (by simp[dj p7]) ?_;exact af (U q)⟩
instance adr[h:Ow H (cf b) S H0]:St B H (ad P 140 #[pz b] K) (T B (cf b S::H0) (K (J S.size))):=⟨by
 intro U;refine bf h.pl (pv λx ok=>an (R2 _) ?_);repeat apply St.go
 exact af (h4 x ok U)⟩
instance adq[h:Ow H (cf b) S H0]:St B H (ad P 204 #[pz b] K) (T B (cf b S::H0) (K (.agg #[J (S.many 0),J (S.many 1),J (S.many 2),J 0]))):=⟨by
 intro U;refine bf h.pl (pv λx ok=>an (RZ _) ?_);rw[<-ok.s6,<-ok.mb,<-ok.s8]at U;have hd:=ok.md;repeat first|apply St.go|refine Sa.go λ_=>?_
 unfold jW;rw[cR,aR,bI];refine iV #[J x.m.a,J x.m.b,J x.m.c,J x.m.d] rfl (λj e=>?_) ?_
 ·obtain rfl|rfl|rfl|rfl:j=0\/j=1\/j=2\/j=3:=by omega
  all_goals rfl
 ·repeat refine Sc.go (by first|rfl|exact⟨rfl,rfl⟩) ?_
  rw[hd];exact af (h4 x ok U)⟩
def abh:zc P 317=(e9 ⟨bD.zero,0,none⟩).toArray:=by kernel_rfl
def Td:P.cellsOf 317=6:=by kernel_rfl
def Lu:P.bytesOf 317=40:=by kernel_rfl
def aE.new(n size:Nat):aE:=⟨size,List.replicate n bD.zero,hq n 0,0⟩
def u9{size:Nat}{tb fb cb kb:Nat}(h1:1<=n)(d:n<=1048576)(f:64<=size)(g:size<=1048576)(nd:(hq n 0).Nodup):(aE.new n size).Ok ⟨tb,fb,cb,kb,List.replicate n ⟨bD.zero,0,none⟩,List.replicate 4 0,⟨n,0,0,0⟩⟩:=by
 have hz:∀k,(aE.new n size).many k=if k=0 then n else 0:=λk=>by
  simp only[aE.many,aE.new,I7,bD.zero];by_cases e:k=0
  ·subst e;simp
  ·rw[aj (by simp;omega),aj e]
 have hlen:(hq n 0).length=n:=by simp[hq]
 refine⟨by simp[aE.new],λr hr=>by rw[lI hr],by simp[hz],by simp[hz],by simp[hz],rfl,λe he=>by rw[lI he];simp[aE.new],?_⟩;refine⟨by simpa[aE.new]using h1,by simpa[aE.new]using d,f,g,λc hc=>?_,λj=>?_,nd,by rw[hz,ag rfl];exact hlen⟩
 ·rw[lI hc];simp[bD.zero,aE.new]
 ·show j∈hq n 0↔_
  rw[Ap];simp only[aE.new];constructor
  ·rintro⟨a,b⟩
   exact⟨bD.zero,by rw[r8,ag (by omega)],by omega,rfl⟩
  ·rintro⟨c,a,b,_⟩
   rw[r8]at a;split at a
   ·omega
   ·cases a
instance :Sx B H (ad P 137 #[J n] K) (n<=1048576) (λq=>T B (gY q (List.replicate n (0,0))::H) (K (pz q))):=⟨λh t=>aab h t⟩
instance :Sx B H (ad P 138 #[J n] K) (n<=1048576) (λq=>T B (fD q n (hq n 0)::H) (K (pz q))):=⟨λh t=>UA h t⟩
instance :Sa B H (ad P 139 #[J 4] K) (λq=>T B (er q 4 (List.replicate 4 0)::H) (K (pz q))):=⟨λt=>EU (n:=4) (by omega) (by omega) t⟩
instance {f:Nat->HP}:Sx B H (c5 P 317 n n f) (n<=1048576) (λq=>T B (cl q ((List.replicate n ⟨bD.zero,0,none⟩).flatMap e9).toArray::H) (f q)):=⟨λh t=>by refine gy (by omega) (by omega) (by omega) (by rw[Lu];omega) (by kernel_rfl) (by kernel_rfl) λq=>?_;rw[Td,abh,aZ,qx (f:=e9) (s:=6) _ rfl (by omega)];exact t q⟩
def o1(c z:Int):Bool:=decide (1<=c/\c<=1048576/\64<=z/\z<=1048576)&&nY z
def ZY{c z:Int}(f:o1 c z=false->T B H (K (.tuple #[.pointer none,J 2])))(k:∀n m q:Nat,c=n->z=m->1<=n->n<=1048576->64<=m->m<=1048576->nY z=true->T B (cf q (aE.new n m)::H) (K (.tuple #[pz q,J 0]))):T B H (ad P 75 #[J c,J z] K):=by
 apply an (RT _ _);repeat' first|apply St.go|refine S2.go (λ_=>?_) λ_=>?_|done
 ·exact f (by simp[o1];omega)
 ·exact f (by simp[o1];omega)
 ·exact f (by simp[o1];omega)
 ·exact f (by simp[o1];omega)
 ·refine Sc.go (by unfold aF;omega) ?_
  refine St.go (S2.go (λg=>?_) λg=>?_)
  ·exact f (by simp[o1,g])
  obtain⟨n,rfl⟩:∃n:Nat,c=n:=⟨c.toNat,by omega⟩;obtain⟨m,rfl⟩:∃m:Nat,z=m:=⟨z.toNat,by omega⟩;have h1:1<=n:=by omega
  have h:n<=1048576:=by omega
  have i:64<=m:=by omega
  have j:m<=1048576:=by omega
  have fin:∀tb fb cb kb q,T B (cl q #[pz tb,pz fb,.slice (some ⟨cb,0,none⟩) n n,J m,J n,J 0,J 0,J 0,pz kb]::
    gY tb (List.replicate n (0,0))::fD fb n (hq n 0)::cl cb ((List.replicate n ⟨bD.zero,0,none⟩).flatMap e9).toArray::er kb 4 (List.replicate 4 0)::H) (K (.tuple #[pz q,J 0])):=λtb fb cb kb q=>by
   refine aL (fD fb n) (uM λnd _ _=>?_);have:=h4 _ (u9 (tb:=tb) (fb:=fb) (cb:=cb) (kb:=kb) h1 h i j nd) (k n m q rfl rfl h1 h i j g);refine jQ (Hs:=[]) ?_;simp only[hJ,aE.new,g',List.map_replicate,fe,bD.zero]at this;rw[show(⟨⟨0,0,0,none⟩,0,none⟩:fh)=⟨bD.zero,0,none⟩from rfl]at this
   have e:eV (List.replicate n ⟨bD.zero,0,none⟩)=eA []:=by unfold eV;rw[show(List.replicate n (⟨bD.zero,0,none⟩:fh)).filterMap l4=[] by rw[List.filterMap_eq_nil_iff];intro r hr;rw[lI hr];rfl]
   rw[e]at this;exact af this
  refine St.go (St.go ?_);simp only[aZ];refine e0 ?_ ?_
  ·repeat first|apply St.go|refine Sx.go (by omega) λ_=>?_
   refine e0 ?_ ?_
   ·repeat first|apply St.go|refine Sx.go (by omega) λ_=>?_
    refine e0 ?_ ?_
    ·repeat first|apply St.go|refine Sa.go λ_=>?_|refine Sc.go (by omega) ?_|refine Sx.go (by omega) λ_=>?_
     rename_i a b c d e;exact af (fin a b c d e)
    ·repeat first|apply St.go|refine Sa.go λ_=>?_|refine Sc.go (by omega) ?_|refine Sx.go (by omega) λ_=>?_
     rename_i a b c d e;exact af (fin a b d c e)
   ·repeat first|apply St.go|refine Sa.go λ_=>?_|refine Sc.go (by omega) ?_|refine Sx.go (by omega) λ_=>?_
    rename_i a b c d e;exact af (fin a c b d e)
  ·repeat first|apply St.go|refine Sa.go λ_=>?_|refine Sc.go (by omega) ?_|refine Sx.go (by omega) λ_=>?_
   rename_i a b c d e;exact af (fin b c a d e)
end
end
section
def aE.fO(S:aE)(i g a:Int)(t:List UInt8):Int:=if S.gC i g=0 then hW (S.hV i).length a t.length else S.gC i g
abbrev kF(c:bD)(a:Int)(t:List UInt8):bD:=⟨c.ph,c.own,c.gen,some (stored (c.data.getD []) a t)⟩
def aE.put(S:aE)(i g a:Int)(t:List UInt8):aE:=if S.gC i g=0 then⟨S.size,S.cs.set i.toNat (kF (S.at' i) a t),S.free,S.bl+1⟩else S
section
variable {B:Heap}{H H0:au}{K:aK}{b n:Nat}{S:aE}{i o g:Int}
instance ads{a:Int}{t:List UInt8}[h:Ow H (cf b) S H0]:St B H (ad P 199 #[pz b,J i,J g,J a,.string ⟨t.toArray⟩] K) (T B (cf b (S.put i g a t)::H0) (K (J (S.fO i g a t)))):=⟨by
 intro U;refine bf h.pl (an (R4 _ _ _ _ _) ?_);unfold aE.put aE.fO at U;refine Ih (λl=>?_) λx q d ok aM n f hl=>?_
 ·rw[aj l,aj l]at U
  repeat' first|apply St.go|refine S2.go (λ_=>?_) λ_=>?_|done
  ·exact U
  ·rename_i h;exact absurd h l
 ·rw[ag hl,ag hl,show S.hV i=d by unfold aE.hV;rw[f];rfl]at U
  obtain⟨k,E,F⟩:=aE.hG aM;have hc:=ok.inv.ph _ (cr k);repeat apply St.go
  refine aL eV (zX n f (LJ ?_));apply St.go;have p:kF (S.at' i) a t=⟨(S.at' i).ph,(S.at' i).own,(S.at' i).gen,some (stored d a t)⟩:=by unfold kF;rw[f];rfl
  refine aL eV (bf (.tail .head) (wY (r:=⟨kF (S.at' i) a t,q,none⟩) (bY.1 n).1 (by rw[p]) ?_))
  have fY:aE.Ok ⟨S.size,S.cs.set i.toNat (kF (S.at' i) a t),S.free,S.bl+1⟩ {x with rs:=x.rs.set i.toNat ⟨kF (S.at' i) a t,q,none⟩,m:=x.m,ev:=x.ev}:=by
   refine wF ok k ?_ (λj=>?_) ok.inv.nodup ?_ ?_ ?_ ?_ ok.md ?_
   ·refine⟨hc.1,hc.2.1,hc.2.2.1,hc.2.2.2.1,hc.2.2.2.2.1,?_,by simp,?_⟩
    ·have:=hc.2.2.2.2.2.1;simp only;omega
    ·rintro y s
     cases s;rw[Z3,f];exact hc.2.2.2.2.2.2.2 d f
   ·constructor
    ·intro h
     by_cases e:j=(i.toNat:Int)
     ·refine .inr ⟨e,?_⟩
      obtain⟨c,h1,G,u⟩:=(ok.inv.free _).1 h;subst e;rw[aZ,k]at h1;cases h1;exact u
     ·exact .inl ⟨h,e⟩
    ·rintro(⟨h,_⟩|⟨rfl,h⟩)
     ·exact h
     ·exact(ok.inv.free _).2 ⟨S.at' i,by rw[aZ];exact k,by omega,h⟩
   ·rfl
   ·rfl
   ·rfl
   ·rfl
   ·intro e he;have:=ok.ev e he;omega
  have o:=h4 _ fY U;simp only[hJ,hb]at o
  have v:(x.rs.set i.toNat ⟨kF (S.at' i) a t,q,none⟩).flatMap e9=x.rs.flatMap e9:=by obtain⟨A,C,I,w,z⟩:=HF n;rw[z,w,p];simp[f]
  have D:(S.cs.set i.toNat (kF (S.at' i) a t)).map fe=S.cs.map fe:=by
   rw[jj];apply ji;intro j;rw[lK];split
   ·rename_i e;subst e
    rw[e6,k,ag (by rw[eX];omega)];rfl
   ·rfl
  rw[v,D]at o;exact af o⟩
end
abbrev pB(c:bD):bD:=⟨3,c.own,c.gen,c.data⟩
abbrev p9(S:aE)(c:bD):bD:=⟨0,0,c.gen+1,some (List.replicate S.size 0)⟩
def aE.fR(S:aE)(i:Int):aE:=⟨S.size,S.cs.set i.toNat (p9 S (S.at' i)),S.free++[i],S.bl+1⟩
structure q4 where
 x:hR
 q:Nat
 w:Nat
 d:List UInt8
abbrev yR(b:Nat)(S:aE)(i:Int)(pl:Nat)(y:q4)(H:au):au:=
 cl b (ly S.cs.length S.size {y.x with m:=y.x.m.mv 2})::gY y.x.tb (S.cs.map fe)::fD y.x.fb S.cs.length S.free::cl y.x.cb ((y.x.rs.set i.toNat ⟨pB (S.at' i),y.q,some ⟨y.w,0,none⟩⟩).flatMap e9).toArray::
  ei y.q y.d::eV (y.x.rs.set i.toNat ⟨bD.zero,0,none⟩)::cl y.w (wS y.q pl)::er y.x.kb 4 (fB y.x.ev 2 1)::H
structure q4.Ok(S:aE)(i:Int)(pl:Nat)(y:q4):Prop where
 ok:S.Ok y.x
 aM:S.ok i=true
 row:y.x.rs[i.toNat]?=some ⟨S.at' i,y.q,none⟩
 ph:(S.at' i).ph=2
 len:y.d.length=S.size
 ple:pl<=S.size
 zs:∀j,j<pl->y.d[j]?=some 0
 rq:y.x.ev.length=4/\∀e∈y.x.ev,0<=e
 clk:S.bl<1000000
def tJ(b:Nat)(S:aE)(i:Int)(pl:Nat):bc:=BD (q4.Ok S i pl) (yR b S i pl)
section
variable {B:Heap}{H H0:au}{K:aK}{b n pl:Nat}{S:aE}{i o g:Int}
def IL{q:HP}(t:∀y,q4.Ok S i pl y->T B (yR b S i pl y H) q):T B (tJ b S i pl::H) q:=mC (λ_ _=>rfl) t
def CD{q:HP}(y:q4)(h:q4.Ok S i pl y)(t:T B (tJ b S i pl::H) q):T B (yR b S i pl y H) q:=mB y h (λ_ _=>rfl) t
def ZX(aM:S.ok i=true)(a:(S.at' i).ph=2)(p:S.bl<1000000)(U:T B (tJ b S i 0::H) (K (J 0))):T B (cf b S::H) (ad P 407 #[pz b,J i] K):=by
 refine an (RV _ _) (yA (λg=>?_) λx q ok _ c y z=>?_)
 ·rw[aM]at g;cases g
 repeat apply St.go
 obtain⟨t,_,_⟩:=aE.hG aM;have hc:=ok.inv.ph _ (cr t)
 obtain⟨d,f⟩:∃d,(S.at' i).data=some d:=by
  cases h:(S.at' i).data with
  |none=>have:=hc.2.2.2.2.2.2.1 h;omega
  |some d=>exact⟨d,rfl⟩
 have u:=(bY.1 c).1;refine aL (er x.kb 4) (z7 λl m=>?_);have v:=sM (k:=2) l (λe he=>⟨m e he,ok.ev e he⟩) (by omega) (by omega:S.bl<1000000000);refine yB (x:=x) (n:=S.cs.length) (size:=S.size) (i:=i.toNat) (r:=⟨S.at' i,q,none⟩) c ?_ ?_ ok.ms ?_ ?_
 ·simp only;omega
 ·simp only[a];rfl
 ·simp only[a];exact v.1
 ·repeat apply St.go
  have o:(x.rs.set i.toNat (mQ ⟨S.at' i,q,none⟩))[i.toNat]?=some (mQ ⟨S.at' i,q,none⟩):=by simp[u]
  refine wJ (s:=6) (j:=4) ho o (by omega) (by simp[f]) (aL eV (zX c f (YA λw=>?_)));refine St.go (nG (s:=6) (a':=⟨pB (S.at' i),q,some ⟨w,0,none⟩⟩) ho o (by omega) rfl (by simp[a]) ?_);rw[wk];simp only[a,oZ];have:=CD ⟨x,q,w,d⟩ ⟨ok,aM,c,a,hc.2.2.2.2.2.2.2 d f,nA _,by simp,⟨l,m⟩,p⟩ U;simp only[yR]at this;exact af this
def IH{x:hR}(ok:S.Ok x)(aM:S.ok i=true)(b:(S.at' i).ph=2){q:Nat}{ev':aN}(g:∀e∈ev',e<=((S.bl+1:Nat):Int)):(S.fR i).Ok {x with rs:=x.rs.set i.toNat ⟨p9 S (S.at' i),q,none⟩,m:=(x.m.mv 2).mv 3,ev:=ev'}:=by
 obtain⟨f,k,l⟩:=aE.hG aM;have hc:=ok.inv.ph _ (cr f)
 have hy:i∉S.free:=λh=>by obtain⟨c,h1,n,o⟩:=(ok.inv.free _).1 h;rw[f]at h1;cases h1;omega
 refine wF ok f ?_ (λj=>?_) ?_ ?_ ?_ ?_ ?_ ?_ g
 ·refine⟨by simp,by simp,by simp,by simp,?_,?_,by simp,?_⟩
  ·have:=hc.2.2.2.2.1;simp only;omega
  ·have:=hc.2.2.2.2.2.1;simp only;omega
  ·rintro d ⟨⟩;simp
 ·rw[r5 k,dO,fw]
  constructor
  ·rintro(h|rfl)
   ·exact .inl ⟨h,λe=>hy (e▸h)⟩
   ·exact .inr ⟨rfl,rfl⟩
  ·rintro(h|h)
   ·exact .inl h.1
   ·exact .inr h.1
 ·rw[dP]
  exact⟨ok.inv.nodup,by simp,λa ha c hc=>by rw[fw]at hc;subst hc;exact λe=>hy (e▸ha)⟩
 ·simp[b]
 ·simp[b,M4.mv]
 ·simp[b,M4.mv]
 ·simp[b,M4.mv]
 ·have:=ok.md;simp[M4.mv];omega
def LM{xs:aN}{k:Int}{c:Nat}(hl:xs.length=4)(h0:∀e∈xs,0<=e)(h:∀e∈xs,e<=(c:Int))(U:0<=k/\k<4)(hc:c<1000000):(fB xs k 1).length=4/\∀e∈fB xs k 1,0<=e:=by
 obtain⟨a,d⟩:=sM hl (λe he=>⟨h0 e he,h e he⟩) U (by omega:c<1000000000);unfold fB;rw[ag a];refine⟨by simpa using hl,λe he=>?_⟩;rcases ka he with h1|rfl
 ·exact h0 e h1
 ·have:0<=hp xs k:=by
   unfold hp;split
   ·rw[List.getD]
    cases b:xs[k.toNat]? with
    |none=>simp
    |some e=>simpa using h0 e (cr b)
   ·omega
  omega
def aE.Ok.Wn{x:hR}(ok:S.Ok x):(0<=x.m.a/\x.m.a<=1048576)/\(0<=x.m.b/\x.m.b<=1048576)/\(0<=x.m.c/\x.m.c<=1048576)/\x.m.d=0:=by have e:=ok.inv.n2;have h:∀k,S.many k<=1048576:=λk=>lN r7 e;have h0:=h 0;have h1:=h 1;have f:=h 2;rw[ok.s6,ok.mb,ok.s8,ok.md];omega
def T8{xs:aN}{c:Nat}(hl:xs.length=4)(h:∀e∈xs,0<=e/\e<=(c:Int))(hc:c<1000000):iC (fB xs 2 1) 3 1=0/\∀e∈fB (fB xs 2 1) 3 1,e<=((c+1:Nat):Int):=by
 obtain⟨d,a⟩:=sM (k:=2) hl h (by omega) (by omega:c<1000000000);obtain⟨l1,l2⟩:=LM (k:=2) hl (λe he=>(h e he).1) (λe he=>(h e he).2) (by omega) hc;obtain⟨b,g⟩:=sM (k:=3) l1 (λe he=>⟨l2 e he,a e he⟩) (by omega) (by omega);refine⟨b,λe he=>?_⟩
 have i:hp (fB xs 2 1) 3=hp xs 3:=by unfold fB;rw[ag d];simp[hp]
 have j:hp xs 3<=(c:Int):=by
  unfold hp;rw[ag (by omega),List.getD]
  cases f:xs[(3:Int).toNat]? with
  |none=>simp
  |some e=>have:=h e (cr f);simpa using this.2
 unfold fB at he;rw[ag (show iC (if iC xs 2 1=0 then xs.set (Int.toNat 2) (hp xs 2+1)else xs) 3 1=0 from b)]at he;rcases ka he with h1|h1
 ·exact a e h1
 ·have h1:e=hp (fB xs 2 1) 3+1:=h1
  omega
def ZZ(X:pl<S.size)(G:∀pl',pl<pl'->pl'<S.size->T B (tJ b S i pl'::H) (K (.tuple #[.bool false,J 0])))(I:T B (cf b (S.fR i)::H) (K (.tuple #[.bool true,J 0]))):T B (tJ b S i pl::H) (ad P 408 #[pz b,J i,J 64] K):=by
 refine IL λy L=>an (R3 _ _ _) ?_;obtain⟨x,q,w,d⟩:=y;obtain⟨ok,aM,f,o,hlen,Y,p,⟨g,k⟩,t⟩:=L;obtain⟨u,v,z⟩:=aE.hG aM;have hc:=ok.inv.ph _ (cr u);have Z:=ok.inv.s2;simp only at ok f hlen p g k
 obtain⟨d0,M⟩:∃d,(S.at' i).data=some d:=by
  cases h:(S.at' i).data with
  |none=>have:=hc.2.2.2.2.2.2.1 h;omega
  |some d=>exact⟨d,rfl⟩
 change T B (cl b (ly S.cs.length S.size {x with m:=x.m.mv 2})::gY x.tb (S.cs.map fe)::fD x.fb S.cs.length S.free::cl x.cb ((x.rs.set i.toNat ⟨pB (S.at' i),q,some ⟨w,0,none⟩⟩).flatMap e9).toArray::
  ei q d::eV (x.rs.set i.toNat ⟨bD.zero,0,none⟩)::cl w (wS q pl)::er x.kb 4 (fB x.ev 2 1)::H) _
 apply Ig v z;have l:=(bY.1 f).1;have a:(x.rs.set i.toNat ⟨pB (S.at' i),q,some ⟨w,0,none⟩⟩)[i.toNat]?=some ⟨pB (S.at' i),q,some ⟨w,0,none⟩⟩:=by simp[l]
 repeat first|apply St.go|refine aI (by with_reducible decide) ?_
 refine oE ho a (by omega) rfl (S2.go (λ_=>?_) λ_=>?_)
 ·rename_i h;exact absurd rfl h
 apply wJ (s:=6) (j:=5) ho a (by omega) rfl;refine aL (ei q) (bL (q:=cl w (wS q pl)) (YC (by omega) (by omega) ?_));have N:stepOf (d.length-pl) 64<=d.length-pl:=Ic (by omega);have O:1<=stepOf (d.length-pl) 64:=by unfold stepOf;split<;>omega
 generalize hm:stepOf (d.length-pl) 64=m at N O⊢;have aa:(bM d pl (List.replicate m 0)).length=d.length:=tH (by simp;omega);repeat apply St.go
 refine wJ (s:=6) (j:=5) ho a (by omega) rfl (YB (by omega) ?_)
 have A:∀j,j<pl+m->(bM d pl (List.replicate m 0))[j]?=some 0:=λj Q=>by
  rw[yG (by simp;omega)];simp only[g'];by_cases h:pl<=j
  ·rw[ag ⟨h,Q⟩,r8,ag (by omega)]
  ·rw[aj (by omega)];exact p j (by omega)
 repeat' first|apply St.go|refine S2.go (λ_=>?_) λ_=>?_|done
 ·rename_i ab
  have:=CD ⟨x,q,w,bM d pl (List.replicate m 0)⟩ ⟨ok,aM,f,o,by simp only;omega,by omega,A,⟨g,k⟩,t⟩ (G (pl+m) (by omega) (by omega));exact af this
 ·rename_i hd
  have R:bM d pl (List.replicate m 0)=List.replicate S.size 0:=by
   apply ji;intro j;by_cases h:j<S.size
   ·rw[A j (by omega),r8,ag h]
   ·rw[iN (by omega),iN (by simp;omega)]
  rw[R];apply nG (s:=6) (a':=⟨pB (S.at' i),q,none⟩) ho a (by omega) rfl rfl;rw[wk];obtain⟨U,C⟩:=vM aM;have D:(S.at' i).own=0:=hc.2.2.1 (by omega);have ac:=hc.2.2.2.2.1;have ae:=hc.2.2.2.2.2.1
  have E:vu (S.cs.map fe) i=0:=by unfold vu;rw[ag U,C,ag (show(fe (S.at' i)).1=0 from D),aj (show¬(fe (S.at' i)).2>=1048575 by show¬(S.at' i).gen>=1048575;omega)]
  have V:yg (S.cs.map fe) i=(S.cs.set i.toNat (p9 S (S.at' i))).map fe:=by unfold yg;rw[ag E,jj,C];congr 1;show((S.at' i).own,IntKind.wrap .i64 ((S.at' i).gen+1))=(0,(S.at' i).gen+1);rw[D,br (by omega)]
  have hy:i∉S.free:=λh=>by obtain⟨c,h1,ah,ai⟩:=(ok.inv.free _).1 h;rw[u]at h1;cases h1;omega
  have W:mf S.cs.length S.free i=S.free++[i]:=by unfold mf;rw[ag];unfold jC;refine cM ⟨v,z,?_⟩;have:=Hj (xs:=S.free) (x:=i);rw[cP hy]at this;simpa using this
  repeat' first|apply St.go|refine S2.go (λ_=>?_) λ_=>?_|done
  ·rename_i h;exact absurd E h
  rw[V];rw[W];obtain⟨v1,v2⟩:=T8 g (λe he=>⟨k e he,ok.ev e he⟩) t;obtain⟨s6,mb,s8,md⟩:=ok.Wn;refine yB (x:={x with m:=x.m.mv 2,rs:=x.rs.set i.toNat ⟨pB (S.at' i),q,none⟩,ev:=fB x.ev 2 1}) (n:=S.cs.length) (size:=S.size) (i:=i.toNat) (r:=⟨pB (S.at' i),q,none⟩) ?_ ?_ ?_ ?_ ?_ ?_
  ·simp[l]
  ·simp
  ·rfl
  ·simp only[M4.mv,cL,jJ,jm,Dj,forall_eq]
   omega
  ·exact v1
  apply St.go;have F:=h4 _ (IH (q:=q) ok aM o v2) I;simp only[hJ,aE.fR,hb]at F;refine aL (ei q) (aL eV (cp (cA _ _ _) (wY (r:=⟨p9 S (S.at' i),q,none⟩) l rfl ?_)));simp only[oZ,wk];rw[B2 (r:=mQ ⟨pB (S.at' i),q,none⟩) (r':=⟨p9 S (S.at' i),q,none⟩) (by simp[M])];exact af F
end
end
section
structure Rec where
 line:dR
 gq:Nat
 du:Int
structure uh where
 tb:Nat
 lb:Nat
 mb:Nat
 kb:Nat
 xs:aN
 wm:Wm
 f:Int
abbrev vv(b sb:Nat)(R:Rec)(x:uh)(H:au):au:=
 cl b #[pz x.tb,pz sb,pz x.lb,pz x.mb,pz x.kb,J R.gq]::
  eU x.tb x.xs::hD x.lb R.line::cl x.mb (f' x.wm)::er x.kb 2 [R.du,x.f]::H
structure Rec.Ok(R:Rec)(x:uh):Prop where
 gq:1<=R.gq/\R.gq<=1048576
 xs:x.xs.length=64
 nn:∀y∈x.xs,0<=y/\y<=9223372036854775807
def dx(b sb:Nat)(R:Rec):bc:=BD R.Ok (vv b sb R)
section
variable {B:Heap}{H H0 Ha:au}{K:aK}{b sb n:Nat}{R:Rec}{S:aE}{i o g:Int}
def qw{q:HP}(t:∀x,R.Ok x->T B (vv b sb R x H) q):T B (dx b sb R::H) q:=mC (λ_ _=>rfl) t
def ng{q:HP}(x:uh)(h:R.Ok x)(t:T B (dx b sb R::H) q):T B (vv b sb R x H) q:=mB x h (λ_ _=>rfl) t
instance acL[h:Ow H (dx b sb) R H0]:St B H (ad P 81 #[pz b] K) (T B (dx b sb R::H0) (K (.bool true))):=⟨by
 intro U;refine bf h.pl (qw λx ok=>an (P7 _) ?_);repeat apply St.go
 exact af (ng x ok U)⟩
def XV{cs:aw}[k:bZ B H b cs](ha:cs[1]?=some (pz sb))(aM:S.ok i=true)(c:(S.at' i).ph=2)(d:S.bl<1000000)(U:T B (cf sb (S.fR i)::H) (K (J 0))):T B (cf sb S::H) (ad P 367 #[pz b,J i] K):=by
 apply an (P8 _ _)
 have ld:∀{q:bc} {f:av->HP},T B (q::H) (f (some ⟨sb,0,none⟩))->T B (q::H) (bb (some ⟨b,0,none⟩) 1 f):=λt=>by unfold bb;rw[cR,aR];exact iX ha t
 refine ld (ZX aM c d ?_);repeat apply St.go
 refine IL λy a=>CD y a ?_;have e:0<S.size:=by have:=a.ok.inv.s1;omega
 refine uq (λm H'=>∃pl,pl<S.size/\m=S.size-pl/\H'=tJ sb S i pl::H) S.size ⟨0,e,rfl,rfl⟩ ?_;rintro m H' R ⟨pl,g,rfl,rfl⟩ h;refine ld (ZZ g (λpl' h1 j=>?_) ?_)
 ·repeat apply St.go
  exact h (S.size-pl') _ (by omega) ⟨pl',j,rfl,rfl⟩
 ·repeat apply St.go
  exact U
instance :Sa B H (ad P 141 #[J 64] K) (λb=>T B (eU b (List.replicate 64 0)::H) (K (pz b))):=⟨λt=>aar (n:=64) (by omega) t⟩
instance :Sx B H (ad P 142 #[J n] K) (n<=1048576) (λb=>T B (hD b ⟨n,[],0⟩::H) (K (pz b))):=⟨λh t=>aaH h t⟩
instance {m:Int}:Sx B H (ad P 143 #[J m] K) (0<=m/\m<=1048576) (λb=>T B (cl b (f' ⟨m,false,false,0,0,0⟩)::H) (K (pz b))):=⟨λh t=>aaO h.1 h.2 t⟩
instance :Sa B H (ad P 139 #[J 2] K) (λq=>T B (er q 2 [0,0]::H) (K (pz q))):=⟨λt=>EU (n:=2) (by omega) (by omega) t⟩
def tp(q l:Int):Bool:=decide (1<=q/\q<=1048576/\0<=l/\l<=1048576)
def XR{q l:Int}[h:Ow H (cf sb) S H0](f:tp q l=false->T B (cf sb S::H0) (K (.tuple #[.pointer none,J 2])))(g:∀(m:Nat) b,q=m->1<=m->m<=1048576->T B (dx b sb ⟨⟨S.cs.length,[],0⟩,m,0⟩::cf sb S::H0) (K (.tuple #[pz b,J 0]))):T B H (ad P 76 #[pz sb,J q,J l] K):=by
 refine bf h.pl (pv λx ok=>h4 x ok (an (PY _ _ _) ?_));have s1:=ok.inv.s1;have n2:=ok.inv.n2;repeat' first|apply St.go|refine Sa.go λ_=>?_|refine S2.go (λ_=>?_) λ_=>?_|refine Sx.go (by omega) λ_=>?_|done
 ·rename_i h1;omega
 ·rename_i h1;exact f (by simp[tp];omega)
 ·rename_i h1;exact f (by simp[tp];omega)
 ·rename_i h1;exact f (by simp[tp];omega)
 ·rename_i h1;exact f (by simp[tp];omega)
 ·rename_i e c d k a z
  obtain⟨m,rfl⟩:∃m:Nat,q=m:=⟨q.toNat,by omega⟩;refine af (ng ⟨e,d,k,a,List.replicate 64 0,⟨l,false,false,0,0,0⟩,0⟩ ⟨⟨by simp only;omega,by simp only;omega⟩,by simp,λy i=>by rw[lI i];decide⟩ (g m z rfl (by omega) (by omega)))
def Rec.fO(R:Rec)(S:aE)(i o:Int):Int:=if S.kq i o=0 then R.line.fO i else S.kq i o
def Rec.put(R:Rec)(S:aE)(i o:Int):Rec:=if S.kq i o=0 then{R with line:=R.line.put i}else R
instance acN[h:Ow H (dx b sb) R Ha][a:Ow Ha (cf sb) S H0]:Sc B H (ad P 291 #[pz b,J i,J o] K) (S.bl<1000000/\R.line.next<4611686018427387904) (T B (dx b sb (R.put S i o)::cf sb (S.defer i o)::H0) (K (J (R.fO S i o)))):=⟨by
 intro⟨hc,c⟩ U;refine bf h.pl (bf (.tail a.pl) (an (P0 _ _ _) ?_));unfold Rec.put Rec.fO at U;refine St.go (St.go (St.go (aL (dx b sb) (qw λx ok=>?_))));repeat' first|apply St.go|refine S2.go (λ_=>?_) λ_=>?_|refine Sc.go (by omega) ?_|done
 ·rename_i he
  rw[aj he,aj he]at U;exact af (ng x ok U)
 ·rename_i he
  rw[ag he,ag he]at U;exact af (ng (R:={R with line:=R.line.put i}) x ⟨ok.gq,ok.xs,ok.nn⟩ U)⟩
instance acO[h:Ow H (dx b sb) R H0]:St B H (ad P 37 #[pz b] K) (T B (dx b sb R::H0) (K (J R.du))):=⟨by
 intro U;refine bf h.pl (an (P2 _) ?_);repeat apply St.go
 refine aL (dx b sb) (qw λx ok=>?_);repeat apply St.go
 exact af (ng x ok U)⟩
instance acP[h:Ow H (dx b sb) R H0]:Sa B H (ad P 39 #[pz b] K) (λy:av=>T B (dx b sb R::rT 1 y R.line.xs.length (iv .i64 R.line.xs)::H0) (K (.slice y R.line.xs.length R.line.xs.length))):=⟨by
 intro U;refine bf h.pl (an (P3 _) ?_);repeat apply St.go
 refine aL (dx b sb) (qw λx ok=>?_);repeat first|apply St.go|refine Sa.go λ_=>?_
 rename_i y;exact af (ng x ok (U y))⟩
instance acQ[h:Ow H (dx b sb) R H0]:Sa B H (ad P 208 #[pz b,J i] K) (λw:Int=>0<=w/\w<=9223372036854775807->T B (dx b sb R::H0) (K (J w))):=⟨by
 intro U;refine bf h.pl (an (P4 _ _) ?_);repeat apply St.go
 refine aL (dx b sb) (qw λx ok=>?_);refine St.go (aL (eU x.tb) (aav ?_));refine St.go (af (ng x ok (U _ ?_)));unfold vU;split
 ·rw[List.getD]
  cases a:x.xs[i.toNat]? with
  |none=>simp
  |some y=>exact ok.nn y (cr a)
 ·omega⟩
instance acM{m:Int}[h:Ow H (dx b sb) R H0]:Sc B H (ad P 195 #[pz b,J i,J m] K) (aF m) (T B (dx b sb R::H0) (K (J (if 0<=i/\i<64/\0<=m then 0 else 2)))):=⟨by
 intro hm U;unfold aF at hm;refine bf h.pl (an (PZ _ _ _) ?_);repeat apply St.go
 refine aL (dx b sb) (qw λx ok=>?_);have j:=ok.xs;apply St.go;by_cases c:rK x.xs i m
 ·have a:0<=i/\i<64/\0<=m:=by unfold rK at c;omega
  rw[ag a]at U;obtain⟨k,rfl⟩:∃k:Nat,i=k:=⟨i.toNat,by omega⟩;have f:k<x.xs.length:=by omega
  have d:x.xs[k]?=some x.xs[k]:=bj f;have e:=ok.nn _ (cr d);refine aL (eU x.tb) (aas d a.2.2 (by omega) e.1 e.2 ?_);refine St.go (af (ng {x with xs:=x.xs.set k (vk x.xs[k] m)} ⟨ok.gq,by simpa using ok.xs,λy g=>?_⟩ U));rcases ka g with h1|h1
  ·exact ok.nn y h1
  ·subst h1;unfold vk;split<;>omega
 ·have a:¬(0<=i/\i<64/\0<=m):=λh=>c (by unfold rK;omega)
  rw[aj a]at U;refine aL (eU x.tb) (aat c ?_);apply St.go;exact af (ng x ok U)⟩
def gZ(S:aE)(l:aN):aE:=l.foldl aE.fR S
def aaR(S:aE)(l:aN)(i:Int):gZ S (l++[i])=(gZ S l).fR i:=by simp[gZ]
def aaP{j:Int}(hi:0<=i)(a:0<=j)(h:i≠j):(S.fR i).at' j=S.at' j:=by unfold aE.at' aE.fR;simp only[List.getD];rw[oq (by omega)]
def aaQ{l:aN}{j:Int}(hl:∀i∈l,0<=i)(a:0<=j)(h:j∉l):(gZ S l).at' j=S.at' j/\(gZ S l).cs.length=S.cs.length/\(gZ S l).bl=S.bl+l.length:=by
 induction l generalizing S with
 |nil=>exact⟨rfl,rfl,rfl⟩
 |cons i l b=>have:=b (S:=S.fR i) (λi h=>hl i (by simp[h])) (λc=>h (by simp[c]));have h1:(gZ S (i::l))=gZ (S.fR i) l:=rfl;rw[h1];refine⟨this.1.trans (aaP (hl i (by simp)) a λe=>h (by simp[e])),this.2.1.trans (by simp[aE.fR]),this.2.2.trans (by simp[aE.fR];omega)⟩
def dR.Fits(L:dR)(S:aE):Prop:=L.xs.Nodup/\∀i∈L.xs,S.ok i=true/\(S.at' i).ph=2
instance acR[h:Ow H (dx b sb) R H0]:Sa B H (ad P 299 #[pz b] K) (λk=>T B (cl k #[pz b]::H) (K (.func (.func 365) #[] #[pz k]))):=⟨by intro U;apply an (P5 _);refine Sa.go λ_=>?_;exact U _⟩
def Rec.many(R:Rec):Nat:=min R.gq R.line.xs.length
def Rec.tick(R:Rec):Rec:={R with line:={R.line with xs:=R.line.xs.drop R.many},du:=R.du+1}
def vQ(R:Rec)(S:aE):aE:=gZ S (R.line.xs.take R.many)
abbrev vR(b sb:Nat)(R:Rec)(S:aE)(x:uh)(ro:Loop)(rr lp a d ak aa:Nat)(q:av)(l c:Nat)(ys:aN)(H0:au)(k:Nat)(p:av)(c':Nat):au:=
 cf sb (gZ S (R.line.xs.take k))::hD x.lb ⟨R.line.n,R.line.xs.drop k,R.line.next⟩::ah 1 p k c' (iv .i64 (R.line.xs.take k))::cl d #[.slice p k c']::
  cl b #[pz x.tb,pz sb,pz x.lb,pz x.mb,pz x.kb,J R.gq]::eU x.tb x.xs::cl x.mb (f' x.wm)::er x.kb 2 [R.du,x.f]::
  lo lp ro .ready none::ob rr (.deferred (some []))::cl a #[pz b]::cl ak #[J 0]::cl aa #[.slice none 0 0]::ah 1 q l c (iv .i64 ys)::H0
def UR{xs:aN}{k:Nat}(h:k<xs.length):(xs.drop k).headD 0=xs[k]/\(xs.drop k).isEmpty=false:=by rw[tT h];exact⟨rfl,rfl⟩
def XU{q:av}{l c:Nat}{ys:aN}{x:uh}{ro:Loop}{rr lp d a ak aa:Nat}{E:HP}(hw:R.line.Fits S)(hc:S.bl+R.line.xs.length<1000000)(V:1<=R.gq/\R.gq<=1048576)(s:mE P ro (tq λf t m o=>i7 f (ae (m !=0) (st (ai aa 0) (Value.slice none 0 0) (st (ai ak 0) (J m) (fp f (some Code.ret) (o (Value.bool false))))) (a8 (ai a 0) λu v w=>al #[J t] 3 λy=>cC P #[31,31] u v w (some (ai y 0)) 1 1 λz A C=>st (ai a 0) (Value.slice z A C) (fp f none (o (Value.bool true)))))))(fin:∀p c',T B (vR b sb R S x ro rr lp d a ak aa q l c ys H0 R.many p c') E):T B (vR b sb R S x ro rr lp d a ak aa q l c ys H0 0 none 0) (ad P 365 #[.func (.yield lp) #[] #[],pz d] λ_=>E):=by
 refine an (P6 _ _) (St.go (St.go (dh R.gq (by omega) (λk H'=>k<=R.line.xs.length/\∃p c',H'=vR b sb R S x ro rr lp d a ak aa q l c ys H0 k p c') ⟨nA _,_,_,rfl⟩ ?_)));rintro k H' W X ⟨Y,p,c',rfl⟩ D;refine S2.go (λr=>?_) λZ=>?_
 ·have r:k<R.gq:=by omega
  refine St.go (St.go (St.go (St.go ?_)));by_cases g:k<R.line.xs.length
  ·obtain⟨h1,F⟩:=UR g
   simp only[h1,F,gb,ep];have h:R.line.xs[k]?=some R.line.xs[k]:=bj g;obtain⟨aM,G⟩:=hw.2 _ (cr h);obtain⟨ab,H,ac⟩:=aE.hG aM;have I:∀i∈R.line.xs.take k,0<=i:=λi hi=>(aE.hG (hw.2 i (kP hi)).1).2.1
   have hy:R.line.xs[k]∉R.line.xs.take k:=λhm=>by obtain⟨j,K,e⟩:=qN hm;rw[fv]at K;rw[List.getElem_take]at e;exact mz.1 hw.1 j k (by omega) g (by omega) e
   obtain⟨L,w2,M⟩:=aaQ (S:=S) I H hy;rw[fv]at M;repeat apply St.go
   refine aL (cf sb) (XV rfl (by simp only[aE.ok,w2];exact aM) (by rw[L];exact G) (by omega) ?_);refine St.go (bL (q:=lo lp ro .ready none) (oL s ?_));refine St.go (oC ?_);repeat first|apply St.go|refine Sa.go λ_=>?_
   refine eZ rfl (by omega) λN O=>St.go (bL (q:=lo lp ro .busy none) (oD ?_));repeat apply St.go
   have e:iv .i64 (R.line.xs.take k)++#[J R.line.xs[k]].toList=iv .i64 (R.line.xs.take (k+1)):=by rw[ef h,iv,iv,eY];rfl
   have Q:(gZ S (R.line.xs.take k)).fR R.line.xs[k]=gZ S (R.line.xs.take (k+1)):=by rw[ef h,aaR]
   rw[e,Q];have:=D r _ ⟨by omega,N,O,rfl⟩;simp only[vR]at this;rw[show R.line.xs.drop (k+1)=(R.line.xs.drop k).tail by simp]at this;exact af this
  ·have U:k=R.line.xs.length:=by omega
   have hd:R.line.xs.drop k=[]:=by rw[U];simp
   have hm:R.many=k:=by unfold Rec.many;omega
   simp only[hd,List.isEmpty_nil,eb];apply bo (by with_reducible decide);have:=fin p c';simp only[vR,hm,hd]at this;change T B (hD x.lb ⟨R.line.n,[],R.line.next⟩::_) _;exact af this
 ·have hm:R.many=k:=by unfold Rec.many;omega
  have:=fin p c';rw[hm]at this;exact this
def aa6(z:Int):-9223372036854775808<=IntKind.wrap .i64 z/\IntKind.wrap .i64 z<=9223372036854775807:=by
 show-9223372036854775808<=(if(true&&decide (z%18446744073709551616>=9223372036854775808))=true then z%18446744073709551616-18446744073709551616 else z%18446744073709551616)/\(if(true&&decide (z%18446744073709551616>=9223372036854775808))=true then z%18446744073709551616-18446744073709551616 else z%18446744073709551616)<=9223372036854775807;rw[ff];by_cases h:z%18446744073709551616>=9223372036854775808
 ·rw[ag (cM h)];omega
 ·rw[aj (by simpa using h)];omega
def KV{xs ys:aN}{lack:Int}(h:xs.length=64)(c:ys.length<=64)(d:∀y∈xs,0<=y/\y<=9223372036854775807)(hl:lack<=9223372036854775807):(asked xs lack ys).length=64/\∀y∈asked xs lack ys,0<=y/\y<=9223372036854775807:=by
 unfold asked;rw[ag (by omega)];refine⟨by rw[b',oa,g'];omega,λy hm=>?_⟩;rcases dO.1 hm with h1|h1
 ·obtain⟨j,a,rfl⟩:=qN h1
  have b:j<ys.length:=by rw[oa]at a;exact a
  obtain⟨e,_⟩:=Ca lack ys j ys[j] (bj b);rw[bj a,iR]at e;rw[e];obtain⟨t1,t2,t3⟩:=Cq ys[j] (rest lack ys j);obtain⟨f,g,i⟩:=BN lack ys j;refine⟨t1,?_⟩;by_cases h0:0<=rest lack ys j
  ·have:=t2 h0;omega
  ·have:=t3 (by omega);omega
 ·rw[lI h1];decide
def XT{q:av}{l c:Nat}{ys:aN}(hl:l=ys.length)(m:l<=64)(hw:R.line.Fits S)(hc:S.bl+R.line.xs.length<1000000)(n:0<=R.du/\R.du<1000000)(U:∀p c,T B (dx b sb R.tick::cf sb (vQ R S)::ah 1 p R.many c (iv .i64 (R.line.xs.take R.many))::H0) (K (.tuple #[.slice p R.many c,J 0]))):T B (dx b sb R::cf sb S::ah 1 q l c (iv .i64 ys)::H0) (ad P 201 #[pz b,.slice q l c] K):=by
 refine an (P1 _ _ _ _) (Sa.go λaa=>Sa.go λak=>St.go (St.go (St.go ?_)));apply aI (by simp;omega);refine Sa.go λe=>Sa.go λg=>pR (by kernel_rfl) λro rr lp h=>aL (dx b sb) (qw λx ok=>?_)
 refine dL 1 (af (H':=cf sb S::hD x.lb R.line::ah 1 none 0 0 []::cl e #[.slice none 0 0]::
  cl b #[pz x.tb,pz sb,pz x.lb,pz x.mb,pz x.kb,J R.gq]::eU x.tb x.xs::cl x.mb (f' x.wm)::er x.kb 2 [R.du,x.f]::
  lo lp ro .ready none::ob rr (.deferred (some []))::cl g #[pz b]::cl ak #[J 0]::cl aa #[.slice none 0 0]::ah 1 q l c (iv .i64 ys)::H0) ?_)
 refine XU (R:=R) (S:=S) (x:=x) hw hc ok.gq h λp c'=>?_;refine bL (q:=lo lp ro .ready none) (qU (by simp) ?_);repeat first|apply St.go|refine Sc.go (by omega) ?_
 refine bL (q:=cl x.mb (f' x.wm)) (aaL ?_);repeat apply St.go
 apply aaM
 have a:∀w:Wm,-9223372036854775808<=(if w.low then IntKind.wrap .i64 (w.mark-w.level)else 0)/\(if w.low then IntKind.wrap .i64 (w.mark-w.level)else 0)<=9223372036854775807:=λw=>by
  split
  ·exact aa6 _
  ·decide
 generalize(xd x.wm ((gZ S (R.line.xs.take R.many)).many 0:Nat))=w;have a:=a w;generalize(if w.low then IntKind.wrap .i64 (w.mark-w.level)else 0)=lack at a;repeat apply St.go
 refine aL (eU x.tb) (aaq Rd.rd hl (by rw[ok.xs];omega) a.1 a.2 ?_);rw[ag (by rw[ok.xs];omega)];repeat apply St.go
 refine bL (q:=ob rr (.deferred (some []))) (oK ?_);repeat apply St.go
 obtain⟨i,a2⟩:=KV (lack:=lack) (ys:=ys) ok.xs (by omega) ok.nn a.2
 have j:fB [R.du,x.f] 0 1=[R.du+1,x.f]:=by
  have:iC [R.du,x.f] 0 1=0:=by unfold iC hp lg;simp;omega
  unfold fB;rw[ag this];simp[hp]
 obtain⟨d,k⟩:∃d,fB [R.du+1,x.f] 1 R.many=[R.du+1,d]:=by
  unfold fB;split
  ·exact⟨_,rfl⟩
  ·exact⟨_,rfl⟩
 rw[j,k];have:=ng (R:=R.tick) {x with xs:=asked x.xs lack ys,wm:=w,f:=d} ⟨ok.gq,i,a2⟩ (U p c');simp only[vv,Rec.tick,vQ]at this;exact af this
end
end
section
instance ac5:fG P 33 5:=fG.of (e:=0) (by kernel_rfl)
def CJ:zc P 160=fQ dy:=by kernel_rfl
def EK:P.cellsOf 160=5:=by kernel_rfl
def wZ:P.bytesOf 160=40:=by kernel_rfl
abbrev aD(t:Tk):az:=[J t.id,J t.aO,J t.count,J t.state,J t.b4]
def eS(t:Tk):(aD t).length=5:=rfl
structure a1 where
 all:List Tk
 bB:ML Unit
structure D2 where
 r:Nat
 p:av
 c:Nat
abbrev rY(b:Nat)(T:a1)(x:D2)(H:au):au:=
 cl b #[.slice x.p T.all.length x.c,.map (some x.r)]::ah 5 x.p T.all.length x.c (T.all.flatMap aD)::MP (λ_:Unit=>Value.agg #[]) x.r T.bB::H
structure a1.Ok(T:a1):Prop where
 len:T.all.length<=1048576
 bX:bQ T.bB
 ids:∀i∈a7 T.bB,1<=i/\i<=(T.all.length:Int)
 pl:T.bB.length<=256
def dz(b:Nat)(T:a1):bc:=BX T.Ok (rY b T)
namespace a1
abbrev new:a1:=⟨[],[]⟩
def has(T:a1)(i:Int):Bool:=decide (1<=i/\i<=(T.all.length:Int))
def at'(T:a1)(i:Int):Tk:=T.all.getD (i-1).toNat dy
def get(T:a1)(i:Int):Tk:=if T.has i then T.at' i else dy
def e1(T:a1)(i:Int):Int:=if T.has i then 0 else 12
def next(T:a1):Int:=(T.all.length:Int)+1
def jx(T:a1)(c n:Int):Int:=if o3 T.next c n=0 then(if 256<=T.bB.length\/1048576<T.next then 10 else 0)else o3 T.next c n
def jc(T:a1)(c n:Int):a1:=if T.jx c n=0 then⟨T.all++[iI T.next c n],bC T.next () T.bB⟩else T
def cI(T:a1)(f:Tk->Tk)(e:Tk->Int)(i:Int):Int:=if T.has i then e (T.at' i)else 12
def bK(T:a1)(f:Tk->Tk)(e:Tk->Int)(i:Int):a1:=if T.cI f e i=0 then⟨T.all.set (i-1).toNat (f (T.at' i)),if(f (T.at' i)).state=1 then T.bB else bN i T.bB⟩else T
end a1
section
variable {B:Heap}{H H0:au}{K:aK}{b n:Nat}{T:a1}{i c m:Int}
def tG{q:HP}(t:∀x,T.Ok->XS.T B (rY b T x H) q):XS.T B (dz b T::H) q:=pM (λ_ _=>rfl) t
def mo{q:HP}(x:D2)(h:T.Ok)(t:XS.T B (dz b T::H) q):XS.T B (rY b T x H) q:=pL x h (λ_ _=>rfl) t
def a1.AK(h:T.has i=true):T.all[(i-1).toNat]?=some (T.at' i)/\1<=i/\i<=(T.all.length:Int):=by simp only[a1.has,bJ]at h;refine⟨?_,h⟩;unfold a1.at';rw[List.getD,bj (by omega)];rfl
instance adG:Sa B H (ad P 78 #[] K) (λb=>XS.T B (dz b a1.new::H) (K (pz b))):=⟨by
 intro U;apply an (SI);repeat refine Sa.go λ_=>?_
 rename_i r b;refine bL (q:=IM r λ_=>none) (iT (λ_:Unit=>Value.agg #[]) (dL 5 ?_));have:=mo ⟨r,none,0⟩ ⟨by simp[a1.new],by simp[a1.new,bQ,a7,ed],by simp[a1.new,a7],by simp[a1.new]⟩ (U b);simp only[rY,gH,C3]at this;exact af this⟩
instance adJ[h:Ow H (dz b) T H0]:St B H (ad P 88 #[pz b] K) (XS.T B (dz b T::H0) (K (.bool true))):=⟨by
 intro U;refine bf h.pl (tG λx hs=>an (SH _) ?_);repeat apply St.go
 exact af (mo x hs U)⟩
instance adB{a:Int}:St B H (ad P 263 #[J a,J c,J m] K) (XS.T B H (K (.tuple #[.agg #[J (nS a c m).id,J (nS a c m).aO,J (nS a c m).count,J (nS a c m).state,J (nS a c m).b4],J (o3 a c m)]))):=⟨λt=>aag t⟩
instance adD[h:Ow H (dz b) T H0]:Sc B H (ad P 175 #[pz b,J i] K) (aF i) (XS.T B (dz b T::H0) (K (.tuple #[.agg (aD (T.get i)).toArray,J (T.e1 i)]))):=⟨by
 intro hi U;unfold aF at hi;refine bf h.pl (an (SB _ _) ?_);unfold a1.get a1.e1 at U;repeat' first|apply St.go|refine Sa.go λ_=>?_|refine S2.go (λ_=>?_) λ_=>?_|refine Sc.go (by first|rfl|exact⟨rfl,rfl⟩) ?_|done
 ·rename_i h1
  have a:T.has i=false:=by simp[a1.has];omega
  rw[a]at U;exact af U
 ·rename_i h1
  refine aL (dz b) (tG λx hs=>?_);repeat' first|apply St.go|refine S2.go (λ_=>?_) λ_=>?_|refine Sc.go (by first|rfl|exact⟨rfl,rfl⟩) ?_|done
  ·rename_i c
   have a:T.has i=false:=by simp[a1.has];omega
   rw[a]at U;exact af (mo x hs U)
  ·rename_i c
   have a:T.has i=true:=by simp[a1.has];omega
   rw[a]at U;obtain⟨d,_,_⟩:=a1.AK a;refine eD eS (by omega) (i-1).toNat (by rw[br (by omega)];omega) (by omega) d ?_;repeat refine Sc.go (by first|rfl|exact⟨rfl,rfl⟩) ?_
   exact af (mo x hs U)⟩
def Wg{k:Int}{m:ML Unit}:(bC k () m).length<=m.length+1:=by
 induction m with
 |nil=>simp[bC]
 |cons e m a=>unfold bC;split<;>(try split)<;>simp<;>omega
instance adF[h:Ow H (dz b) T H0]:Sc B H (ad P 172 #[pz b,J c,J m] K) (aF c/\aF m) (XS.T B (dz b (T.jc c m)::H0) (K (.tuple #[J (if T.jx c m=0 then T.next else 0),J (T.jx c m)]))):=⟨by
 intro hi U;unfold aF at hi;refine bf h.pl (an (SD _ _ _) ?_);unfold a1.jc at U;repeat apply St.go
 refine aL (dz b) (tG λx hs=>?_);have hlen:=hs.len;apply St.go;have hw:IntKind.wrap .i64 ((T.all.length:Int)+1)=T.next:=by rw[br (by omega)];rfl
 rw[hw];have o:T.next=(T.all.length:Int)+1:=rfl
 repeat' first|apply St.go|refine Sa.go λ_=>?_|refine S2.go (λ_=>?_) λ_=>?_|refine Sc.go (by first|rfl|exact⟨rfl,rfl⟩) ?_|done
 ·rename_i he
  have e:T.jx c m=o3 T.next c m:=by unfold a1.jx;rw[aj he]
  rw[e,aj he,aj he]at U;exact af (mo x hs U)
 ·rename_i he h1
  have e:T.jx c m=10:=by unfold a1.jx;rw[ag he,ag (.inl (by omega))]
  rw[e,aj (by decide),aj (by decide)]at U;exact af (mo x hs U)
 ·rename_i he h1 d
  have e:T.jx c m=10:=by unfold a1.jx;rw[ag he,ag (.inr (by omega))]
  rw[e,aj (by decide),aj (by decide)]at U;exact af (mo x hs U)
 ·rename_i k he h1 d p
  have e:T.jx c m=0:=by unfold a1.jx;rw[ag he,aj (by omega)]
  have a:nS T.next c m=iI T.next c m:=by
   unfold nS;unfold o3 at he;split at he
   ·rename_i h;rw[ag h]
   ·cases he
  rw[e,ag rfl,ag rfl]at U;refine jP (ds:=(aD (iI T.next c m)).toArray) (by rw[a];rfl) ?_;refine eZ rfl (by omega) λf c'=>?_;repeat apply St.go
  have g:a1.Ok ⟨T.all++[iI T.next c m],bC T.next () T.bB⟩:=by
   refine⟨by simp;omega,fu hs.bX,λj i=>?_,?_⟩
   ·obtain⟨e,l,rfl⟩:=bP.1 i
    rcases(o2 hs.bX).1 l with rfl|⟨n,_⟩
    ·simp;omega
    ·have:=hs.ids e.1 (bP.2 ⟨e,n,rfl⟩);simp;omega
   ·have:=Wg (k:=T.next) (m:=T.bB);simp only;omega
  have:=mo ⟨x.r,f,c'⟩ g U;rw[a];simp only[rY,b',c8,gH,bI,oo,gw,C3,j9]at this;exact af this⟩
def Cp{f:Tk->Tk}{e:Tk->Int}{g:Nat}[h:Ow H (dz b) T H0](hi:aF i)(l:fW P g=true)(hf:∀(H2:au) (t:Tk) (q:aK),XS.T B H2 (q (.tuple #[.agg (aD (f t)).toArray,J (e t)]))->XS.T B H2 (ad P g #[.agg (aD t).toArray] q))(U:XS.T B (dz b (T.bK f e i)::H0) (K (J (T.cI f e i)))):XS.T B H (ad P 267 #[pz b,J i,.agg #[.func (.func g) #[] #[]]] K):=by
 refine bf h.pl (an (SG _ _ _) ?_);unfold a1.bK at U;have u:=hi;unfold aF at hi;repeat' first|apply St.go|refine Sa.go λ_=>?_|refine S2.go (λ_=>?_) λ_=>?_|refine Sc.go (by first|omega|rfl|exact⟨rfl,rfl⟩) ?_|done
 ·rename_i he
  have l:T.has i=false:=by
   unfold a1.e1 at he
   cases a:T.has i with
   |false=>rfl
   |true=>rw[a]at he;exact absurd rfl he
  have m:T.cI f e i=12:=by unfold a1.cI;rw[l];rfl
  have n:T.e1 i=12:=by unfold a1.e1;rw[l];rfl
  rw[m,aj (by decide)]at U;rw[n];exact af U
 ·rename_i he
  have a:T.has i=true:=by
   unfold a1.e1 at he
   cases a:T.has i with
   |true=>rfl
   |false=>rw[a]at he;cases he
  have m:T.cI f e i=e (T.at' i):=by unfold a1.cI;rw[a];rfl
  have n:T.get i=T.at' i:=by unfold a1.get;rw[a];rfl
  obtain⟨v,h1,r⟩:=a1.AK a;rw[n];rw[m]at U;refine nJ l (hf _ _ _ ?_);repeat' first|apply St.go|refine S2.go (λ_=>?_) λ_=>?_|refine Sc.go ⟨rfl,rfl⟩ ?_|done
  ·rename_i d
   rw[aj d]at U;exact af U
  ·rename_i d
   rw[ag d,d]at U;refine aL (dz b) (tG λx hs=>?_);have hlen:=hs.len;repeat first|apply St.go|refine Sc.go rfl ?_
   refine JZ (c:=x.c) (f:=aD) (rs:=T.all) (a':=f (T.at' i)) eS (by omega) (i-1).toNat (by rw[br (by omega)];omega) (by omega) rfl ?_
   have aM:∀p,bQ p->(∀j∈a7 p,j∈a7 T.bB)->p.length<=T.bB.length->a1.Ok ⟨T.all.set (i-1).toNat (f (T.at' i)),p⟩:=λp h1 r d=>⟨by simpa using hs.len,h1,λj k=>by simpa using hs.ids j (r j k),lN d hs.pl⟩
   repeat' first|apply St.go|refine S2.go (λ_=>?_) λ_=>?_|done
   ·rename_i o
    rw[aj o]at U
    have:=mo x (aM (bN i T.bB) (ml hs.bX) (λj k=>by obtain⟨y,s,rfl⟩:=bP.1 k;exact bP.2 ⟨y,(ta.1 s).1,rfl⟩) (zh _ _)) U
    simp only[rY,hb]at this;exact af this
   ·rename_i o
    rw[ag o]at U;have:=mo x (aM T.bB hs.bX (λj k=>k) (dQ _)) U;simp only[rY,hb]at this;exact af this
instance adE[h:Ow H (dz b) T H0]:Sc B H (ad P 310 #[pz b,J i] K) (aF i) (XS.T B (dz b (T.bK (c6 · 2) check i)::H0) (K (J (T.cI (c6 · 2) check i)))):=⟨by intro hi U;apply an (SC _ _);apply Cp (f:=(c6 · 2)) (e:=check) hi (by kernel_rfl) (λH2 t a hK=>aaf hK);apply St.go;exact U⟩
instance adC[h:Ow H (dz b) T H0]:Sc B H (ad P 176 #[pz b,J i] K) (aF i) (XS.T B (dz b (T.bK (c6 · 3) check i)::H0) (K (J (T.cI (c6 · 3) check i)))):=⟨by intro hi U;apply an (SA _ _);apply Cp (f:=(c6 · 3)) (e:=check) hi (by kernel_rfl) (λH2 t a hK=>aae hK);apply St.go;exact U⟩
instance adH[h:Ow H (dz b) T H0]:Sc B H (ad P 206 #[pz b,J i] K) (aF i) (XS.T B (dz b (T.bK j3 kE i)::H0) (K (J (T.cI j3 kE i)))):=⟨by intro hi U;apply an (SE _ _);apply Cp (f:=j3) (e:=kE) hi (by kernel_rfl) (λH2 t a hK=>aah hK);apply St.go;exact U⟩
def a1.cY(T:a1):List Tk:=(a7 T.bB).map T.at'
def a1.x6(T:a1):T.cY.length=T.bB.length:=by simp[a1.cY]
instance adI[h:Ow H (dz b) T H0]:Sa B H (ad P 41 #[pz b] K) (λx:av×Nat=>XS.T B (dz b T::ah 5 x.1 T.cY.length x.2 (T.cY.flatMap aD)::H0) (K (.slice x.1 T.cY.length x.2))):=⟨by
 intro U;refine bf h.pl (an (SF _) ?_);repeat apply St.go
 refine aL (dz b) (tG λx hs=>?_);have hlen:=hs.len;have t:=hs.pl;repeat apply St.go
 refine gy (by omega) (by omega) (by omega) (by rw[wZ];omega) (by kernel_rfl) (by kernel_rfl) λq=>?_;rw[EK,CJ,show fQ dy=(aD dy).toArray from rfl,aZ,qx (f:=aD) (s:=5) dy rfl (by omega)];refine kk (l:=T.bB.length) 5 (by simp[dj eS]) (rG (m:=0) (by omega) ?_);rw[ua,sf];repeat first|apply St.go|refine Sx.go (by omega) λ_=>?_
 rename_i y;have g:=T.x6;refine af (H':=ah 5 (some ⟨q,0,none⟩) 0 T.bB.length []::ah 1 y.1 T.bB.length y.2 (iv .i64 (a7 T.bB))::ah 5 x.p T.all.length x.c (T.all.flatMap aD)::cl b #[.slice x.p T.all.length x.c,.map (some x.r)]::MP (λ_:Unit=>Value.agg #[]) x.r T.bB::H0) ?_;refine nI T.bB.length (by omega) (λk p l c H'=>l=k/\H'=ah 5 p k c ((T.cY.take k).flatMap aD)::ah 1 y.1 T.bB.length y.2 (iv .i64 (a7 T.bB))::ah 5 x.p T.all.length x.c (T.all.flatMap aD)::cl b #[.slice x.p T.all.length x.c,.map (some x.r)]::MP (λ_:Unit=>Value.agg #[]) x.r T.bB::H0) ⟨rfl,rfl⟩ ?_;rintro k p l c H' R u ⟨rfl,rfl⟩ i;refine S2.go (λ_=>?_) λ_=>?_
 ·have a:l<T.bB.length:=by omega
  have d:(a7 T.bB)[l]?=some ((a7 T.bB)[l]'(by simpa using a)):=bj _;generalize(a7 T.bB)[l]'(by simpa using a)=v at d;have j:=hs.ids v (cr d);have n:T.has v=true:=by simp only[a1.has,bJ];exact j
  refine fA l rfl a d (St.go (aL (ah 5 x.p T.all.length x.c) ?_));refine eD eS (by omega) (v-1).toNat (by rw[br (by omega)];omega) (by omega) (a1.AK n).1 ?_;repeat first|refine Sa.go λ_=>?_|refine Sc.go rfl ?_
  refine jP (ds:=(aD (T.at' v)).toArray) rfl ?_;refine aL (ah 5 p l c) (eZ (s:=5) (c:=c) rfl (by omega) λo c'=>?_);have hm:T.cY[l]?=some (T.at' v):=by unfold a1.cY;rw[e6,d];rfl
  have e:(T.cY.take l).flatMap aD++(aD (T.at' v)).toArray.toList=(T.cY.take (l+1)).flatMap aD:=by rw[ef hm];simp
  rw[e];exact af (i a o _ c' _ ⟨rfl,rfl⟩)
 ·have hl:l=T.bB.length:=by omega
  have e:T.cY.take l=T.cY:=ke (by omega);rw[e];have:=U (p,c);rw[g,<-hl]at this;exact af (mo x hs this)⟩
end
end
structure Qe where
 id:Int
 cl:Int
 nd:Nat
structure Qu where
 L:List (Int×Int)
 fU:Nat
abbrev oQ(E:List Qe):Ch:=⟨1,256,λk=>if k=0 then E.map (·.nd)else[]⟩
abbrev m'(E:List Qe):Ch:=⟨64,256,λk=>(E.filter λe=>e.cl==(k:Int)).map (·.nd)⟩
structure oA where
 cb:Nat
 ob:Nat
 fb:Nat
 r:Nat
 E:List Qe
 S:aT
 m:ML Int
 ids:aN
 b7:aN
abbrev kG(x:oA):az:=(pz x.cb)::(pz x.ob)::(pz x.fb):: .map (some x.r)::(iv .i64 x.ids++iv .i64 x.b7)
abbrev rN(b:Nat)(Q:Qu)(x:oA)(H:au):au:=
 cl b (kG x).toArray::dH x.cb (oQ x.E)::dH x.ob (m' x.E)::ft x.fb x.S::MP J x.r x.m::H
structure Qu.Ok(Q:Qu)(x:oA):Prop where
 L:x.E.map (λe=>(e.id,e.cl))=Q.L
 GM:(x.E.map (·.nd)).Nodup
 FV:(x.E.map (·.id)).Nodup
 e:∀e∈x.E,1<=e.id/\0<=e.cl/\e.cl<64/\e.nd<256/\x.ids[e.nd]?=some e.id/\x.b7[e.nd]?=some (x.S.gen e.nd)/\x.S.b8 e.nd=true
 m:∀k,aQ x.m k=(x.E.find? λe=>e.id==k).map λe=>(e.nd:Int)
 li:x.ids.length=256
 s3:x.b7.length=256
 AZ:x.S.b7.length=256
 fr:x.S.fresh<=Q.fU
def eH(b:Nat)(Q:Qu):bc:=BD Q.Ok (rN b Q)
def Qu.head(Q:Qu)(c:Int):Int:=match Q.L.find? (λe=>e.2==c)with|some e=>e.1|none=>0
section
variable {B:Heap}{H H0:au}{K:aK}{b n:Nat}{Q:Qu}{i c:Int}
def ye{q:HP}(t:∀x,Q.Ok x->T B (rN b Q x H) q):T B (eH b Q::H) q:=mC (λ_ _=>rfl) t
def rO{q:HP}(x:oA)(h:Q.Ok x)(t:T B (eH b Q::H) q):T B (rN b Q x H) q:=mB x h (λ_ _=>rfl) t
instance acK[h:Ow H (eH b) Q H0]:St B H (ad P 264 #[pz b] K) (T B (eH b Q::H0) (K (.bool true))):=⟨by
 intro U;refine bf h.pl (ye λx ok=>an (PW _) ?_);repeat apply St.go
 exact af (rO x ok U)⟩
def XH{x:oA}{k:Nat}(U:k<256)(hi:x.ids.length=256):(kG x).toArray[0+4+k]?=some (J (x.ids.getD k 0)):=by rw[dE,show 0+4+k=k+4 by omega];show(iv .i64 x.ids++iv .i64 x.b7)[k]?=_;rw[gx (by simpa using hi▸U)];exact mP (by rw[List.getD,bj (by omega)];rfl)
def XG{x:oA}{k:Nat}(U:k<256)(hi:x.ids.length=256)(a:x.b7.length=256):(kG x).toArray[0+260+k]?=some (J (x.b7.getD k 0)):=by rw[dE,show 0+260+k=(256+k)+4 by omega];show(iv .i64 x.ids++iv .i64 x.b7)[256+k]?=_;rw[iu (by simp[hi])];simp only[F1,hi,zn];exact mP (by rw[List.getD,bj (by omega)];rfl)
def XJ{x:oA}{k:Nat}{v:Int}(U:k<256)(hi:x.ids.length=256):(kG x).toArray.setIfInBounds (0+4+k) (J v)=(kG {x with ids:=x.ids.set k v}).toArray:=by rw[jK,show 0+4+k=k+1+1+1+1 by omega];simp only[kG,iO];rw[pH _ _ (by simpa using hi▸U)];simp[iv,jj]
def XI{x:oA}{k:Nat}{v:Int}(U:k<256)(hi:x.ids.length=256):(kG x).toArray.setIfInBounds (0+260+k) (J v)=(kG {x with b7:=x.b7.set k v}).toArray:=by rw[jK,show 0+260+k=(256+k)+1+1+1+1 by omega];simp only[kG,iO];rw[pI _ _ (by simp[hi])];simp[iv,jj,hi]
instance acJ[h:Ow H (eH b) Q H0]:Sa B H (ad P 269 #[pz b,J i] K) (λx:oA=>Q.Ok x->T B (rN b Q x H0) (K (J (match x.E.find? (λe=>e.id==i)with|some e=>(e.nd:Int)|none=>-1)))):=⟨by
 intro U;refine bf h.pl (an (PU _ _) ?_);repeat apply St.go
 refine aL (eH b) (ye λx ok=>?_);have U:=U x ok;have hm:=ok.m i
 cases hf:x.E.find? (λe=>e.id==i)with
 |none=>
  rw[hf]at U hm;repeat' first|apply St.go|refine S2.go (λ_=>?_) λ_=>?_|done
  ·exact af U
  ·rename_i a;rw[hm]at a;cases a
 |some e=>
  rw[hf]at U hm;repeat' first|apply St.go|refine S2.go (λ_=>?_) λ_=>?_|done
  ·rename_i a;rw[hm]at a;cases a
  ·rw[hm];exact af U⟩
def Un{E:List Qe}{p:Qe->Bool}:E.find? p=(E.filter p).head?:=by rw[List.head?_filter]
def Uo{E:List Qe}{c:Int}:((E.map λe=>(e.id,e.cl)).find? λe=>e.2==c)=(E.find? λe=>e.cl==c).map λe=>(e.id,e.cl):=by rw[List.find?_map];rfl
instance acH[h:Ow H (eH b) Q H0]:St B H (ad P 255 #[pz b,J c] K) (T B (eH b Q::H0) (K (J (Q.head c)))):=⟨by
 intro U;refine bf h.pl (an (PT _ _) ?_);unfold Qu.head at U;repeat apply St.go
 refine aL (eH b) (ye λx ok=>?_);repeat apply St.go
 apply an (PV _ _);rw[<-ok.L,Uo,Un]at U;by_cases hc:0<=c/\c<64
 ·have d:(m' x.E).first c=bW ((x.E.filter λe=>e.cl==c).map (·.nd)):=by
   unfold Ch.first
   rw[ag (by exact hc)];show bW ((x.E.filter λe=>e.cl==((c.toNat:Nat):Int)).map (·.nd))=_;rw[r5 hc.1]
  rw[d]
  cases a:(x.E.filter λe=>e.cl==c)with
  |nil=>
   rw[a]at U;repeat first|apply St.go|refine bo (by with_reducible decide) ?_
   exact af (rO x ok U)
  |cons e l=>rw[a]at U;have he:=ok.e e (pG.1 (by rw[a];simp:e∈x.E.filter λe=>e.cl==c)).1;have f:bW ((e::l).map (·.nd))=(e.nd:Int):=rfl;rw[f];refine aI (by simp) (St.go (ba (by omega) ?_));rw[aR,aR,aZ];apply bg (XH he.2.2.2.1 ok.li);rw[List.getD,he.2.2.2.2.1];exact St.go (af (rO x ok U))
 ·have a:(x.E.filter λe=>e.cl==c)=[]:=by
   rw[I'];intro e hm h;have:=ok.e e hm;have:e.cl=c:=by simpa using h
   omega
  have d:(m' x.E).first c=-1:=by
   unfold Ch.first
   rw[aj (by exact hc)]
  rw[d];rw[a]at U;repeat first|apply St.go|refine bo (by with_reducible decide) ?_
  exact af (rO x ok U)⟩
def Zi{S:aT}{a:Nat}(c:S.Ok)(hl:S.b7.length=256)(hf:S.fresh<=(a:Int))(ha:a<256):S.fZ=true/\(0<=S.cG/\S.cG<256)/\S.b8 S.cG=false/\S.opened.fresh<=((a+1:Nat):Int)/\S.opened.b7=S.b7/\S.fM=S.gen S.cG/\∀j,S.opened.b8 j=(decide (j=S.cG)||S.b8 j):=by
 have k:=c.fresh
 have g:∀p,(p∈S.closed\/S.fresh<=p)->S.b8 p=false:=λp b=>by
  unfold aT.b8
  cases i:aQ S.cN p with
  |none=>rfl
  |some v=>
   have:=c.op _ (jA i);rcases b with b|b
   ·exact absurd b this.2.2.2
   ·have:=this.2.2.1;simp only at this;omega
 have h:∀(p j:Int) (S':aT),(aQ (bC p true S.cN) j).getD false=(decide (j=p)||S.b8 j):=λp j _=>by
  rw[gR c.bX];by_cases e:j=p
  ·rw[ag e];simp[e]
  ·rw[aj e];simp[e,aT.b8]
 cases hc:S.closed.getLast? with
 |some p=>
  have b:S.pick=({S with closed:=S.closed.dropLast},p,true):=by unfold aT.pick;rw[hc]
  have hm:p∈S.closed:=zj hc;have l:=c.cl p hm;have h1:S.cG=p:=by unfold aT.cG;rw[b];rfl
  have d:S.opened=⟨S.b7,bC p true S.cN,S.closed.dropLast,S.fresh⟩:=by unfold aT.opened;rw[b];rfl
  have f:S.fM=S.gen p:=by unfold aT.fM;rw[b];rfl
  rw[h1,d,f];refine⟨by unfold aT.fZ;rw[b],by omega,g p (.inl hm),by simp only;omega,rfl,rfl,λj=>h p j S⟩
 |none=>
  have b:S.pick=({S with fresh:=S.fresh+1},S.fresh,true):=by unfold aT.pick;rw[hc];exact ag (by omega)
  have h1:S.cG=S.fresh:=by unfold aT.cG;rw[b];rfl
  have d:S.opened=⟨S.b7,bC S.fresh true S.cN,S.closed,S.fresh+1⟩:=by unfold aT.opened;rw[b];rfl
  have f:S.fM=S.gen S.fresh:=by unfold aT.fM;rw[b];rfl
  rw[h1,d,f];refine⟨by unfold aT.fZ;rw[b],by omega,g _ (.inr (by omega)),by simp only;omega,rfl,rfl,λj=>h _ j S⟩
def To(E:List Qe)(e:Qe):(oQ E).add 0 e.nd=oQ (E++[e]):=by
 unfold Ch.add oQ;congr 1;funext k;unfold up;by_cases h:k=0
 ·subst h;simp
 ·simp[h]
def W8(E:List Qe)(e:Qe){k:Nat}(U:e.cl=k):(m' E).add k e.nd=m' (E++[e]):=by
 unfold Ch.add m';congr 1;funext j;unfold up;by_cases h:j=k
 ·subst h;simp[nt,U]
 ·have:(e.cl==(j:Int))=false:=by rw[U];simp;omega
  simp[h,nt,this]
instance acF[h:Ow H (eH b) Q H0]:Sc B H (ad P 174 #[pz b,J i,J c] K) (1<=i/\(0<=c/\c<64)/\(∀e∈Q.L,e.1≠i)/\Q.fU<256) (T B (eH b ⟨Q.L++[(i,c)],Q.fU+1⟩::H0) (K (J 0))):=⟨by
 rintro⟨h1,⟨w,A⟩,C,D⟩ U;refine bf h.pl (an (PQ _ _ _) ?_);repeat' first|apply St.go|refine S2.go (λ_=>?_) λ_=>?_|done
 ·omega
 ·omega
 ·omega
 refine aL (eH b) (ye λx ok=>?_);have n:∀e∈x.E,e.id≠i:=λe he=>C (e.id,e.cl) (by rw[<-ok.L];exact bP.2 ⟨e,he,rfl⟩)
 have o:x.E.find? (λe=>e.id==i)=none:=by rw[pE];intro e he;simpa using n e he
 have hm:=ok.m i;rw[o]at hm;refine aL (ft x.fb) (n' λy p=>kJ y p ?_);refine aL (MP J x.r) (oz λs=>qS s ?_);obtain⟨p1,p2,p3,p4,p5,t,l⟩:=Zi p ok.AZ ok.fr D;have F:=ok.AZ;refine St.go (St.go ?_);rw[hm];repeat' first|apply St.go|refine Sa.go λ_=>?_|refine aI (by with_reducible decide) ?_|refine S2.go (λ_=>?_) λ_=>?_|refine Sc.go (by omega) ?_|done
 ·rename_i h;rw[p1]at h;cases h
 obtain⟨k,G⟩:∃k:Nat,x.S.cG=k:=⟨x.S.cG.toNat,by omega⟩;rw[G]at p2 p3 t l⊢;have f:k<256:=by omega
 rw[aZ,aR,aR];refine bL (q:=cl b (kG x).toArray) (eE (by simp[kG,ok.li,ok.s3];omega) rfl ?_);rw[XJ f ok.li];refine Sc.go (by omega) ?_;simp only[aR,aZ];refine bL (q:=cl b (kG {x with ids:=x.ids.set k i}).toArray) (eE (by simp[kG,ok.li,ok.s3];omega) rfl ?_);rw[XI f (by simpa using ok.li)]
 have g:∀e∈x.E,e.nd≠k:=λe he I=>by have:=(ok.e e he).2.2.2.2.2.2;rw[I,p3]at this;cases this
 obtain⟨ie,rfl⟩:∃ie:Nat,c=ie:=⟨c.toNat,by omega⟩;refine St.go (aL (dH x.cb) (Ae (by simp) (by simpa using f) (λj=>?_) ?_))
 ·show¬k∈(if j=0 then x.E.map (·.nd)else[])
  split
  ·intro hm;obtain⟨e,he,d⟩:=bP.1 hm;exact g e he d
  ·simp
 repeat apply St.go
 refine aL (dH x.ob) (Ae (by simp only[m'];omega) (by simpa using f) (λj=>?_) ?_)
 ·show¬k∈(x.E.filter λe=>e.cl==(j:Int)).map (·.nd)
  intro hm;obtain⟨e,he,d⟩:=bP.1 hm;exact g e (pG.1 he).1 d
 rw[To x.E ⟨i,ie,k⟩,W8 x.E ⟨i,ie,k⟩ rfl];apply St.go
 have fY:Qu.Ok ⟨Q.L++[(i,(ie:Int))],Q.fU+1⟩ ⟨x.cb,x.ob,x.fb,x.r,x.E++[⟨i,ie,k⟩],x.S.opened,bC i (k:Int) x.m,x.ids.set k i,x.b7.set k x.S.fM⟩:=by
  refine⟨by simp[ok.L],?_,?_,λe he=>?_,λj=>?_,by simpa using ok.li,by simpa using ok.s3,by simp only[p5];exact F,p4⟩
  ·simp only[eY,cX,ot]
   rw[dP];refine⟨ok.GM,by simp,λa ha z hz=>?_⟩;rw[fw]at hz;subst hz;obtain⟨e,he,rfl⟩:=bP.1 ha;exact g e he
  ·simp only[eY,cX,ot]
   rw[dP];refine⟨ok.FV,by simp,λa ha z hz=>?_⟩;rw[fw]at hz;subst hz;obtain⟨e,he,rfl⟩:=bP.1 ha;exact n e he
  ·simp only at he⊢
   rcases dO.1 he with he|he
   ·have d:=ok.e e he
    have u:=g e he;refine⟨d.1,d.2.1,d.2.2.1,d.2.2.2.1,by rw[oq (Ne.symm u)];exact d.2.2.2.2.1,by rw[oq (Ne.symm u)];unfold aT.gen;rw[p5];exact d.2.2.2.2.2.1,by rw[l,d.2.2.2.2.2.2];simp⟩
   ·rw[fw]at he
    subst he;refine⟨h1,w,A,f,by simp[ok.li,f],?_,by rw[l];simp⟩;simp only;rw[tV (by rw[ok.s3];exact f),t];unfold aT.gen;rw[p5]
  ·simp only
   rw[gR s];by_cases e:j=i
   ·rw[ag e,e,wg,o]
    simp
   ·rw[aj e,ok.m j,wg]
    have:([⟨i,ie,k⟩]:List Qe).find? (λe=>e.id==j)=none:=by rw[pE];intro y v;rw[fw]at v;subst v;simpa using Ne.symm e
    rw[this,Option.or_none]
 have:=rO _ fY U;simp only[rN]at this;exact af this⟩
def Tp(A C:List Qe)(e:Qe):(oQ (A++e::C)).drop 0 (A.map (·.nd)++C.map (·.nd))=oQ (A++C):=by
 unfold Ch.drop oQ;congr 1;funext k;unfold up;by_cases h:k=0
 ·subst h;simp
 ·simp[h]
def W9(A C:List Qe)(e:Qe){k:Nat}(U:e.cl=k):(m' (A++e::C)).drop k ((A.filter λe=>e.cl==(k:Int)).map (·.nd)++(C.filter λe=>e.cl==(k:Int)).map (·.nd))=m' (A++C):=by
 unfold Ch.drop m';congr 1;funext j;unfold up;by_cases h:j=k
 ·subst h;simp[nt]
 ·have:(e.cl==(j:Int))=false:=by rw[U];simp;omega
  simp[h,nt,this]
abbrev Qu.drop(Q:Qu)(i:Int):Qu:=⟨Q.L.filter λe=>e.1 !=i,Q.fU⟩
instance acG[h:Ow H (eH b) Q H0]:Sc B H (ad P 177 #[pz b,J i] K) (∃e∈Q.L,e.1=i) (T B (eH b (Q.drop i)::H0) (K (J 0))):=⟨by
 intro hi U;refine bf h.pl (an (PR _ _) ?_);refine St.go (St.go (St.go ?_));refine Sa.go λx=>?_;intro ok
 have⟨e,he,l⟩:∃e∈x.E,e.id=i:=by obtain⟨y,d,s⟩:=hi;rw[<-ok.L]at d;obtain⟨e,he,rfl⟩:=bP.1 d;exact⟨e,he,s⟩
 obtain⟨A,C,k⟩:=v' he;have f:=ok.FV;have g:=ok.GM;rw[k]at f g;simp only[eY,cX]at f g;rw[dP]at f g;have o:∀y∈A,y.id≠i/\y.nd≠e.nd:=λy d=>⟨λh=>f.2.2 _ (bP.2 ⟨y,d,rfl⟩) e.id (by simp) (h.trans l.symm),λh=>g.2.2 _ (bP.2 ⟨y,d,rfl⟩) e.nd (by simp) h⟩;have hC:∀y∈C,y.id≠i/\y.nd≠e.nd:=λy d=>⟨λh=>(fg.1 f.2.1).1 (bP.2 ⟨y,d,by rw[h,l]⟩),λh=>(fg.1 g.2.1).1 (bP.2 ⟨y,d,h⟩)⟩
 have hf:x.E.find? (λe=>e.id==i)=some e:=by rw[k,wg,pE.2 λy d=>by simpa using(o y d).1,C2,l];simp
 rw[hf];obtain⟨X,Y,Z,t,aa,u,v⟩:=ok.e e he;refine St.go (aI (by simp) ?_);repeat apply St.go
 rw[k];refine aL (dH x.cb) (Af (j:=0) (m:=e.nd) (a:=A.map (·.nd)) (c:=C.map (·.nd)) (by simp) ?_);rw[Tp];repeat apply St.go
 obtain⟨ie,p⟩:∃ie:Nat,e.cl=ie:=⟨e.cl.toNat,by omega⟩;refine aL (dH x.ob) (Af (j:=ie) (m:=e.nd) (a:=(A.filter λe=>e.cl==(ie:Int)).map (·.nd)) (c:=(C.filter λe=>e.cl==(ie:Int)).map (·.nd)) (by simp[nt,p]) ?_);rw[W9 A C e p];repeat first|apply St.go|refine Sc.go (by simp;omega) ?_
 simp only[aR,aZ];apply bg (XG t ok.li ok.s3);rw[List.getD,u,fx];repeat apply St.go
 have hr:x.S.right e.nd (x.S.gen e.nd)=true:=by unfold aT.right;rw[v];simp
 have w:x.S.close e.nd (x.S.gen e.nd)=x.S.shut e.nd:=by unfold aT.close;rw[ag hr]
 rw[w];refine aL (MP J x.r) (oz λD=>qS D ?_)
 have F:x.E.filter (λe=>e.id !=i)=A++C:=by rw[k,nt,List.filter_cons,aj (by simp[l]),qM.2 λy d=>by simpa using(o y d).1,qM.2 λy d=>by simpa using(hC y d).1]
 have fY:Qu.Ok (Q.drop i) {x with E:=A++C,S:=x.S.shut e.nd,m:=bN i x.m}:=by
  have q:∀y∈A++C,y∈x.E/\y.id≠i/\y.nd≠e.nd:=λy d=>by
   rcases dO.1 d with d|d
   ·exact⟨by rw[k];simp[d],o y d⟩
   ·exact⟨by rw[k];simp[d],hC y d⟩
  refine⟨?_,?_,?_,λy d=>?_,λj=>?_,ok.li,ok.s3,by simpa[aT.shut]using ok.AZ,ok.fr⟩
  ·show List.map _ (A++C)=Q.L.filter _
   rw[<-ok.L,wb,<-F];rfl
  ·simp only[eY]
   rw[dP];exact⟨g.1,(fg.1 g.2.1).2,λa ha z hz=>g.2.2 a ha z (by simp only[cL];exact .inr hz)⟩
  ·simp only[eY]
   rw[dP];exact⟨f.1,(fg.1 f.2.1).2,λa ha z hz=>f.2.2 a ha z (by simp only[cL];exact .inr hz)⟩
  ·obtain⟨h1,ab,G⟩:=q y d
   obtain⟨I,M,N,O,R,V,W⟩:=ok.e y h1;refine⟨I,M,N,O,R,?_,?_⟩
   ·simp only
    rw[V];unfold aT.gen aT.shut;simp only[aZ,List.getD];rw[oq (Ne.symm G)]
   ·simp only
    unfold aT.b8 aT.shut at*;simp only;rw[mV,aj (by omega)];exact W
  ·simp only
   rw[mV];by_cases n:j=i
   ·rw[ag n,n,pE.2 λy d=>by simpa using(q y d).2.1];rfl
   ·rw[aj n,ok.m j,k,wg,wg,C2]
    have:(e.id==j)=false:=by rw[l];simpa using Ne.symm n
    rw[this]
 have:=rO _ fY U;simp only[rN]at this;exact af this⟩
def abg:zc P 294=(.pointer none:: .pointer none:: .pointer none:: .map none::(iv .i64 (List.replicate 256 0)++iv .i64 (List.replicate 256 0))).toArray:=by kernel_rfl
instance acI:Sa B H (ad P 79 #[] K) (λb=>T B (eH b ⟨[],0⟩::H) (K (pz b))):=⟨by
 intro U;apply an (PO);refine Ag (l:=1) (m:=256) (by omega) (by omega) λcb=>?_;apply St.go;refine Ag (l:=64) (m:=256) (by omega) (by omega) λob=>?_;apply St.go;refine B8 (n:=256) (by omega) λfb=>?_;repeat first|apply St.go|refine Sa.go λ_=>?_
 rename_i r b;refine bL (q:=IM r λ_=>none) (iT J ?_)
 have ok:Qu.Ok ⟨[],0⟩ ⟨cb,ob,fb,r,[],aT.new 256,[],List.replicate 256 0,List.replicate 256 0⟩:=⟨rfl,by simp,by simp,by simp,λk=>rfl,by simp,by simp,by simp[aT.new],by simp[aT.new]⟩
 have:=rO _ ok (U b);simp only[rN]at this;rw[abg];have a:oQ []=Ch.new 1 256:=by unfold Ch.new oQ;congr 1;funext k;split<;>rfl
 have c:m' []=Ch.new 64 256:=rfl;rw[a,c]at this;refine cp (cA _ _ _) (jP (ds:=(kG ⟨cb,ob,fb,r,[],aT.new 256,[],List.replicate 256 0,List.replicate 256 0⟩).toArray) rfl ?_);exact af this⟩
end
