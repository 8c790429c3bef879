/- Lemmas that lead to TopWhole (their names made short by a program); no condition. -/
import Derived.Test.YtlmgompopkamfaaGreatDoorLB
import Derived.Laws.StructEq
import Derived.Below
import Derived.ChangeArms
import Derived.OpenShut
import Derived.MapKept
import Derived.Laws.IdiomStrings
import Derived.ChangeKeysEq
import Derived.Laws.Strings
set_option linter.all false
namespace Go.XS
section
abbrev Chunk:=Nat×Obj
def bg:=List Chunk->Prop
abbrev au:=List bg
def Sat:List bg->List Chunk->Prop
 |[],_=>True
 |p::H,l=>∃l1 l2,l.Perm (l1++l2)/\p l1/\Sat H l2
def cl(b:Nat)(cs:ax):bg:=λl=>∃t fr,l=[(b,.cells cs t fr)]/\∀i,i<cs.size->¬(fr.1<=i/\i<fr.2)
def mp(b:Nat)(es:Array MapEntry)(clock:Nat):bg:=λl=>l=[(b,.map es clock)]
def ob(b:Nat)(o:Obj):bg:=λl=>l=[(b,o)]
structure Own(B:Heap)(H:List bg)(σ:Heap):Prop where
 base:∀b,b<B.size->σ[b]?=B[b]?
 size:B.size<=σ.size
 own:∃l:List Chunk,Sat H l/\(l.map (·.1)).Nodup/\∀c∈l,B.size<=c.1/\σ[c.1]?=some c.2
def T(B:Heap)(H:List bg)(p:HP):Prop:=∀σ,Own B H σ->p σ
def Sat.perm:∀{H:List bg} {l a:List Chunk},l.Perm a->Sat H l->Sat H a
 |[],_,_,_,_=>trivial
 |p::H,l,a,h,⟨l1,l2,b,U,c⟩=>⟨l1,l2,h.symm.trans b,U,c⟩
def Sat.GM{H H':List bg}(h:H.Perm H'):∀{l:List Chunk},Sat H l->Sat H' l:=by
 induction h with
 |nil=>exact λh=>h
 |cons p _ b=>rintro l ⟨l1,l2,a,U,c⟩;exact⟨l1,l2,a,U,b c⟩
 |swap p q H=>
  rintro l ⟨l1,l2,a,U,l3,l4,d,e,f⟩;refine⟨l3,l1++l4,?_,e,l1,l4,.refl _,U,f⟩
  exact a.trans ((d.append_left l1).trans (by rw[<-er,<-er];exact List.perm_append_comm.append_right l4))
 |trans _ _ g i=>exact λh=>i (g h)
def Own.perm{B:Heap}{H H':List bg}{σ:Heap}(h:H.Perm H')(o:Own B H σ):Own B H' σ:=⟨o.base,o.size,let⟨l,U,a⟩:=o.own;⟨l,U.GM h,a⟩⟩
def cq{B:Heap}{H H':List bg}{p:HP}(h:H.Perm H')(t:T B H' p):T B H p:=λσ o=>t σ (o.perm h)
def Own.drop{B:Heap}{p:bg}{H:List bg}{σ:Heap}(o:Own B (p::H) σ):Own B H σ:=by obtain⟨l,⟨l1,l2,a,U,b⟩,d,hc⟩:=o.own;refine⟨o.base,o.size,l2,b,?_,λc eN=>hc c (a.mem_iff.2 (by simp[eN]))⟩;have:=(a.map (·.1)).nodup d;rw[e6]at this;exact(dZ.1 this).2.1
def ec{B:Heap}{q:bg}{H:List bg}{p:HP}(t:T B H p):T B (q::H) p:=λσ o=>t σ o.drop
def Own.head{B:Heap}{p:bg}{H:List bg}{σ:Heap}(o:Own B (p::H) σ):∃l1,p l1/\∀c∈l1,B.size<=c.1/\σ[c.1]?=some c.2:=by obtain⟨l,⟨l1,l2,a,U,b⟩,d,hc⟩:=o.own;exact⟨l1,U,λc eN=>hc c (a.mem_iff.2 (by simp[eN]))⟩
inductive lH:bg->List bg->List bg->Prop where
 |head {p:bg} {H:List bg}:lH p (p::H) H
 |tail {p q:bg} {H H':List bg}:lH p H H'->lH p (q::H) (q::H')
def lH.perm{p:bg}{H H':List bg}(h:lH p H H'):H.Perm (p::H'):=by
 induction h with
 |head=>exact .refl _
 |tail _ a=>exact(a.cons _).trans (.swap _ _ _)
def bh{B:Heap}{q:bg}{H H':List bg}{p:HP}(h:lH q H H')(t:T B (q::H') p):T B H p:=cq h.perm t
class bY (B:Heap) (H:List bg) (b:Nat) (cs:outParam ax):Prop where
 has:∀σ,Own B H σ->∃t fr,σ[b]?=some (.cells cs t fr)
instance (priority:=2000) Fl{B:Heap}{H:List bg}{b:Nat}{cs:ax}:bY B (cl b cs::H) b cs where
 has σ o:=by obtain⟨l1,⟨t,fr,rfl,_⟩,h⟩:=o.head;exact⟨t,fr,(h (b,.cells cs t fr) (by simp)).2⟩
instance (priority:=1000) abP{B:Heap}{H:List bg}{p:bg}{b:Nat}{cs:ax}[h:bY B H b cs]:bY B (p::H) b cs where
 has σ o:=h.has σ o.drop
def An{σ:Heap}{b:Nat}{cs:ax}{t:TypeId}{fr:Nat×Nat}(h:σ[b]?=some (.cells cs t fr))(o:Nat):cA σ ⟨b,o,none⟩=cs[o]?:=by simp[cA,h]
def bY.cell{B:Heap}{H:List bg}{b:Nat}{cs:ax}(h:bY B H b cs){σ:Heap}(o:Own B H σ)(i:Nat):cA σ ⟨b,i,none⟩=cs[i]?:=by obtain⟨t,fr,e⟩:=h.has σ o;exact An e i
def aQ(b o n:Nat):Addr.add ⟨b,o,none⟩ n=⟨b,o+n,none⟩:=by
 unfold Addr.add;split
 ·simp[*]
 ·rfl
section
variable {B:Heap}{H:List bg}{b i:Nat}{cs:ax}
def a1[h:bY B H b cs]{k:IntKind}{n:Int}{f:Int->HP}(hc:cs[i]?=some (.int k n))(t:T B H (f n)):T B H (bs k ⟨b,i,none⟩ f):=λσ o=>⟨n,(h.cell o i).trans hc,t σ o⟩
def iT[h:bY B H b cs]{n:Bool}{f:Bool->HP}(hc:cs[i]?=some (.bool n))(t:T B H (f n)):T B H (hA ⟨b,i,none⟩ f):=λσ o=>⟨n,(h.cell o i).trans hc,t σ o⟩
def ke[h:bY B H b cs]{n:aw}{f:aw->HP}(hc:cs[i]?=some (.pointer n))(t:T B H (f n)):T B H (bx ⟨b,i,none⟩ f):=λσ o=>⟨n,(h.cell o i).trans hc,t σ o⟩
def bW[h:bY B H b cs]{p:aw}{l c:Nat}{f:aw->Nat->Nat->HP}(hc:cs[i]?=some (.slice p l c))(t:T B H (f p l c)):T B H (aT ⟨b,i,none⟩ f):=λσ o=>⟨p,l,c,(h.cell o i).trans hc,t σ o⟩
def iU[h:bY B H b cs]{n:ByteArray}{f:ByteArray->HP}(hc:cs[i]?=some (.string n))(t:T B H (f n)):T B H (iz ⟨b,i,none⟩ f):=λσ o=>⟨n,(h.cell o i).trans hc,t σ o⟩
def pJ[h:bY B H b cs]{n:Option Nat}{f:Option Nat->HP}(hc:cs[i]?=some (.map n))(t:T B H (f n)):T B H (gu ⟨b,i,none⟩ f):=λσ o=>⟨n,(h.cell o i).trans hc,t σ o⟩
def hM[h:bY B H b cs]{v:Value}{f:aK}(hc:cs[i]?=some v)(t:T B H (f v)):T B H (gN ⟨b,i,none⟩ f):=λσ o=>⟨v,(h.cell o i).trans hc,t σ o⟩
def iS[h:bY B H b cs]{n:Nat}{f:ax->HP}(ds:ax)(a:ds.size=n)(hd:∀j,j<n->cs[i+j]?=ds[j]?)(t:T B H (f ds)):T B H (eY ⟨b,i,none⟩ n f):=λσ o=>⟨ds,a,λj c=>by rw[aQ,h.cell o];exact hd j c,t σ o⟩
def bI[h:bY B H b cs]{n:Nat}{f:ax->HP}(a:cs.size=n)(t:T B H (f cs)):T B H (eY ⟨b,0,none⟩ n f):=iS cs a (λj _=>by simp) t
end
class fZ (H:List bg) (b:Nat) (cs:outParam ax) (H':outParam (ax->List bg)):Prop where
 perm:∃H0,H.Perm (cl b cs::H0)/\∀ds,(H' ds).Perm (cl b ds::H0)
instance (priority:=2000) adD{H:List bg}{b:Nat}{cs:ax}:fZ (cl b cs::H) b cs (λds=>cl b ds::H)where
 perm:=⟨H,.refl _,λ_=> .refl _⟩
instance (priority:=1000) adE{H:List bg}{p:bg}{b:Nat}{cs:ax}{H':ax->List bg}[h:fZ H b cs H']:fZ (p::H) b cs (λds=>p::H' ds)where
 perm:=by obtain⟨H0,U,a⟩:=h.perm;exact⟨p::H0,(U.cons p).trans (.swap _ _ _),λds=>((a ds).cons p).trans (.swap _ _ _)⟩
def UO{σ:Heap}{b:Nat}{cs:ax}{t:TypeId}{fr:Nat×Nat}(h:σ[b]?=some (.cells cs t fr))(i:Nat)(v:Value):(eW σ ⟨b,i,none⟩ v)[b]?=some (.cells (cs.setIfInBounds i v) t fr):=by simp[eW,qD,h]
def Fq{σ:Heap}{b c:Nat}(h:c≠b)(i:Nat)(v:Value):(eW σ ⟨b,i,none⟩ v)[c]?=σ[c]?:=by simp[eW,qD,Ne.symm h]
def UP(σ:Heap)(a:Addr)(v:Value):(eW σ a v).size=σ.size:=by simp[eW]
def Own.set{B:Heap}{H:List bg}{b i:Nat}{cs:ax}{v:Value}{σ:Heap}(o:Own B (cl b cs::H) σ):Own B (cl b (cs.setIfInBounds i v)::H) (eW σ ⟨b,i,none⟩ v):=by
 obtain⟨l,⟨l1,l2,d,⟨t,fr,rfl,j⟩,m⟩,n,hc⟩:=o.own;have f:=hc (b,.cells cs t fr) (d.mem_iff.2 (by simp));have g:((b,Obj.cells cs t fr)::l2|>.map (·.1)).Nodup:=(d.map (·.1)).nodup n;refine⟨λk I=>?_,by rw[UP];exact o.size,(b,.cells (cs.setIfInBounds i v) t fr)::l2,⟨[(b,.cells (cs.setIfInBounds i v) t fr)],l2,.refl _,⟨t,fr,rfl,by simpa using j⟩,m⟩,by simpa using g,?_⟩
 ·rw[Fq (by have:=f.1;simp at this;omega)];exact o.base k I
 ·intro c a
  rcases cR.1 a with rfl|a
  ·exact⟨f.1,UO f.2 i v⟩
  ·have h:=hc c (d.mem_iff.2 (by simp[a]))
   refine⟨h.1,?_⟩;rw[Fq ?_];exact h.2;intro e;simp only[c4,fp]at g;exact g.1 (bQ.2 ⟨c,a,e⟩)
def eB{B:Heap}{H:List bg}{b i:Nat}{cs:ax}{H':ax->List bg}[h:fZ H b cs H']{v:Value}{k:HP}(hi:i<cs.size)(d:v.oneCell'=true)(t:T B (H' (cs.setIfInBounds i v)) k):T B H (st ⟨b,i,none⟩ v k):=by
 obtain⟨H0,U,e⟩:=h.perm;intro σ o;have a:=o.perm U;obtain⟨l1,⟨f,fr,rfl,g⟩,hc⟩:=a.head;have c:=(hc (b,.cells cs f fr) (by simp)).2;refine⟨⟨cs[i],?_⟩,?_,d,t _ ((a.set).perm (e _).symm)⟩
 ·rw[An c];simp[hi]
 ·simp only[xi,c]
  have:=g i hi;obtain⟨lo,j⟩:=fr;simpa using this
def eH(cs:ax)(i:Nat):aB->ax
 |[]=>cs
 |v::r=>eH (cs.setIfInBounds i v) (i+1) r
def pM{B:Heap}{b o:Nat}{k:HP}:∀(vs:aB) (i:Nat) {H:List bg} {cs:ax} {H':ax->List bg} [h:fZ H b cs H'],o+i+vs.length<=cs.size->(∀v∈vs,v.oneCell'=true)->T B (H' (eH cs (o+i) vs)) k->T B H (hF ⟨b,o,none⟩ i vs k)
 |[],i,H,cs,H',h,hl,c,t=>by simp only[hF];obtain⟨H0,U,a⟩:=h.perm;exact cq (U.trans (a cs).symm) t
 |v::r,i,H,cs,H',h,hl,c,t=>by
  simp only[dd]at hl;simp only[hF,aQ];apply eB (by omega) (c v (by simp));obtain⟨H0,U,a⟩:=h.perm;refine cq (a _) ?_;have:=pM (B:=B) (b:=b) (o:=o) (k:=k) r (i+1) (H:=cl b (cs.setIfInBounds (o+i) v)::H0) (by simp;omega) (λu hu=>c u (by simp[hu])) ?_
  ·exact this
  ·exact cq (a _).symm t
def ny{B:Heap}{b o n:Nat}{k:HP}{vs:ax}{H:List bg}{cs:ax}{H':ax->List bg}[h:fZ H b cs H'](a:vs.size=n)(hl:o+n<=cs.size)(c:∀v∈vs.toList,v.oneCell'=true)(t:T B (H' (eH cs o vs.toList)) k):T B H (gW ⟨b,o,none⟩ vs n k):=by have:=pM (B:=B) (b:=b) (o:=o) (k:=k) vs.toList 0 (H:=H) (by simp[a];omega) c (by simpa using t);exact λσ ow=>⟨a,this σ ow⟩
def YO(cs vs:ax)(h:vs.size=cs.size):eH cs 0 vs.toList=vs:=by
 have key:∀(l:aB) (i:Nat) (cs:ax),i+l.length=cs.size->(eH cs i l).toList=cs.toList.take i++l:=by
  intro l
  induction l with
  |nil=>intro i cs h;simp[eH];rw[j7 (by simpa using Nat.le_of_eq h.symm)]
  |cons v r a=>
   intro i cs h;simp only[dd]at h;simp only[eH];rw[a (i+1) _ (by simp;omega)];have b:i<cs.toList.length:=by simp;omega
   simp only[Cx];rw[CV (by simpa using b)];simp[CS]
 apply g';have:=key vs.toList 0 cs (by simp[h]);simpa using this
def hj{B:Heap}{b n:Nat}{k:HP}{vs:ax}{H:List bg}{cs:ax}{H':ax->List bg}[h:fZ H b cs H'](a:vs.size=n)(hl:cs.size=n)(c:∀v∈vs.toList,v.oneCell'=true)(t:T B (H' vs) k):T B H (gW ⟨b,0,none⟩ vs n k):=ny a (by omega) c (by rw[YO _ _ (a.trans hl.symm)];exact t)
def Own.push{B:Heap}{H:List bg}{σ:Heap}(o:Own B H σ){p:bg}{ob:Obj}(d:p [(σ.size,ob)]):Own B (p::H) (σ.push ob):=by
 obtain⟨l,U,f,hc⟩:=o.own;have b:∀c∈l,c.1<σ.size:=λc a=>(gF.1 (hc c a).2).1;refine⟨λk I=>?_,by have:=o.size;simp;omega,(σ.size,ob)::l,⟨[(σ.size,ob)],l,.refl _,d,U⟩,?_,?_⟩
 ·rw[Array.getElem?_push,ak (by have:=o.size;omega)];exact o.base k I
 ·simp only[c4,fp]
  refine⟨λhm=>?_,f⟩;obtain⟨c,a,e⟩:=bQ.1 hm;have:=b c a;omega
 ·intro c a
  rcases cR.1 a with rfl|a
  ·exact⟨o.size,by simp⟩
  ·refine⟨(hc c a).1,?_⟩
   rw[Array.getElem?_push,ak (by have:=b c a;omega)];exact(hc c a).2
def el{B:Heap}{H:List bg}{cs:ax}{t:TypeId}{f:Nat->HP}(h:∀b,T B (cl b cs::H) (f b)):T B H (al cs t f):=λσ o=>h σ.size _ (o.push ⟨t,(0,0),rfl,by simp⟩)
def JP{B:Heap}{H:List bg}{f:Nat->HP}(h:∀b,T B (mp b #[] 0::H) (f b)):T B H (hD f):=λσ o=>h σ.size _ (o.push rfl)
def gC{P:Program}{B:Heap}{H:List bg}{elem:TypeId}{l c:Int}{f:Nat->HP}(h0:0<=l)(U:l<=c)(a:c<9223372036854775808)(d:(P.bytesOf elem:Int)*c<=2^48)(e:(P.info? elem).isSome=true)(g:hI P elem=true)(h:∀b,T B (cl b (gx (zc P elem) (c.toNat*P.cellsOf elem))::H) (f b)):T B H (c7 P elem l c f):=λσ o=>⟨h0,U,a,d,e,g,h σ.size _ (o.push ⟨elem,(0,0),rfl,by simp⟩)⟩
section
variable {B:Heap}{H:List bg}
def an{p q:HP}(h:∀{σ},p σ->q σ)(t:T B H p):T B H q:=λσ o=>h (t σ o)
def cH{c:Bool}{p q:HP}(a:c=true->T B H p)(hf:c=false->T B H q):T B H (ae c p q):=λσ o=>⟨λh=>a h σ o,λh=>hf h σ o⟩
def bk{c:Bool}{p q:HP}(h:c=true)(b:T B H p):T B H (ae c p q):=cH (λ_=>b) (λa=>by rw[h]at a;cases a)
def aD{c:Bool}{p q:HP}(h:c=false)(b:T B H q):T B H (ae c p q):=cH (λa=>by rw[h]at a;cases a) (λ_=>b)
def bj{c:Prop}{p:HP}(hc:c)(t:T B H p):T B H (aR c p):=λσ o=>⟨hc,t σ o⟩
def nq{a:Addr}{f:Addr->HP}(t:T B H (f a)):T B H (aA (some a) f):=t
def fF{c9:Heap->Prop}{p:HP}(hi:∀σ,Own B H σ->c9 σ)(t:T B H p):T B H (dA c9 p):=λσ o=>⟨hi σ o,t σ o⟩
def Ji{k:IntKind}{n:Int}{f:Int->HP}(t:T B H (f n)):T B H (di k (.int k n) f):=λσ o=>⟨n,rfl,t σ o⟩
def Jh{n:Bool}{f:Bool->HP}(t:T B H (f n)):T B H (dv (.bool n) f):=λσ o=>⟨n,rfl,t σ o⟩
def Jk{n:aw}{f:aw->HP}(t:T B H (f n)):T B H (im (.pointer n) f):=λσ o=>⟨n,rfl,t σ o⟩
def Jl{p:aw}{l c:Nat}{f:aw->Nat->Nat->HP}(t:T B H (f p l c)):T B H (iX (.slice p l c) f):=λσ o=>⟨p,l,c,rfl,t σ o⟩
def Jm{n:ByteArray}{f:ByteArray->HP}(t:T B H (f n)):T B H (nC (.string n) f):=λσ o=>⟨n,rfl,t σ o⟩
def Jj{n:Option Nat}{f:Option Nat->HP}(t:T B H (f n)):T B H (uh (.map n) f):=λσ o=>⟨n,rfl,t σ o⟩
def Jg{n:ax}{f:ax->HP}(t:T B H (f n)):T B H (hk (.agg n) f):=λσ o=>⟨n,rfl,t σ o⟩
def zn{k:IntKind}{cs:ax}{i:Nat}{n:Int}{f:Int->HP}(h:cs[i]?=some (.int k n))(t:T B H (f n)):T B H (lZ k cs i f):=λσ o=>⟨n,h,t σ o⟩
def JU{cs:ax}{i:Nat}{p:aw}{l c:Nat}{f:aw->Nat->Nat->HP}(h:cs[i]?=some (.slice p l c))(t:T B H (f p l c)):T B H (Bl cs i f):=λσ o=>⟨p,l,c,h,t σ o⟩
def kM{α:Sort _}{q:α->HP}:T B H (λσ=>∀x,q x σ)↔∀x,T B H (q x):=⟨λh x σ o=>h σ o x,λh σ o x=>h x σ o⟩
def fu{c:Prop}{q:HP}:T B H (λσ=>c->q σ)↔(c->T B H q):=⟨λh hc σ o=>h σ o hc,λh σ o hc=>h hc σ o⟩
def cp{α:Sort _}{q:α->HP}(x:α)(t:T B H (q x)):T B H (λσ=>∃x,q x σ):=λσ o=>⟨x,t σ o⟩
def dU{c:Prop}{q:HP}(hc:c)(t:T B H q):T B H (λσ=>c/\q σ):=λσ o=>⟨hc,t σ o⟩
def se{body:aB->(aB->HP)->HP}{init:aB}(b:aB->List bg->Prop)(c:aB->Nat)(h0:b init H)(step:∀s H R,b s H->(∀a H',b a H'->c a<c s->T B H' (R a))->T B H (body s R)):T B H (bm body init):=by
 intro σ o R d
 have key:∀n s H,c s<n->b s H->T B H (R s):=by
  intro n
  induction n with
  |zero=>intro s H h;omega
  |succ n e=>intro s H i f σ o;exact d s σ (step s H R f (λa H' g j=>e a H' (by omega) g) σ o)
 exact key (c init+1) init H (by omega) h0 σ o
def gm{a:aB->HP}{body:(aB->HP)->HP}(S:aB->List bg->Prop)(b:∀vs H',S vs H'->T B H' (a vs))(c:∀R,(∀vs H',S vs H'->T B H' (R vs))->T B H (body R)):T B H (bq a body):=c a b
end
end
section
open Go.RowKit (Below)
def cT{a:Addr}{f:Addr->HP}:aA (some a) f=f a:=rfl
def gq{k:IntKind}{n:Int}{f:Int->HP}:di k (.int k n) f=f n:=by funext σ;simp[di]
def fv{b:Bool}{f:Bool->HP}:dv (.bool b) f=f b:=by funext σ;simp[dv]
def sj{p:aw}{f:aw->HP}:im (.pointer p) f=f p:=by funext σ;simp[im]
def Kr{p:ByteArray}{f:ByteArray->HP}:nC (.string p) f=f p:=by funext σ;simp[nC]
def DI{p:ax}{f:ax->HP}:hk (.agg p) f=f p:=by funext σ;simp[hk]
def sk{p:aw}{l c:Nat}{f:aw->Nat->Nat->HP}:iX (.slice p l c) f=f p l c:=by
 funext σ;simp[iX];constructor
 ·rintro⟨_,_,_,⟨rfl,rfl,rfl⟩,h⟩;exact h
 ·exact λh=>⟨p,l,c,⟨rfl,rfl,rfl⟩,h⟩
def fin(B:Heap)(v:Value):HP:=λσ=>v= .bool true/\(∀b,b<B.size->σ[b]?=B[b]?)/\B.size<=σ.size
def Jz{B:Heap}{H:au}:T B H (fin B (.bool true)):=λσ o=>⟨rfl,o.base,o.size⟩
def WV(B:Heap):Own B [] B:=⟨λ_ _=>rfl,d' _,[],trivial,by simp,by simp⟩
def U5{P:Program}{f:FuncId}{args:ax}{w:World}(h:T w.heap [] (ab P f args (fin w.heap))):Calls P f args w λe w'=>e= .returned (.bool true)/\Below w.heap.size w w':=by refine(h w.heap (WV _) w rfl).mono ?_;rintro e w' ⟨v,rfl,⟨rfl,U,b⟩,a⟩;exact⟨rfl,a.1,a.2.1,a.2.2,b,U⟩
section
variable {P:Program}{B:Heap}{H:au}
def qU{α:Type}{s:Sem α}{K:α->HP}(v:α)(h:∀σ,Own B H σ->∀w:World,w.heap=σ->s.run P w= .ok v w)(t:T B H (K v)):T B H (aI P s K):=λσ o=>dK v (h σ o) (t σ o)
def sB:TK->Option Value->Option Value->Option Bool
 | .bool,some (.bool a),some (.bool b)=>some (a==b)
 | .int k,some (.int c a),some (.int d b)=>if c=k/\d=k then some (a==b)else none
 | .str,some (.string a),some (.string b)=>some (a.toList==b.toList)
 |_,_,_=>none
def sJ(P:Program)(xs ys:ax):List Field->Option Bool
 |[]=>some true
 |f::a=>
  if f.name≠ "_" then
   match sB (TK.of P f.type) (xs[f.offset]?) (ys[f.offset]?),sJ P xs ys a with
   |some r,some q=>some (r&&q)
   |_,_=>none
  else sJ P xs ys a
def TX{t:TypeId}{a b:Option Value}{r:Bool}(h:sB (TK.of P t) a b=some r):(TK.of P t).isAgg=false/\∃x y,a=some x/\b=some y/\∀d (w:World),(Op.equalIn (d+1) t x y).run P w= .ok r w:=by
 unfold TK.of at h⊢
 cases hu:P.underlying t with
 |none=>simp[hu,sB]at h
 |some d=>
  rw[hu]at h;cases d<;>simp only[sB]at h<;>first|(cases h;done)|skip
  case bool=>
   cases a with
   |none=>cases h
   |some x=>
    cases b with
    |none=>cases x<;>cases h
    |some y=>
     cases x<;>cases y<;>first|(cases h;done)|skip
     cases h;exact⟨rfl,_,_,rfl,rfl,λd w=>z6 hu d w⟩
  case int k=>
   cases a with
   |none=>cases h
   |some x=>
    cases b with
    |none=>cases x<;>cases h
    |some y=>
     cases x<;>cases y<;>first|(cases h;done)|skip
     simp only at h;split at h
     ·rename_i I
      obtain⟨rfl,rfl⟩:=I;cases h;exact⟨rfl,_,_,rfl,rfl,λd w=>run_equalIn_int w d t _ _ _ _ hu⟩
     ·cases h
  case string=>
   cases a with
   |none=>cases h
   |some x=>
    cases b with
    |none=>cases x<;>cases h
    |some y=>
     cases x<;>cases y<;>first|(cases h;done)|skip
     cases h;exact⟨rfl,_,_,rfl,rfl,λd w=>run_equalIn_string w d t _ _ hu⟩
def xN{t:TypeId}{cs:ax}{off:Nat}{v:Value}(hu:(P.underlying t).isSome=true)(I:(TK.of P t).isAgg=false)(a:cs[off]?=some v)(w:World):(part t cs off).run P w= .ok v w:=by obtain⟨d,hd⟩:=hY.1 hu;unfold part;rw[Sem.run_bind,vo hd,TK.u2 hd,I,Result.andThen_ok];simp[a]
def Ad{xs ys:ax}(d:Nat):∀(a:List Field) {r:Bool} (h:sJ P xs ys a=some r) (w:World),(Op.eqFields (d+1) xs ys a).run P w= .ok r w
 |[],r,h,w=>by cases h;rfl
 |f::a,r,h,w=>by
  simp only[sJ]at h;simp only[Op.eqFields];split at h
  ·rename_i b
   rw[ah b]
   cases hc:sB (TK.of P f.type) (xs[f.offset]?) (ys[f.offset]?)with
   |none=>rw[hc]at h;cases h
   |some g=>
    cases c:sJ P xs ys a with
    |none=>rw[hc,c]at h;cases h
    |some q=>
     rw[hc,c]at h;cases h;obtain⟨e,x,y,i,j,hr⟩:=TX hc
     have hu:(P.underlying f.type).isSome=true:=by
      unfold TK.of at hc
      cases hu:P.underlying f.type with
      |none=>simp[hu,sB]at hc
      |some d=>rfl
     simp only[Sem.run_bind,xN hu e i,xN hu e j,Result.andThen_ok,hr d];cases g
     ·simp
     ·simpa using Ad d a c w
  ·rename_i b
   rw[ak b];exact Ad d a h w
def Jw{t:TypeId}{x y:Operand}{xs ys:ax}{K:aK}{b:Bool}(hm:P.eqGuardType P.depth t=false)(a:P.underlying t=some (.struct (P.fieldsOf t)))(c:P.stoodInHeld t=false)(hf:sJ P xs ys (P.fieldsOf t).toList=some b)(h:T B H (K (.bool b))):T B H (aI P (do eqGuard .eql t x y (.agg xs) (.agg ys);binOp .eql t (.agg xs) (.agg ys)) K):=by refine qU (.bool b) (λσ o w hw=>?_) h;rw[Sem.run_bind,run_eqGuard_agg w .eql t x y xs ys hm,Result.andThen_ok,run_eql_struct,run_equalIn_struct w 9999 t xs ys a c,Ad 9998 _ hf,Result.andThen_ok]
def wa(P:Program)(k:FuncId)(e:ax->Sem Value):Prop:=∀(args:ax) (w:World),(callFunc k args).run P w=(do pure (.value (<-e args)):Sem Next).run P w
def E3(a:j' P){k:FuncId}{fn:Func}{e:ax->Sem Value}(hf:P.funcs[k]?=some fn)(b:fn.body.isNone=true)(U:Extern.findNext fn=none)(c:Extern.find fn=some e):wa P k e:=by intro args w;unfold callFunc;simp only[Sem.run_bind,run_program,Result.andThen_ok,hf,a k fn hf,fM,ej,b,dT,U,c,run_mark]
def Dp{k:FuncId}{e:ax->Sem Value}{args:ax}{K:aK}(a:wa P k e)(t:T B H (aI P (e args) K)):T B H (eF P (callFunc k args) K):=by intro σ o w hw;obtain⟨v,w',U,b,c⟩:=t σ o w hw;exact⟨.value v,w',by rw[a args w];simp[U],b,.inl ⟨v,rfl,c⟩⟩
def Jd{b i:Nat}{cs:ax}[h:bY B H b cs]{k:IntKind}{n:Int}{K:aK}(hc:cs[i]?=some (.int k n))(t:T B H (K (.int k n))):T B H (aI P (Extern.Atomic.loadT (.int k) #[.pointer (some ⟨b,i,none⟩)]) K):=by refine qU (.int k n) (λσ o w hw=>?_) t;have cA:=(h.cell o i).trans hc;rw[<-hw]at cA;show(do let a<-asAddr (.pointer (some ⟨b,i,none⟩));Extern.Atomic.read (.int k) a:Sem Value).run P w=_;simp[Extern.Atomic.read,asAddr,kQ,cA]
def YK{a:Addr}{v:Value}{m:Mode}{k:HP}{σ:Heap}(h:st a v k σ):aI P (store a v m) (λ_=>k) σ:=by
 obtain⟨⟨u,hu⟩,hf,b,I⟩:=h;intro w hw;refine⟨(),w.setCell a v,?_,⟨rfl,rfl,rfl⟩,?_⟩
 ·rw[run_store _ _ _ _ _ b,kQ,hw,hu]
  simp only[Ag,hw,hf];rfl
 ·rw[setCell_eq,hw];exact I
def Ja{b i:Nat}{cs:ax}{H':ax->au}[h:fZ H b cs H']{k:IntKind}{n y:Int}{K:aK}(hc:cs[i]?=some (.int k n))(t:T B (H' (cs.setIfInBounds i (.int k (k.wrap (n+y))))) (K (.int k (k.wrap (n+y))))):T B H (aI P (Extern.Atomic.update (Op.intArith .add) k true #[.pointer (some ⟨b,i,none⟩),.int k y]) K):=by
 intro σ o;have hi:i<cs.size:=(gF.1 hc).1;have U:st ⟨b,i,none⟩ (.int k (k.wrap (n+y))) (K (.int k (k.wrap (n+y)))) σ:=eB hi rfl t σ o;obtain⟨H0,p1,p2⟩:=h.perm;have cA:cA σ ⟨b,i,none⟩=some (.int k n):=((Fl).cell (o.perm p1) i).trans hc;unfold Extern.Atomic.update;refine aY (dK (⟨b,i,none⟩:Addr) (λw _=>rfl) ?_);refine aY (dK (.int k n) (λw hw=>?_) ?_)
 ·rw[<-hw]at cA
  simp[Extern.Atomic.read,kQ,cA]
 refine aY (dK n (λw _=>rfl) ?_);refine aY (dK y (λw _=>rfl) ?_);refine aY (dK (.int k (k.wrap (n+y))) (λw _=>rfl) ?_);exact aY (gU (λ_ σ h=>cu h) (YK U))
end
end
section
def add_add(a:Addr)(i j:Nat):(a.add i).add j=a.add (i+j):=by
 unfold Addr.add;by_cases hi:i=0
 ·subst hi;simp
 ·by_cases b:j=0
  ·subst b;simp
  ·have:i+j≠0:=by omega
   simp[hi,b,this,Nat.add_assoc]
def bF(B:Heap)(H:au)(q:aw)(ys:aB):Prop:=
 ∀σ,Own B H σ->(q=none/\ys=[])\/∃a,q=some a/\∀i,i<ys.length->cA σ (a.add i)=ys[i]?
def bF.tail{B:Heap}{H:au}{p:bg}{q:aw}{ys:aB}(h:bF B H q ys):bF B (p::H) q ys:=λσ o=>h σ o.drop
def bF.perm{B:Heap}{H H':au}{q:aw}{ys:aB}(h:bF B H q ys)(a:H'.Perm H):bF B H' q ys:=λσ o=>h σ (o.perm a)
def bF.nil{B:Heap}{H:au}:bF B H none []:=λσ o=> .inl ⟨rfl,rfl⟩
def KC{B σ:Heap}{H:au}(o:Own B H σ){a:Addr}{v:Value}(h:cA B a=some v):cA σ a=some v:=by
 have c:a.block<B.size:=by
  unfold cA at h;rcases vZ a.block B.size with b|b
  ·exact b
  ·simp[yM b]at h
 unfold cA at h⊢;rw[o.base _ c];exact h
def bF.Wv{B:Heap}{a:Addr}{ys:aB}(h:∀i,i<ys.length->cA B (a.add i)=ys[i]?)(H:au):bF B H (some a) ys:=by intro σ o;refine .inr ⟨a,rfl,λi hi=>?_⟩;have U:=h i hi;rw[ba hi]at U⊢;exact KC o U
def bF.nP{B:Heap}{H:au}{b o:Nat}{cs:ax}[hc:bY B H b cs]{ys:aB}(h:∀i,i<ys.length->cs[o+i]?=ys[i]?):bF B H (some ⟨b,o,none⟩) ys:=by intro σ ow;refine .inr ⟨_,rfl,λi hi=>?_⟩;rw[aQ,hc.cell ow];exact h i hi
def bF.take{B:Heap}{H:au}{q:aw}{ys:aB}(h:bF B H q ys)(n:Nat)(b:n<=ys.length):bF B H q (ys.take n):=by
 intro σ o;rcases h σ o with⟨rfl,rfl⟩|⟨a,rfl,hc⟩
 ·exact .inl ⟨rfl,by simp⟩
 ·refine .inr ⟨a,rfl,λi hi=>?_⟩
  simp at hi;rw[hc i (by omega),oi,ah (by omega)]
section
variable {B:Heap}{H:au}{a:Addr}{ys:aB}{i:Nat}{q:aw}
def sf(h:bF B H (some a) ys){k:IntKind}{n:Int}{f:Int->HP}(hc:ys[i]?=some (.int k n))(t:T B H (f n)):T B H (bs k (a.add i) f):=by
 intro σ o;rcases h σ o with⟨h,_⟩|⟨a',h,b⟩
 ·cases h
 ·cases h
  have hi:i<ys.length:=(b0.1 hc).1;exact⟨n,(b i hi).trans hc,t σ o⟩
def Dx(h:bF B H (some a) ys){n:Nat}{f:ax->HP}(ds:ax)(b:ds.size=n)(hl:i+n<=ys.length)(hd:∀j,j<n->ys[i+j]?=ds[j]?)(t:T B H (f ds)):T B H (eY (a.add i) n f):=by
 intro σ o;rcases h σ o with⟨h,_⟩|⟨a',h,c⟩
 ·cases h
 ·cases h
  refine⟨ds,b,λj d=>?_,t σ o⟩;rw[add_add,c _ (by omega)];exact hd j d
def bF.BQ(h:bF B H q ys)(hl:0<ys.length)(σ:Heap)(o:Own B H σ):∃a,q=some a:=by
 rcases h σ o with⟨_,h⟩|⟨a,h,_⟩
 ·subst h;simp at hl
 ·exact⟨a,h⟩
def nw(h:bF B H q ys)(hl:0<ys.length){f:Addr->HP}(t:∀a,q=some a->T B H (f a)):T B H (aA q f):=by intro σ o;obtain⟨a,rfl⟩:=h.BQ hl σ o;exact t a rfl σ o
end
def ai(s:Nat)(p:aw)(l c:Nat)(xs:aB):bg:=λch=>
 xs.length=l*s/\l<=c/\((p=none/\c=0/\ch=[])\/∃b rest,p=some ⟨b,0,none⟩/\(xs++rest).length=c*s/\cl b (xs++rest).toArray ch)
def WS(s:Nat):ai s none 0 0 [] []:=⟨by simp,d' _,.inl ⟨rfl,rfl,rfl⟩⟩
def dR{B:Heap}{H:au}{p:HP}(s:Nat)(t:T B (ai s none 0 0 []::H) p):T B H p:=by intro σ o;obtain⟨l,U,a⟩:=o.own;exact t σ ⟨o.base,o.size,l,⟨[],l,.refl _,WS s,U⟩,a⟩
def kf{B:Heap}{H:au}{p:HP}{b l:Nat}{cs:ax}(s:Nat)(hl:cs.size=l*s)(t:T B (ai s (some ⟨b,0,none⟩) l l cs.toList::H) p):T B (cl b cs::H) p:=by intro σ o;obtain⟨ch,⟨l1,l2,a,U,c⟩,d⟩:=o.own;refine t σ ⟨o.base,o.size,ch,⟨l1,l2,a,⟨by simpa using hl,d' _,.inr ⟨b,[],rfl,by simpa using hl,by simpa using U⟩⟩,c⟩,d⟩
def qT{B:Heap}{H:au}{p:HP}{q:aw}{s l c:Nat}{xs:aB}(h0:q=none->c=0->l=0->xs=[]->T B H p)(U:∀b rest,q=some ⟨b,0,none⟩->xs.length=l*s->l<=c->(xs++rest).length=c*s->T B (cl b (xs++rest).toArray::H) p):T B (ai s q l c xs::H) p:=by
 intro σ o;obtain⟨ch,⟨l1,l2,d,⟨a,e,h⟩,f⟩,g,hc⟩:=o.own;rcases h with⟨rfl,rfl,rfl⟩|⟨b,rest,rfl,hlen,i⟩
 ·have:l=0:=by omega
  subst this;exact h0 rfl rfl rfl (by simpa using a) σ o.drop
 ·exact U b rest rfl a e hlen σ ⟨o.base,o.size,ch,⟨l1,l2,d,i,f⟩,g,hc⟩
def bF.iB{B:Heap}{H:au}{q:aw}{s l c:Nat}{xs:aB}:bF B (ai s q l c xs::H) q xs:=by
 intro σ o;obtain⟨ch,⟨l1,l2,a,⟨d,f,h⟩,g⟩,j,hc⟩:=o.own;rcases h with⟨rfl,rfl,rfl⟩|⟨b,rest,rfl,hlen,t,fr,rfl,k⟩
 ·have:l=0:=by omega
  subst this;exact .inl ⟨rfl,by simpa using d⟩
 ·refine .inr ⟨_,rfl,λi hi=>?_⟩
  have e:=hc (b,.cells (xs++rest).toArray t fr) (a.mem_iff.2 (by simp));rw[aQ,An e.2];simp[yZ,hi]
def Fi(n:Nat):∀(r c:Nat),c<=n+(n+768)/4->Builtin.growBy n r c<=n+(n+768)/4
 |0,c,h=>by simpa[Builtin.growBy]using h
 |r+1,c,h=>by
  simp only[Builtin.growBy];split
  ·exact h
  ·exact Fi n r _ (by omega)
def A1{n c:Nat}(h:c<n):Builtin.nextslicecap n c<=2*n+1024:=by
 unfold Builtin.nextslicecap;split
 ·omega
 ·split
  ·omega
  ·have:=Fi n 4 c (by omega)
   omega
def vq:∀(l:aB) (i:Nat) (cs:ax),i+l.length<=cs.size->(eH cs i l).toList=cs.toList.take i++l++cs.toList.drop (i+l.length)
 |[],i,cs,h=>by simp[eH]
 |v::r,i,cs,h=>by
  simp only[dd]at h;simp only[eH];rw[vq r (i+1) _ (by simp;omega)];have a:i<cs.toList.length:=by simp;omega
  simp only[Cx,dd];rw[CV (by simpa using a)];simp only[IJ,CS (d' _),er,qE,kI];rw[List.drop_set_of_lt (by omega)];rw[show i+1+r.length=i+(r.length+1)from by omega]
section
variable {P:Program}
def qt{s n:Nat}{q:aw}{m d:Nat}{ys:aB}{K:ax->HP}{σ:Heap}(h:(q=none/\ys=[])\/∃a,q=some a/\∀i,i<ys.length->cA σ (a.add i)=ys[i]?)(hl:ys.length=n*s)(k:K ys.toArray σ):aI P (Builtin.firstCells s n (.slice q m d)) K σ:=by
 rcases h with⟨rfl,rfl⟩|⟨a,rfl,hc⟩
 ·exact cu k
 ·refine Ho ⟨ys.toArray,by simpa using hl,λi hi=>?_,k⟩
  rw[hc i (by omega)];simp
def BI{hP a:Nat}{elem:TypeId}{K:Nat->HP}{σ:Heap}(h:∀n,hP<=n->K n σ):aI P (choose (.appendCap hP a elem)) K σ:=by
 intro w hw;refine⟨_,{w with drawn:=w.drawn+1},?_,⟨rfl,rfl,rfl⟩,h ((Question.appendCap hP a elem).cut (w.tape w.drawn (.appendCap hP a elem))) ?_|>λh=>by rw[<-hw]at h;exact h⟩
 ·simp[Question.forced]
 ·simp[Question.cut]
def Ko{B:Heap}{H:au}{k:Array TypeId}{t0 t1 elem:TypeId}{s:Nat}{p:aw}{l c:Nat}{xs:aB}{q:aw}{m d:Nat}{ys:aB}{f:aw->Nat->Nat->HP}(h0:k[0]?=some t0)(U:k[1]?=some t1)(hu:P.underlying t0=some (.slice elem))(r:nf P t1=true)(hi:(P.info? elem).isSome=true)(hz:hI P elem=true)(hs:P.cellsOf elem=s)(F:(2*(l+m)+1024)*P.bytesOf elem<=281474976710656)(Z:1<=P.bytesOf elem)(G:(zc P elem).size=s)(A:bF B (ai s p l c xs::H) q ys)(e:ys.length=m*s)(I:∀v∈ys,v.oneCell'=true)(t:∀C c',T B (ai s C (l+m) c' (xs++ys)::H) (f C (l+m) c')):T B (ai s p l c xs::H) (cI P k p l c q m d f):=by
 obtain⟨info,g⟩:=hY.1 hi;have J:P.bytesOf elem=info.bytes:=by simp[Program.bytesOf,g]
 obtain⟨aa,r⟩:=rP r;intro σ o;have u:=A σ o;have D:=bF.iB σ o;unfold cI;unfold Builtin.append_;simp only[h0,U,dY,jF,mu];refine aY (gV hu ?_);refine aY (o8 hi ?_);refine aY (gV r ?_);refine aY (cu ?_);simp only[fM,ej];refine aY (cu ?_)
 have K:∃ch:List Chunk,xs.length=l*s/\l<=c:=by obtain⟨ch,⟨l1,l2,j,⟨x,y,h⟩,E⟩,ab,hc⟩:=o.own;exact⟨ch,x,y⟩
 obtain⟨_,L,y⟩:=K;by_cases a:l+m<=c
 ·simp only[a,dT,CC]
  refine aY (qt u (by rw[hs];exact e) ?_);clear u D A;revert o;generalize σ=σ;refine qT ?_ ?_ σ
  ·rintro rfl rfl rfl rfl σ o
   have hm:m=0:=by omega
   subst hm;have M:ys=[]:=by simpa using e
   subst M;apply cu;rw[sk];exact dR s (t none 0) σ o
  ·intro b rest j x y hlen
   subst j;refine λσ o=>aY (gU (λ_ σ h=>cu h) (qu ys.toArray.toList 0 ?_));rw[aQ,hs];simp only[sk];refine pM ys (i:=0) (H:=cl b (xs++rest).toArray::H) ?_ I ?_ σ o
   ·simp only[cr]at hlen
    have N:(l+m)*s<=c*s:=jM s a;simp only[iL,cr,e];have:(l+m)*s=l*s+m*s:=gk _ _ _;omega
   ·simp only[cr]at hlen
    have N:(l+m)*s<=c*s:=jM s a;have ac:(l+m)*s=l*s+m*s:=gk _ _ _;have eW:=vq ys (0+l*s+0) (xs++rest).toArray (by simp only[iL,cr];omega)
    have O:eH (xs++rest).toArray (0+l*s+0) ys=(xs++ys++rest.drop ys.length).toArray:=by apply g';rw[eW];simp only[bJ,mx,er];rw[<-x,qI rfl];congr 2;rw[tH];simp
    rw[O];intro σ o;obtain⟨ch,⟨l1,l2,j,U,E⟩,Q⟩:=o.own;refine t (some ⟨b,0,none⟩) c σ ⟨o.base,o.size,ch,⟨l1,l2,j,⟨?_,a,.inr ⟨b,rest.drop ys.length,rfl,?_,U⟩⟩,E⟩,Q⟩
    ·simp only[cr];omega
    ·simp only[cr,lB];omega
 ·simp only[a,ej]
  have R:=A1 (n:=l+m) (c:=c) (by omega);refine aY (nY g ?_)
  have S:¬(((l+m:Nat):Int)>IntKind.i64.max/\(False\/info.bytes=0)):=by
   rintro⟨_,h|h⟩
   ·exact h
   ·omega
  rw[ak (by simpa using S)];refine aY (nY g ?_)
  have V:¬(Builtin.nextslicecap (l+m) c*info.bytes>2^48):=by rw[J]at F;have:=jM info.bytes R;omega
  rw[ak V];refine aY (BI λcap W=>?_);refine aY (nY g ?_);refine aY (dK () (λw _=>run_askRoom P w _) ?_);refine aY (qt D (by rw[hs];exact L) ?_);refine aY (qt u (by rw[hs];exact e) ?_);refine aY (qv hz λz X=>?_);unfold newRow;refine aY (aY (vp (cu (cu ?_))));simp only[sk];refine t (some ⟨σ.size,0,none⟩) cap _ (o.drop.push ?_)
  have Y:(Builtin.zeroCells z.cells (cap-(l+m))).size=(cap-(l+m))*s:=by simp[Builtin.zeroCells,X,G]
  have hmul:(l+m)*s+(cap-(l+m))*s=cap*s:=by rw[<-gk];congr 1;omega
  have ad:(l+m)*s=l*s+m*s:=gk _ _ _;refine⟨by simp only[cr];omega,W,.inr ⟨σ.size,(Builtin.zeroCells z.cells (cap-(l+m))).toList,rfl,?_,elem,(0,0),?_,by simp⟩⟩
  ·simp only[cr,kD,Y];omega
  ·congr 3
   apply g';simp
end
end
section
def Arg(B:Heap)(p:aw)(ys:aB):Prop:=∀H,bF B H p ys
def iv(k:IntKind)(zs:aO):aB:=zs.map (.int k)
@[simp] theorem Fx (k:IntKind) (zs:aO):(iv k zs).length=zs.length:=by simp[iv]
theorem lT{k:IntKind}{zs:aO}{i:Nat}{z:Int}(h:zs[i]?=some z):(iv k zs)[i]?=some (.int k z):=by simp[iv,h]
section
variable {B:Heap}{H:au}{p:aw}{ys:aB}
end
def lf(p:aw)(s c:Nat):dh p s 0 c=p:=by
 unfold dh;split
 ·rfl
 ·cases p with
  |none=>rfl
  |some a=>simp[Addr.add]
def kC{n:Int}(h0:-9223372036854775808<=n)(U:n<=9223372036854775807):IntKind.wrap .i64 n=n:=IntWalk.i64_in n ⟨h0,U⟩
def bd{n:Int}(h:-9223372036854775808<=n/\n<=9223372036854775807):IntKind.wrap .i64 n=n:=kC h.1 h.2
def yE{i:Nat}(h:i<1000000000000):IntKind.wrap .i64 ((i:Int)+1)=((i+1:Nat):Int):=by rw[kC (by omega) (by omega)];omega
end
section
inductive CT where
 |int (k:IntKind)
 |bool
 |str
 |sl (e:TypeId)
def sK(c:TypeId->Option (List CT))(P:Program)(size:Nat):Nat->List Field->Option (List CT)
 |off,[]=>if off=size then some []else none
 |off,f::d=>
  if f.offset=off then
   match c f.type,sK c P size (off+P.cellsOf f.type) d with
   |some a,some b=>if a.length=P.cellsOf f.type then some (a++b)else none
   |_,_=>none
  else none
def flat(P:Program):Nat->TypeId->Option (List CT)
 |0,_=>none
 |n+1,t=>
  match P.underlying t with
  |some .bool=>some [.bool]
  |some (.int k)=>some [.int k]
  |some .string=>some [.str]
  |some (.slice e)=>some [.sl e]
  |some (.struct b)=>sK (flat P n) P (P.cellsOf t) 0 b.toList
  |some (.array m e)=>
   match flat P n e with
   |some a=>if a.length=P.cellsOf e/\P.cellsOf t=m*P.cellsOf e then some (List.replicate m a).flatten else none
   |none=>none
  |_=>none
def Tr{E:Type}(enc:TypeId×Value->E)(P:Program)(w:World)(t:TypeId)(cs:aB):Prop:=∃fuel x,DataW.trod enc P w 0 (λ_=>true) true fuel t cs=some x
def C5{E:Type}(enc:TypeId×Value->E)(P:Program)(w:World):CT->Value->Prop
 | .int k,v=>∃n,v= .int k n/\(Lit.int k n).wf=true
 | .bool,v=>∃b,v= .bool b
 | .str,v=>∃s:ByteArray,v= .string s/\s.size<=maxLen
 | .sl e,v=>∃(a:aw) (len cap:Nat) (d:List aB),v= .slice a len cap/\len<=cap/\cap<=maxLen/\d.length=cap/\(∀c∈d,c.length=P.cellsOf e/\Tr enc P w e c)/\Arg w.heap a d.flatten
def Fits{E:Type}(enc:TypeId×Value->E)(P:Program)(w:World):List CT->aB->Prop
 |[],[]=>True
 |t::ts,v::vs=>C5 enc P w t v/\Fits enc P w ts vs
 |_,_=>False
def E8{α:Type}{s:Nat}:∀(a:List (List α)),(∀c∈a,c.length=s)->∀i j,i<a.length->j<s->a.flatten[i*s+j]?=(a[i]?.getD [])[j]?
 |[],_,i,j,h,_=>by simp at h
 |c::a,hl,0,j,_,b=>by have:=hl c (by simp);simp[yZ,this,b]
 |c::a,hl,i+1,j,h,b=>by
  have U:=hl c (by simp);have d:=E8 a (λc h=>hl c (by simp[h])) i j (by simpa using h) b;have e:(i+1)*s+j=i*s+j+s:=by rw[gk];omega
  simp only[List.flatten_cons,e];rw[iI (by omega),U];simpa using d
def E9{α:Type}{s:Nat}:∀(a:List (List α)),(∀c∈a,c.length=s)->a.flatten.length=a.length*s
 |[],_=>by simp
 |c::a,hl=>by have U:=hl c (by simp);have b:=E9 a (λc h=>hl c (by simp[h]));simp[U,b,gk,Nat.add_comm]
section
variable {E:Type}{enc:TypeId×Value->E}{P:Program}{w:World}
def Fits.append{ts a:List CT}{vs b:aB}(h:Fits enc P w ts vs)(c:Fits enc P w a b):Fits enc P w (ts++a) (vs++b):=by
 induction ts generalizing vs with
 |nil=>cases vs with
  |nil=>exact c
  |cons v vs=>exact h.elim
 |cons t ts d=>cases vs with
  |nil=>exact h.elim
  |cons v vs=>exact⟨h.1,d h.2⟩
def WJ{e:TypeId}{t:TypeId}{cs:aB}(m:P.underlying t=some (.slice e))(h:Tr enc P w t cs):Fits enc P w [.sl e] cs:=by
 obtain⟨fuel,x,h⟩:=h;rcases DataW.trod_slice m h with⟨rfl,_⟩|⟨a,len,cap,elems,rest,n,_,rfl,_,r,hl,hm,hlen,o,p,_⟩
 ·exact⟨⟨none,0,0,[],rfl,d' _,qK _,rfl,by simp,λH=>bF.nil⟩,trivial⟩
 ·obtain⟨s,hr⟩:=p rfl
  have q:∀i,i<cap->∃c,w.cells? 0 (a.add (i*P.cellsOf e)) (P.cellsOf e)=some c/\∃x,DataW.trod enc P w 0 (λ_=>true) true n e c=some x:=by
   intro i hi;by_cases U:i<len
   ·have b:=o i U
    rw[ba (by omega),IW]at b;obtain⟨c,d,g⟩:=b;exact⟨c,d,_,g⟩
   ·have b:=hr (i-len) (by omega)
    rw[ba (by omega),IW]at b;obtain⟨c,d,g⟩:=b;rw[show len+(i-len)=i by omega]at d;exact⟨c,d,_,g⟩
  let f:Nat->aB:=λi=>(w.cells? 0 (a.add (i*P.cellsOf e)) (P.cellsOf e)).getD []
  have hf:∀i,i<cap->w.cells? 0 (a.add (i*P.cellsOf e)) (P.cellsOf e)=some (f i)/\Tr enc P w e (f i):=by
   intro i hi;obtain⟨c,U,x,b⟩:=q i hi;have:f i=c:=by simp[f,U]
   rw[this];exact⟨U,n,x,b⟩
  have j:∀c∈(List.range cap).map f,c.length=P.cellsOf e/\Tr enc P w e c:=by intro c hc;obtain⟨i,hi,rfl⟩:=bQ.1 hc;have hi:=om.1 hi;obtain⟨U,b⟩:=hf i hi;exact⟨(World.cells?_some U).2.1,b⟩
  refine⟨⟨some a,len,cap,(List.range cap).map f,rfl,hl,hm,by simp,j,?_⟩,trivial⟩;refine λH=>bF.Wv (λi hi=>?_) H;rw[E9 _ λc h=>(j c h).1]at hi;simp only[fe,List.length_range]at hi
  have hs:0<P.cellsOf e:=by
   rcases CW (P.cellsOf e)with h|h
   ·rw[h]at hi;omega
   ·exact h
  have hdiv:i/P.cellsOf e<cap:=Nat.div_lt_of_lt_mul (by rw[CX];exact hi);have k:i%P.cellsOf e<P.cellsOf e:=r6 _ hs;have l:i=i/P.cellsOf e*P.cellsOf e+i%P.cellsOf e:=(Nat.div_add_mod' i _).symm;obtain⟨U,_⟩:=hf _ hdiv;have b:=(World.cells?_some U).2.2 _ k;rw[add_add,<-l]at b;have d:=E8 ((List.range cap).map f) (λc h=>(j c h).1) (i/P.cellsOf e) (i%P.cellsOf e) (by simpa using hdiv) k;rw[<-l]at d;rw[d];simp only[fo,tJ hdiv,ih,fC];exact b
def GF{d:TypeId->Option (List CT)}{size:Nat}{cs:aB}{n:Nat}(hl:cs.length=size)(i:∀{t:TypeId} {cts:List CT} {cs:aB},d t=some cts->Tr enc P w t cs->Fits enc P w cts cs):∀(c:List Field) (off:Nat) {cts:List CT},sK d P size off c=some cts->(∀f∈c,∃x,DataW.trod enc P w 0 (λ_=>true) true n f.type ((cs.drop f.offset).take (P.cellsOf f.type))=some x)->Fits enc P w cts (cs.drop off)
 |[],off,cts,h,_=>by
  simp only[sK]at h;split at h
  ·cases h
   rw[CI (by omega)];trivial
  ·cases h
 |f::c,off,cts,h,hr=>by
  simp only[sK]at h;split at h
  ·rename_i k
   cases ha:d f.type with
   |none=>simp[ha]at h
   |some a=>
    cases e:sK d P size (off+P.cellsOf f.type) c with
    |none=>simp[ha,e]at h
    |some b=>
     simp only[ha,e]at h;split at h
     ·cases h
      obtain⟨x,j⟩:=hr f (by simp);rw[k]at j;have U:=i ha ⟨n,x,j⟩;have l:=GF hl i c (off+P.cellsOf f.type) e (λg m=>hr g (by simp[m]));have o:=U.append l
      rwa [<-yW,j6]at o
     ·cases h
  ·cases h
def GD{a:List CT}{s n:Nat}{e:TypeId}{cs:aB}(d:a.length=s)(b:∀{cs:aB},Tr enc P w e cs->Fits enc P w a cs):∀(m j:Nat),cs.length=(j+m)*s->(∀i,i<j+m->∃x,DataW.trod enc P w 0 (λ_=>true) true n e ((cs.drop (i*s)).take s)=some x)->Fits enc P w (List.replicate m a).flatten (cs.drop (j*s))
 |0,j,hl,_=>by rw[CI (by rw[hl];exact d' _)];trivial
 |m+1,j,hl,hr=>by obtain⟨x,f⟩:=hr j (by omega);have U:=b ⟨n,x,f⟩;have g:=GD d b m (j+1) (by rw[hl];congr 1;omega) (λi hi=>hr i (by omega));have c:=U.append g;rw[show(j+1)*s=j*s+s by rw[gk];omega,<-yW,j6]at c;simpa[r4]using c
def A5:∀(n:Nat) {t:TypeId} {cts:List CT} {cs:aB},flat P n t=some cts->Tr enc P w t cs->Fits enc P w cts cs
 |0,t,cts,cs,h,_=>by cases h
 |n+1,t,cts,cs,h,hr=>by
  simp only[flat]at h;split at h
  ·rename_i hu
   cases h;obtain⟨fuel,x,hr⟩:=hr;obtain⟨b,rfl,_⟩:=DataW.trod_bool hu hr;exact⟨⟨b,rfl⟩,trivial⟩
  ·rename_i k hu
   cases h;obtain⟨fuel,x,hr⟩:=hr;obtain⟨b,rfl,_,hw⟩:=DataW.trod_int hu hr;exact⟨⟨b,rfl,hw⟩,trivial⟩
  ·rename_i hu
   cases h;obtain⟨fuel,x,hr⟩:=hr;obtain⟨b,rfl,_,hw⟩:=DataW.trod_string hu hr;exact⟨⟨b,rfl,hw⟩,trivial⟩
  ·rename_i e hu
   cases h;exact WJ hu hr
  ·rename_i g hu
   obtain⟨fuel,x,hr⟩:=hr;obtain⟨xs,m,_,_,hl,d,hf⟩:=DataW.trod_struct hu hr
   have:=GF hl (λU c=>A5 n U c) g.toList 0 h (by intro f j;obtain⟨i,hi,l⟩:=r2.1 j;have U:=hf i f (by rw[Cu (by simpa using hi)];simpa using l);rw[U,ba (by rw[d];simpa using hi)];exact⟨_,rfl⟩)
   simpa using this
  ·rename_i m e hu
   obtain⟨fuel,x,hr⟩:=hr;obtain⟨xs,o,_,_,hl,d,hf⟩:=DataW.trod_array hu hr
   cases ha:flat P n e with
   |none=>simp[ha]at h
   |some a=>
    simp only[ha]at h;split at h
    ·rename_i hc
     cases h
     have:=GD hc.1 (λc=>A5 n ha c) m 0 (by rw[hl,hc.2];simp) (by intro i hi;rw[hf i (by omega),ba (by omega)];exact⟨_,rfl⟩)
     simpa using this
    ·cases h
  ·cases h
def Tr.of{t:TypeId}{v:Value}{d:DataW E}{ps:List MemPlace}(h:DataW.Trod enc P w 0 (λ_=>true) true t v d ps):Tr enc P w t v.cells.toList:=by obtain⟨fuel,h⟩:=h;exact⟨fuel,_,h⟩
def Fits.nil{vs:aB}(h:Fits enc P w [] vs):vs=[]:=by
 cases vs with
 |nil=>rfl
 |cons v vs=>exact h.elim
def Fits.cons{t:CT}{ts:List CT}{vs:aB}(h:Fits enc P w (t::ts) vs):∃v a,vs=v::a/\C5 enc P w t v/\Fits enc P w ts a:=by
 cases vs with
 |nil=>exact h.elim
 |cons v vs=>exact⟨v,vs,rfl,h.1,h.2⟩
def Fits.int{k:IntKind}{ts:List CT}{vs:aB}(h:Fits enc P w (.int k::ts) vs):∃n a,vs= .int k n::a/\(Lit.int k n).wf=true/\Fits enc P w ts a:=by obtain⟨v,a,rfl,⟨n,rfl,hw⟩,b⟩:=h.cons;exact⟨n,a,rfl,hw,b⟩
def Fits.str{ts:List CT}{vs:aB}(h:Fits enc P w (.str::ts) vs):∃(s:ByteArray) (a:aB),vs= .string s::a/\s.size<=maxLen/\Fits enc P w ts a:=by obtain⟨v,a,rfl,⟨n,rfl,hw⟩,b⟩:=h.cons;exact⟨n,a,rfl,hw,b⟩
end
section
variable {B:Heap}{H:au}{b i:Nat}{cs:ax}
def nr[h:bY B H b cs]{v:Value}{p:HP}(hc:cs[i]?=some v)(t:T B H p):T B H (dA (λσ=>cA σ ⟨b,i,none⟩=some v) p):=fF (λσ o=>(h.cell o i).trans hc) t
def Jf{p:HP}(t:T B H p):T B H (dA (λσ=>True) p):=fF (λ_ _=>trivial) t
end
section
variable {B:Heap}{H:au}{p:aw}{ys:aB}
def Dz(h:bF B H p ys){n:Int}{l i:Nat}(b:n=(i:Int))(hl:i<l){k:IntKind}{x:Int}{f:Int->HP}(hc:ys[i]?=some (.int k x))(t:T B H (f x)):T B H (aA p λa=>aR ((0:Int)<=n/\n<(l:Int)) (bs k (Addr.add a n.toNat) f)):=by subst b;have hi:i<ys.length:=(b0.1 hc).1;refine nw h (by omega) λa ha=>bj ⟨by omega,by omega⟩ ?_;subst ha;rw[a7];exact sf h hc t
end
def dQ{α:Type}{zs:List α}{i:Nat}{z:α}(h:zs[i]?=some z):zs.take (i+1)=zs.take i++[z]:=by rw[List.take_add_one,h];rfl
def E2{α β:Type}{f:α->β}:∀(l:List β) {q:α->Prop},(∀c∈l,∃a,c=f a/\q a)->∃as:List α,l=as.map f/\∀a∈as,q a
 |[],_,_=>⟨[],rfl,by simp⟩
 |c::l,q,h=>by obtain⟨a,rfl,ha⟩:=h c (by simp);obtain⟨as,rfl,has⟩:=E2 l (λc hc=>h c (by simp[hc]));exact⟨a::as,rfl,by simpa using⟨ha,has⟩⟩
end
section
def eK{α:Sort _}(q:α->bg):bg:=λch=>∃x,q x ch
def fk(c:Prop)(q:bg):bg:=λch=>c/\q ch
def eG(Hs:au):bg:=λch=>Sat Hs ch
def Sat.mono:∀{H:au} {l:List Chunk} (x:List Chunk),Sat H l->Sat H (x++l)
 |[],_,_,_=>trivial
 |p::H,l,x,⟨l1,l2,a,U,b⟩=>by refine⟨l1,x++l2,?_,U,b.mono x⟩;refine(a.append_left x).trans ?_;rw[<-er,<-er];exact List.perm_append_comm.append_right l2
def Sat.append:∀{H H':au} {l a:List Chunk},Sat H l->Sat H' a->Sat (H++H') (l++a)
 |[],H',l,a,h,b=>b.mono l
 |p::H,H',l,a,⟨l1,l2,c,U,d⟩,b=>⟨l1,l2++a,by rw[<-er];exact c.append_right a,U,Sat.append d b⟩
def Sat.split:∀{H H':au} {l:List Chunk},Sat (H++H') l->∃l1 l2,l.Perm (l1++l2)/\Sat H l1/\Sat H' l2
 |[],H',l,h=>⟨[],l,.refl _,trivial,h⟩
 |p::H,H',l,⟨l1,l2,a,U,b⟩=>by obtain⟨l3,l4,c,d,e⟩:=Sat.split b;exact⟨l1++l3,l4,by rw[er];exact a.trans (c.append_left l1),⟨l1,l3,.refl _,U,d⟩,e⟩
def Own.VW{B:Heap}{p q:bg}{H:au}{σ:Heap}(o:Own B (p::H) σ)(h:∀ch,p ch->q ch):Own B (q::H) σ:=by obtain⟨ch,⟨l1,l2,a,U,b⟩,c⟩:=o.own;exact⟨o.base,o.size,ch,⟨l1,l2,a,h _ U,b⟩,c⟩
section
variable {B:Heap}{H:au}{p:HP}
def zh{q r:bg}(h:∀ch,q ch->r ch)(t:T B (r::H) p):T B (q::H) p:=λσ o=>t σ (o.VW h)
def gn{α:Sort _}{q:α->bg}(t:∀x,T B (q x::H) p):T B (eK q::H) p:=by intro σ o;obtain⟨ch,⟨l1,l2,a,⟨x,U⟩,b⟩,c⟩:=o.own;exact t x σ ⟨o.base,o.size,ch,⟨l1,l2,a,U,b⟩,c⟩
def gI{α:Sort _}{q:α->bg}(x:α)(t:T B (eK q::H) p):T B (q x::H) p:=zh (λ_ h=>⟨x,h⟩) t
def gD{c:Prop}{q:bg}(t:c->T B (q::H) p):T B (fk c q::H) p:=by intro σ o;obtain⟨ch,⟨l1,l2,a,⟨hc,U⟩,b⟩,d⟩:=o.own;exact t hc σ ⟨o.base,o.size,ch,⟨l1,l2,a,U,b⟩,d⟩
def h4{c:Prop}{q:bg}(hc:c)(t:T B (fk c q::H) p):T B (q::H) p:=zh (λ_ h=>⟨hc,h⟩) t
def lJ{Hs:au}(t:T B (Hs++H) p):T B (eG Hs::H) p:=by intro σ o;obtain⟨ch,⟨l1,l2,a,U,b⟩,c,hc⟩:=o.own;have U:Sat Hs l1:=U;exact t σ ⟨o.base,o.size,ch,(U.append b).perm a.symm,c,hc⟩
def jQ{Hs:au}(t:T B (eG Hs::H) p):T B (Hs++H) p:=by intro σ o;obtain⟨ch,U,a,hc⟩:=o.own;obtain⟨l1,l2,b,c,d⟩:=Sat.split U;exact t σ ⟨o.base,o.size,ch,⟨l1,l2,b,c,d⟩,a,hc⟩
end
section
variable {P:Program}
def zt{B:Heap}{H:au}{a:Array TypeId}{t0 t1 elem:TypeId}{s b o l c m d:Nat}{cs:ax}{H':ax->au}[hu:fZ H b cs H']{q:aw}{ys:aB}{f:aw->Nat->Nat->HP}(h0:a[0]?=some t0)(U:a[1]?=some t1)(g:P.underlying t0=some (.slice elem))(e:nf P t1=true)(hi:(P.info? elem).isSome=true)(hs:P.cellsOf elem=s)(j:bF B H q ys)(k:ys.length=m*s)(n:∀v∈ys,v.oneCell'=true)(p:l+m<=c)(u:o+(l+m)*s<=cs.size)(t:T B (H' (eH cs (o+l*s) ys)) (f (some ⟨b,o,none⟩) (l+m) c)):T B H (cI P a (some ⟨b,o,none⟩) l c q m d f):=by
 obtain⟨w,e⟩:=rP e;intro σ ow;have r:=j σ ow;unfold cI;unfold Builtin.append_;simp only[h0,U,dY,jF,mu];refine aY (gV g ?_);refine aY (o8 hi ?_);refine aY (gV e ?_);refine aY (cu ?_);simp only[fM,ej];refine aY (cu ?_);simp only[p,dT,CC];refine aY (qt r (by rw[hs];exact k) ?_);refine aY (gU (λ_ σ h=>cu h) (qu ys.toArray.toList 0 ?_));rw[aQ,hs];simp only[sk];refine pM ys (i:=0) (H:=H) (cs:=cs) ?_ n ?_ σ ow
 ·have x:(l+m)*s=l*s+m*s:=gk _ _ _
  omega
 ·exact t
def lI{B:Heap}{H:au}{a:FuncId}{args:ax}{K:aK}(h:gb P a=true)(t:T B H (ab P a args K)):T B H (kj P a args K):=by unfold kj;rw[h];exact t
end
section
variable {B:Heap}{H:au}{b o l i:Nat}{n:Int}{cs:ax}
def oC[h:bY B H b cs](c:n=(i:Int))(hi:i<l){k:IntKind}{x:Int}{f:Int->HP}(hc:cs[o+i]?=some (.int k x))(t:T B H (f x)):T B H (aA (some ⟨b,o,none⟩) λa=>aR ((0:Int)<=n/\n<(l:Int)) (bs k (Addr.add a n.toNat) f)):=by subst c;refine nq (bj ⟨by omega,by omega⟩ ?_);rw[a7,aQ];exact a1 hc t
def oD{H':ax->au}[h:fZ H b cs H'](c:n=(i:Int))(hi:i<l)(d:o+i<cs.size){v:Value}{k:HP}(e:v.oneCell'=true)(t:T B (H' (cs.setIfInBounds (o+i) v)) k):T B H (aA (some ⟨b,o,none⟩) λa=>aR ((0:Int)<=n/\n<(l:Int)) (st (Addr.add a n.toNat) v k)):=by subst c;refine nq (bj ⟨by omega,by omega⟩ ?_);rw[a7,aQ];exact eB d e t
end
section
variable {B:Heap}{H:au}{p:aw}{ys:aB}
end
def k7(v:Value)(n:Nat):gx #[v] n=(List.replicate n v).toArray:=by
 apply g';apply jf;intro i;simp only[gx,Cw,fo];by_cases h:i<n
 ·simp[h,yO,Nat.mod_one]
 ·simp[h,yO]
end
section
section
variable {P:Program}{B:Heap}{H:au}{b o:Nat}{cs:ax}{H':ax->au}
def Jn[h:fZ H b cs H']{p:HP}(t:T B (H' cs) p):T B H p:=by obtain⟨H0,U,a⟩:=h.perm;exact cq U (cq (a cs).symm t)
def zg{d:Array TypeId}{t0 t elem:TypeId}{s n c:Nat}[h:fZ H b cs H']{K:aK}(h0:d[0]?=some t0)(hu:P.underlying t0=some (.slice elem))(hz:hI P elem=true)(hs:(zc P elem).size=s)(f:∀v∈(Builtin.zeroCells (zc P elem) n).toList,v.oneCell'=true)(g:o+n*s<=cs.size)(a:T B (H' (eH cs o (Builtin.zeroCells (zc P elem) n).toList)) (K (.tuple #[]))):T B H (aI P (Builtin.clear_ d t #[.slice (some ⟨b,o,none⟩) n c]) K):=by
 intro σ ow;unfold Builtin.clear_;simp only[h0,dY,jF];refine aY (gV hu ?_)
 cases n with
 |zero=>
  refine aY (cu (cu ?_));have e:(Builtin.zeroCells (zc P elem) 0).toList=[]:=by simp[Builtin.zeroCells,Array.range]
  rw[e]at a;exact Jn (b:=b) (cs:=cs) (H':=H') a σ ow
 |succ n=>refine aY (qv hz λz i=>?_);rw[i];refine aY (gU (λ_ σ h=>cu h) (qu _ 0 ?_));refine pM _ 0 ?_ f a σ ow;simp only[Builtin.zeroCells,kD,Array.size_map,Array.size_range,hs,mx];exact g
def t'{a:Array TypeId}{t0 t elem:TypeId}{s l c m d:Nat}{q:aw}{ys:aB}[h:fZ H b cs H']{K:aK}(h0:a[0]?=some t0)(hu:P.underlying t0=some (.slice elem))(hi:(P.info? elem).isSome=true)(hs:P.cellsOf elem=s)(f:bF B H q ys)(e:ys.length=Nat.min m l*s)(g:∀v∈ys,v.oneCell'=true)(i:o+Nat.min m l*s<=cs.size)(j:T B (H' (eH cs o ys)) (K (.int .i64 (Nat.min m l:Nat)))):T B H (aI P (Builtin.copy_ a t #[.slice (some ⟨b,o,none⟩) l c,.slice q m d]) K):=by intro σ ow;unfold Builtin.copy_;simp only[h0,dY,jF,mu];refine aY (gV hu ?_);refine aY (cu ?_);refine aY (o8 hi ?_);refine aY (qt (f σ ow) (by rw[hs];exact e) ?_);refine aY (gU (λ_ σ h=>cu h) (qu _ 0 ?_));exact pM ys 0 (by rw[e];exact i) g j σ ow
def su(s:ByteArray):aB:=s.data.toList.map λb=> .int .u8 b.toNat
def Jq{a:Array TypeId}{t0 t elem:TypeId}{l c:Nat}{x:ByteArray}[h:fZ H b cs H']{K:aK}(h0:a[0]?=some t0)(hu:P.underlying t0=some (.slice elem))(hi:(P.info? elem).isSome=true)(hs:P.cellsOf elem=1)(d:o+Nat.min x.size l<=cs.size)(f:T B (H' (eH cs o (su (x.extract 0 (Nat.min x.size l))))) (K (.int .i64 (Nat.min x.size l:Nat)))):T B H (aI P (Builtin.copy_ a t #[.slice (some ⟨b,o,none⟩) l c,.string x]) K):=by
 intro σ ow;unfold Builtin.copy_;simp only[h0,dY,jF,mu];refine aY (gV hu ?_);refine aY (cu ?_);refine aY (o8 hi ?_);refine aY (cu ?_);refine aY (gU (λ_ σ h=>cu h) (qu _ 0 ?_));have e:((x.extract 0 (Nat.min x.size l)).data.map λb=>Value.int .u8 b.toNat).toList=su (x.extract 0 (Nat.min x.size l)):=by simp[su]
 rw[e]
 have hlen:(su (x.extract 0 (Nat.min x.size l))).length=Nat.min x.size l:=by
  have:(x.extract 0 (Nat.min x.size l)).size=Nat.min x.size l:=by rw[ByteArray.size_extract];show min (Nat.min x.size l) x.size-0=_;rw[iN];exact qJ (Nat.min_le_left x.size l)
  simp only[su,fe,kD];exact this
 refine pM _ 0 (by rw[hlen];exact d) (λv g=>?_) f σ ow;obtain⟨z,_,rfl⟩:=bQ.1 g;rfl
end
end
section
section
variable {P:Program}{B:Heap}{H:au}
def fO{p q:HP}(U:T B H p)(a:T B H q):T B H (λσ=>p σ/\q σ):=λσ o=>⟨U σ o,a σ o⟩
def kz(cs vs:aB)(i:Nat)(h:i+vs.length<=cs.length):eH cs.toArray i vs=(cs.take i++(vs++cs.drop (i+vs.length))).toArray:=by apply g';rw[vq _ _ _ (by simpa using h)];simp
def YR{α:Type}{ys:List α}{n i:Nat}{z v:α}(hl:ys.length=n)(hi:i<n)(a:ys[i]?=some v):(ys.take i++List.replicate (n-i) z).set i v=ys.take (i+1)++List.replicate (n-(i+1)) z:=by rw[pD _ _ (by simp;omega),dQ a];simp only[ff];rw[show i-min i ys.length=0 by omega,show n-i=(n-(i+1))+1 by omega,r4,jJ];simp
def Kn{g:Array TypeId}{rt t0 t1 elem:TypeId}{G x:IntKind}{s:Nat}{p:aw}{l c m:Nat}{xs ys:aB}{z:Int}{K:aK}(h0:g[0]?=some t0)(U:g[1]?=some t1)(hu:P.underlying t0=some (.slice elem))(J:P.underlying t1=some (.int G))(hi:(P.info? elem).isSome=true)(hz:hI P elem=true)(hs:P.cellsOf elem=s)(L:(2*(l+m)+1024)*P.bytesOf elem<=281474976710656)(y:1<=P.bytesOf elem)(A:(zc P elem).size=s)(C:(Builtin.zeroCells (zc P elem) m).toList=ys)(M:∀v∈ys,v.oneCell'=true)(N:z=(m:Int))(hm:m<=1000000000)(t:∀D c',T B (ai s D (l+m) c' (xs++ys)::H) (K (.slice D (l+m) c'))):T B (ai s p l c xs::H) (aI P (Builtin.append_ g rt #[.slice p l c,.int x z]) K):=by
 subst N;obtain⟨info,a⟩:=hY.1 hi;have O:P.bytesOf elem=info.bytes:=by simp[Program.bytesOf,a]
 have j:ys.length=m*s:=by rw[<-C];simp[Builtin.zeroCells,A]
 intro σ o;have E:=bF.iB σ o;unfold Builtin.append_;simp only[h0,U,dY,jF,mu];refine aY (gV hu ?_);refine aY (o8 hi ?_);refine aY (gV J ?_);refine aY (cu ?_);simp only[dT];refine aY (dK (m:Int) (λw _=>rfl) ?_);have hw:IntKind.wrap .i64 (m:Int)=(m:Int):=bd (by omega);simp only[hw];rw[ak (by omega)];refine aY (nY a ?_);rw[O]at L y
 have Q:¬((m:Int)*(info.bytes:Int)>2^48):=by
  have:m*info.bytes<=(2*(l+m)+1024)*info.bytes:=jM _ (by omega);have e:((m*info.bytes:Nat):Int)=(m:Int)*(info.bytes:Int):=by simp
  rw[<-e];omega
 rw[ak Q];refine aY (cu ?_);simp only[a7]
 have R:∃ch:List Chunk,xs.length=l*s/\l<=c:=by obtain⟨ch,⟨l1,l2,f,⟨k,q,h⟩,e⟩,ae,hc⟩:=o.own;exact⟨ch,k,q⟩
 obtain⟨_,S,q⟩:=R
 have F:∀{σ:Heap} {r:ax->HP},r ys.toArray σ->aI P (if(!true)=true then Builtin.firstCells (P.cellsOf elem) m (.int x (m:Int))else if m*P.cellsOf elem=0 then pure #[]else do pure (Builtin.zeroCells (<-zeroValue elem).cells m)) r σ:=by
  intro σ r I;rw[ak (by simp)];by_cases h:m*P.cellsOf elem=0
  ·rw[ah h]
   have:ys=[]:=kF.1 (by rw[j,<-hs];exact h);subst this;exact cu I
  ·rw[ak h]
   refine aY (qv hz λaf u=>cu ?_);rw[u,<-Array.toArray_toList (xs:=Builtin.zeroCells (zc P elem) m),C];exact I
 by_cases d:l+m<=c
 ·simp only[d,dT]
  refine aY (F ?_);clear E;revert o;generalize σ=σ;refine qT ?_ ?_ σ
  ·rintro rfl rfl rfl rfl σ o
   have hm:m=0:=by omega
   subst hm;have V:ys=[]:=by simpa using j
   subst V;exact cu (dR s (t none 0) σ o)
  ·intro b rest f k q hlen
   subst f;refine λσ o=>aY (gU (λ_ σ h=>cu h) (qu ys.toArray.toList 0 ?_));rw[aQ,hs];refine pM ys (i:=0) (H:=cl b (xs++rest).toArray::H) ?_ M ?_ σ o
   ·simp only[cr]at hlen
    have W:(l+m)*s<=c*s:=jM s d;simp only[iL,cr,j];have:(l+m)*s=l*s+m*s:=gk _ _ _;omega
   ·simp only[cr]at hlen
    have W:(l+m)*s<=c*s:=jM s d;have ag:(l+m)*s=l*s+m*s:=gk _ _ _;have eW:=vq ys (0+l*s+0) (xs++rest).toArray (by simp only[iL,cr];omega)
    have X:eH (xs++rest).toArray (0+l*s+0) ys=(xs++ys++rest.drop ys.length).toArray:=by apply g';rw[eW];simp only[bJ,mx,er];rw[<-k,qI rfl];congr 2;rw[tH];simp
    rw[X];intro σ o;obtain⟨ch,⟨l1,l2,f,U,e⟩,Y⟩:=o.own;refine t (some ⟨b,0,none⟩) c σ ⟨o.base,o.size,ch,⟨l1,l2,f,⟨?_,d,.inr ⟨b,rest.drop ys.length,rfl,?_,U⟩⟩,e⟩,Y⟩
    ·simp only[cr];omega
    ·simp only[cr,lB];omega
 ·simp only[d,ej]
  have Z:=A1 (n:=l+m) (c:=c) (by omega)
  have aa:¬(((l+m:Nat):Int)>IntKind.i64.max/\(True\/info.bytes=0)):=by
   rintro⟨h,_⟩;have:IntKind.i64.max=9223372036854775807:=by decide
   have aj:1*(2*(l+m)+1024)<=(2*(l+m)+1024)*info.bytes:=by rw[CX];exact Nat.mul_le_mul_left _ y
   omega
  refine aY (nY a ?_);rw[ak (by simpa using aa)];refine aY (nY a ?_)
  have ab:¬(Builtin.nextslicecap (l+m) c*info.bytes>2^48):=by have:=jM info.bytes Z;omega
  rw[ak ab];refine aY (BI λcap ac=>?_);refine aY (nY a ?_);refine aY (dK () (λw _=>run_askRoom P w _) ?_);refine aY (qt E (by rw[hs];exact S) ?_);refine aY (F ?_);refine aY (qv hz λz u=>?_);unfold newRow;refine aY (aY (vp (cu (cu ?_))));refine t (some ⟨σ.size,0,none⟩) cap _ (o.drop.push ?_)
  have ad:(Builtin.zeroCells z.cells (cap-(l+m))).size=(cap-(l+m))*s:=by simp[Builtin.zeroCells,u,A]
  have hmul:(l+m)*s+(cap-(l+m))*s=cap*s:=by rw[<-gk];congr 1;omega
  have al:(l+m)*s=l*s+m*s:=gk _ _ _;refine⟨by simp only[cr];omega,ac,.inr ⟨σ.size,(Builtin.zeroCells z.cells (cap-(l+m))).toList,rfl,?_,elem,(0,0),?_,by simp⟩⟩
  ·simp only[cr,kD,ad];omega
  ·congr 3
   apply g';simp
def yK(v:Value)(n:Nat):(Builtin.zeroCells #[v] n).toList=List.replicate n v:=by
 apply jf;intro i;by_cases h:i<n
 ·simp[Builtin.zeroCells,h,Nat.mod_one]
 ·simp[Builtin.zeroCells,h]
end
end
section
def dW{α:Type}{f:α->aB}{s:Nat}(hf:∀a,(f a).length=s):∀(rs:List α) (i:Nat) (a:α),rs[i]?=some a->∀j,j<s->(rs.flatMap f)[i*s+j]?=(f a)[j]?
 |[],i,a,h,j,c=>by simp at h
 |b::rs,0,a,h,j,c=>by simp at h;subst h;have:=hf b;simp[yZ,this,c]
 |b::rs,i+1,a,h,j,c=>by have U:=dW hf rs i a (by simpa using h) j c;have d:=hf b;rw[gz,iI (by rw[d,gk];omega),d,<-U];congr 1;rw[gk];omega
def dr{α:Type}{f:α->aB}{s:Nat}(hf:∀a,(f a).length=s)(rs:List α):(rs.flatMap f).length=rs.length*s:=by
 induction rs with
 |nil=>simp
 |cons a rs b=>rw[gz,cr,b,hf,dd,gk];omega
section
variable {B:Heap}{H:au}
end
end
section
open Go.MapKept
abbrev key(k:Int):Value:= .int .i64 k
structure ek(es:Array MapEntry)(clock:Nat)(g:Int->Option Value):Prop where
 st:Stamped es clock
 keys:∀e∈es.toList,IsKey (.int .i64) e.key
 rep:∀k v,g k=some v↔∃e∈es.toList,e.key=key k/\e.val=v
def IsKey.int{v:Value}(h:IsKey (.int .i64) v):∃k,v=key k:=by cases v<;>simp_all [IsKey]
def ek.empty:ek #[] 0 (λ_=>none):=⟨stamped_empty 0,by simp,by simp⟩
section
variable {P:Program}{es:Array MapEntry}{clock:Nat}{g:Int->Option Value}{k:Int}
def ek.uniq(h:ek es clock g){e a:MapEntry}(he:e∈es.toList)(b:a∈es.toList)(I:e.key=a.key):e=a:=by
 have c:=h.st.2.2;obtain⟨i,hi,rfl⟩:=r2.1 he;obtain⟨j,d,rfl⟩:=r2.1 b
 have:i=j:=by apply(y0 (xs:=es.toList.map (·.key)) (h₀:=by simpa using hi) (h₁:=by simpa using d) c).1;simpa using I
 subst this;rfl
def ek.Cb(h:ek es clock g){e a:MapEntry}(he:e∈es.toList)(b:a∈es.toList)(I:e.born=a.born):e=a:=by
 have c:=h.st.2.1;obtain⟨i,hi,rfl⟩:=r2.1 he;obtain⟨j,d,rfl⟩:=r2.1 b
 have:i=j:=by apply(y0 (xs:=es.toList.map (·.born)) (h₀:=by simpa using hi) (h₁:=by simpa using d) c).1;simpa using I
 subst this;rfl
def ek.find(h:ek es clock g)(k:Int):(g k=none/\Instr.findNow (.int .i64) (key k) es.toList 0=some none/\∀x∈es.toList,x.key≠key k)\/∃j e,Instr.findNow (.int .i64) (key k) es.toList 0=some (some (j,e.val))/\es[j]?=some e/\e.key=key k/\g k=some e.val:=by
 rcases findNow_spec (d:= .int .i64) (k:=key k) rfl es.toList 0 h.keys with⟨U,a⟩|⟨j,e,U,a,b⟩
 ·refine .inl ⟨?_,U,a⟩
  cases c:g k with
  |none=>rfl
  |some v=>obtain⟨e,he,I,_⟩:=(h.rep k v).1 c;exact absurd I (a e he)
 ·refine .inr ⟨j,e,by simpa using U,by simpa using a,b,(h.rep k e.val).2 ⟨e,cz a,b,rfl⟩⟩
def ek.put(h:ek es clock g)(v:Value)(I:∀x∈es.toList,x.key≠key k):ek (es.push {key:=key k,val:=v,born:=clock}) (clock+1) (λj=>if j=k then some v else g j):=by
 refine⟨stamped_push h.st I,?_,?_⟩
 ·intro e he
  simp only[Array.toList_push,dL,fB]at he;rcases he with he|rfl
  ·exact h.keys e he
  ·rfl
 ·intro j x
  simp only[Array.toList_push,dL,fB];by_cases b:j=k
  ·subst b
   simp only[dT];constructor
   ·intro c;cases c;exact⟨_,.inr rfl,rfl,rfl⟩
   ·rintro⟨e,he|rfl,U,a⟩
    ·exact absurd U (I e he)
    ·rw[<-a]
  ·simp only[ak b]
   rw[h.rep j x];constructor
   ·rintro⟨e,he,U,a⟩;exact⟨e,.inl he,U,a⟩
   ·rintro⟨e,he|rfl,U,a⟩
    ·exact⟨e,he,U,a⟩
    ·simp only[key,Value.int.injEq,nk]at U;exact absurd U.symm b
def F9{es:Array MapEntry}{i:Nat}{e x:MapEntry}{f:MapEntry->MapEntry}(he:es[i]?=some e)(d:(es.toList.map (·.born)).Nodup):x∈(es.modify i f).toList↔x=f e\/(x∈es.toList/\x≠e):=by
 have hi:i<es.size:=(gF.1 he).1
 have g:∀j,es[j]?=some e->j=i:=by intro j a;have h:j<es.size:=(gF.1 a).1;apply(y0 (xs:=es.toList.map (·.born)) (h₀:=by simpa using h) (h₁:=by simpa using hi) d).1;have k:es[j]=e:=(gF.1 a).2;have l:es[i]=e:=(gF.1 he).2;simp[k,l]
 constructor
 ·intro c
  obtain⟨j,a⟩:=y2.1 c;simp only[yN,qD]at a;by_cases b:i=j
  ·subst b
   rw[ah rfl,he]at a;simp at a;exact .inl a.symm
  ·rw[ak b]at a
   refine .inr ⟨od.2 (oc a),?_⟩;rintro rfl;exact b (g j a).symm
 ·rintro(rfl|⟨c,m⟩)
  ·refine od.2 (oc (i:=i) ?_)
   simp[qD,he]
  ·obtain⟨j,a⟩:=y2.1 c
   simp only[yN]at a
   have b:¬i=j:=by rintro rfl;rw[he]at a;cases a;exact m rfl
   refine od.2 (oc (i:=j) ?_);simp[qD,b,a]
def ek.bN(h:ek es clock g)(v:Value){i:Nat}{e:MapEntry}(hi:es[i]?=some e)(I:e.key=key k):ek (es.modify i λe=>{e with key:=key k,val:=v}) clock (λj=>if j=k then some v else g j):=by
 have n:e∈es.toList:=od.2 (oc hi)
 have m:∀x,es[i]?=some x->({x with key:=key k,val:=v}:MapEntry).key=x.key:=by intro x c;rw[hi]at c;cases c;exact I.symm
 refine⟨stamped_modify h.st i _ (λ_ _=>rfl) λx _ c=>m x c,isKey_modify h.keys i _ m,λj x=>?_⟩;simp only[F9 hi h.st.2.1];by_cases d:j=k
 ·subst d
  simp only[dT];constructor
  ·intro c;cases c;exact⟨_,.inl rfl,rfl,rfl⟩
  ·rintro⟨f,rfl|⟨U,a⟩,b,l⟩
   ·rw[<-l]
   ·exact absurd (h.uniq U n (b.trans I.symm)) a
 ·simp only[ak d]
  rw[h.rep j x];constructor
  ·rintro⟨f,U,a,b⟩
   refine⟨f,.inr ⟨U,?_⟩,a,b⟩;rintro rfl;rw[I]at a;simp only[key,Value.int.injEq,nk]at a;exact d a.symm
  ·rintro⟨f,rfl|⟨U,a⟩,b,l⟩
   ·simp only[key,Value.int.injEq,nk]at b;exact absurd b.symm d
   ·exact⟨f,U,b,l⟩
def ek.same(h:ek es clock g)(I:∀x∈es.toList,x.key≠key k):ek es clock (λj=>if j=k then none else g j):=by
 refine⟨h.st,h.keys,λj x=>?_⟩;by_cases a:j=k
 ·subst a
  simp only[dT];refine⟨λh=>(by cases h),?_⟩;rintro⟨e,he,U,_⟩;exact absurd U (I e he)
 ·simp only[ak a]
  exact h.rep j x
def ek.del(h:ek es clock g){i:Nat}{e:MapEntry}(hi:es[i]?=some e)(I:e.key=key k):ek (es.eraseIdxIfInBounds i) clock (λj=>if j=k then none else g j):=by
 have m:i<es.size:=(gF.1 hi).1;have n:e∈es.toList:=od.2 (oc hi)
 have hl:(es.eraseIdxIfInBounds i).toList=es.toList.eraseIdx i:=by unfold Array.eraseIdxIfInBounds;rw[dif_pos m,Array.toList_eraseIdx]
 have l:∀x,x∈(es.eraseIdxIfInBounds i).toList↔x∈es.toList/\x≠e:=by
  intro x;rw[hl,List.mem_eraseIdx_iff_getElem?];constructor
  ·rintro⟨j,o,a⟩
   refine⟨cz a,?_⟩;rintro rfl;have p:j<es.size:=by simpa using(b0.1 a).1
   apply o;apply(y0 (xs:=es.toList.map (·.born)) (h₀:=by simpa using p) (h₁:=by simpa using m) h.st.2.1).1;have q:es[j]=x:=by simpa using(b0.1 a).2
   have r:es[i]=x:=(gF.1 hi).2;simp[q,r]
  ·rintro⟨d,s⟩
   obtain⟨j,a⟩:=y2.1 d;refine⟨j,?_,a⟩;rintro rfl;simp only[yN]at a;rw[hi]at a;cases a;exact s rfl
 refine⟨stamped_erase h.st i,λx d=>h.keys x ((l x).1 d).1,λj x=>?_⟩;by_cases a:j=k
 ·subst a
  simp only[dT];refine⟨λh=>(by cases h),?_⟩;rintro⟨c,d,U,_⟩;obtain⟨b,f⟩:=(l c).1 d;exact absurd (h.uniq b n (U.trans I.symm)) f
 ·simp only[ak a]
  rw[h.rep j x];constructor
  ·rintro⟨c,U,b,f⟩
   refine⟨c,(l c).2 ⟨U,?_⟩,b,f⟩;rintro rfl;rw[I]at b;simp only[key,Value.int.injEq,nk]at b;exact a b.symm
  ·rintro⟨c,U,b,f⟩
   exact⟨c,((l c).1 U).1,b,f⟩
end
def xE:Obj->Bool
 | .cells .. =>false
 |_=>true
section
variable {P:Program}
def k9{r:Nat}{o:Obj}{K:Obj->HP}{σ:Heap}(h:σ[r]?=some o)(k:K o σ)(a:xE o=true:=by rfl):aI P (getObj r) K σ:=dK o (λw hw=>by cases o<;>simp_all [getObj,Sem.run,xE]) k
def o7{r:Nat}{o a:Obj}{K:Unit->HP}{σ:Heap}(h:σ[r]?=some o)(k:K () (σ.setIfInBounds r a))(b:xE o=true:=by rfl):aI P (setObj r a) K σ:=by intro w hw;refine⟨(),{w with heap:=w.heap.setIfInBounds r a},?_,⟨rfl,rfl,rfl⟩,by rw[<-hw]at k;exact k⟩;cases o<;>simp_all [setObj,Sem.run,xE]
def Hq{o:Obj}{K:Nat->HP}{σ:Heap}(h:K σ.size (σ.push o)):aI P (newObj o) K σ:=by intro w hw;refine⟨_,_,run_newObj P w _,⟨rfl,rfl,rfl⟩,?_⟩;rw[<-hw]at h;exact h
def Hp{n:Nat}{K:Nat->HP}{σ:Heap}(a:0<n)(h:∀i,i<n->K i σ):aI P (choose (.mapNext n)) K σ:=by
 intro w hw;by_cases U:n<=1
 ·refine⟨0,w,?_,⟨rfl,rfl,rfl⟩,by rw[hw];exact h 0 a⟩
  simp[choose,Sem.run,Question.forced,U]
 ·refine⟨_,{w with drawn:=w.drawn+1},?_,⟨rfl,rfl,rfl⟩,h ((Question.mapNext n).cut (w.tape w.drawn (.mapNext n))) ?_|>λh=>by rw[<-hw]at h;exact h⟩
  ·simp[choose,Sem.run,Question.forced,U]
  ·simp only[Question.cut];exact r6 _ a
def Own.gL{B:Heap}{H:au}{r:Nat}{x:Obj}{σ:Heap}(o:Own B (ob r x::H) σ):σ[r]?=some x:=by obtain⟨l1,rfl,h⟩:=o.head;exact(h (r,x) (by simp)).2
def Own.o9{B:Heap}{H:au}{r:Nat}{x y:Obj}{σ:Heap}(o:Own B (ob r x::H) σ):Own B (ob r y::H) (σ.setIfInBounds r y):=by
 obtain⟨l,⟨l1,l2,b,rfl,h⟩,i,hc⟩:=o.own;have d:=hc (r,x) (b.mem_iff.2 (by simp));have f:((r,x)::l2|>.map (·.1)).Nodup:=(b.map (·.1)).nodup i;have j:r<σ.size:=(gF.1 d.2).1;refine⟨λk I=>?_,by simpa using o.size,(r,y)::l2,⟨[(r,y)],l2,.refl _,rfl,h⟩,by simpa using f,?_⟩
 ·have:¬r=k:=by have:=d.1;simp at this;omega
  simp[rV,this];exact o.base k I
 ·intro c a
  rcases cR.1 a with rfl|a
  ·exact⟨d.1,by simp[j]⟩
  ·have g:=hc c (b.mem_iff.2 (by simp[a]))
   refine⟨g.1,?_⟩
   have:¬r=c.1:=by intro e;simp only[c4,fp]at f;exact f.1 (bQ.2 ⟨c,a,e.symm⟩)
   simp[rV,this];exact g.2
end
def IM(r:Nat)(g:Int->Option Value):bg:=eK λes:Array MapEntry=>eK λclock:Nat=>fk (ek es clock g) (ob r (.map es clock))
section
variable {P:Program}{B:Heap}{H:au}{r:Nat}{g:Int->Option Value}{k:Int}{mt kt et:TypeId}{K:aK}{p:HP}
def qM(t:∀es clock,ek es clock g->T B (ob r (.map es clock)::H) p):T B (IM r g::H) p:=gn λes=>gn λclock=>gD λh=>t es clock h
def j9{es:Array MapEntry}{clock:Nat}(h:ek es clock g)(t:T B (IM r g::H) p):T B (ob r (.map es clock)::H) p:=h4 h (gI (q:=λclock=>fk (ek es clock g) (ob r (.map es clock))) clock (gI (q:=λes=>eK λclock=>fk (ek es clock g) (ob r (.map es clock))) es t))
def zm{f:Nat->HP}(t:∀r,T B (IM r (λ_=>none)::H) (f r)):T B H (hD f):=JP λr=>j9 ek.empty (t r)
def JG(hm:P.underlying mt=some (.map kt et))(I:P.underlying kt=some (.int .i64))(hz:hI P et=true)(h0:∀z:Value,g k=none->z.cells=zc P et->T B (IM r g::H) (K z))(U:∀v,g k=some v->T B (IM r g::H) (K v)):T B (IM r g::H) (aI P (Instr.lookup mt (.map (some r)) (.int .i64 k) false) K):=by
 refine qM λes clock hr=>?_;intro σ o;unfold Instr.lookup;refine aY (gV hm ?_);refine aY (k9 o.gL (aY (cu ?_)));refine aY (dK () (λw _=>run_checkKey I (by rfl) _ _) ?_);rcases hr.find k with⟨b,a,c⟩|⟨j,e,a,c,f,d⟩
 ·refine aY (dK none (λw _=>run_findKey I a) ?_)
  refine aY (qv hz λz hz=>aY (cu (cu ?_)));exact j9 hr (h0 z b hz) σ o
 ·refine aY (dK (some (j,e.val)) (λw _=>run_findKey I a) ?_)
  refine aY (cu (cu ?_));exact j9 hr (U _ d) σ o
def Ds{v:Value}{K:Unit->HP}(hm:P.underlying mt=some (.map kt et))(I:P.underlying kt=some (.int .i64))(t:T B (IM r (λj=>if j=k then some v else g j)::H) (K ())):T B (IM r g::H) (aI P (Instr.mapUpdate mt (.map (some r)) (.int .i64 k) v) K):=by
 refine qM λes clock hr=>?_;intro σ o;unfold Instr.mapUpdate;refine aY (gV hm ?_);refine aY (k9 o.gL ?_);refine aY (dK () (λw _=>run_checkKey I (by rfl) _ _) ?_);rcases hr.find k with⟨f,b,a⟩|⟨j,e,b,a,c,h⟩
 ·refine aY (dK none (λw _=>run_findKey I b) ?_)
  exact o7 o.gL (j9 (hr.put v a) t _ o.o9)
 ·refine aY (dK (some (j,e.val)) (λw _=>run_findKey I b) ?_)
  simp only[a,ih,fC,c];refine aY (dK (key k) (λw _=>run_keyThatStays (d:= .int .i64) (by rfl)) ?_);exact o7 o.gL (j9 (hr.bN v a c) t _ o.o9)
def Dm{rt:TypeId}(hm:P.underlying mt=some (.map kt et))(I:P.underlying kt=some (.int .i64))(t:T B (IM r (λj=>if j=k then none else g j)::H) (K (.tuple #[]))):T B (IM r g::H) (aI P (Builtin.delete_ #[mt,kt] rt #[.map (some r),.int .i64 k]) K):=by
 refine qM λes clock hr=>?_;intro σ o;unfold Builtin.delete_;simp only[dY,jF,mu];refine aY (gV hm ?_);refine aY (k9 o.gL ?_);refine aY (dK () (λw _=>run_checkKey I (by rfl) _ _) ?_);rcases hr.find k with⟨d,a,b⟩|⟨j,e,a,b,c,f⟩
 ·refine aY (dK none (λw _=>run_findKey I a) ?_)
  refine aY (o7 o.gL (cu ?_));exact j9 (hr.same b) t _ o.o9
 ·refine aY (dK (some (j,e.val)) (λw _=>run_findKey I a) ?_)
  refine aY (o7 o.gL (cu ?_));exact j9 (hr.del b c) t _ o.o9
structure zb(es:Array MapEntry)(l:List MapEntry)(ks:aO):Prop where
 mem:∀e∈l,e∈es.toList
 born:(l.map (·.born)).Nodup
 keys:l.map (·.key)=ks.map key
def lG(r it:Nat)(g:Int->Option Value)(ks:aO):bg:=
 eK λes:Array MapEntry=>eK λclock:Nat=>eK λl:List MapEntry=>fk (ek es clock g/\zb es l ks) (eG [ob it (.mapIter (some r) clock (l.map (·.born)).toArray clock),ob r (.map es clock)])
def zd{it:Nat}{ks:aO}(t:∀es clock l,ek es clock g->zb es l ks->T B (ob it (.mapIter (some r) clock (l.map (·.born)).toArray clock)::ob r (.map es clock)::H) p):T B (lG r it g ks::H) p:=gn λes=>gn λclock=>gn λl=>gD λ⟨U,a⟩=>lJ (t es clock l U a)
def wg{it:Nat}{ks:aO}{es:Array MapEntry}{clock:Nat}{l:List MapEntry}(U:ek es clock g)(a:zb es l ks)(t:T B (lG r it g ks::H) p):T B (ob it (.mapIter (some r) clock (l.map (·.born)).toArray clock)::ob r (.map es clock)::H) p:=by intro σ o;obtain⟨ch,⟨l1,l2,b,c,l3,l4,d,e,f⟩,h⟩:=o.own;refine t σ ⟨o.base,o.size,ch,⟨l1++l3,l4,?_,⟨es,clock,l,⟨U,a⟩,l1,l3,.refl _,c,l3,[],by simp,e,trivial⟩,f⟩,h⟩;exact b.trans ((d.append_left l1).trans (by rw[er]))
def Dw{o:Obj}{f:Nat->HP}(t:∀b,T B (ob b o::H) (f b)):T B H (aI P (newObj o) f):=λσ ow=>Hq (t σ.size _ (ow.push rfl))
def JV(hm:P.underlying mt=some (.map kt et))(t:∀it,T B (lG r it g []::H) (K (.pointer (some ⟨it,0,none⟩)))):T B (IM r g::H) (aI P (Instr.range mt (.map (some r))) K):=by refine qM λes clock hr=>?_;intro σ o;unfold Instr.range;refine aY (gV hm ?_);refine aY (k9 o.gL (aY (cu ?_)));refine aY (Dw (λit=>?_) σ o);intro σ o;apply cu;exact wg (l:=[]) hr ⟨by simp,by simp,rfl⟩ (t it) σ o
def JQ{it:Nat}{ks:aO}{ty:TypeId}{f0:HP}{f1:Value->aK}(h0:(∀k v,g k=some v->k∈ks)->(∀k,k∈ks->∃v,g k=some v)->ks.Nodup->T B (lG r it g ks::H) f0)(U:∀k v,g k=some v->k∉ks->T B (lG r it g (ks++[k])::H) (f1 (.int .i64 k) v)):T B (lG r it g ks::H) (mU P (.pointer (some ⟨it,0,none⟩)) false ty f0 f1):=by
 refine zd λes clock l hr c=>?_;intro σ o;have w:=(o.perm (cy _ _ _)).gL;unfold mU Instr.next
 refine aY (k9 o.gL ?_);refine aY (k9 w ?_);have n:=hr.st.1
 have y:((l.map (·.born)).toArray.isEmpty=true\/es.isEmpty=true)\/¬(es.all (λe=>decide (e.born>=clock))=true):=by
  rcases CW es.size with h|h
  ·exact .inl (.inr (by simpa using h))
  ·refine .inr λz=>?_
   have p:=Array.all_eq_true.1 z 0 h;have:=n (es[0]) (od.2 (by simp));simp at p;omega
 have A:(!((l.map (·.born)).toArray.isEmpty)&&!es.isEmpty&&es.all λe=>decide (e.born>=clock))=false:=by
  rcases y with(h|h)|h
  ·simp[h]
  ·simp[h]
  ·simp only[CB]at h;simp[h]
 simp only[A,fM,ej];generalize C:(es.filter λe=>!((l.map (·.born)).toArray).contains e.born)=left
 have m:∀e,e∈left↔e∈es.toList/\e.born∉l.map (·.born):=by intro e;rw[<-C,Array.mem_filter];simp
 have hold:left.filter (λe=>decide (e.born<clock))=left:=by rw[Array.filter_eq_self];intro e he;exact cB (n e ((m e).1 he).1)
 have D:left.filter (λe=>decide (e.born>=clock))=#[]:=by rw[Array.filter_eq_empty_iff];intro e he;have:=n e ((m e).1 he).1;simp;omega
 rw[hold,D]
 have E:∀e,e∈es.toList->∃k,e.key=key k/\g k=some e.val:=by intro e he;obtain⟨k,I⟩:=IsKey.int (hr.keys e he);exact⟨k,I,(hr.rep k e.val).2 ⟨e,he,I,rfl⟩⟩
 have q:∀k,k∈ks↔∃e∈l,e.key=key k:=by
  intro k
  have p:key k∈ks.map key↔k∈ks:=by simp[key]
  rw[<-p,<-c.keys,bQ]
 by_cases he:left.isEmpty=true
 ·have hle:left=#[]:=by simpa using he
  subst hle;simp only[Array.isEmpty_empty,dT];refine aY (Hp (by simp) λi hi=>?_);have F:i=0:=by simp at hi;omega
  subst F;simp;refine cu (.inl ⟨rfl,?_⟩);refine wg hr c (h0 ?_ ?_ ?_) σ o
  ·intro k v s
   obtain⟨e,he,I,_⟩:=(hr.rep k v).1 s;rcases Classical.em (e.born∈l.map (·.born))with h|h
   ·obtain⟨t,j,d⟩:=bQ.1 h
    have:=hr.Cb (c.mem t j) he d;subst this;exact(q k).2 ⟨_,j,I⟩
   ·exact absurd ((m e).2 ⟨he,h⟩) (by simp)
  ·intro k I
   obtain⟨e,he,u⟩:=(q k).1 I;exact⟨_,(hr.rep k e.val).2 ⟨e,c.mem e he,u,rfl⟩⟩
  ·have:(ks.map key).Nodup:=by rw[<-c.keys];apply lD.2;have d:l.Pairwise λa b=>a.born≠b.born:=lD.1 c.born;apply d.imp_of_mem;intro a b ha G J I;exact J (by rw[hr.uniq (c.mem a ha) (c.mem b G) I])
   exact(lD.1 this).imp (λh e=>h (by rw[e]))
 ·have hle:left.isEmpty=false:=by simpa using he
  rw[hle];simp only[fM,ej];have K:((#[]:Array (Option MapEntry))++(left++#[]).map some)=left.map some:=by simp
  rw[K]
  have L:0<left.size:=by
   rcases CW left.size with h|h
   ·simp[h]at hle;simp_all
   ·exact h
  refine aY (Hp (by simpa using L) λi hi=>?_);have hi:i<left.size:=by simpa using hi
  have M:(left.map some)[i]?=some (some left[i]):=by simp[hi]
  rw[M];have f:=(m left[i]).1 (by simp);generalize left[i]=e at f;obtain⟨k,I,s⟩:=E e f.1;refine aY (o7 o.gL (cu (.inr ⟨e.key,e.val,rfl,?_⟩)));have N:((l.map (·.born)).toArray.push e.born)=((l++[e]).map (·.born)).toArray:=by simp
  rw[N,I];refine wg hr ⟨?_,?_,?_⟩ (U k e.val s ?_) _ o.o9
  ·intro x O
   rcases dL.1 O with h|h
   ·exact c.mem x h
   ·simp at h;subst h;exact f.1
  ·rw[e6]
   refine dZ.2 ⟨c.born,by simp,?_⟩;intro a ha b d;simp at d;subst d;rintro rfl;exact f.2 ha
  ·simp[c.keys,I]
  ·intro Q
   obtain⟨t,j,u⟩:=(q k).1 Q;have:=hr.uniq (c.mem t j) f.1 (u.trans I.symm);subst this;exact f.2 (bQ.2 ⟨_,j,rfl⟩)
def Jv{it:Nat}{ks:aO}{k:Int}{v:Value}{f:Value->aK}(h:g k=some v)(t:T B (lG r it g (ks++[k])::H) (f (.int .i64 k) v)):T B (lG r it g (ks++[k])::H) (kT P (.pointer (some ⟨it,0,none⟩)) f):=by
 refine zd λes clock l hr a=>?_;intro σ o;have i:=(o.perm (cy _ _ _)).gL
 have hl:∃l0 e,l=l0++[e]/\e.key=key k:=by
  have I:=a.keys;rw[e6,c4,oj]at I;obtain⟨l0,l1,rfl,U,b⟩:=List.map_eq_append_iff.1 I;obtain⟨e,rest,rfl,c,j⟩:=List.map_eq_cons_iff.1 b;have:rest=[]:=by simpa using j
  subst this;exact⟨l0,e,rfl,c⟩
 obtain⟨l0,e,rfl,I⟩:=hl;have d:e∈es.toList:=a.mem e (by simp)
 have m:e.val=v:=by have:=(hr.rep k e.val).2 ⟨e,d,I,rfl⟩;rw[h]at this;cases this;rfl
 unfold kT Instr.entry;refine aY (k9 o.gL ?_);have n:((l0++[e]).map (·.born)).toArray.back?=some e.born:=by simp
 simp only[n];refine aY (k9 i ?_);simp only[bne_self_eq_false,fM,ej]
 have p:es.find? (λx=>x.born==e.born)=some e:=by
  cases hf:es.find? (λx=>x.born==e.born)with
  |none=>have:=Array.find?_eq_none.1 hf e (od.1 d);simp at this
  |some x=>have b:=Array.find?_some hf;have c:=Array.mem_of_find?_eq_some hf;rw[hr.Cb (od.2 c) d (by simpa using b)]
 rw[p];refine cu ⟨e.key,e.val,rfl,?_⟩;rw[I,m];exact wg hr a t σ o
def I3{it:Nat}{ks:aO}(t:T B (IM r g::H) p):T B (lG r it g ks::H) p:=zd λes clock l hr a=>ec (j9 hr t)
end
end
section
def bv(l:List UInt8):aB:=l.map λb=> .int .u8 b.toNat
@[simp] theorem KY (l:List UInt8):(bv l).length=l.length:=by simp[bv]
theorem DX{l:List UInt8}{i:Nat}{b:UInt8}(h:l[i]?=some b):(bv l)[i]?=some (.int .u8 b.toNat):=by simp[bv,h]
def zD(l:List UInt8):∀v∈bv l,v.oneCell'=true:=by intro v a;obtain⟨z,_,rfl⟩:=bQ.1 a;rfl
def zC(l:List UInt8):bv l=iv .u8 (l.map λb=>(b.toNat:Int)):=by simp[bv,iv]
def K'(s:ByteArray):su s=bv s.data.toList:=rfl
def sZ(l:List UInt8):(⟨l.toArray⟩:ByteArray).size=l.length:=by simp[ByteArray.size]
def Gx(l:List UInt8)(i j:Nat):(⟨l.toArray⟩:ByteArray).extract i j=⟨((l.take j).drop i).toArray⟩:=by apply ByteArray.ext;apply g';simp[ByteArray.data_extract,List.extract_eq_take_drop,List.drop_take]
section
variable {P:Program}{B:Heap}{H:au}{K:aK}
def Jo{src dst e:TypeId}{q:aw}{l:List UInt8}{n c:Nat}(hs:P.underlying src=some (.slice e))(he:P.underlying e=some (.int .u8))(hd:P.underlying dst=some .string)(hr:bF B H q (bv l))(d:q.isSome=true)(f:n=l.length)(t:T B H (K (.string ⟨l.toArray⟩))):T B H (aI P (convert src dst (.slice q n c)) K):=by
 subst f;intro σ o;obtain⟨a,rfl⟩:=hY.1 d;rcases hr σ o with⟨h,_⟩|⟨a',h,g⟩
 ·cases h
 cases h;refine dK (.string ⟨l.toArray⟩) (λw hw=>run_convert_bytes_back w src dst e a c l hs he hd λj b=>?_) (t σ o);rw[kQ,hw,g j (by simpa using b)];exact DX (ba b)
def EH{e:TypeId}{k:IntKind}(he:P.underlying e=some (.int k))(w:World)(d:Nat){xs ys:ax}{f g:Nat->Int}:∀(is:List Nat),(∀i∈is,xs[i]?=some (.int k (f i))/\ys[i]?=some (.int k (g i)))->(Op.eqItems (d+1) e 1 xs ys is).run P w= .ok (is.all λi=>f i==g i) w
 |[],_=>by simp[Op.eqItems]
 |i::is,h=>by
  obtain⟨U,b⟩:=h i (by simp);have a:(TK.of P e).isAgg=false:=by simp[TK.of,he,TK.isAgg]
  have hu:(P.underlying e).isSome=true:=by simp[he]
  simp only[Op.eqItems,Sem.run_bind,iM,xN hu a U w,xN hu a b w,Result.andThen_ok,run_equalIn_int w d e k k (f i) (g i) he,yU];cases l:(f i==g i)
  ·simp
  ·simp only[Bool.not_true,fM,ej,e5]
   exact EH he w d is λj c=>h j (by simp[c])
def Jx{t e:TypeId}{k:IntKind}{n:Nat}{x y:Operand}{zs ws:aO}(hm:P.eqGuardType P.depth t=false)(b:P.underlying t=some (.array n e))(he:P.underlying e=some (.int k))(hi:(P.info? e).isSome=true)(hs:P.cellsOf e=1)(hz:zs.length=n)(hw:ws.length=n)(h:T B H (K (.bool (decide (zs=ws))))):T B H (aI P (do eqGuard .eql t x y (.agg (iv k zs).toArray) (.agg (iv k ws).toArray);binOp .eql t (.agg (iv k zs).toArray) (.agg (iv k ws).toArray)) K):=by
 obtain⟨info,c⟩:=hY.1 hi;refine qU (.bool (decide (zs=ws))) (λσ o w d=>?_) h
 rw[Sem.run_bind,run_eqGuard_agg w .eql t x y _ _ hm,Result.andThen_ok,run_eql_struct,run_equalIn_array w 9999 _ _ b c,hs,
  EH he w 9998 (List.range n) λi hi=>?_,Result.andThen_ok]
 ·congr 2
  have key:((List.range n).all λi=>zs.getD i 0==ws.getD i 0)=true↔zs=ws:=by
   rw[ig];constructor
   ·intro h
    apply jf;intro i;by_cases hi:i<n
    ·have:=h i (om.2 hi)
     have U:zs[i]?=some zs[i]:=ba (by omega);have a:ws[i]?=some ws[i]:=ba (by omega);simp only[List.getD,U,a,fC,gB]at this;rw[U,a,this]
    ·rw[jg (by omega),jg (by omega)]
   ·rintro rfl i _
    simp
  by_cases h:zs=ws
  ·rw[key.2 h];simp[h]
  ·have:=mt key.1 h
   simp only[CB]at this;rw[this];simp[h]
 ·have hi:=om.1 hi
  have U:zs[i]?=some zs[i]:=ba (by omega);have a:ws[i]?=some ws[i]:=ba (by omega);simp[iv,List.getD,U,a]
def Tf{z:Value}{cs:ax}(h:z.cells=cs)(hs:cs.size≠1):z= .agg cs:=by subst h;cases z<;>first|rfl|exact absurd rfl hs
end
end
section
section
variable {P:Program}{B:Heap}{H:au}
def JX{p:aw}{ys:aB}(h:bF B H p ys){n:Int}{l i s j:Nat}(b:n=(i:Int))(hl:i<l){k:IntKind}{x:Int}{f:Int->HP}(hc:ys[i*s+j]?=some (.int k x))(t:T B H (f x)):T B H (aA p λa=>aR ((0:Int)<=n/\n<(l:Int)) (bs k (Addr.add (Addr.add a (n.toNat*s)) j) f)):=by subst b;have hi:i*s+j<ys.length:=(b0.1 hc).1;refine nw h (by omega) λa ha=>bj ⟨by omega,by omega⟩ ?_;subst ha;rw[a7,add_add];exact sf h hc t
def JS{q:aw}{s l c i j:Nat}{n:Int}{xs:aB}{v:Value}{k:HP}(g:n=(i:Int))(hi:i<l)(w:i*s+j<xs.length)(h:v.oneCell'=true)(t:T B (ai s q l c (xs.set (i*s+j) v)::H) k):T B (ai s q l c xs::H) (aA q λa=>aR ((0:Int)<=n/\n<(l:Int)) (st (Addr.add (Addr.add a (n.toNat*s)) j) v k)):=by
 subst g;refine qT (λh0 U d f=>by omega) λb rest m p r hlen=>?_;subst m;refine nq (bj ⟨by omega,by omega⟩ ?_);rw[a7,aQ,aQ];apply eB (by simp;omega) h;intro σ o;obtain⟨ch,⟨l1,l2,u,U,d⟩,f⟩:=o.own;refine t σ ⟨o.base,o.size,ch,⟨l1,l2,u,⟨by simpa using p,r,.inr ⟨b,rest,rfl,by simpa using hlen,?_⟩⟩,d⟩,f⟩
 have e:(xs++rest).toArray.setIfInBounds (0+i*s+j) v=(xs.set (i*s+j) v++rest).toArray:=by simp only[bJ,jI];rw[pC _ _ (by omega)]
 rw[e]at U;exact U
end
end
def lo(l:Nat)(ro:Loop)(st:LoopState)(a:Option Code):bg:=ob l (.loop {ro with state:=st,pending:=a})
section
variable {P:Program}{B:Heap}{H:au}
def Own.sY{b:Nat}{o:Obj}{σ:Heap}(ow:Own B (ob b o::H) σ):σ[b]?=some o/\B.size<=b:=by obtain⟨l1,rfl,h⟩:=ow.head;have:=h (b,o) (by simp);exact⟨this.2,this.1⟩
def Own.vr{b:Nat}{o a:Obj}{σ:Heap}(ow:Own B (ob b o::H) σ):Own B (ob b a::H) (nG σ b a):=by
 obtain⟨l,⟨l1,l2,f,rfl,j⟩,m,hc⟩:=ow.own;have g:=hc (b,o) (f.mem_iff.2 (by simp));have h:((b,o)::l2|>.map (·.1)).Nodup:=(f.map (·.1)).nodup m;have n:b<σ.size:=(gF.1 g.2).1;have other:∀k,k≠b->(nG σ b a)[k]?=σ[k]?:=λk I=>by simp[nG,vI (Ne.symm I)]
 refine⟨λk I=>?_,by simp[nG];exact ow.size,(b,a)::l2,⟨[(b,a)],l2,.refl _,rfl,j⟩,by simpa using h,?_⟩
 ·rw[other k (by have:=g.1;simp at this;omega)];exact ow.base k I
 ·intro c d
  rcases cR.1 d with rfl|d
  ·exact⟨g.1,by simp[nG,n]⟩
  ·have i:=hc c (f.mem_iff.2 (by simp[d]))
   refine⟨i.1,?_⟩;rw[other _ ?_];exact i.2;intro e;simp only[c4,fp]at h;exact h.1 (bQ.2 ⟨c,d,e⟩)
def oz{l:Nat}{ro:Loop}{a:Option Code}{k:HP}(t:T B (lo l ro .busy a::H) k):T B (lo l ro .ready a::H) (iY l k):=λσ o=>⟨_,o.sY.1,rfl,t _ o.vr⟩
def Dn{l:Nat}{ro:Loop}{st:LoopState}{a j:Option Code}{k:HP}(t:T B (lo l ro (if j.isNone then .ready else .done) j::H) k):T B (lo l ro st a::H) (fx l j k):=λσ o=>⟨_,o.sY.1,t _ o.vr⟩
def oA{l:Nat}{ro:Loop}{st:LoopState}{a:Option Code}{k:HP}(t:T B (lo l ro .ready none::H) k):T B (lo l ro st a::H) (fx l none k):=Dn t
def Ju{l:Nat}{ro:Loop}{st:LoopState}{a:Option Code}{k:HP}(t:T B (lo l ro .done (some .ret)::H) k):T B (lo l ro st a::H) (fx l (some .ret) k):=Dn t
def qQ{l:Nat}{ro:Loop}{st:LoopState}{a b:HP}(c:st≠ .busy)(t:T B H a):T B (lo l ro st none::H) (wT l a b):=λσ o=>⟨_,o.sY.1,c,.inl ⟨rfl,t _ o.vr.drop⟩⟩
def Jt{l:Nat}{ro:Loop}{st:LoopState}{b a:HP}(c:st≠ .busy)(t:T B H a):T B (lo l ro st (some .ret)::H) (wT l b a):=λσ o=>⟨_,o.sY.1,c,.inr ⟨rfl,t _ o.vr.drop⟩⟩
def oG{r:Nat}{k:HP}(t:T B H k):T B (ob r (.deferred (some []))::H) (hU r k):=λσ o=>⟨o.sY.1,t _ o.vr.drop⟩
def oI{l:Nat}{ro:Loop}{st:LoopState}{a:Option Code}{R:Nat->aB->aK->HP}{vs:aB}{K:aK}(hr:mB P ro R)(t:T B (lo l ro st a::H) (R l vs K)):T B (lo l ro st a::H) (gj P l #[] #[] vs K):=λσ o=>hr st a l vs K σ o.sY.1 (t σ o)
def pK{R:Nat->aB->aK->HP}{a:FuncId}{first captured:ax}{b c:Nat->HP}(d:gb P a=true)(h:∀(ro:Loop) (r l:Nat),mB P ro R->T B (lo l ro .ready none::ob r (.deferred (some []))::H) (ab P a (first.toList++[Value.func (.yield l) #[] #[]]++captured.toList).toArray λ_=>wT l (b r) (c r))):T B H (nV P R (.func (.func a) first captured) b c):=by intro σ o;refine⟨a,first,captured,rfl,d,λro hr=>?_⟩;have e:Own B (ob σ.size (.deferred (some []))::H) (σ.push (.deferred (some []))):=o.push rfl;have f:=e.push (p:=lo (σ.size+1) ro .ready none) (ob:= .loop {ro with state:= .ready,pending:=none}) (by simp[lo,XS.ob]);exact h ro σ.size (σ.size+1) hr _ f
inductive Sub:au->au->Prop where
 |refl {H:au}:Sub H H
 |cons {q:bg} {H H0 H':au}:lH q H H0->Sub H0 H'->Sub H (q::H')
 |drop {q:bg} {H H':au}:Sub H H'->Sub (q::H) H'
def Sub.sat{H H':au}(h:Sub H H'):∀{l:List Chunk},Sat H l->Sat H' l:=by
 induction h with
 |refl=>exact λh=>h
 |cons d _ a=>intro l hl;obtain⟨l1,l2,b,U,c⟩:=Sat.GM d.perm hl;exact⟨l1,l2,b,U,a c⟩
 |drop _ a=>rintro l ⟨l1,l2,b,U,c⟩;exact(a c).mono l1|>.perm b.symm
def pN{H':au}{p:HP}(h:Sub H H')(t:T B H' p):T B H p:=λσ o=>t σ ⟨o.base,o.size,let⟨l,U,a⟩:=o.own;⟨l,h.sat U,a⟩⟩
end
