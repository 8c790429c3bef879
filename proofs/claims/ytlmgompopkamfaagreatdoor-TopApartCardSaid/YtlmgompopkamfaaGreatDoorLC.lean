/- Lemmas that lead to TopApart (their names made short by a program); no condition. -/
import Derived.Test.YtlmgompopkamfaaGreatDoorLB
import Derived.Laws.StructEq
import Derived.Below
import Derived.ChangeArms
import Derived.OpenShut
import Derived.MapKept
import Derived.Laws.IdiomStrings
import Derived.ChangeKeysEq
import Derived.Laws.Strings
set_option linter.all false
namespace Go.XS
section
abbrev Chunk:=Nat×Obj
def bc:=List Chunk->Prop
abbrev au:=List bc
def Sat:List bc->List Chunk->Prop
 |[],_=>True
 |p::H,l=>∃l1 l2,l.Perm (l1++l2)/\p l1/\Sat H l2
def cl(b:Nat)(cs:aw):bc:=λl=>∃t fr,l=[(b,.cells cs t fr)]/\∀i,i<cs.size->¬(fr.1<=i/\i<fr.2)
def mp(b:Nat)(es:Array MapEntry)(clock:Nat):bc:=λl=>l=[(b,.map es clock)]
def ob(b:Nat)(o:Obj):bc:=λl=>l=[(b,o)]
structure Own(B:Heap)(H:List bc)(σ:Heap):Prop where
 base:∀b,b<B.size->σ[b]?=B[b]?
 size:B.size<=σ.size
 own:∃l:List Chunk,Sat H l/\(l.map (·.1)).Nodup/\∀c∈l,B.size<=c.1/\σ[c.1]?=some c.2
def T(B:Heap)(H:List bc)(p:HP):Prop:=∀σ,Own B H σ->p σ
def Sat.perm:∀{H:List bc} {l a:List Chunk},l.Perm a->Sat H l->Sat H a
 |[],_,_,_,_=>trivial
 |p::H,l,a,h,⟨l1,l2,b,h1,c⟩=>⟨l1,l2,h.symm.trans b,h1,c⟩
def Sat.Hf{H H':List bc}(h:H.Perm H'):∀{l:List Chunk},Sat H l->Sat H' l:=by
 induction h with
 |nil=>exact λh=>h
 |cons p _ b=>rintro l ⟨l1,l2,a,h1,c⟩;exact⟨l1,l2,a,h1,b c⟩
 |swap p q H=>
  rintro l ⟨l1,l2,a,h1,l3,l8,d,e,f⟩;refine⟨l3,l1++l8,?_,e,l1,l8,.refl _,h1,f⟩
  exact a.trans ((d.append_left l1).trans (by rw[<-el,<-el];exact List.perm_append_comm.append_right l8))
 |trans _ _ g i=>exact λh=>i (g h)
def Own.perm{B:Heap}{H H':List bc}{σ:Heap}(h:H.Perm H')(o:Own B H σ):Own B H' σ:=⟨o.base,o.size,let⟨l,h1,a⟩:=o.own;⟨l,h1.Hf h,a⟩⟩
def cp{B:Heap}{H H':List bc}{p:HP}(h:H.Perm H')(t:T B H' p):T B H p:=λσ o=>t σ (o.perm h)
def Own.drop{B:Heap}{p:bc}{H:List bc}{σ:Heap}(o:Own B (p::H) σ):Own B H σ:=by obtain⟨l,⟨l1,l2,a,h1,b⟩,d,hc⟩:=o.own;refine⟨o.base,o.size,l2,b,?_,λc e'=>hc c (a.mem_iff.2 (by simp[e']))⟩;have:=(a.map (·.1)).nodup d;rw[eY]at this;exact(dP.1 this).2.1
def dY{B:Heap}{q:bc}{H:List bc}{p:HP}(t:T B H p):T B (q::H) p:=λσ o=>t σ o.drop
def Own.head{B:Heap}{p:bc}{H:List bc}{σ:Heap}(o:Own B (p::H) σ):∃l1,p l1/\∀c∈l1,B.size<=c.1/\σ[c.1]?=some c.2:=by obtain⟨l,⟨l1,l2,a,h1,b⟩,d,hc⟩:=o.own;exact⟨l1,h1,λc e'=>hc c (a.mem_iff.2 (by simp[e']))⟩
inductive lP:bc->List bc->List bc->Prop where
 |head {p:bc} {H:List bc}:lP p (p::H) H
 |tail {p q:bc} {H H':List bc}:lP p H H'->lP p (q::H) (q::H')
def lP.perm{p:bc}{H H':List bc}(h:lP p H H'):H.Perm (p::H'):=by
 induction h with
 |head=>exact .refl _
 |tail _ a=>exact(a.cons _).trans (.swap _ _ _)
def bf{B:Heap}{q:bc}{H H':List bc}{p:HP}(h:lP q H H')(t:T B (q::H') p):T B H p:=cp h.perm t
class bZ (B:Heap) (H:List bc) (b:Nat) (cs:outParam aw):Prop where
 has:∀σ,Own B H σ->∃t fr,σ[b]?=some (.cells cs t fr)
instance (priority:=2000) FO{B:Heap}{H:List bc}{b:Nat}{cs:aw}:bZ B (cl b cs::H) b cs where
 has σ o:=by obtain⟨l1,⟨t,fr,rfl,_⟩,h⟩:=o.head;exact⟨t,fr,(h (b,.cells cs t fr) (by simp)).2⟩
instance (priority:=1000) abV{B:Heap}{H:List bc}{p:bc}{b:Nat}{cs:aw}[h:bZ B H b cs]:bZ B (p::H) b cs where
 has σ o:=h.has σ o.drop
def AL{σ:Heap}{b:Nat}{cs:aw}{t:TypeId}{fr:Nat×Nat}(h:σ[b]?=some (.cells cs t fr))(o:Nat):b0 σ ⟨b,o,none⟩=cs[o]?:=by simp[b0,h]
def bZ.cell{B:Heap}{H:List bc}{b:Nat}{cs:aw}(h:bZ B H b cs){σ:Heap}(o:Own B H σ)(i:Nat):b0 σ ⟨b,i,none⟩=cs[i]?:=by obtain⟨t,fr,e⟩:=h.has σ o;exact AL e i
def aR(b o n:Nat):Addr.add ⟨b,o,none⟩ n=⟨b,o+n,none⟩:=by
 unfold Addr.add;split
 ·simp[*]
 ·rfl
section
variable {B:Heap}{H:List bc}{b i:Nat}{cs:aw}
def bg[h:bZ B H b cs]{k:IntKind}{n:Int}{f:Int->HP}(hc:cs[i]?=some (.int k n))(t:T B H (f n)):T B H (bA k ⟨b,i,none⟩ f):=λσ o=>⟨n,(h.cell o i).trans hc,t σ o⟩
def iW[h:bZ B H b cs]{n:Bool}{f:Bool->HP}(hc:cs[i]?=some (.bool n))(t:T B H (f n)):T B H (gB ⟨b,i,none⟩ f):=λσ o=>⟨n,(h.cell o i).trans hc,t σ o⟩
def iX[h:bZ B H b cs]{n:av}{f:av->HP}(hc:cs[i]?=some (.pointer n))(t:T B H (f n)):T B H (bq ⟨b,i,none⟩ f):=λσ o=>⟨n,(h.cell o i).trans hc,t σ o⟩
def bU[h:bZ B H b cs]{p:av}{l c:Nat}{f:av->Nat->Nat->HP}(hc:cs[i]?=some (.slice p l c))(t:T B H (f p l c)):T B H (a8 ⟨b,i,none⟩ f):=λσ o=>⟨p,l,c,(h.cell o i).trans hc,t σ o⟩
def hS[h:bZ B H b cs]{n:ByteArray}{f:ByteArray->HP}(hc:cs[i]?=some (.string n))(t:T B H (f n)):T B H (hB ⟨b,i,none⟩ f):=λσ o=>⟨n,(h.cell o i).trans hc,t σ o⟩
def pP[h:bZ B H b cs]{n:Option Nat}{f:Option Nat->HP}(hc:cs[i]?=some (.map n))(t:T B H (f n)):T B H (gm ⟨b,i,none⟩ f):=λσ o=>⟨n,(h.cell o i).trans hc,t σ o⟩
def hT[h:bZ B H b cs]{v:Value}{f:aK}(hc:cs[i]?=some v)(t:T B H (f v)):T B H (gN ⟨b,i,none⟩ f):=λσ o=>⟨v,(h.cell o i).trans hc,t σ o⟩
def iV[h:bZ B H b cs]{n:Nat}{f:aw->HP}(ds:aw)(a:ds.size=n)(hd:∀j,j<n->cs[i+j]?=ds[j]?)(t:T B H (f ds)):T B H (eQ ⟨b,i,none⟩ n f):=λσ o=>⟨ds,a,λj c=>by rw[aR,h.cell o];exact hd j c,t σ o⟩
def bV[h:bZ B H b cs]{n:Nat}{f:aw->HP}(a:cs.size=n)(t:T B H (f cs)):T B H (eQ ⟨b,0,none⟩ n f):=iV cs a (λj _=>by simp) t
end
class fT (H:List bc) (b:Nat) (cs:outParam aw) (H':outParam (aw->List bc)):Prop where
 perm:∃H0,H.Perm (cl b cs::H0)/\∀ds,(H' ds).Perm (cl b ds::H0)
instance (priority:=2000) adK{H:List bc}{b:Nat}{cs:aw}:fT (cl b cs::H) b cs (λds=>cl b ds::H)where
 perm:=⟨H,.refl _,λ_=> .refl _⟩
instance (priority:=1000) adL{H:List bc}{p:bc}{b:Nat}{cs:aw}{H':aw->List bc}[h:fT H b cs H']:fT (p::H) b cs (λds=>p::H' ds)where
 perm:=by obtain⟨H0,h1,a⟩:=h.perm;exact⟨p::H0,(h1.cons p).trans (.swap _ _ _),λds=>((a ds).cons p).trans (.swap _ _ _)⟩
def UW{σ:Heap}{b:Nat}{cs:aw}{t:TypeId}{fr:Nat×Nat}(h:σ[b]?=some (.cells cs t fr))(i:Nat)(v:Value):(eP σ ⟨b,i,none⟩ v)[b]?=some (.cells (cs.setIfInBounds i v) t fr):=by simp[eP,qK,h]
def FR{σ:Heap}{b c:Nat}(h:c≠b)(i:Nat)(v:Value):(eP σ ⟨b,i,none⟩ v)[c]?=σ[c]?:=by simp[eP,qK,Ne.symm h]
def UX(σ:Heap)(a:Addr)(v:Value):(eP σ a v).size=σ.size:=by simp[eP]
def Own.set{B:Heap}{H:List bc}{b i:Nat}{cs:aw}{v:Value}{σ:Heap}(o:Own B (cl b cs::H) σ):Own B (cl b (cs.setIfInBounds i v)::H) (eP σ ⟨b,i,none⟩ v):=by
 obtain⟨l,⟨l1,l2,d,⟨t,fr,rfl,j⟩,m⟩,n,hc⟩:=o.own;have f:=hc (b,.cells cs t fr) (d.mem_iff.2 (by simp));have g:((b,Obj.cells cs t fr)::l2|>.map (·.1)).Nodup:=(d.map (·.1)).nodup n;refine⟨λk U=>?_,by rw[UX];exact o.size,(b,.cells (cs.setIfInBounds i v) t fr)::l2,⟨[(b,.cells (cs.setIfInBounds i v) t fr)],l2,.refl _,⟨t,fr,rfl,by simpa using j⟩,m⟩,by simpa using g,?_⟩
 ·rw[FR (by have:=f.1;simp at this;omega)];exact o.base k U
 ·intro c a
  rcases cL.1 a with rfl|a
  ·exact⟨f.1,UW f.2 i v⟩
  ·have h:=hc c (d.mem_iff.2 (by simp[a]))
   refine⟨h.1,?_⟩;rw[FR ?_];exact h.2;intro e;simp only[cX,fg]at g;exact g.1 (bP.2 ⟨c,a,e⟩)
def eE{B:Heap}{H:List bc}{b i:Nat}{cs:aw}{H':aw->List bc}[h:fT H b cs H']{v:Value}{k:HP}(hi:i<cs.size)(d:v.oneCell'=true)(t:T B (H' (cs.setIfInBounds i v)) k):T B H (st ⟨b,i,none⟩ v k):=by
 obtain⟨H0,h1,e⟩:=h.perm;intro σ o;have a:=o.perm h1;obtain⟨l1,⟨f,fr,rfl,g⟩,hc⟩:=a.head;have c:=(hc (b,.cells cs f fr) (by simp)).2;refine⟨⟨cs[i],?_⟩,?_,d,t _ ((a.set).perm (e _).symm)⟩
 ·rw[AL c];simp[hi]
 ·simp only[xt,c]
  have:=g i hi;obtain⟨lo,j⟩:=fr;simpa using this
def eB(cs:aw)(i:Nat):az->aw
 |[]=>cs
 |v::r=>eB (cs.setIfInBounds i v) (i+1) r
def pT{B:Heap}{b o:Nat}{k:HP}:∀(vs:az) (i:Nat) {H:List bc} {cs:aw} {H':aw->List bc} [h:fT H b cs H'],o+i+vs.length<=cs.size->(∀v∈vs,v.oneCell'=true)->T B (H' (eB cs (o+i) vs)) k->T B H (hJ ⟨b,o,none⟩ i vs k)
 |[],i,H,cs,H',h,hl,c,t=>by simp only[hJ];obtain⟨H0,h1,a⟩:=h.perm;exact cp (h1.trans (a cs).symm) t
 |v::r,i,H,cs,H',h,hl,c,t=>by
  simp only[c8]at hl;simp only[hJ,aR];apply eE (by omega) (c v (by simp));obtain⟨H0,h1,a⟩:=h.perm;refine cp (a _) ?_;have:=pT (B:=B) (b:=b) (o:=o) (k:=k) r (i+1) (H:=cl b (cs.setIfInBounds (o+i) v)::H0) (by simp;omega) (λu hu=>c u (by simp[hu])) ?_
  ·exact this
  ·exact cp (a _).symm t
def nH{B:Heap}{b o n:Nat}{k:HP}{vs:aw}{H:List bc}{cs:aw}{H':aw->List bc}[h:fT H b cs H'](a:vs.size=n)(hl:o+n<=cs.size)(c:∀v∈vs.toList,v.oneCell'=true)(t:T B (H' (eB cs o vs.toList)) k):T B H (gW ⟨b,o,none⟩ vs n k):=by have:=pT (B:=B) (b:=b) (o:=o) (k:=k) vs.toList 0 (H:=H) (by simp[a];omega) c (by simpa using t);exact λσ ow=>⟨a,this σ ow⟩
def YN(cs vs:aw)(h:vs.size=cs.size):eB cs 0 vs.toList=vs:=by
 have key:∀(l:az) (i:Nat) (cs:aw),i+l.length=cs.size->(eB cs i l).toList=cs.toList.take i++l:=by
  intro l
  induction l with
  |nil=>intro i cs h;simp[eB];rw[ke (by simpa using Nat.le_of_eq h.symm)]
  |cons v r a=>
   intro i cs h;simp only[c8]at h;simp only[eB];rw[a (i+1) _ (by simp;omega)];have b:i<cs.toList.length:=by simp;omega
   simp only[CO];rw[Dd (by simpa using b)];simp[Db]
 apply gE;have:=key vs.toList 0 cs (by simp[h]);simpa using this
def hj{B:Heap}{b n:Nat}{k:HP}{vs:aw}{H:List bc}{cs:aw}{H':aw->List bc}[h:fT H b cs H'](a:vs.size=n)(hl:cs.size=n)(c:∀v∈vs.toList,v.oneCell'=true)(t:T B (H' vs) k):T B H (gW ⟨b,0,none⟩ vs n k):=nH a (by omega) c (by rw[YN _ _ (a.trans hl.symm)];exact t)
def Own.push{B:Heap}{H:List bc}{σ:Heap}(o:Own B H σ){p:bc}{ob:Obj}(d:p [(σ.size,ob)]):Own B (p::H) (σ.push ob):=by
 obtain⟨l,h1,f,hc⟩:=o.own;have b:∀c∈l,c.1<σ.size:=λc a=>(gF.1 (hc c a).2).1;refine⟨λk U=>?_,by have:=o.size;simp;omega,(σ.size,ob)::l,⟨[(σ.size,ob)],l,.refl _,d,h1⟩,?_,?_⟩
 ·rw[Array.getElem?_push,aj (by have:=o.size;omega)];exact o.base k U
 ·simp only[cX,fg]
  refine⟨λhm=>?_,f⟩;obtain⟨c,a,e⟩:=bP.1 hm;have:=b c a;omega
 ·intro c a
  rcases cL.1 a with rfl|a
  ·exact⟨o.size,by simp⟩
  ·refine⟨(hc c a).1,?_⟩
   rw[Array.getElem?_push,aj (by have:=b c a;omega)];exact(hc c a).2
def eg{B:Heap}{H:List bc}{cs:aw}{t:TypeId}{f:Nat->HP}(h:∀b,T B (cl b cs::H) (f b)):T B H (al cs t f):=λσ o=>h σ.size _ (o.push ⟨t,(0,0),rfl,by simp⟩)
def Kb{B:Heap}{H:List bc}{f:Nat->HP}(h:∀b,T B (mp b #[] 0::H) (f b)):T B H (hE f):=λσ o=>h σ.size _ (o.push rfl)
def gy{P:Program}{B:Heap}{H:List bc}{elem:TypeId}{l c:Int}{f:Nat->HP}(h0:0<=l)(h1:l<=c)(a:c<9223372036854775808)(d:(P.bytesOf elem:Int)*c<=2^48)(e:(P.info? elem).isSome=true)(g:hO P elem=true)(h:∀b,T B (cl b (gr (zc P elem) (c.toNat*P.cellsOf elem))::H) (f b)):T B H (c5 P elem l c f):=λσ o=>⟨h0,h1,a,d,e,g,h σ.size _ (o.push ⟨elem,(0,0),rfl,by simp⟩)⟩
section
variable {B:Heap}{H:List bc}
def an{p q:HP}(h:∀{σ},p σ->q σ)(t:T B H p):T B H q:=λσ o=>h (t σ o)
def cZ{c:Bool}{p q:HP}(a:c=true->T B H p)(hf:c=false->T B H q):T B H (ae c p q):=λσ o=>⟨λh=>a h σ o,λh=>hf h σ o⟩
def bo{c:Bool}{p q:HP}(h:c=true)(b:T B H p):T B H (ae c p q):=cZ (λ_=>b) (λa=>by rw[h]at a;cases a)
def aI{c:Bool}{p q:HP}(h:c=false)(b:T B H q):T B H (ae c p q):=cZ (λa=>by rw[h]at a;cases a) (λ_=>b)
def ba{c:Prop}{p:HP}(hc:c)(t:T B H p):T B H (aP c p):=λσ o=>⟨hc,t σ o⟩
def nE{a:Addr}{f:Addr->HP}(t:T B H (f a)):T B H (ay (some a) f):=t
def e7{I:Heap->Prop}{p:HP}(hi:∀σ,Own B H σ->I σ)(t:T B H p):T B H (c7 I p):=λσ o=>⟨hi σ o,t σ o⟩
def JG{k:IntKind}{n:Int}{f:Int->HP}(t:T B H (f n)):T B H (db k (.int k n) f):=λσ o=>⟨n,rfl,t σ o⟩
def JF{n:Bool}{f:Bool->HP}(t:T B H (f n)):T B H (dq (.bool n) f):=λσ o=>⟨n,rfl,t σ o⟩
def JI{n:av}{f:av->HP}(t:T B H (f n)):T B H (iA (.pointer n) f):=λσ o=>⟨n,rfl,t σ o⟩
def JJ{p:av}{l c:Nat}{f:av->Nat->Nat->HP}(t:T B H (f p l c)):T B H (i1 (.slice p l c) f):=λσ o=>⟨p,l,c,rfl,t σ o⟩
def JK{n:ByteArray}{f:ByteArray->HP}(t:T B H (f n)):T B H (mI (.string n) f):=λσ o=>⟨n,rfl,t σ o⟩
def JH{n:Option Nat}{f:Option Nat->HP}(t:T B H (f n)):T B H (uz (.map n) f):=λσ o=>⟨n,rfl,t σ o⟩
def JE{n:aw}{f:aw->HP}(t:T B H (f n)):T B H (gi (.agg n) f):=λσ o=>⟨n,rfl,t σ o⟩
def zI{k:IntKind}{cs:aw}{i:Nat}{n:Int}{f:Int->HP}(h:cs[i]?=some (.int k n))(t:T B H (f n)):T B H (mc k cs i f):=λσ o=>⟨n,h,t σ o⟩
def Kh{cs:aw}{i:Nat}{p:av}{l c:Nat}{f:av->Nat->Nat->HP}(h:cs[i]?=some (.slice p l c))(t:T B H (f p l c)):T B H (BE cs i f):=λσ o=>⟨p,l,c,h,t σ o⟩
def kX{α:Sort _}{q:α->HP}:T B H (λσ=>∀x,q x σ)↔∀x,T B H (q x):=⟨λh x σ o=>h σ o x,λh σ o x=>h x σ o⟩
def fk{c:Prop}{q:HP}:T B H (λσ=>c->q σ)↔(c->T B H q):=⟨λh hc σ o=>h σ o hc,λh σ o hc=>h hc σ o⟩
def ct{α:Sort _}{q:α->HP}(x:α)(t:T B H (q x)):T B H (λσ=>∃x,q x σ):=λσ o=>⟨x,t σ o⟩
def dS{c:Prop}{q:HP}(hc:c)(t:T B H q):T B H (λσ=>c/\q σ):=λσ o=>⟨hc,t σ o⟩
def sq{body:az->(az->HP)->HP}{init:az}(b:az->List bc->Prop)(c:az->Nat)(h0:b init H)(step:∀s H R,b s H->(∀a H',b a H'->c a<c s->T B H' (R a))->T B H (body s R)):T B H (bz body init):=by
 intro σ o R d
 have key:∀n s H,c s<n->b s H->T B H (R s):=by
  intro n
  induction n with
  |zero=>intro s H h;omega
  |succ n e=>intro s H i f σ o;exact d s σ (step s H R f (λa H' g j=>e a H' (by omega) g) σ o)
 exact key (c init+1) init H (by omega) h0 σ o
def gf{a:az->HP}{body:(az->HP)->HP}(S:az->List bc->Prop)(b:∀vs H',S vs H'->T B H' (a vs))(c:∀R,(∀vs H',S vs H'->T B H' (R vs))->T B H (body R)):T B H (bu a body):=c a b
end
end
section
open Go.RowKit (Below)
def cR{a:Addr}{f:Addr->HP}:ay (some a) f=f a:=rfl
def gj{k:IntKind}{n:Int}{f:Int->HP}:db k (.int k n) f=f n:=by funext σ;simp[db]
def fl{b:Bool}{f:Bool->HP}:dq (.bool b) f=f b:=by funext σ;simp[dq]
def sw{p:av}{f:av->HP}:iA (.pointer p) f=f p:=by funext σ;simp[iA]
def KT{p:ByteArray}{f:ByteArray->HP}:mI (.string p) f=f p:=by funext σ;simp[mI]
def D9{p:aw}{f:aw->HP}:gi (.agg p) f=f p:=by funext σ;simp[gi]
def sx{p:av}{l c:Nat}{f:av->Nat->Nat->HP}:i1 (.slice p l c) f=f p l c:=by
 funext σ;simp[i1];constructor
 ·rintro⟨_,_,_,⟨rfl,rfl,rfl⟩,h⟩;exact h
 ·exact λh=>⟨p,l,c,⟨rfl,rfl,rfl⟩,h⟩
def fin(B:Heap)(v:Value):HP:=λσ=>v= .bool true/\(∀b,b<B.size->σ[b]?=B[b]?)/\B.size<=σ.size
def JX{B:Heap}{H:au}:T B H (fin B (.bool true)):=λσ o=>⟨rfl,o.base,o.size⟩
def Xa(B:Heap):Own B [] B:=⟨λ_ _=>rfl,dQ _,[],trivial,by simp,by simp⟩
def Vb{P:Program}{f:FuncId}{args:aw}{w:World}(h:T w.heap [] (ad P f args (fin w.heap))):Calls P f args w λe w'=>e= .returned (.bool true)/\Below w.heap.size w w':=by refine(h w.heap (Xa _) w rfl).mono ?_;rintro e w' ⟨v,rfl,⟨rfl,h1,b⟩,a⟩;exact⟨rfl,a.1,a.2.1,a.2.2,b,h1⟩
section
variable {P:Program}{B:Heap}{H:au}
def qZ{α:Type}{s:Sem α}{K:α->HP}(v:α)(h:∀σ,Own B H σ->∀w:World,w.heap=σ->s.run P w= .ok v w)(t:T B H (K v)):T B H (aH P s K):=λσ o=>dD v (h σ o) (t σ o)
def sK:TK->Option Value->Option Value->Option Bool
 | .bool,some (.bool a),some (.bool b)=>some (a==b)
 | .int k,some (.int c a),some (.int d b)=>if c=k/\d=k then some (a==b)else none
 | .str,some (.string a),some (.string b)=>some (a.toList==b.toList)
 |_,_,_=>none
def sT(P:Program)(xs ys:aw):List Field->Option Bool
 |[]=>some true
 |f::a=>
  if f.name≠ "_" then
   match sK (TK.of P f.type) (xs[f.offset]?) (ys[f.offset]?),sT P xs ys a with
   |some r,some q=>some (r&&q)
   |_,_=>none
  else sT P xs ys a
def T4{t:TypeId}{a b:Option Value}{r:Bool}(h:sK (TK.of P t) a b=some r):(TK.of P t).isAgg=false/\∃x y,a=some x/\b=some y/\∀d (w:World),(Op.equalIn (d+1) t x y).run P w= .ok r w:=by
 unfold TK.of at h⊢
 cases hu:P.underlying t with
 |none=>simp[hu,sK]at h
 |some d=>
  rw[hu]at h;cases d<;>simp only[sK]at h<;>first|(cases h;done)|skip
  case bool=>
   cases a with
   |none=>cases h
   |some x=>
    cases b with
    |none=>cases x<;>cases h
    |some y=>
     cases x<;>cases y<;>first|(cases h;done)|skip
     cases h;exact⟨rfl,_,_,rfl,rfl,λd w=>Ar hu d w⟩
  case int k=>
   cases a with
   |none=>cases h
   |some x=>
    cases b with
    |none=>cases x<;>cases h
    |some y=>
     cases x<;>cases y<;>first|(cases h;done)|skip
     simp only at h;split at h
     ·rename_i U
      obtain⟨rfl,rfl⟩:=U;cases h;exact⟨rfl,_,_,rfl,rfl,λd w=>run_equalIn_int w d t _ _ _ _ hu⟩
     ·cases h
  case string=>
   cases a with
   |none=>cases h
   |some x=>
    cases b with
    |none=>cases x<;>cases h
    |some y=>
     cases x<;>cases y<;>first|(cases h;done)|skip
     cases h;exact⟨rfl,_,_,rfl,rfl,λd w=>run_equalIn_string w d t _ _ hu⟩
def xY{t:TypeId}{cs:aw}{off:Nat}{v:Value}(hu:(P.underlying t).isSome=true)(U:(TK.of P t).isAgg=false)(a:cs[off]?=some v)(w:World):(part t cs off).run P w= .ok v w:=by obtain⟨d,hd⟩:=h9.1 hu;unfold part;rw[Sem.run_bind,vF hd,TK.vh hd,U,Result.andThen_ok];simp[a]
def Ay{xs ys:aw}(d:Nat):∀(a:List Field) {r:Bool} (h:sT P xs ys a=some r) (w:World),(Op.eqFields (d+1) xs ys a).run P w= .ok r w
 |[],r,h,w=>by cases h;rfl
 |f::a,r,h,w=>by
  simp only[sT]at h;simp only[Op.eqFields];split at h
  ·rename_i b
   rw[ag b]
   cases hc:sK (TK.of P f.type) (xs[f.offset]?) (ys[f.offset]?)with
   |none=>rw[hc]at h;cases h
   |some g=>
    cases c:sT P xs ys a with
    |none=>rw[hc,c]at h;cases h
    |some q=>
     rw[hc,c]at h;cases h;obtain⟨e,x,y,i,j,hr⟩:=T4 hc
     have hu:(P.underlying f.type).isSome=true:=by
      unfold TK.of at hc
      cases hu:P.underlying f.type with
      |none=>simp[hu,sK]at hc
      |some d=>rfl
     simp only[Sem.run_bind,xY hu e i,xY hu e j,Result.andThen_ok,hr d];cases g
     ·simp
     ·simpa using Ay d a c w
  ·rename_i b
   rw[aj b];exact Ay d a h w
def JU{t:TypeId}{x y:Operand}{xs ys:aw}{K:aK}{b:Bool}(hm:P.eqGuardType P.depth t=false)(a:P.underlying t=some (.struct (P.fieldsOf t)))(c:P.stoodInHeld t=false)(hf:sT P xs ys (P.fieldsOf t).toList=some b)(h:T B H (K (.bool b))):T B H (aH P (do eqGuard .eql t x y (.agg xs) (.agg ys);binOp .eql t (.agg xs) (.agg ys)) K):=by refine qZ (.bool b) (λσ o w hw=>?_) h;rw[Sem.run_bind,run_eqGuard_agg w .eql t x y xs ys hm,Result.andThen_ok,run_eql_struct,run_equalIn_struct w 9999 t xs ys a c,Ay 9998 _ hf,Result.andThen_ok]
def wz(P:Program)(k:FuncId)(e:aw->Sem Value):Prop:=∀(args:aw) (w:World),(callFunc k args).run P w=(do pure (.value (<-e args)):Sem Next).run P w
def Fu(a:ki P){k:FuncId}{fn:Func}{e:aw->Sem Value}(hf:P.funcs[k]?=some fn)(b:fn.body.isNone=true)(h1:Extern.findNext fn=none)(c:Extern.find fn=some e):wz P k e:=by intro args w;unfold callFunc;simp only[Sem.run_bind,run_program,Result.andThen_ok,hf,a k fn hf,gb,ep,b,eb,h1,c,run_mark]
def DK{k:FuncId}{e:aw->Sem Value}{args:aw}{K:aK}(a:wz P k e)(t:T B H (aH P (e args) K)):T B H (ey P (callFunc k args) K):=by intro σ o w hw;obtain⟨v,w',h1,b,c⟩:=t σ o w hw;exact⟨.value v,w',by rw[a args w];simp[h1],b,.inl ⟨v,rfl,c⟩⟩
def JB{b i:Nat}{cs:aw}[h:bZ B H b cs]{k:IntKind}{n:Int}{K:aK}(hc:cs[i]?=some (.int k n))(t:T B H (K (.int k n))):T B H (aH P (Extern.Atomic.loadT (.int k) #[.pointer (some ⟨b,i,none⟩)]) K):=by refine qZ (.int k n) (λσ o w hw=>?_) t;have b0:=(h.cell o i).trans hc;rw[<-hw]at b0;show(do let a<-asAddr (.pointer (some ⟨b,i,none⟩));Extern.Atomic.read (.int k) a:Sem Value).run P w=_;simp[Extern.Atomic.read,asAddr,k1,b0]
def YJ{a:Addr}{v:Value}{m:Mode}{k:HP}{σ:Heap}(h:st a v k σ):aH P (store a v m) (λ_=>k) σ:=by
 obtain⟨⟨u,hu⟩,hf,b,U⟩:=h;intro w hw;refine⟨(),w.setCell a v,?_,⟨rfl,rfl,rfl⟩,?_⟩
 ·rw[run_store _ _ _ _ _ b,k1,hw,hu]
  simp only[AB,hw,hf];rfl
 ·rw[setCell_eq,hw];exact U
def Jz{b i:Nat}{cs:aw}{H':aw->au}[h:fT H b cs H']{k:IntKind}{n y:Int}{K:aK}(hc:cs[i]?=some (.int k n))(t:T B (H' (cs.setIfInBounds i (.int k (k.wrap (n+y))))) (K (.int k (k.wrap (n+y))))):T B H (aH P (Extern.Atomic.update (Op.intArith .add) k true #[.pointer (some ⟨b,i,none⟩),.int k y]) K):=by
 intro σ o;have hi:i<cs.size:=(gF.1 hc).1;have h1:st ⟨b,i,none⟩ (.int k (k.wrap (n+y))) (K (.int k (k.wrap (n+y)))) σ:=eE hi rfl t σ o;obtain⟨H0,p1,p2⟩:=h.perm;have b0:b0 σ ⟨b,i,none⟩=some (.int k n):=((FO).cell (o.perm p1) i).trans hc;unfold Extern.Atomic.update;refine aX (dD (⟨b,i,none⟩:Addr) (λw _=>rfl) ?_);refine aX (dD (.int k n) (λw hw=>?_) ?_)
 ·rw[<-hw]at b0
  simp[Extern.Atomic.read,k1,b0]
 refine aX (dD n (λw _=>rfl) ?_);refine aX (dD y (λw _=>rfl) ?_);refine aX (dD (.int k (k.wrap (n+y))) (λw _=>rfl) ?_);exact aX (gU (λ_ σ h=>cv h) (YJ h1))
end
end
section
def add_add(a:Addr)(i j:Nat):(a.add i).add j=a.add (i+j):=by
 unfold Addr.add;by_cases hi:i=0
 ·subst hi;simp
 ·by_cases b:j=0
  ·subst b;simp
  ·have:i+j≠0:=by omega
   simp[hi,b,this,Nat.add_assoc]
def bF(B:Heap)(H:au)(q:av)(ys:az):Prop:=
 ∀σ,Own B H σ->(q=none/\ys=[])\/∃a,q=some a/\∀i,i<ys.length->b0 σ (a.add i)=ys[i]?
def bF.tail{B:Heap}{H:au}{p:bc}{q:av}{ys:az}(h:bF B H q ys):bF B (p::H) q ys:=λσ o=>h σ o.drop
def bF.perm{B:Heap}{H H':au}{q:av}{ys:az}(h:bF B H q ys)(a:H'.Perm H):bF B H' q ys:=λσ o=>h σ (o.perm a)
def bF.nil{B:Heap}{H:au}:bF B H none []:=λσ o=> .inl ⟨rfl,rfl⟩
def K4{B σ:Heap}{H:au}(o:Own B H σ){a:Addr}{v:Value}(h:b0 B a=some v):b0 σ a=some v:=by
 have c:a.block<B.size:=by
  unfold b0 at h;rcases wt a.block B.size with b|b
  ·exact b
  ·simp[y0 b]at h
 unfold b0 at h⊢;rw[o.base _ c];exact h
def bF.WK{B:Heap}{a:Addr}{ys:az}(h:∀i,i<ys.length->b0 B (a.add i)=ys[i]?)(H:au):bF B H (some a) ys:=by intro σ o;refine .inr ⟨a,rfl,λi hi=>?_⟩;have h1:=h i hi;rw[bj hi]at h1⊢;exact K4 o h1
def bF.nU{B:Heap}{H:au}{b o:Nat}{cs:aw}[hc:bZ B H b cs]{ys:az}(h:∀i,i<ys.length->cs[o+i]?=ys[i]?):bF B H (some ⟨b,o,none⟩) ys:=by intro σ ow;refine .inr ⟨_,rfl,λi hi=>?_⟩;rw[aR,hc.cell ow];exact h i hi
def bF.take{B:Heap}{H:au}{q:av}{ys:az}(h:bF B H q ys)(n:Nat)(b:n<=ys.length):bF B H q (ys.take n):=by
 intro σ o;rcases h σ o with⟨rfl,rfl⟩|⟨a,rfl,hc⟩
 ·exact .inl ⟨rfl,by simp⟩
 ·refine .inr ⟨a,rfl,λi hi=>?_⟩
  simp at hi;rw[hc i (by omega),ny,ag (by omega)]
section
variable {B:Heap}{H:au}{a:Addr}{ys:az}{i:Nat}{q:av}
def uu(h:bF B H (some a) ys){k:IntKind}{n:Int}{f:Int->HP}(hc:ys[i]?=some (.int k n))(t:T B H (f n)):T B H (bA k (a.add i) f):=by
 intro σ o;rcases h σ o with⟨h,_⟩|⟨a',h,b⟩
 ·cases h
 ·cases h
  have hi:i<ys.length:=(bY.1 hc).1;exact⟨n,(b i hi).trans hc,t σ o⟩
def DW(h:bF B H (some a) ys){n:Nat}{f:aw->HP}(ds:aw)(b:ds.size=n)(hl:i+n<=ys.length)(hd:∀j,j<n->ys[i+j]?=ds[j]?)(t:T B H (f ds)):T B H (eQ (a.add i) n f):=by
 intro σ o;rcases h σ o with⟨h,_⟩|⟨a',h,c⟩
 ·cases h
 ·cases h
  refine⟨ds,b,λj d=>?_,t σ o⟩;rw[add_add,c _ (by omega)];exact hd j d
def bF.B9(h:bF B H q ys)(hl:0<ys.length)(σ:Heap)(o:Own B H σ):∃a,q=some a:=by
 rcases h σ o with⟨_,h⟩|⟨a,h,_⟩
 ·subst h;simp at hl
 ·exact⟨a,h⟩
def oI(h:bF B H q ys)(hl:0<ys.length){f:Addr->HP}(t:∀a,q=some a->T B H (f a)):T B H (ay q f):=by intro σ o;obtain⟨a,rfl⟩:=h.B9 hl σ o;exact t a rfl σ o
end
def ah(s:Nat)(p:av)(l c:Nat)(xs:az):bc:=λch=>
 xs.length=l*s/\l<=c/\((p=none/\c=0/\ch=[])\/∃b rest,p=some ⟨b,0,none⟩/\(xs++rest).length=c*s/\cl b (xs++rest).toArray ch)
def W7(s:Nat):ah s none 0 0 [] []:=⟨by simp,dQ _,.inl ⟨rfl,rfl,rfl⟩⟩
def dL{B:Heap}{H:au}{p:HP}(s:Nat)(t:T B (ah s none 0 0 []::H) p):T B H p:=by intro σ o;obtain⟨l,h1,a⟩:=o.own;exact t σ ⟨o.base,o.size,l,⟨[],l,.refl _,W7 s,h1⟩,a⟩
def kk{B:Heap}{H:au}{p:HP}{b l:Nat}{cs:aw}(s:Nat)(hl:cs.size=l*s)(t:T B (ah s (some ⟨b,0,none⟩) l l cs.toList::H) p):T B (cl b cs::H) p:=by intro σ o;obtain⟨ch,⟨l1,l2,a,h1,c⟩,d⟩:=o.own;refine t σ ⟨o.base,o.size,ch,⟨l1,l2,a,⟨by simpa using hl,dQ _,.inr ⟨b,[],rfl,by simpa using hl,by simpa using h1⟩⟩,c⟩,d⟩
def qY{B:Heap}{H:au}{p:HP}{q:av}{s l c:Nat}{xs:az}(h0:q=none->c=0->l=0->xs=[]->T B H p)(h1:∀b rest,q=some ⟨b,0,none⟩->xs.length=l*s->l<=c->(xs++rest).length=c*s->T B (cl b (xs++rest).toArray::H) p):T B (ah s q l c xs::H) p:=by
 intro σ o;obtain⟨ch,⟨l1,l2,d,⟨a,e,h⟩,f⟩,g,hc⟩:=o.own;rcases h with⟨rfl,rfl,rfl⟩|⟨b,rest,rfl,hlen,i⟩
 ·have:l=0:=by omega
  subst this;exact h0 rfl rfl rfl (by simpa using a) σ o.drop
 ·exact h1 b rest rfl a e hlen σ ⟨o.base,o.size,ch,⟨l1,l2,d,i,f⟩,g,hc⟩
def bF.j2{B:Heap}{H:au}{q:av}{s l c:Nat}{xs:az}:bF B (ah s q l c xs::H) q xs:=by
 intro σ o;obtain⟨ch,⟨l1,l2,a,⟨d,f,h⟩,g⟩,j,hc⟩:=o.own;rcases h with⟨rfl,rfl,rfl⟩|⟨b,rest,rfl,hlen,t,fr,rfl,k⟩
 ·have:l=0:=by omega
  subst this;exact .inl ⟨rfl,by simpa using d⟩
 ·refine .inr ⟨_,rfl,λi hi=>?_⟩
  have e:=hc (b,.cells (xs++rest).toArray t fr) (a.mem_iff.2 (by simp));rw[aR,AL e.2];simp[zd,hi]
def FL(n:Nat):∀(r c:Nat),c<=n+(n+768)/4->Builtin.growBy n r c<=n+(n+768)/4
 |0,c,h=>by simpa[Builtin.growBy]using h
 |r+1,c,h=>by
  simp only[Builtin.growBy];split
  ·exact h
  ·exact FL n r _ (by omega)
def Bi{n c:Nat}(h:c<n):Builtin.nextslicecap n c<=2*n+1024:=by
 unfold Builtin.nextslicecap;split
 ·omega
 ·split
  ·omega
  ·have:=FL n 4 c (by omega)
   omega
def vH:∀(l:az) (i:Nat) (cs:aw),i+l.length<=cs.size->(eB cs i l).toList=cs.toList.take i++l++cs.toList.drop (i+l.length)
 |[],i,cs,h=>by simp[eB]
 |v::r,i,cs,h=>by
  simp only[c8]at h;simp only[eB];rw[vH r (i+1) _ (by simp;omega)];have a:i<cs.toList.length:=by simp;omega
  simp only[CO,c8];rw[Dd (by simpa using a)];simp only[Ja,Db (dQ _),el,qL,kQ];rw[List.drop_set_of_lt (by omega)];rw[show i+1+r.length=i+(r.length+1)from by omega]
section
variable {P:Program}
def qB{s n:Nat}{q:av}{m d:Nat}{ys:az}{K:aw->HP}{σ:Heap}(h:(q=none/\ys=[])\/∃a,q=some a/\∀i,i<ys.length->b0 σ (a.add i)=ys[i]?)(hl:ys.length=n*s)(k:K ys.toArray σ):aH P (Builtin.firstCells s n (.slice q m d)) K σ:=by
 rcases h with⟨rfl,rfl⟩|⟨a,rfl,hc⟩
 ·exact cv k
 ·refine HO ⟨ys.toArray,by simpa using hl,λi hi=>?_,k⟩
  rw[hc i (by omega)];simp
def B1{j1 a:Nat}{elem:TypeId}{K:Nat->HP}{σ:Heap}(h:∀n,j1<=n->K n σ):aH P (choose (.appendCap j1 a elem)) K σ:=by
 intro w hw;refine⟨_,{w with drawn:=w.drawn+1},?_,⟨rfl,rfl,rfl⟩,h ((Question.appendCap j1 a elem).cut (w.tape w.drawn (.appendCap j1 a elem))) ?_|>λh=>by rw[<-hw]at h;exact h⟩
 ·simp[Question.forced]
 ·simp[Question.cut]
def KQ{B:Heap}{H:au}{k:Array TypeId}{t0 t1 elem:TypeId}{s:Nat}{p:av}{l c:Nat}{xs:az}{q:av}{m d:Nat}{ys:az}{f:av->Nat->Nat->HP}(h0:k[0]?=some t0)(h1:k[1]?=some t1)(hu:P.underlying t0=some (.slice elem))(r:nm P t1=true)(hi:(P.info? elem).isSome=true)(hz:hO P elem=true)(hs:P.cellsOf elem=s)(F:(2*(l+m)+1024)*P.bytesOf elem<=281474976710656)(Y:1<=P.bytesOf elem)(G:(zc P elem).size=s)(A:bF B (ah s p l c xs::H) q ys)(e:ys.length=m*s)(I:∀v∈ys,v.oneCell'=true)(t:∀C c',T B (ah s C (l+m) c' (xs++ys)::H) (f C (l+m) c')):T B (ah s p l c xs::H) (cC P k p l c q m d f):=by
 obtain⟨info,g⟩:=h9.1 hi;have J:P.bytesOf elem=info.bytes:=by simp[Program.bytesOf,g]
 obtain⟨Z,r⟩:=rW r;intro σ o;have u:=A σ o;have D:=bF.j2 σ o;unfold cC;unfold Builtin.append_;simp only[h0,h1,dE,jI,mw];refine aX (gV hu ?_);refine aX (pf hi ?_);refine aX (gV r ?_);refine aX (cv ?_);simp only[gb,ep];refine aX (cv ?_)
 have K:∃ch:List Chunk,xs.length=l*s/\l<=c:=by obtain⟨ch,⟨l1,l2,j,⟨x,y,h⟩,E⟩,aa,hc⟩:=o.own;exact⟨ch,x,y⟩
 obtain⟨_,L,y⟩:=K;by_cases a:l+m<=c
 ·simp only[a,eb,CU]
  refine aX (qB u (by rw[hs];exact e) ?_);clear u D A;revert o;generalize σ=σ;refine qY ?_ ?_ σ
  ·rintro rfl rfl rfl rfl σ o
   have hm:m=0:=by omega
   subst hm;have M:ys=[]:=by simpa using e
   subst M;apply cv;rw[sx];exact dL s (t none 0) σ o
  ·intro b rest j x y hlen
   subst j;refine λσ o=>aX (gU (λ_ σ h=>cv h) (qC ys.toArray.toList 0 ?_));rw[aR,hs];simp only[sx];refine pT ys (i:=0) (H:=cl b (xs++rest).toArray::H) ?_ I ?_ σ o
   ·simp only[b']at hlen
    have N:(l+m)*s<=c*s:=jk s a;simp only[hP,b',e];have:(l+m)*s=l*s+m*s:=gd _ _ _;omega
   ·simp only[b']at hlen
    have N:(l+m)*s<=c*s:=jk s a;have ab:(l+m)*s=l*s+m*s:=gd _ _ _;have eP:=vH ys (0+l*s+0) (xs++rest).toArray (by simp only[hP,b'];omega)
    have O:eB (xs++rest).toArray (0+l*s+0) ys=(xs++ys++rest.drop ys.length).toArray:=by apply gE;rw[eP];simp only[bI,mA,el];rw[<-x,qO rfl];congr 2;rw[tS];simp
    rw[O];intro σ o;obtain⟨ch,⟨l1,l2,j,h1,E⟩,Q⟩:=o.own;refine t (some ⟨b,0,none⟩) c σ ⟨o.base,o.size,ch,⟨l1,l2,j,⟨?_,a,.inr ⟨b,rest.drop ys.length,rfl,?_,h1⟩⟩,E⟩,Q⟩
    ·simp only[b'];omega
    ·simp only[b',kN];omega
 ·simp only[a,ep]
  have R:=Bi (n:=l+m) (c:=c) (by omega);refine aX (n8 g ?_)
  have S:¬(((l+m:Nat):Int)>IntKind.i64.max/\(False\/info.bytes=0)):=by
   rintro⟨_,h|h⟩
   ·exact h
   ·omega
  rw[aj (by simpa using S)];refine aX (n8 g ?_)
  have U:¬(Builtin.nextslicecap (l+m) c*info.bytes>2^48):=by rw[J]at F;have:=jk info.bytes R;omega
  rw[aj U];refine aX (B1 λcap V=>?_);refine aX (n8 g ?_);refine aX (dD () (λw _=>run_askRoom P w _) ?_);refine aX (qB D (by rw[hs];exact L) ?_);refine aX (qB u (by rw[hs];exact e) ?_);refine aX (qD hz λz W=>?_);unfold newRow;refine aX (aX (vG (cv (cv ?_))));simp only[sx];refine t (some ⟨σ.size,0,none⟩) cap _ (o.drop.push ?_)
  have X:(Builtin.zeroCells z.cells (cap-(l+m))).size=(cap-(l+m))*s:=by simp[Builtin.zeroCells,W,G]
  have hmul:(l+m)*s+(cap-(l+m))*s=cap*s:=by rw[<-gd];congr 1;omega
  have ac:(l+m)*s=l*s+m*s:=gd _ _ _;refine⟨by simp only[b'];omega,V,.inr ⟨σ.size,(Builtin.zeroCells z.cells (cap-(l+m))).toList,rfl,?_,elem,(0,0),?_,by simp⟩⟩
  ·simp only[b',kM,X];omega
  ·congr 3
   apply gE;simp
end
end
section
def Arg(B:Heap)(p:av)(ys:az):Prop:=∀H,bF B H p ys
def iv(k:IntKind)(zs:aN):az:=zs.map (.int k)
@[simp] theorem F1 (k:IntKind) (zs:aN):(iv k zs).length=zs.length:=by simp[iv]
theorem mP{k:IntKind}{zs:aN}{i:Nat}{z:Int}(h:zs[i]?=some z):(iv k zs)[i]?=some (.int k z):=by simp[iv,h]
section
variable {B:Heap}{H:au}{p:av}{ys:az}
end
def lx(p:av)(s c:Nat):da p s 0 c=p:=by
 unfold da;split
 ·rfl
 ·cases p with
  |none=>rfl
  |some a=>simp[Addr.add]
def jh{n:Int}(h0:-9223372036854775808<=n)(h1:n<=9223372036854775807):IntKind.wrap .i64 n=n:=IntWalk.i64_in n ⟨h0,h1⟩
def br{n:Int}(h:-9223372036854775808<=n/\n<=9223372036854775807):IntKind.wrap .i64 n=n:=jh h.1 h.2
def yS{i:Nat}(h:i<1000000000000):IntKind.wrap .i64 ((i:Int)+1)=((i+1:Nat):Int):=by rw[jh (by omega) (by omega)];omega
end
section
inductive CT where
 |int (k:IntKind)
 |bool
 |str
 |sl (e:TypeId)
def sU(c:TypeId->Option (List CT))(P:Program)(size:Nat):Nat->List Field->Option (List CT)
 |off,[]=>if off=size then some []else none
 |off,f::d=>
  if f.offset=off then
   match c f.type,sU c P size (off+P.cellsOf f.type) d with
   |some a,some b=>if a.length=P.cellsOf f.type then some (a++b)else none
   |_,_=>none
  else none
def flat(P:Program):Nat->TypeId->Option (List CT)
 |0,_=>none
 |n+1,t=>
  match P.underlying t with
  |some .bool=>some [.bool]
  |some (.int k)=>some [.int k]
  |some .string=>some [.str]
  |some (.slice e)=>some [.sl e]
  |some (.struct b)=>sU (flat P n) P (P.cellsOf t) 0 b.toList
  |some (.array m e)=>
   match flat P n e with
   |some a=>if a.length=P.cellsOf e/\P.cellsOf t=m*P.cellsOf e then some (List.replicate m a).flatten else none
   |none=>none
  |_=>none
def Tr{E:Type}(enc:TypeId×Value->E)(P:Program)(w:World)(t:TypeId)(cs:az):Prop:=∃fuel x,DataW.trod enc P w 0 (λ_=>true) true fuel t cs=some x
def Dn{E:Type}(enc:TypeId×Value->E)(P:Program)(w:World):CT->Value->Prop
 | .int k,v=>∃n,v= .int k n/\(Lit.int k n).wf=true
 | .bool,v=>∃b,v= .bool b
 | .str,v=>∃s:ByteArray,v= .string s/\s.size<=maxLen
 | .sl e,v=>∃(a:av) (len cap:Nat) (d:List az),v= .slice a len cap/\len<=cap/\cap<=maxLen/\d.length=cap/\(∀c∈d,c.length=P.cellsOf e/\Tr enc P w e c)/\Arg w.heap a d.flatten
def Fits{E:Type}(enc:TypeId×Value->E)(P:Program)(w:World):List CT->az->Prop
 |[],[]=>True
 |t::ts,v::vs=>Dn enc P w t v/\Fits enc P w ts vs
 |_,_=>False
def FB{α:Type}{s:Nat}:∀(a:List (List α)),(∀c∈a,c.length=s)->∀i j,i<a.length->j<s->a.flatten[i*s+j]?=(a[i]?.getD [])[j]?
 |[],_,i,j,h,_=>by simp at h
 |c::a,hl,0,j,_,b=>by have:=hl c (by simp);simp[zd,this,b]
 |c::a,hl,i+1,j,h,b=>by
  have h1:=hl c (by simp);have d:=FB a (λc h=>hl c (by simp[h])) i j (by simpa using h) b;have e:(i+1)*s+j=i*s+j+s:=by rw[gd];omega
  simp only[List.flatten_cons,e];rw[iu (by omega),h1];simpa using d
def FC{α:Type}{s:Nat}:∀(a:List (List α)),(∀c∈a,c.length=s)->a.flatten.length=a.length*s
 |[],_=>by simp
 |c::a,hl=>by have h1:=hl c (by simp);have b:=FC a (λc h=>hl c (by simp[h]));simp[h1,b,gd,Nat.add_comm]
section
variable {E:Type}{enc:TypeId×Value->E}{P:Program}{w:World}
def Fits.append{ts a:List CT}{vs b:az}(h:Fits enc P w ts vs)(c:Fits enc P w a b):Fits enc P w (ts++a) (vs++b):=by
 induction ts generalizing vs with
 |nil=>cases vs with
  |nil=>exact c
  |cons v vs=>exact h.elim
 |cons t ts d=>cases vs with
  |nil=>exact h.elim
  |cons v vs=>exact⟨h.1,d h.2⟩
def WY{e:TypeId}{t:TypeId}{cs:az}(m:P.underlying t=some (.slice e))(h:Tr enc P w t cs):Fits enc P w [.sl e] cs:=by
 obtain⟨fuel,x,h⟩:=h;rcases DataW.trod_slice m h with⟨rfl,_⟩|⟨a,len,cap,elems,rest,n,_,rfl,_,r,hl,hm,hlen,o,p,_⟩
 ·exact⟨⟨none,0,0,[],rfl,dQ _,nA _,rfl,by simp,λH=>bF.nil⟩,trivial⟩
 ·obtain⟨s,hr⟩:=p rfl
  have q:∀i,i<cap->∃c,w.cells? 0 (a.add (i*P.cellsOf e)) (P.cellsOf e)=some c/\∃x,DataW.trod enc P w 0 (λ_=>true) true n e c=some x:=by
   intro i hi;by_cases h1:i<len
   ·have b:=o i h1
    rw[bj (by omega),Jk]at b;obtain⟨c,d,g⟩:=b;exact⟨c,d,_,g⟩
   ·have b:=hr (i-len) (by omega)
    rw[bj (by omega),Jk]at b;obtain⟨c,d,g⟩:=b;rw[show len+(i-len)=i by omega]at d;exact⟨c,d,_,g⟩
  let f:Nat->az:=λi=>(w.cells? 0 (a.add (i*P.cellsOf e)) (P.cellsOf e)).getD []
  have hf:∀i,i<cap->w.cells? 0 (a.add (i*P.cellsOf e)) (P.cellsOf e)=some (f i)/\Tr enc P w e (f i):=by
   intro i hi;obtain⟨c,h1,x,b⟩:=q i hi;have:f i=c:=by simp[f,h1]
   rw[this];exact⟨h1,n,x,b⟩
  have j:∀c∈(List.range cap).map f,c.length=P.cellsOf e/\Tr enc P w e c:=by intro c hc;obtain⟨i,hi,rfl⟩:=bP.1 hc;have hi:=ou.1 hi;obtain⟨h1,b⟩:=hf i hi;exact⟨(World.cells?_some h1).2.1,b⟩
  refine⟨⟨some a,len,cap,(List.range cap).map f,rfl,hl,hm,by simp,j,?_⟩,trivial⟩;refine λH=>bF.WK (λi hi=>?_) H;rw[FC _ λc h=>(j c h).1]at hi;simp only[eX,List.length_range]at hi
  have hs:0<P.cellsOf e:=by
   rcases De (P.cellsOf e)with h|h
   ·rw[h]at hi;omega
   ·exact h
  have hdiv:i/P.cellsOf e<cap:=Nat.div_lt_of_lt_mul (by rw[Df];exact hi);have k:i%P.cellsOf e<P.cellsOf e:=pJ _ hs;have l:i=i/P.cellsOf e*P.cellsOf e+i%P.cellsOf e:=(Nat.div_add_mod' i _).symm;obtain⟨h1,_⟩:=hf _ hdiv;have b:=(World.cells?_some h1).2.2 _ k;rw[add_add,<-l]at b;have d:=FB ((List.range cap).map f) (λc h=>(j c h).1) (i/P.cellsOf e) (i%P.cellsOf e) (by simpa using hdiv) k;rw[<-l]at d;rw[d];simp only[e6,tU hdiv,iy,fx];exact b
def G8{d:TypeId->Option (List CT)}{size:Nat}{cs:az}{n:Nat}(hl:cs.length=size)(i:∀{t:TypeId} {cts:List CT} {cs:az},d t=some cts->Tr enc P w t cs->Fits enc P w cts cs):∀(c:List Field) (off:Nat) {cts:List CT},sU d P size off c=some cts->(∀f∈c,∃x,DataW.trod enc P w 0 (λ_=>true) true n f.type ((cs.drop f.offset).take (P.cellsOf f.type))=some x)->Fits enc P w cts (cs.drop off)
 |[],off,cts,h,_=>by
  simp only[sU]at h;split at h
  ·cases h
   rw[C1 (by omega)];trivial
  ·cases h
 |f::c,off,cts,h,hr=>by
  simp only[sU]at h;split at h
  ·rename_i k
   cases ha:d f.type with
   |none=>simp[ha]at h
   |some a=>
    cases e:sU d P size (off+P.cellsOf f.type) c with
    |none=>simp[ha,e]at h
    |some b=>
     simp only[ha,e]at h;split at h
     ·cases h
      obtain⟨x,j⟩:=hr f (by simp);rw[k]at j;have h1:=i ha ⟨n,x,j⟩;have l:=G8 hl i c (off+P.cellsOf f.type) e (λg m=>hr g (by simp[m]));have o:=h1.append l
      rwa [<-y',kd]at o
     ·cases h
  ·cases h
def G7{a:List CT}{s n:Nat}{e:TypeId}{cs:az}(d:a.length=s)(b:∀{cs:az},Tr enc P w e cs->Fits enc P w a cs):∀(m j:Nat),cs.length=(j+m)*s->(∀i,i<j+m->∃x,DataW.trod enc P w 0 (λ_=>true) true n e ((cs.drop (i*s)).take s)=some x)->Fits enc P w (List.replicate m a).flatten (cs.drop (j*s))
 |0,j,hl,_=>by rw[C1 (by rw[hl];exact dQ _)];trivial
 |m+1,j,hl,hr=>by obtain⟨x,f⟩:=hr j (by omega);have h1:=b ⟨n,x,f⟩;have g:=G7 d b m (j+1) (by rw[hl];congr 1;omega) (λi hi=>hr i (by omega));have c:=h1.append g;rw[show(j+1)*s=j*s+s by rw[gd];omega,<-y',kd]at c;simpa[se]using c
def Bm:∀(n:Nat) {t:TypeId} {cts:List CT} {cs:az},flat P n t=some cts->Tr enc P w t cs->Fits enc P w cts cs
 |0,t,cts,cs,h,_=>by cases h
 |n+1,t,cts,cs,h,hr=>by
  simp only[flat]at h;split at h
  ·rename_i hu
   cases h;obtain⟨fuel,x,hr⟩:=hr;obtain⟨b,rfl,_⟩:=DataW.trod_bool hu hr;exact⟨⟨b,rfl⟩,trivial⟩
  ·rename_i k hu
   cases h;obtain⟨fuel,x,hr⟩:=hr;obtain⟨b,rfl,_,hw⟩:=DataW.trod_int hu hr;exact⟨⟨b,rfl,hw⟩,trivial⟩
  ·rename_i hu
   cases h;obtain⟨fuel,x,hr⟩:=hr;obtain⟨b,rfl,_,hw⟩:=DataW.trod_string hu hr;exact⟨⟨b,rfl,hw⟩,trivial⟩
  ·rename_i e hu
   cases h;exact WY hu hr
  ·rename_i g hu
   obtain⟨fuel,x,hr⟩:=hr;obtain⟨xs,m,_,_,hl,d,hf⟩:=DataW.trod_struct hu hr
   have:=G8 hl (λh1 c=>Bm n h1 c) g.toList 0 h (by intro f j;obtain⟨i,hi,l⟩:=sc.1 j;have h1:=hf i f (by rw[CL (by simpa using hi)];simpa using l);rw[h1,bj (by rw[d];simpa using hi)];exact⟨_,rfl⟩)
   simpa using this
  ·rename_i m e hu
   obtain⟨fuel,x,hr⟩:=hr;obtain⟨xs,o,_,_,hl,d,hf⟩:=DataW.trod_array hu hr
   cases ha:flat P n e with
   |none=>simp[ha]at h
   |some a=>
    simp only[ha]at h;split at h
    ·rename_i hc
     cases h
     have:=G7 hc.1 (λc=>Bm n ha c) m 0 (by rw[hl,hc.2];simp) (by intro i hi;rw[hf i (by omega),bj (by omega)];exact⟨_,rfl⟩)
     simpa using this
    ·cases h
  ·cases h
def Tr.of{t:TypeId}{v:Value}{d:DataW E}{ps:List MemPlace}(h:DataW.Trod enc P w 0 (λ_=>true) true t v d ps):Tr enc P w t v.cells.toList:=by obtain⟨fuel,h⟩:=h;exact⟨fuel,_,h⟩
def Fits.nil{vs:az}(h:Fits enc P w [] vs):vs=[]:=by
 cases vs with
 |nil=>rfl
 |cons v vs=>exact h.elim
def Fits.cons{t:CT}{ts:List CT}{vs:az}(h:Fits enc P w (t::ts) vs):∃v a,vs=v::a/\Dn enc P w t v/\Fits enc P w ts a:=by
 cases vs with
 |nil=>exact h.elim
 |cons v vs=>exact⟨v,vs,rfl,h.1,h.2⟩
def Fits.int{k:IntKind}{ts:List CT}{vs:az}(h:Fits enc P w (.int k::ts) vs):∃n a,vs= .int k n::a/\(Lit.int k n).wf=true/\Fits enc P w ts a:=by obtain⟨v,a,rfl,⟨n,rfl,hw⟩,b⟩:=h.cons;exact⟨n,a,rfl,hw,b⟩
def Fits.str{ts:List CT}{vs:az}(h:Fits enc P w (.str::ts) vs):∃(s:ByteArray) (a:az),vs= .string s::a/\s.size<=maxLen/\Fits enc P w ts a:=by obtain⟨v,a,rfl,⟨n,rfl,hw⟩,b⟩:=h.cons;exact⟨n,a,rfl,hw,b⟩
end
section
variable {B:Heap}{H:au}{b i:Nat}{cs:aw}
def eT[h:bZ B H b cs]{v:Value}{p:HP}(hc:cs[i]?=some v)(t:T B H p):T B H (c7 (λσ=>b0 σ ⟨b,i,none⟩=some v) p):=e7 (λσ o=>(h.cell o i).trans hc) t
def JD{p:HP}(t:T B H p):T B H (c7 (λσ=>True) p):=e7 (λ_ _=>trivial) t
end
section
variable {B:Heap}{H:au}{p:av}{ys:az}
def DY(h:bF B H p ys){n:Int}{l i:Nat}(b:n=(i:Int))(hl:i<l){k:IntKind}{x:Int}{f:Int->HP}(hc:ys[i]?=some (.int k x))(t:T B H (f x)):T B H (ay p λa=>aP ((0:Int)<=n/\n<(l:Int)) (bA k (Addr.add a n.toNat) f)):=by subst b;have hi:i<ys.length:=(bY.1 hc).1;refine oI h (by omega) λa ha=>ba ⟨by omega,by omega⟩ ?_;subst ha;rw[aZ];exact uu h hc t
end
def ef{α:Type}{zs:List α}{i:Nat}{z:α}(h:zs[i]?=some z):zs.take (i+1)=zs.take i++[z]:=by rw[List.take_add_one,h];rfl
def Ft{α β:Type}{f:α->β}:∀(l:List β) {q:α->Prop},(∀c∈l,∃a,c=f a/\q a)->∃as:List α,l=as.map f/\∀a∈as,q a
 |[],_,_=>⟨[],rfl,by simp⟩
 |c::l,q,h=>by obtain⟨a,rfl,ha⟩:=h c (by simp);obtain⟨as,rfl,has⟩:=Ft l (λc hc=>h c (by simp[hc]));exact⟨a::as,rfl,by simpa using⟨ha,has⟩⟩
end
section
def eF{α:Sort _}(q:α->bc):bc:=λch=>∃x,q x ch
def fa(c:Prop)(q:bc):bc:=λch=>c/\q ch
def eA(Hs:au):bc:=λch=>Sat Hs ch
def Sat.mono:∀{H:au} {l:List Chunk} (x:List Chunk),Sat H l->Sat H (x++l)
 |[],_,_,_=>trivial
 |p::H,l,x,⟨l1,l2,a,h1,b⟩=>by refine⟨l1,x++l2,?_,h1,b.mono x⟩;refine(a.append_left x).trans ?_;rw[<-el,<-el];exact List.perm_append_comm.append_right l2
def Sat.append:∀{H H':au} {l a:List Chunk},Sat H l->Sat H' a->Sat (H++H') (l++a)
 |[],H',l,a,h,b=>b.mono l
 |p::H,H',l,a,⟨l1,l2,c,h1,d⟩,b=>⟨l1,l2++a,by rw[<-el];exact c.append_right a,h1,Sat.append d b⟩
def Sat.split:∀{H H':au} {l:List Chunk},Sat (H++H') l->∃l1 l2,l.Perm (l1++l2)/\Sat H l1/\Sat H' l2
 |[],H',l,h=>⟨[],l,.refl _,trivial,h⟩
 |p::H,H',l,⟨l1,l2,a,h1,b⟩=>by obtain⟨l3,l8,c,d,e⟩:=Sat.split b;exact⟨l1++l3,l8,by rw[el];exact a.trans (c.append_left l1),⟨l1,l3,.refl _,h1,d⟩,e⟩
def Own.V3{B:Heap}{p q:bc}{H:au}{σ:Heap}(o:Own B (p::H) σ)(h:∀ch,p ch->q ch):Own B (q::H) σ:=by obtain⟨ch,⟨l1,l2,a,h1,b⟩,c⟩:=o.own;exact⟨o.base,o.size,ch,⟨l1,l2,a,h _ h1,b⟩,c⟩
section
variable {B:Heap}{H:au}{p:HP}
def zA{q r:bc}(h:∀ch,q ch->r ch)(t:T B (r::H) p):T B (q::H) p:=λσ o=>t σ (o.V3 h)
def gg{α:Sort _}{q:α->bc}(t:∀x,T B (q x::H) p):T B (eF q::H) p:=by intro σ o;obtain⟨ch,⟨l1,l2,a,⟨x,h1⟩,b⟩,c⟩:=o.own;exact t x σ ⟨o.base,o.size,ch,⟨l1,l2,a,h1,b⟩,c⟩
def gI{α:Sort _}{q:α->bc}(x:α)(t:T B (eF q::H) p):T B (q x::H) p:=zA (λ_ h=>⟨x,h⟩) t
def gz{c:Prop}{q:bc}(t:c->T B (q::H) p):T B (fa c q::H) p:=by intro σ o;obtain⟨ch,⟨l1,l2,a,⟨hc,h1⟩,b⟩,d⟩:=o.own;exact t hc σ ⟨o.base,o.size,ch,⟨l1,l2,a,h1,b⟩,d⟩
def ic{c:Prop}{q:bc}(hc:c)(t:T B (fa c q::H) p):T B (q::H) p:=zA (λ_ h=>⟨hc,h⟩) t
def lS{Hs:au}(t:T B (Hs++H) p):T B (eA Hs::H) p:=by intro σ o;obtain⟨ch,⟨l1,l2,a,h1,b⟩,c,hc⟩:=o.own;have h1:Sat Hs l1:=h1;exact t σ ⟨o.base,o.size,ch,(h1.append b).perm a.symm,c,hc⟩
def jQ{Hs:au}(t:T B (eA Hs::H) p):T B (Hs++H) p:=by intro σ o;obtain⟨ch,h1,a,hc⟩:=o.own;obtain⟨l1,l2,b,c,d⟩:=Sat.split h1;exact t σ ⟨o.base,o.size,ch,⟨l1,l2,b,c,d⟩,a,hc⟩
end
section
variable {P:Program}
def zN{B:Heap}{H:au}{a:Array TypeId}{t0 t1 elem:TypeId}{s b o l c m d:Nat}{cs:aw}{H':aw->au}[hu:fT H b cs H']{q:av}{ys:az}{f:av->Nat->Nat->HP}(h0:a[0]?=some t0)(h1:a[1]?=some t1)(g:P.underlying t0=some (.slice elem))(e:nm P t1=true)(hi:(P.info? elem).isSome=true)(hs:P.cellsOf elem=s)(j:bF B H q ys)(k:ys.length=m*s)(n:∀v∈ys,v.oneCell'=true)(p:l+m<=c)(u:o+(l+m)*s<=cs.size)(t:T B (H' (eB cs (o+l*s) ys)) (f (some ⟨b,o,none⟩) (l+m) c)):T B H (cC P a (some ⟨b,o,none⟩) l c q m d f):=by
 obtain⟨w,e⟩:=rW e;intro σ ow;have r:=j σ ow;unfold cC;unfold Builtin.append_;simp only[h0,h1,dE,jI,mw];refine aX (gV g ?_);refine aX (pf hi ?_);refine aX (gV e ?_);refine aX (cv ?_);simp only[gb,ep];refine aX (cv ?_);simp only[p,eb,CU];refine aX (qB r (by rw[hs];exact k) ?_);refine aX (gU (λ_ σ h=>cv h) (qC ys.toArray.toList 0 ?_));rw[aR,hs];simp only[sx];refine pT ys (i:=0) (H:=H) (cs:=cs) ?_ n ?_ σ ow
 ·have x:(l+m)*s=l*s+m*s:=gd _ _ _
  omega
 ·exact t
def lR{B:Heap}{H:au}{a:FuncId}{args:aw}{K:aK}(h:fW P a=true)(t:T B H (ad P a args K)):T B H (kn P a args K):=by unfold kn;rw[h];exact t
end
section
variable {B:Heap}{H:au}{b o l i:Nat}{n:Int}{cs:aw}
def oF[h:bZ B H b cs](c:n=(i:Int))(hi:i<l){k:IntKind}{x:Int}{f:Int->HP}(hc:cs[o+i]?=some (.int k x))(t:T B H (f x)):T B H (ay (some ⟨b,o,none⟩) λa=>aP ((0:Int)<=n/\n<(l:Int)) (bA k (Addr.add a n.toNat) f)):=by subst c;refine nE (ba ⟨by omega,by omega⟩ ?_);rw[aZ,aR];exact bg hc t
def oG{H':aw->au}[h:fT H b cs H'](c:n=(i:Int))(hi:i<l)(d:o+i<cs.size){v:Value}{k:HP}(e:v.oneCell'=true)(t:T B (H' (cs.setIfInBounds (o+i) v)) k):T B H (ay (some ⟨b,o,none⟩) λa=>aP ((0:Int)<=n/\n<(l:Int)) (st (Addr.add a n.toNat) v k)):=by subst c;refine nE (ba ⟨by omega,by omega⟩ ?_);rw[aZ,aR];exact eE d e t
end
section
variable {B:Heap}{H:au}{p:av}{ys:az}
end
def lq(v:Value)(n:Nat):gr #[v] n=(List.replicate n v).toArray:=by
 apply gE;apply ji;intro i;simp only[gr,CN,e6];by_cases h:i<n
 ·simp[h,y2,Nat.mod_one]
 ·simp[h,y2]
end
section
section
variable {P:Program}{B:Heap}{H:au}{b o:Nat}{cs:aw}{H':aw->au}
def JL[h:fT H b cs H']{p:HP}(t:T B (H' cs) p):T B H p:=by obtain⟨H0,h1,a⟩:=h.perm;exact cp h1 (cp (a cs).symm t)
def zz{d:Array TypeId}{t0 t elem:TypeId}{s n c:Nat}[h:fT H b cs H']{K:aK}(h0:d[0]?=some t0)(hu:P.underlying t0=some (.slice elem))(hz:hO P elem=true)(hs:(zc P elem).size=s)(f:∀v∈(Builtin.zeroCells (zc P elem) n).toList,v.oneCell'=true)(g:o+n*s<=cs.size)(a:T B (H' (eB cs o (Builtin.zeroCells (zc P elem) n).toList)) (K (.tuple #[]))):T B H (aH P (Builtin.clear_ d t #[.slice (some ⟨b,o,none⟩) n c]) K):=by
 intro σ ow;unfold Builtin.clear_;simp only[h0,dE,jI];refine aX (gV hu ?_)
 cases n with
 |zero=>
  refine aX (cv (cv ?_));have e:(Builtin.zeroCells (zc P elem) 0).toList=[]:=by simp[Builtin.zeroCells,Array.range]
  rw[e]at a;exact JL (b:=b) (cs:=cs) (H':=H') a σ ow
 |succ n=>refine aX (qD hz λz i=>?_);rw[i];refine aX (gU (λ_ σ h=>cv h) (qC _ 0 ?_));refine pT _ 0 ?_ f a σ ow;simp only[Builtin.zeroCells,kM,Array.size_map,Array.size_range,hs,mA];exact g
def um{a:Array TypeId}{t0 t elem:TypeId}{s l c m d:Nat}{q:av}{ys:az}[h:fT H b cs H']{K:aK}(h0:a[0]?=some t0)(hu:P.underlying t0=some (.slice elem))(hi:(P.info? elem).isSome=true)(hs:P.cellsOf elem=s)(f:bF B H q ys)(e:ys.length=Nat.min m l*s)(g:∀v∈ys,v.oneCell'=true)(i:o+Nat.min m l*s<=cs.size)(j:T B (H' (eB cs o ys)) (K (.int .i64 (Nat.min m l:Nat)))):T B H (aH P (Builtin.copy_ a t #[.slice (some ⟨b,o,none⟩) l c,.slice q m d]) K):=by intro σ ow;unfold Builtin.copy_;simp only[h0,dE,jI,mw];refine aX (gV hu ?_);refine aX (cv ?_);refine aX (pf hi ?_);refine aX (qB (f σ ow) (by rw[hs];exact e) ?_);refine aX (gU (λ_ σ h=>cv h) (qC _ 0 ?_));exact pT ys 0 (by rw[e];exact i) g j σ ow
def sC(s:ByteArray):az:=s.data.toList.map λb=> .int .u8 b.toNat
def JO{a:Array TypeId}{t0 t elem:TypeId}{l c:Nat}{x:ByteArray}[h:fT H b cs H']{K:aK}(h0:a[0]?=some t0)(hu:P.underlying t0=some (.slice elem))(hi:(P.info? elem).isSome=true)(hs:P.cellsOf elem=1)(d:o+Nat.min x.size l<=cs.size)(f:T B (H' (eB cs o (sC (x.extract 0 (Nat.min x.size l))))) (K (.int .i64 (Nat.min x.size l:Nat)))):T B H (aH P (Builtin.copy_ a t #[.slice (some ⟨b,o,none⟩) l c,.string x]) K):=by
 intro σ ow;unfold Builtin.copy_;simp only[h0,dE,jI,mw];refine aX (gV hu ?_);refine aX (cv ?_);refine aX (pf hi ?_);refine aX (cv ?_);refine aX (gU (λ_ σ h=>cv h) (qC _ 0 ?_));have e:((x.extract 0 (Nat.min x.size l)).data.map λb=>Value.int .u8 b.toNat).toList=sC (x.extract 0 (Nat.min x.size l)):=by simp[sC]
 rw[e]
 have hlen:(sC (x.extract 0 (Nat.min x.size l))).length=Nat.min x.size l:=by
  have:(x.extract 0 (Nat.min x.size l)).size=Nat.min x.size l:=by rw[ByteArray.size_extract];show min (Nat.min x.size l) x.size-0=_;rw[iQ];exact qP (Nat.min_le_left x.size l)
  simp only[sC,eX,kM];exact this
 refine pT _ 0 (by rw[hlen];exact d) (λv g=>?_) f σ ow;obtain⟨z,_,rfl⟩:=bP.1 g;rfl
end
end
section
section
variable {P:Program}{B:Heap}{H:au}
def e0{p q:HP}(h1:T B H p)(a:T B H q):T B H (λσ=>p σ/\q σ):=λσ o=>⟨h1 σ o,a σ o⟩
def kI(cs vs:az)(i:Nat)(h:i+vs.length<=cs.length):eB cs.toArray i vs=(cs.take i++(vs++cs.drop (i+vs.length))).toArray:=by apply gE;rw[vH _ _ _ (by simpa using h)];simp
def YQ{α:Type}{ys:List α}{n i:Nat}{z v:α}(hl:ys.length=n)(hi:i<n)(a:ys[i]?=some v):(ys.take i++List.replicate (n-i) z).set i v=ys.take (i+1)++List.replicate (n-(i+1)) z:=by rw[pI _ _ (by simp;omega),ef a];simp only[fv];rw[show i-min i ys.length=0 by omega,show n-i=(n-(i+1))+1 by omega,se,jL];simp
def KP{g:Array TypeId}{rt t0 t1 elem:TypeId}{G x:IntKind}{s:Nat}{p:av}{l c m:Nat}{xs ys:az}{z:Int}{K:aK}(h0:g[0]?=some t0)(h1:g[1]?=some t1)(hu:P.underlying t0=some (.slice elem))(I:P.underlying t1=some (.int G))(hi:(P.info? elem).isSome=true)(hz:hO P elem=true)(hs:P.cellsOf elem=s)(J:(2*(l+m)+1024)*P.bytesOf elem<=281474976710656)(y:1<=P.bytesOf elem)(A:(zc P elem).size=s)(C:(Builtin.zeroCells (zc P elem) m).toList=ys)(L:∀v∈ys,v.oneCell'=true)(M:z=(m:Int))(hm:m<=1000000000)(t:∀D c',T B (ah s D (l+m) c' (xs++ys)::H) (K (.slice D (l+m) c'))):T B (ah s p l c xs::H) (aH P (Builtin.append_ g rt #[.slice p l c,.int x z]) K):=by
 subst M;obtain⟨info,a⟩:=h9.1 hi;have N:P.bytesOf elem=info.bytes:=by simp[Program.bytesOf,a]
 have j:ys.length=m*s:=by rw[<-C];simp[Builtin.zeroCells,A]
 intro σ o;have E:=bF.j2 σ o;unfold Builtin.append_;simp only[h0,h1,dE,jI,mw];refine aX (gV hu ?_);refine aX (pf hi ?_);refine aX (gV I ?_);refine aX (cv ?_);simp only[eb];refine aX (dD (m:Int) (λw _=>rfl) ?_);have hw:IntKind.wrap .i64 (m:Int)=(m:Int):=br (by omega);simp only[hw];rw[aj (by omega)];refine aX (n8 a ?_);rw[N]at J y
 have O:¬((m:Int)*(info.bytes:Int)>2^48):=by
  have:m*info.bytes<=(2*(l+m)+1024)*info.bytes:=jk _ (by omega);have e:((m*info.bytes:Nat):Int)=(m:Int)*(info.bytes:Int):=by simp
  rw[<-e];omega
 rw[aj O];refine aX (cv ?_);simp only[aZ]
 have Q:∃ch:List Chunk,xs.length=l*s/\l<=c:=by obtain⟨ch,⟨l1,l2,f,⟨k,q,h⟩,e⟩,ad,hc⟩:=o.own;exact⟨ch,k,q⟩
 obtain⟨_,R,q⟩:=Q
 have F:∀{σ:Heap} {r:aw->HP},r ys.toArray σ->aH P (if(!true)=true then Builtin.firstCells (P.cellsOf elem) m (.int x (m:Int))else if m*P.cellsOf elem=0 then pure #[]else do pure (Builtin.zeroCells (<-zeroValue elem).cells m)) r σ:=by
  intro σ r U;rw[aj (by simp)];by_cases h:m*P.cellsOf elem=0
  ·rw[ag h]
   have:ys=[]:=kO.1 (by rw[j,<-hs];exact h);subst this;exact cv U
  ·rw[aj h]
   refine aX (qD hz λae u=>cv ?_);rw[u,<-Array.toArray_toList (xs:=Builtin.zeroCells (zc P elem) m),C];exact U
 by_cases d:l+m<=c
 ·simp only[d,eb]
  refine aX (F ?_);clear E;revert o;generalize σ=σ;refine qY ?_ ?_ σ
  ·rintro rfl rfl rfl rfl σ o
   have hm:m=0:=by omega
   subst hm;have S:ys=[]:=by simpa using j
   subst S;exact cv (dL s (t none 0) σ o)
  ·intro b rest f k q hlen
   subst f;refine λσ o=>aX (gU (λ_ σ h=>cv h) (qC ys.toArray.toList 0 ?_));rw[aR,hs];refine pT ys (i:=0) (H:=cl b (xs++rest).toArray::H) ?_ L ?_ σ o
   ·simp only[b']at hlen
    have V:(l+m)*s<=c*s:=jk s d;simp only[hP,b',j];have:(l+m)*s=l*s+m*s:=gd _ _ _;omega
   ·simp only[b']at hlen
    have V:(l+m)*s<=c*s:=jk s d;have af:(l+m)*s=l*s+m*s:=gd _ _ _;have eP:=vH ys (0+l*s+0) (xs++rest).toArray (by simp only[hP,b'];omega)
    have W:eB (xs++rest).toArray (0+l*s+0) ys=(xs++ys++rest.drop ys.length).toArray:=by apply gE;rw[eP];simp only[bI,mA,el];rw[<-k,qO rfl];congr 2;rw[tS];simp
    rw[W];intro σ o;obtain⟨ch,⟨l1,l2,f,h1,e⟩,X⟩:=o.own;refine t (some ⟨b,0,none⟩) c σ ⟨o.base,o.size,ch,⟨l1,l2,f,⟨?_,d,.inr ⟨b,rest.drop ys.length,rfl,?_,h1⟩⟩,e⟩,X⟩
    ·simp only[b'];omega
    ·simp only[b',kN];omega
 ·simp only[d,ep]
  have Y:=Bi (n:=l+m) (c:=c) (by omega)
  have Z:¬(((l+m:Nat):Int)>IntKind.i64.max/\(True\/info.bytes=0)):=by
   rintro⟨h,_⟩;have:IntKind.i64.max=9223372036854775807:=by decide
   have ai:1*(2*(l+m)+1024)<=(2*(l+m)+1024)*info.bytes:=by rw[Df];exact Nat.mul_le_mul_left _ y
   omega
  refine aX (n8 a ?_);rw[aj (by simpa using Z)];refine aX (n8 a ?_)
  have aa:¬(Builtin.nextslicecap (l+m) c*info.bytes>2^48):=by have:=jk info.bytes Y;omega
  rw[aj aa];refine aX (B1 λcap ab=>?_);refine aX (n8 a ?_);refine aX (dD () (λw _=>run_askRoom P w _) ?_);refine aX (qB E (by rw[hs];exact R) ?_);refine aX (F ?_);refine aX (qD hz λz u=>?_);unfold newRow;refine aX (aX (vG (cv (cv ?_))));refine t (some ⟨σ.size,0,none⟩) cap _ (o.drop.push ?_)
  have ac:(Builtin.zeroCells z.cells (cap-(l+m))).size=(cap-(l+m))*s:=by simp[Builtin.zeroCells,u,A]
  have hmul:(l+m)*s+(cap-(l+m))*s=cap*s:=by rw[<-gd];congr 1;omega
  have ak:(l+m)*s=l*s+m*s:=gd _ _ _;refine⟨by simp only[b'];omega,ab,.inr ⟨σ.size,(Builtin.zeroCells z.cells (cap-(l+m))).toList,rfl,?_,elem,(0,0),?_,by simp⟩⟩
  ·simp only[b',kM,ac];omega
  ·congr 3
   apply gE;simp
def yY(v:Value)(n:Nat):(Builtin.zeroCells #[v] n).toList=List.replicate n v:=by
 apply ji;intro i;by_cases h:i<n
 ·simp[Builtin.zeroCells,h,Nat.mod_one]
 ·simp[Builtin.zeroCells,h]
end
end
section
def ht{α:Type}{f:α->az}{s:Nat}(hf:∀a,(f a).length=s):∀(rs:List α) (i:Nat) (a:α),rs[i]?=some a->∀j,j<s->(rs.flatMap f)[i*s+j]?=(f a)[j]?
 |[],i,a,h,j,c=>by simp at h
 |b::rs,0,a,h,j,c=>by simp at h;subst h;have:=hf b;simp[zd,this,c]
 |b::rs,i+1,a,h,j,c=>by have h1:=ht hf rs i a (by simpa using h) j c;have d:=hf b;rw[gw,iu (by rw[d,gd];omega),d,<-h1];congr 1;rw[gd];omega
def dj{α:Type}{f:α->az}{s:Nat}(hf:∀a,(f a).length=s)(rs:List α):(rs.flatMap f).length=rs.length*s:=by
 induction rs with
 |nil=>simp
 |cons a rs b=>rw[gw,b',b,hf,c8,gd];omega
section
variable {B:Heap}{H:au}
end
end
section
open Go.MapKept
abbrev key(k:Int):Value:= .int .i64 k
structure ec(es:Array MapEntry)(clock:Nat)(g:Int->Option Value):Prop where
 st:Stamped es clock
 keys:∀e∈es.toList,IsKey (.int .i64) e.key
 rep:∀k v,g k=some v↔∃e∈es.toList,e.key=key k/\e.val=v
def IsKey.int{v:Value}(h:IsKey (.int .i64) v):∃k,v=key k:=by cases v<;>simp_all [IsKey]
def ec.empty:ec #[] 0 (λ_=>none):=⟨stamped_empty 0,by simp,by simp⟩
section
variable {P:Program}{es:Array MapEntry}{clock:Nat}{g:Int->Option Value}{k:Int}
def ec.uniq(h:ec es clock g){e a:MapEntry}(he:e∈es.toList)(b:a∈es.toList)(U:e.key=a.key):e=a:=by
 have c:=h.st.2.2;obtain⟨i,hi,rfl⟩:=sc.1 he;obtain⟨j,d,rfl⟩:=sc.1 b
 have:i=j:=by apply(zf (xs:=es.toList.map (·.key)) (h₀:=by simpa using hi) (h₁:=by simpa using d) c).1;simpa using U
 subst this;rfl
def ec.Cv(h:ec es clock g){e a:MapEntry}(he:e∈es.toList)(b:a∈es.toList)(U:e.born=a.born):e=a:=by
 have c:=h.st.2.1;obtain⟨i,hi,rfl⟩:=sc.1 he;obtain⟨j,d,rfl⟩:=sc.1 b
 have:i=j:=by apply(zf (xs:=es.toList.map (·.born)) (h₀:=by simpa using hi) (h₁:=by simpa using d) c).1;simpa using U
 subst this;rfl
def ec.find(h:ec es clock g)(k:Int):(g k=none/\Instr.findNow (.int .i64) (key k) es.toList 0=some none/\∀x∈es.toList,x.key≠key k)\/∃j e,Instr.findNow (.int .i64) (key k) es.toList 0=some (some (j,e.val))/\es[j]?=some e/\e.key=key k/\g k=some e.val:=by
 rcases findNow_spec (d:= .int .i64) (k:=key k) rfl es.toList 0 h.keys with⟨h1,a⟩|⟨j,e,h1,a,b⟩
 ·refine .inl ⟨?_,h1,a⟩
  cases c:g k with
  |none=>rfl
  |some v=>obtain⟨e,he,U,_⟩:=(h.rep k v).1 c;exact absurd U (a e he)
 ·refine .inr ⟨j,e,by simpa using h1,by simpa using a,b,(h.rep k e.val).2 ⟨e,cr a,b,rfl⟩⟩
def ec.put(h:ec es clock g)(v:Value)(U:∀x∈es.toList,x.key≠key k):ec (es.push {key:=key k,val:=v,born:=clock}) (clock+1) (λj=>if j=k then some v else g j):=by
 refine⟨stamped_push h.st U,?_,?_⟩
 ·intro e he
  simp only[Array.toList_push,dO,fw]at he;rcases he with he|rfl
  ·exact h.keys e he
  ·rfl
 ·intro j x
  simp only[Array.toList_push,dO,fw];by_cases b:j=k
  ·subst b
   simp only[eb];constructor
   ·intro c;cases c;exact⟨_,.inr rfl,rfl,rfl⟩
   ·rintro⟨e,he|rfl,h1,a⟩
    ·exact absurd h1 (U e he)
    ·rw[<-a]
  ·simp only[aj b]
   rw[h.rep j x];constructor
   ·rintro⟨e,he,h1,a⟩;exact⟨e,.inl he,h1,a⟩
   ·rintro⟨e,he|rfl,h1,a⟩
    ·exact⟨e,he,h1,a⟩
    ·simp only[key,Value.int.injEq,nB]at h1;exact absurd h1.symm b
def GB{es:Array MapEntry}{i:Nat}{e x:MapEntry}{f:MapEntry->MapEntry}(he:es[i]?=some e)(d:(es.toList.map (·.born)).Nodup):x∈(es.modify i f).toList↔x=f e\/(x∈es.toList/\x≠e):=by
 have hi:i<es.size:=(gF.1 he).1
 have g:∀j,es[j]?=some e->j=i:=by intro j a;have h:j<es.size:=(gF.1 a).1;apply(zf (xs:=es.toList.map (·.born)) (h₀:=by simpa using h) (h₁:=by simpa using hi) d).1;have k:es[j]=e:=(gF.1 a).2;have l:es[i]=e:=(gF.1 he).2;simp[k,l]
 constructor
 ·intro c
  obtain⟨j,a⟩:=zi.1 c;simp only[y1,qK]at a;by_cases b:i=j
  ·subst b
   rw[ag rfl,he]at a;simp at a;exact .inl a.symm
  ·rw[aj b]at a
   refine .inr ⟨oj.2 (oi a),?_⟩;rintro rfl;exact b (g j a).symm
 ·rintro(rfl|⟨c,m⟩)
  ·refine oj.2 (oi (i:=i) ?_)
   simp[qK,he]
  ·obtain⟨j,a⟩:=zi.1 c
   simp only[y1]at a
   have b:¬i=j:=by rintro rfl;rw[he]at a;cases a;exact m rfl
   refine oj.2 (oi (i:=j) ?_);simp[qK,b,a]
def ec.bM(h:ec es clock g)(v:Value){i:Nat}{e:MapEntry}(hi:es[i]?=some e)(U:e.key=key k):ec (es.modify i λe=>{e with key:=key k,val:=v}) clock (λj=>if j=k then some v else g j):=by
 have n:e∈es.toList:=oj.2 (oi hi)
 have m:∀x,es[i]?=some x->({x with key:=key k,val:=v}:MapEntry).key=x.key:=by intro x c;rw[hi]at c;cases c;exact U.symm
 refine⟨stamped_modify h.st i _ (λ_ _=>rfl) λx _ c=>m x c,isKey_modify h.keys i _ m,λj x=>?_⟩;simp only[GB hi h.st.2.1];by_cases d:j=k
 ·subst d
  simp only[eb];constructor
  ·intro c;cases c;exact⟨_,.inl rfl,rfl,rfl⟩
  ·rintro⟨f,rfl|⟨h1,a⟩,b,l⟩
   ·rw[<-l]
   ·exact absurd (h.uniq h1 n (b.trans U.symm)) a
 ·simp only[aj d]
  rw[h.rep j x];constructor
  ·rintro⟨f,h1,a,b⟩
   refine⟨f,.inr ⟨h1,?_⟩,a,b⟩;rintro rfl;rw[U]at a;simp only[key,Value.int.injEq,nB]at a;exact d a.symm
  ·rintro⟨f,rfl|⟨h1,a⟩,b,l⟩
   ·simp only[key,Value.int.injEq,nB]at b;exact absurd b.symm d
   ·exact⟨f,h1,b,l⟩
def ec.same(h:ec es clock g)(U:∀x∈es.toList,x.key≠key k):ec es clock (λj=>if j=k then none else g j):=by
 refine⟨h.st,h.keys,λj x=>?_⟩;by_cases a:j=k
 ·subst a
  simp only[eb];refine⟨λh=>(by cases h),?_⟩;rintro⟨e,he,h1,_⟩;exact absurd h1 (U e he)
 ·simp only[aj a]
  exact h.rep j x
def ec.del(h:ec es clock g){i:Nat}{e:MapEntry}(hi:es[i]?=some e)(U:e.key=key k):ec (es.eraseIdxIfInBounds i) clock (λj=>if j=k then none else g j):=by
 have m:i<es.size:=(gF.1 hi).1;have n:e∈es.toList:=oj.2 (oi hi)
 have hl:(es.eraseIdxIfInBounds i).toList=es.toList.eraseIdx i:=by unfold Array.eraseIdxIfInBounds;rw[dif_pos m,Array.toList_eraseIdx]
 have l:∀x,x∈(es.eraseIdxIfInBounds i).toList↔x∈es.toList/\x≠e:=by
  intro x;rw[hl,List.mem_eraseIdx_iff_getElem?];constructor
  ·rintro⟨j,o,a⟩
   refine⟨cr a,?_⟩;rintro rfl;have p:j<es.size:=by simpa using(bY.1 a).1
   apply o;apply(zf (xs:=es.toList.map (·.born)) (h₀:=by simpa using p) (h₁:=by simpa using m) h.st.2.1).1;have q:es[j]=x:=by simpa using(bY.1 a).2
   have r:es[i]=x:=(gF.1 hi).2;simp[q,r]
  ·rintro⟨d,s⟩
   obtain⟨j,a⟩:=zi.1 d;refine⟨j,?_,a⟩;rintro rfl;simp only[y1]at a;rw[hi]at a;cases a;exact s rfl
 refine⟨stamped_erase h.st i,λx d=>h.keys x ((l x).1 d).1,λj x=>?_⟩;by_cases a:j=k
 ·subst a
  simp only[eb];refine⟨λh=>(by cases h),?_⟩;rintro⟨c,d,h1,_⟩;obtain⟨b,f⟩:=(l c).1 d;exact absurd (h.uniq b n (h1.trans U.symm)) f
 ·simp only[aj a]
  rw[h.rep j x];constructor
  ·rintro⟨c,h1,b,f⟩
   refine⟨c,(l c).2 ⟨h1,?_⟩,b,f⟩;rintro rfl;rw[U]at b;simp only[key,Value.int.injEq,nB]at b;exact a b.symm
  ·rintro⟨c,h1,b,f⟩
   exact⟨c,((l c).1 h1).1,b,f⟩
end
def xP:Obj->Bool
 | .cells .. =>false
 |_=>true
section
variable {P:Program}
def lu{r:Nat}{o:Obj}{K:Obj->HP}{σ:Heap}(h:σ[r]?=some o)(k:K o σ)(a:xP o=true:=by rfl):aH P (getObj r) K σ:=dD o (λw hw=>by cases o<;>simp_all [getObj,Sem.run,xP]) k
def pe{r:Nat}{o a:Obj}{K:Unit->HP}{σ:Heap}(h:σ[r]?=some o)(k:K () (σ.setIfInBounds r a))(b:xP o=true:=by rfl):aH P (setObj r a) K σ:=by intro w hw;refine⟨(),{w with heap:=w.heap.setIfInBounds r a},?_,⟨rfl,rfl,rfl⟩,by rw[<-hw]at k;exact k⟩;cases o<;>simp_all [setObj,Sem.run,xP]
def HR{o:Obj}{K:Nat->HP}{σ:Heap}(h:K σ.size (σ.push o)):aH P (newObj o) K σ:=by intro w hw;refine⟨_,_,run_newObj P w _,⟨rfl,rfl,rfl⟩,?_⟩;rw[<-hw]at h;exact h
def HQ{n:Nat}{K:Nat->HP}{σ:Heap}(a:0<n)(h:∀i,i<n->K i σ):aH P (choose (.mapNext n)) K σ:=by
 intro w hw;by_cases h1:n<=1
 ·refine⟨0,w,?_,⟨rfl,rfl,rfl⟩,by rw[hw];exact h 0 a⟩
  simp[choose,Sem.run,Question.forced,h1]
 ·refine⟨_,{w with drawn:=w.drawn+1},?_,⟨rfl,rfl,rfl⟩,h ((Question.mapNext n).cut (w.tape w.drawn (.mapNext n))) ?_|>λh=>by rw[<-hw]at h;exact h⟩
  ·simp[choose,Sem.run,Question.forced,h1]
  ·simp only[Question.cut];exact pJ _ a
def Own.gL{B:Heap}{H:au}{r:Nat}{x:Obj}{σ:Heap}(o:Own B (ob r x::H) σ):σ[r]?=some x:=by obtain⟨l1,rfl,h⟩:=o.head;exact(h (r,x) (by simp)).2
def Own.pk{B:Heap}{H:au}{r:Nat}{x y:Obj}{σ:Heap}(o:Own B (ob r x::H) σ):Own B (ob r y::H) (σ.setIfInBounds r y):=by
 obtain⟨l,⟨l1,l2,b,rfl,h⟩,i,hc⟩:=o.own;have d:=hc (r,x) (b.mem_iff.2 (by simp));have f:((r,x)::l2|>.map (·.1)).Nodup:=(b.map (·.1)).nodup i;have j:r<σ.size:=(gF.1 d.2).1;refine⟨λk U=>?_,by simpa using o.size,(r,y)::l2,⟨[(r,y)],l2,.refl _,rfl,h⟩,by simpa using f,?_⟩
 ·have:¬r=k:=by have:=d.1;simp at this;omega
  simp[r3,this];exact o.base k U
 ·intro c a
  rcases cL.1 a with rfl|a
  ·exact⟨d.1,by simp[j]⟩
  ·have g:=hc c (b.mem_iff.2 (by simp[a]))
   refine⟨g.1,?_⟩
   have:¬r=c.1:=by intro e;simp only[cX,fg]at f;exact f.1 (bP.2 ⟨c,a,e.symm⟩)
   simp[r3,this];exact g.2
end
def IM(r:Nat)(g:Int->Option Value):bc:=eF λes:Array MapEntry=>eF λclock:Nat=>fa (ec es clock g) (ob r (.map es clock))
section
variable {P:Program}{B:Heap}{H:au}{r:Nat}{g:Int->Option Value}{k:Int}{mt kt et:TypeId}{K:aK}{p:HP}
def qR(t:∀es clock,ec es clock g->T B (ob r (.map es clock)::H) p):T B (IM r g::H) p:=gg λes=>gg λclock=>gz λh=>t es clock h
def kg{es:Array MapEntry}{clock:Nat}(h:ec es clock g)(t:T B (IM r g::H) p):T B (ob r (.map es clock)::H) p:=ic h (gI (q:=λclock=>fa (ec es clock g) (ob r (.map es clock))) clock (gI (q:=λes=>eF λclock=>fa (ec es clock g) (ob r (.map es clock))) es t))
def zH{f:Nat->HP}(t:∀r,T B (IM r (λ_=>none)::H) (f r)):T B H (hE f):=Kb λr=>kg ec.empty (t r)
def J5(hm:P.underlying mt=some (.map kt et))(U:P.underlying kt=some (.int .i64))(hz:hO P et=true)(h0:∀z:Value,g k=none->z.cells=zc P et->T B (IM r g::H) (K z))(h1:∀v,g k=some v->T B (IM r g::H) (K v)):T B (IM r g::H) (aH P (Instr.lookup mt (.map (some r)) (.int .i64 k) false) K):=by
 refine qR λes clock hr=>?_;intro σ o;unfold Instr.lookup;refine aX (gV hm ?_);refine aX (lu o.gL (aX (cv ?_)));refine aX (dD () (λw _=>run_checkKey U (by rfl) _ _) ?_);rcases hr.find k with⟨b,a,c⟩|⟨j,e,a,c,f,d⟩
 ·refine aX (dD none (λw _=>run_findKey U a) ?_)
  refine aX (qD hz λz hz=>aX (cv (cv ?_)));exact kg hr (h0 z b hz) σ o
 ·refine aX (dD (some (j,e.val)) (λw _=>run_findKey U a) ?_)
  refine aX (cv (cv ?_));exact kg hr (h1 _ d) σ o
def DR{v:Value}{K:Unit->HP}(hm:P.underlying mt=some (.map kt et))(U:P.underlying kt=some (.int .i64))(t:T B (IM r (λj=>if j=k then some v else g j)::H) (K ())):T B (IM r g::H) (aH P (Instr.mapUpdate mt (.map (some r)) (.int .i64 k) v) K):=by
 refine qR λes clock hr=>?_;intro σ o;unfold Instr.mapUpdate;refine aX (gV hm ?_);refine aX (lu o.gL ?_);refine aX (dD () (λw _=>run_checkKey U (by rfl) _ _) ?_);rcases hr.find k with⟨f,b,a⟩|⟨j,e,b,a,c,h⟩
 ·refine aX (dD none (λw _=>run_findKey U b) ?_)
  exact pe o.gL (kg (hr.put v a) t _ o.pk)
 ·refine aX (dD (some (j,e.val)) (λw _=>run_findKey U b) ?_)
  simp only[a,iy,fx,c];refine aX (dD (key k) (λw _=>run_keyThatStays (d:= .int .i64) (by rfl)) ?_);exact pe o.gL (kg (hr.bM v a c) t _ o.pk)
def DI{rt:TypeId}(hm:P.underlying mt=some (.map kt et))(U:P.underlying kt=some (.int .i64))(t:T B (IM r (λj=>if j=k then none else g j)::H) (K (.tuple #[]))):T B (IM r g::H) (aH P (Builtin.delete_ #[mt,kt] rt #[.map (some r),.int .i64 k]) K):=by
 refine qR λes clock hr=>?_;intro σ o;unfold Builtin.delete_;simp only[dE,jI,mw];refine aX (gV hm ?_);refine aX (lu o.gL ?_);refine aX (dD () (λw _=>run_checkKey U (by rfl) _ _) ?_);rcases hr.find k with⟨d,a,b⟩|⟨j,e,a,b,c,f⟩
 ·refine aX (dD none (λw _=>run_findKey U a) ?_)
  refine aX (pe o.gL (cv ?_));exact kg (hr.same b) t _ o.pk
 ·refine aX (dD (some (j,e.val)) (λw _=>run_findKey U a) ?_)
  refine aX (pe o.gL (cv ?_));exact kg (hr.del b c) t _ o.pk
structure zu(es:Array MapEntry)(l:List MapEntry)(ks:aN):Prop where
 mem:∀e∈l,e∈es.toList
 born:(l.map (·.born)).Nodup
 keys:l.map (·.key)=ks.map key
def lO(r it:Nat)(g:Int->Option Value)(ks:aN):bc:=
 eF λes:Array MapEntry=>eF λclock:Nat=>eF λl:List MapEntry=>fa (ec es clock g/\zu es l ks) (eA [ob it (.mapIter (some r) clock (l.map (·.born)).toArray clock),ob r (.map es clock)])
def zv{it:Nat}{ks:aN}(t:∀es clock l,ec es clock g->zu es l ks->T B (ob it (.mapIter (some r) clock (l.map (·.born)).toArray clock)::ob r (.map es clock)::H) p):T B (lO r it g ks::H) p:=gg λes=>gg λclock=>gg λl=>gz λ⟨h1,a⟩=>lS (t es clock l h1 a)
def wC{it:Nat}{ks:aN}{es:Array MapEntry}{clock:Nat}{l:List MapEntry}(h1:ec es clock g)(a:zu es l ks)(t:T B (lO r it g ks::H) p):T B (ob it (.mapIter (some r) clock (l.map (·.born)).toArray clock)::ob r (.map es clock)::H) p:=by intro σ o;obtain⟨ch,⟨l1,l2,b,c,l3,l8,d,e,f⟩,h⟩:=o.own;refine t σ ⟨o.base,o.size,ch,⟨l1++l3,l8,?_,⟨es,clock,l,⟨h1,a⟩,l1,l3,.refl _,c,l3,[],by simp,e,trivial⟩,f⟩,h⟩;exact b.trans ((d.append_left l1).trans (by rw[el]))
def DV{o:Obj}{f:Nat->HP}(t:∀b,T B (ob b o::H) (f b)):T B H (aH P (newObj o) f):=λσ ow=>HR (t σ.size _ (ow.push rfl))
def Ki(hm:P.underlying mt=some (.map kt et))(t:∀it,T B (lO r it g []::H) (K (.pointer (some ⟨it,0,none⟩)))):T B (IM r g::H) (aH P (Instr.range mt (.map (some r))) K):=by refine qR λes clock hr=>?_;intro σ o;unfold Instr.range;refine aX (gV hm ?_);refine aX (lu o.gL (aX (cv ?_)));refine aX (DV (λit=>?_) σ o);intro σ o;apply cv;exact wC (l:=[]) hr ⟨by simp,by simp,rfl⟩ (t it) σ o
def Kc{it:Nat}{ks:aN}{ty:TypeId}{f0:HP}{f1:Value->aK}(h0:(∀k v,g k=some v->k∈ks)->(∀k,k∈ks->∃v,g k=some v)->ks.Nodup->T B (lO r it g ks::H) f0)(h1:∀k v,g k=some v->k∉ks->T B (lO r it g (ks++[k])::H) (f1 (.int .i64 k) v)):T B (lO r it g ks::H) (mY P (.pointer (some ⟨it,0,none⟩)) false ty f0 f1):=by
 refine zv λes clock l hr c=>?_;intro σ o;have w:=(o.perm (cA _ _ _)).gL;unfold mY Instr.next
 refine aX (lu o.gL ?_);refine aX (lu w ?_);have n:=hr.st.1
 have y:((l.map (·.born)).toArray.isEmpty=true\/es.isEmpty=true)\/¬(es.all (λe=>decide (e.born>=clock))=true):=by
  rcases De es.size with h|h
  ·exact .inl (.inr (by simpa using h))
  ·refine .inr λz=>?_
   have p:=Array.all_eq_true.1 z 0 h;have:=n (es[0]) (oj.2 (by simp));simp at p;omega
 have A:(!((l.map (·.born)).toArray.isEmpty)&&!es.isEmpty&&es.all λe=>decide (e.born>=clock))=false:=by
  rcases y with(h|h)|h
  ·simp[h]
  ·simp[h]
  ·simp only[CS]at h;simp[h]
 simp only[A,gb,ep];generalize C:(es.filter λe=>!((l.map (·.born)).toArray).contains e.born)=left
 have m:∀e,e∈left↔e∈es.toList/\e.born∉l.map (·.born):=by intro e;rw[<-C,Array.mem_filter];simp
 have hold:left.filter (λe=>decide (e.born<clock))=left:=by rw[Array.filter_eq_self];intro e he;exact cM (n e ((m e).1 he).1)
 have D:left.filter (λe=>decide (e.born>=clock))=#[]:=by rw[Array.filter_eq_empty_iff];intro e he;have:=n e ((m e).1 he).1;simp;omega
 rw[hold,D]
 have E:∀e,e∈es.toList->∃k,e.key=key k/\g k=some e.val:=by intro e he;obtain⟨k,U⟩:=IsKey.int (hr.keys e he);exact⟨k,U,(hr.rep k e.val).2 ⟨e,he,U,rfl⟩⟩
 have q:∀k,k∈ks↔∃e∈l,e.key=key k:=by
  intro k
  have p:key k∈ks.map key↔k∈ks:=by simp[key]
  rw[<-p,<-c.keys,bP]
 by_cases he:left.isEmpty=true
 ·have hle:left=#[]:=by simpa using he
  subst hle;simp only[Array.isEmpty_empty,eb];refine aX (HQ (by simp) λi hi=>?_);have F:i=0:=by simp at hi;omega
  subst F;simp;refine cv (.inl ⟨rfl,?_⟩);refine wC hr c (h0 ?_ ?_ ?_) σ o
  ·intro k v s
   obtain⟨e,he,U,_⟩:=(hr.rep k v).1 s;rcases Classical.em (e.born∈l.map (·.born))with h|h
   ·obtain⟨t,j,d⟩:=bP.1 h
    have:=hr.Cv (c.mem t j) he d;subst this;exact(q k).2 ⟨_,j,U⟩
   ·exact absurd ((m e).2 ⟨he,h⟩) (by simp)
  ·intro k U
   obtain⟨e,he,u⟩:=(q k).1 U;exact⟨_,(hr.rep k e.val).2 ⟨e,c.mem e he,u,rfl⟩⟩
  ·have:(ks.map key).Nodup:=by rw[<-c.keys];apply kR.2;have d:l.Pairwise λa b=>a.born≠b.born:=kR.1 c.born;apply d.imp_of_mem;intro a b ha G I U;exact I (by rw[hr.uniq (c.mem a ha) (c.mem b G) U])
   exact(kR.1 this).imp (λh e=>h (by rw[e]))
 ·have hle:left.isEmpty=false:=by simpa using he
  rw[hle];simp only[gb,ep];have J:((#[]:Array (Option MapEntry))++(left++#[]).map some)=left.map some:=by simp
  rw[J]
  have K:0<left.size:=by
   rcases De left.size with h|h
   ·simp[h]at hle;simp_all
   ·exact h
  refine aX (HQ (by simpa using K) λi hi=>?_);have hi:i<left.size:=by simpa using hi
  have L:(left.map some)[i]?=some (some left[i]):=by simp[hi]
  rw[L];have f:=(m left[i]).1 (by simp);generalize left[i]=e at f;obtain⟨k,U,s⟩:=E e f.1;refine aX (pe o.gL (cv (.inr ⟨e.key,e.val,rfl,?_⟩)));have M:((l.map (·.born)).toArray.push e.born)=((l++[e]).map (·.born)).toArray:=by simp
  rw[M,U];refine wC hr ⟨?_,?_,?_⟩ (h1 k e.val s ?_) _ o.pk
  ·intro x N
   rcases dO.1 N with h|h
   ·exact c.mem x h
   ·simp at h;subst h;exact f.1
  ·rw[eY]
   refine dP.2 ⟨c.born,by simp,?_⟩;intro a ha b d;simp at d;subst d;rintro rfl;exact f.2 ha
  ·simp[c.keys,U]
  ·intro O
   obtain⟨t,j,u⟩:=(q k).1 O;have:=hr.uniq (c.mem t j) f.1 (u.trans U.symm);subst this;exact f.2 (bP.2 ⟨_,j,rfl⟩)
def JT{it:Nat}{ks:aN}{k:Int}{v:Value}{f:Value->aK}(h:g k=some v)(t:T B (lO r it g (ks++[k])::H) (f (.int .i64 k) v)):T B (lO r it g (ks++[k])::H) (k4 P (.pointer (some ⟨it,0,none⟩)) f):=by
 refine zv λes clock l hr a=>?_;intro σ o;have i:=(o.perm (cA _ _ _)).gL
 have hl:∃l0 e,l=l0++[e]/\e.key=key k:=by
  have U:=a.keys;rw[eY,cX,ot]at U;obtain⟨l0,l1,rfl,h1,b⟩:=List.map_eq_append_iff.1 U;obtain⟨e,rest,rfl,c,j⟩:=List.map_eq_cons_iff.1 b;have:rest=[]:=by simpa using j
  subst this;exact⟨l0,e,rfl,c⟩
 obtain⟨l0,e,rfl,U⟩:=hl;have d:e∈es.toList:=a.mem e (by simp)
 have m:e.val=v:=by have:=(hr.rep k e.val).2 ⟨e,d,U,rfl⟩;rw[h]at this;cases this;rfl
 unfold k4 Instr.entry;refine aX (lu o.gL ?_);have n:((l0++[e]).map (·.born)).toArray.back?=some e.born:=by simp
 simp only[n];refine aX (lu i ?_);simp only[bne_self_eq_false,gb,ep]
 have p:es.find? (λx=>x.born==e.born)=some e:=by
  cases hf:es.find? (λx=>x.born==e.born)with
  |none=>have:=Array.find?_eq_none.1 hf e (oj.1 d);simp at this
  |some x=>have b:=Array.find?_some hf;have c:=Array.mem_of_find?_eq_some hf;rw[hr.Cv (oj.2 c) d (by simpa using b)]
 rw[p];refine cv ⟨e.key,e.val,rfl,?_⟩;rw[U,m];exact wC hr a t σ o
def Jr{it:Nat}{ks:aN}(t:T B (IM r g::H) p):T B (lO r it g ks::H) p:=zv λes clock l hr a=>dY (kg hr t)
end
end
section
def bv(l:List UInt8):az:=l.map λb=> .int .u8 b.toNat
@[simp] theorem Lr (l:List UInt8):(bv l).length=l.length:=by simp[bv]
theorem En{l:List UInt8}{i:Nat}{b:UInt8}(h:l[i]?=some b):(bv l)[i]?=some (.int .u8 b.toNat):=by simp[bv,h]
def zW(l:List UInt8):∀v∈bv l,v.oneCell'=true:=by intro v a;obtain⟨z,_,rfl⟩:=bP.1 a;rfl
def zV(l:List UInt8):bv l=iv .u8 (l.map λb=>(b.toNat:Int)):=by simp[bv,iv]
def LF(s:ByteArray):sC s=bv s.data.toList:=rfl
def te(l:List UInt8):(⟨l.toArray⟩:ByteArray).size=l.length:=by simp[ByteArray.size]
def G1(l:List UInt8)(i j:Nat):(⟨l.toArray⟩:ByteArray).extract i j=⟨((l.take j).drop i).toArray⟩:=by apply ByteArray.ext;apply gE;simp[ByteArray.data_extract,List.extract_eq_take_drop,List.drop_take]
section
variable {P:Program}{B:Heap}{H:au}{K:aK}
def JM{src dst e:TypeId}{q:av}{l:List UInt8}{n c:Nat}(hs:P.underlying src=some (.slice e))(he:P.underlying e=some (.int .u8))(hd:P.underlying dst=some .string)(hr:bF B H q (bv l))(d:q.isSome=true)(f:n=l.length)(t:T B H (K (.string ⟨l.toArray⟩))):T B H (aH P (convert src dst (.slice q n c)) K):=by
 subst f;intro σ o;obtain⟨a,rfl⟩:=h9.1 d;rcases hr σ o with⟨h,_⟩|⟨a',h,g⟩
 ·cases h
 cases h;refine dD (.string ⟨l.toArray⟩) (λw hw=>run_convert_bytes_back w src dst e a c l hs he hd λj b=>?_) (t σ o);rw[k1,hw,g j (by simpa using b)];exact En (bj b)
def E7{e:TypeId}{k:IntKind}(he:P.underlying e=some (.int k))(w:World)(d:Nat){xs ys:aw}{f g:Nat->Int}:∀(is:List Nat),(∀i∈is,xs[i]?=some (.int k (f i))/\ys[i]?=some (.int k (g i)))->(Op.eqItems (d+1) e 1 xs ys is).run P w= .ok (is.all λi=>f i==g i) w
 |[],_=>by simp[Op.eqItems]
 |i::is,h=>by
  obtain⟨h1,b⟩:=h i (by simp);have a:(TK.of P e).isAgg=false:=by simp[TK.of,he,TK.isAgg]
  have hu:(P.underlying e).isSome=true:=by simp[he]
  simp only[Op.eqItems,Sem.run_bind,iP,xY hu a h1 w,xY hu a b w,Result.andThen_ok,run_equalIn_int w d e k k (f i) (g i) he,y7];cases l:(f i==g i)
  ·simp
  ·simp only[Bool.not_true,gb,ep,ff]
   exact E7 he w d is λj c=>h j (by simp[c])
def JV{t e:TypeId}{k:IntKind}{n:Nat}{x y:Operand}{zs ws:aN}(hm:P.eqGuardType P.depth t=false)(b:P.underlying t=some (.array n e))(he:P.underlying e=some (.int k))(hi:(P.info? e).isSome=true)(hs:P.cellsOf e=1)(hz:zs.length=n)(hw:ws.length=n)(h:T B H (K (.bool (decide (zs=ws))))):T B H (aH P (do eqGuard .eql t x y (.agg (iv k zs).toArray) (.agg (iv k ws).toArray);binOp .eql t (.agg (iv k zs).toArray) (.agg (iv k ws).toArray)) K):=by
 obtain⟨info,c⟩:=h9.1 hi;refine qZ (.bool (decide (zs=ws))) (λσ o w d=>?_) h
 rw[Sem.run_bind,run_eqGuard_agg w .eql t x y _ _ hm,Result.andThen_ok,run_eql_struct,run_equalIn_array w 9999 _ _ b c,hs,
  E7 he w 9998 (List.range n) λi hi=>?_,Result.andThen_ok]
 ·congr 2
  have key:((List.range n).all λi=>zs.getD i 0==ws.getD i 0)=true↔zs=ws:=by
   rw[iq];constructor
   ·intro h
    apply ji;intro i;by_cases hi:i<n
    ·have:=h i (ou.2 hi)
     have h1:zs[i]?=some zs[i]:=bj (by omega);have a:ws[i]?=some ws[i]:=bj (by omega);simp only[List.getD,h1,a,fx,hQ]at this;rw[h1,a,this]
    ·rw[iN (by omega),iN (by omega)]
   ·rintro rfl i _
    simp
  by_cases h:zs=ws
  ·rw[key.2 h];simp[h]
  ·have:=mt key.1 h
   simp only[CS]at this;rw[this];simp[h]
 ·have hi:=ou.1 hi
  have h1:zs[i]?=some zs[i]:=bj (by omega);have a:ws[i]?=some ws[i]:=bj (by omega);simp[iv,List.getD,h1,a]
def Tn{z:Value}{cs:aw}(h:z.cells=cs)(hs:cs.size≠1):z= .agg cs:=by subst h;cases z<;>first|rfl|exact absurd rfl hs
end
end
section
section
variable {P:Program}{B:Heap}{H:au}
def Kk{p:av}{ys:az}(h:bF B H p ys){n:Int}{l i s j:Nat}(b:n=(i:Int))(hl:i<l){k:IntKind}{x:Int}{f:Int->HP}(hc:ys[i*s+j]?=some (.int k x))(t:T B H (f x)):T B H (ay p λa=>aP ((0:Int)<=n/\n<(l:Int)) (bA k (Addr.add (Addr.add a (n.toNat*s)) j) f)):=by subst b;have hi:i*s+j<ys.length:=(bY.1 hc).1;refine oI h (by omega) λa ha=>ba ⟨by omega,by omega⟩ ?_;subst ha;rw[aZ,add_add];exact uu h hc t
def Ke{q:av}{s l c i j:Nat}{n:Int}{xs:az}{v:Value}{k:HP}(g:n=(i:Int))(hi:i<l)(w:i*s+j<xs.length)(h:v.oneCell'=true)(t:T B (ah s q l c (xs.set (i*s+j) v)::H) k):T B (ah s q l c xs::H) (ay q λa=>aP ((0:Int)<=n/\n<(l:Int)) (st (Addr.add (Addr.add a (n.toNat*s)) j) v k)):=by
 subst g;refine qY (λh0 h1 d f=>by omega) λb rest m p r hlen=>?_;subst m;refine nE (ba ⟨by omega,by omega⟩ ?_);rw[aZ,aR,aR];apply eE (by simp;omega) h;intro σ o;obtain⟨ch,⟨l1,l2,u,h1,d⟩,f⟩:=o.own;refine t σ ⟨o.base,o.size,ch,⟨l1,l2,u,⟨by simpa using p,r,.inr ⟨b,rest,rfl,by simpa using hlen,?_⟩⟩,d⟩,f⟩
 have e:(xs++rest).toArray.setIfInBounds (0+i*s+j) v=(xs.set (i*s+j) v++rest).toArray:=by simp only[bI,jK];rw[pH _ _ (by omega)]
 rw[e]at h1;exact h1
end
end
def lo(l:Nat)(ro:Loop)(st:LoopState)(a:Option Code):bc:=ob l (.loop {ro with state:=st,pending:=a})
section
variable {P:Program}{B:Heap}{H:au}
def Own.td{b:Nat}{o:Obj}{σ:Heap}(ow:Own B (ob b o::H) σ):σ[b]?=some o/\B.size<=b:=by obtain⟨l1,rfl,h⟩:=ow.head;have:=h (b,o) (by simp);exact⟨this.2,this.1⟩
def Own.vI{b:Nat}{o a:Obj}{σ:Heap}(ow:Own B (ob b o::H) σ):Own B (ob b a::H) (nN σ b a):=by
 obtain⟨l,⟨l1,l2,f,rfl,j⟩,m,hc⟩:=ow.own;have g:=hc (b,o) (f.mem_iff.2 (by simp));have h:((b,o)::l2|>.map (·.1)).Nodup:=(f.map (·.1)).nodup m;have n:b<σ.size:=(gF.1 g.2).1;have other:∀k,k≠b->(nN σ b a)[k]?=σ[k]?:=λk U=>by simp[nN,vY (Ne.symm U)]
 refine⟨λk U=>?_,by simp[nN];exact ow.size,(b,a)::l2,⟨[(b,a)],l2,.refl _,rfl,j⟩,by simpa using h,?_⟩
 ·rw[other k (by have:=g.1;simp at this;omega)];exact ow.base k U
 ·intro c d
  rcases cL.1 d with rfl|d
  ·exact⟨g.1,by simp[nN,n]⟩
  ·have i:=hc c (f.mem_iff.2 (by simp[d]))
   refine⟨i.1,?_⟩;rw[other _ ?_];exact i.2;intro e;simp only[cX,fg]at h;exact h.1 (bP.2 ⟨c,d,e⟩)
def oC{l:Nat}{ro:Loop}{a:Option Code}{k:HP}(t:T B (lo l ro .busy a::H) k):T B (lo l ro .ready a::H) (i7 l k):=λσ o=>⟨_,o.td.1,rfl,t _ o.vI⟩
def DJ{l:Nat}{ro:Loop}{st:LoopState}{a j:Option Code}{k:HP}(t:T B (lo l ro (if j.isNone then .ready else .done) j::H) k):T B (lo l ro st a::H) (fp l j k):=λσ o=>⟨_,o.td.1,t _ o.vI⟩
def oD{l:Nat}{ro:Loop}{st:LoopState}{a:Option Code}{k:HP}(t:T B (lo l ro .ready none::H) k):T B (lo l ro st a::H) (fp l none k):=DJ t
def JS{l:Nat}{ro:Loop}{st:LoopState}{a:Option Code}{k:HP}(t:T B (lo l ro .done (some .ret)::H) k):T B (lo l ro st a::H) (fp l (some .ret) k):=DJ t
def qU{l:Nat}{ro:Loop}{st:LoopState}{a b:HP}(c:st≠ .busy)(t:T B H a):T B (lo l ro st none::H) (w8 l a b):=λσ o=>⟨_,o.td.1,c,.inl ⟨rfl,t _ o.vI.drop⟩⟩
def JR{l:Nat}{ro:Loop}{st:LoopState}{b a:HP}(c:st≠ .busy)(t:T B H a):T B (lo l ro st (some .ret)::H) (w8 l b a):=λσ o=>⟨_,o.td.1,c,.inr ⟨rfl,t _ o.vI.drop⟩⟩
def oK{r:Nat}{k:HP}(t:T B H k):T B (ob r (.deferred (some []))::H) (h5 r k):=λσ o=>⟨o.td.1,t _ o.vI.drop⟩
def oL{l:Nat}{ro:Loop}{st:LoopState}{a:Option Code}{R:Nat->az->aK->HP}{vs:az}{K:aK}(hr:mE P ro R)(t:T B (lo l ro st a::H) (R l vs K)):T B (lo l ro st a::H) (ga P l #[] #[] vs K):=λσ o=>hr st a l vs K σ o.td.1 (t σ o)
def pR{R:Nat->az->aK->HP}{a:FuncId}{first captured:aw}{b c:Nat->HP}(d:fW P a=true)(h:∀(ro:Loop) (r l:Nat),mE P ro R->T B (lo l ro .ready none::ob r (.deferred (some []))::H) (ad P a (first.toList++[Value.func (.yield l) #[] #[]]++captured.toList).toArray λ_=>w8 l (b r) (c r))):T B H (n5 P R (.func (.func a) first captured) b c):=by intro σ o;refine⟨a,first,captured,rfl,d,λro hr=>?_⟩;have e:Own B (ob σ.size (.deferred (some []))::H) (σ.push (.deferred (some []))):=o.push rfl;have f:=e.push (p:=lo (σ.size+1) ro .ready none) (ob:= .loop {ro with state:= .ready,pending:=none}) (by simp[lo,XS.ob]);exact h ro σ.size (σ.size+1) hr _ f
inductive Sub:au->au->Prop where
 |refl {H:au}:Sub H H
 |cons {q:bc} {H H0 H':au}:lP q H H0->Sub H0 H'->Sub H (q::H')
 |drop {q:bc} {H H':au}:Sub H H'->Sub (q::H) H'
def Sub.sat{H H':au}(h:Sub H H'):∀{l:List Chunk},Sat H l->Sat H' l:=by
 induction h with
 |refl=>exact λh=>h
 |cons d _ a=>intro l hl;obtain⟨l1,l2,b,h1,c⟩:=Sat.Hf d.perm hl;exact⟨l1,l2,b,h1,a c⟩
 |drop _ a=>rintro l ⟨l1,l2,b,h1,c⟩;exact(a c).mono l1|>.perm b.symm
def q0{H':au}{p:HP}(h:Sub H H')(t:T B H' p):T B H p:=λσ o=>t σ ⟨o.base,o.size,let⟨l,h1,a⟩:=o.own;⟨l,h.sat h1,a⟩⟩
end
