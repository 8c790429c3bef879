/- Lemmas that lead to TopApart (their names made short by a program); no condition. -/
import Derived.WalkKit
import Derived.OrdersIn
import Derived.TacticsIn
import Derived.RangeFuncLeaves
import Derived.KernelRfl
set_option linter.all false
def bJ:=@decide_eq_true_eq
def fx:=@Option.getD_some
def eb:=@if_true
def gb:=@Bool.false_eq_true
def ep:=@if_false
def ag:=@if_pos
def aj:=@if_neg
def tQ:=@List.Pairwise.map
def y6:=@List.Pairwise.and_mem
def bP:=@List.mem_map
def bj:=@List.getElem?_eq_getElem
def e6:=@List.getElem?_map
def ke:=@List.take_of_length_le
def C8:=@List.replicate_succ'
def gE:=@Array.ext'
def aZ:=@Int.toNat_natCast
def dE:=@List.getElem?_toArray
def bY:=@List.getElem?_eq_some_iff
def iN:=@List.getElem?_eq_none
def g':=@List.length_replicate
def cr:=@List.mem_of_getElem?
def pJ:=@Nat.mod_lt
def zo:=@Nat.lt_of_le_of_lt
def nA:=@Nat.zero_le
def hP:=@List.size_toArray
def eY:=@List.map_append
def my:=@List.pairwise_cons
def C2:=@List.find?_cons
def cL:=@List.mem_cons
def j':=@List.mem_cons_self
def iw:=@List.mem_cons_of_mem
def cX:=@List.map_cons
def kR:=@List.pairwise_map
def CW:=@Int.add_zero
def fv:=@List.length_take
def kN:=@List.length_drop
def ny:=@List.getElem?_take
def pF:=@List.getElem?_drop
def r8:=@List.getElem?_replicate
def vZ:=@Bool.and_eq_false_iff
def hg:=@decide_eq_false_iff_not
def b':=@List.length_append
def sa:=@List.length_singleton
def gx:=@List.getElem?_append_left
def mz:=@List.pairwise_iff_getElem
def iu:=@List.getElem?_append_right
def kS:=@Nat.sub_self
def eX:=@List.length_map
def jk:=@Nat.mul_le_mul_right
def wh:=@List.foldl_append
def kO:=@List.length_eq_zero_iff
def tR:=@List.dropLast_concat_getLast
def y8:=@List.countP_append
def y9:=@List.countP_singleton
def dP:=@List.nodup_append
def c8:=@List.length_cons
def eo:=@List.getD_eq_getElem?_getD
def zl:=@List.perm_ext_iff_of_nodup
def pG:=@List.mem_filter
def ou:=@List.mem_range
def wa:=@List.countP_eq_zero
def C0:=@List.countP_pos_iff
def cM:=@decide_eq_true
def cg:=@Bool.and_eq_true
def hQ:=@beq_iff_eq
def CQ:=@Bool.eq_iff_iff
def eK:=@List.getElem_mem
def bI:=@Nat.zero_add
def lN:=@Nat.le_trans
def r7:=@List.countP_le_length
def ix:=@List.take_length
def C4:=@List.getElem?_of_mem
def sg:=@of_decide_eq_true
def tP:=@Decidable.byContradiction
def zb:=@List.findIdx?_eq_some_iff_getElem
def ze:=@List.getElem?_zip_eq_some
def ns:=@Bool.not_eq_true'
def cP:=@decide_eq_false
def iO:=@List.set_cons_succ
def iP:=@Nat.mul_one
def jj:=@List.map_set
def el:=@List.append_assoc
def j9:=@List.append_nil
def iq:=@List.all_eq_true
def ua:=@Nat.zero_mul
def sf:=@List.take_zero
def lL:=@List.mem_flatMap
def jJ:=@List.not_mem_nil
def jm:=@or_false
def om:=@List.drop_of_length_le
def gH:=@List.length_nil
def CP:=@Bool.and_false
def ka:=@List.mem_or_eq_of_mem_set
def cA:=@List.Perm.swap
def CY:=@Int.tdiv_eq_ediv_of_nonneg
def y5:=@Int.tmod_eq_emod_of_nonneg
def ff:=@Bool.true_and
def v7:=@Bool.false_and
def Dg:=@Nat.pow_lt_pow_right
def Dh:=@Nat.testBit_two_pow
def jK:=@List.setIfInBounds_toArray
def hb:=@List.length_set
def CR:=@Bool.not_eq_false'
def CU:=@Bool.not_false
def y3:=@Bool.and_true
def ov:=@Nat.mod_eq_of_lt
def CX:=@Int.fdiv_eq_ediv_of_nonneg
def lI:=@List.eq_of_mem_replicate
def lK:=@List.getElem?_set
def qQ:=@Option.some.inj
def jl:=@decide_eq_decide
def zq:=@Option.map_none
def iy:=@Option.map_some
def qL:=@List.cons_append
def iQ:=@Nat.sub_zero
def kd:=@List.take_append_drop
def qP:=@Nat.min_eq_left
def r9:=@List.length_pos_iff
def dQ:=@Nat.le_refl
def qO:=@List.take_left'
def y':=@List.drop_drop
def za:=@List.drop_left'
def CV:=@Function.comp_def
def qN:=@List.getElem_of_mem
def fS:=@Int.le_refl
def zg:=@List.getElem_map
def Dc:=@List.take_sublist
def kP:=@List.mem_of_mem_take
def y7:=@List.all_cons
def lH:=@List.cons.injEq
def kT:=@and_true
def nB:=@true_and
def r6:=@List.countP_cons
def tZ:=@List.replicate_zero
def mu:=@List.Perm.cons
def tS:=@List.drop_append
def kQ:=@List.nil_append
def ji:=@List.ext_getElem?
def I7:=@List.countP_replicate
def mA:=@Nat.add_zero
def zm:=@List.sum_append
def jM:=@List.sum_cons
def nu:=@List.filter_cons_of_neg
def nw:=@List.filter_cons_of_pos
def wt:=@Nat.lt_or_ge
def nz:=@List.map_map
def tW:=@List.mem_of_mem_drop
def pE:=@List.find?_eq_none
def CN:=@Array.toList_map
def y2:=@Array.toList_range
def tU:=@List.getElem?_range
def iR:=@Option.some.injEq
def C6:=@List.getLast?_eq_some_getLast
def Jg:=@List.takeWhile_append_of_pos
def fg:=@List.nodup_cons
def v':=@List.append_of_mem
def ub:=@beq_eq_false_iff_ne
def kM:=@Array.length_toList
def qM:=@List.filter_eq_self
def I':=@List.filter_eq_nil_iff
def Di:=@Option.bind_some
def y0:=@Array.getElem?_eq_none
def oo:=@List.flatMap_append
def tY:=@List.perm_cons
def zk:=@List.perm_cons_erase
def tT:=@List.drop_eq_getElem_cons
def r4:=@Classical.not_not
def C9:=@List.reverse_cons
def oi:=@Array.mem_of_getElem?
def h9:=@Option.isSome_iff_exists
def wq:=@Nat.le_of_ble_eq_true
def Da:=@List.take_append_of_le_length
def wj:=@List.length_eraseIdx_of_lt
def I8:=@List.drop_append_of_le_length
def pI:=@List.set_append_right
def jL:=@List.set_cons_zero
def gw:=@List.flatMap_cons
def C3:=@List.flatMap_nil
def zi:=@List.mem_iff_getElem?
def tV:=@List.getElem?_set_self
def Jd:=@List.mem_of_mem_eraseIdx
def dO:=@List.mem_append
def oq:=@List.getElem?_set_ne
def mx:=@List.nodup_iff_pairwise_ne
def tX:=@List.nodup_nil
def fw:=@List.mem_singleton
def kf:=@Nat.le_succ
def zh:=@List.length_filter_le
def y4:=@Int.emod_lt_of_pos
def h8:=@List.map_congr_left
def jI:=@List.getElem?_cons_zero
def pK:=@Nat.succ_mul
def Je:=@List.pairwise_flatMap
def se:=@List.replicate_succ
def wo:=@List.zip_cons_cons
def mw:=@List.getElem?_cons_succ
def CZ:=@List.Nodup.not_mem_erase
def sd:=@List.mem_of_mem_erase
def wu:=@Prod.ext
def wb:=@List.filter_map
def ot:=@List.map_nil
def t':=@List.take_succ_cons
def I9:=@List.eraseIdx_cons_succ
def zr:=@Prod.mk.injEq
def Jl:=@Option.ne_none_iff_exists'
def we:=@List.findIdx?_eq_none_iff
def v8:=@Int.not_lt
def I2:=@Classical.byContradiction
def gF:=@Array.getElem?_eq_some_iff
def Ji:=@List.takeWhile_cons_of_pos
def Jh:=@List.takeWhile_cons_of_neg
def tN:=@Bool.or_eq_false_iff
def wi:=@List.foldl_cons
def qK:=@Array.getElem?_modify
def oj:=@Array.mem_toList_iff
def CL:=@Array.getElem?_eq_getElem
def C':=@List.take_append
def gd:=@Nat.add_mul
def I3:=@List.Pairwise.sublist
def zj:=@List.mem_of_getLast?
def r5:=@Int.toNat_of_nonneg
def tO:=@Bool.or_eq_true
def nt:=@List.filter_append
def yZ:=@And.intro
def r3:=@Array.getElem?_setIfInBounds
def I1:=@Array.size_setIfInBounds
def C5:=@List.getLast?_eq_getElem?
def zn:=@Nat.add_sub_cancel_left
def pH:=@List.set_append_left
def wg:=@List.find?_append
def zp:=@Nat.mod_eq_sub_mod
def C1:=@List.drop_eq_nil_of_le
def I6:=@List.contains_eq_any_beq
def Jb:=@List.getLast?_eq_some_iff
def Jf:=@List.takeWhile_append_dropWhile
def I5:=@List.Sublist.length_le
def Jj:=@List.takeWhile_sublist
def Jc:=@List.idxOf_lt_length_iff
def sc:=@List.mem_iff_getElem
def lJ:=@List.filterMap_cons
def I4:=@List.Perm.append_right
def wk:=@List.set_set
def Dj:=@forall_eq_or_imp
def CS:=@Bool.not_eq_true
def Df:=@Nat.mul_comm
def Dk:=@not_true_eq_false
def C7:=@List.mapM_cons
def I0:=@Array.mapM_eq_mapM_toList
def CO:=@Array.toList_setIfInBounds
def Dd:=@List.take_succ_eq_append_getElem
def Ja:=@List.getElem_set_self
def Db:=@List.take_set_of_le
def lM:=@Nat.eq_of_beq_eq_true
def y1:=@Array.getElem?_toList
def zd:=@List.getElem?_append
def CM:=@Array.getElem?_range
def oh:=@Array.getD_eq_getD_getElem?
def vY:=@Array.getElem?_setIfInBounds_ne
def IZ:=@Array.getElem?_append
def Jk:=@Option.bind_eq_some_iff
def De:=@Nat.eq_zero_or_pos
def zf:=@List.getElem_inj
namespace Go.bm
abbrev ed(xs:List Int):Prop:=xs.Pairwise (·<·)
def vA:∀{xs ys:List Int},ed xs->ed ys->(∀z,z∈xs↔z∈ys)->xs=ys
 |[],[],_,_,_=>rfl
 |[],y::ys,_,_,h=>absurd ((h y).2 (by simp)) (by simp)
 |x::xs,[],_,_,h=>absurd ((h x).1 (by simp)) (by simp)
 |x::xs,y::ys,b,c,h=>by
  rw[ed,my]at b c
  have e:x=y:=by
   have h1:=(h x).1 (by simp);have a:=(h y).2 (by simp);rcases cL.1 h1 with h1|h1
   ·exact h1
   ·rcases cL.1 a with a|a
    ·exact a.symm
    ·have:=b.1 y a;have:=c.1 x h1;omega
  subst e;congr 1;refine vA b.2 c.2 λz=>?_;constructor
  ·intro hz
   rcases cL.1 ((h z).1 (by simp[hz]))with e|d
   ·subst e;have:=b.1 z hz;omega
   ·exact d
  ·intro hz
   rcases cL.1 ((h z).2 (by simp[hz]))with e|d
   ·subst e;have:=c.1 z hz;omega
   ·exact d
def jw(x:Int):List Int->List Int
 |[]=>[x]
 |y::ys=>if x<y then x::y::ys else if x=y then y::ys else y::jw x ys
def nR{x z:Int}:∀{xs:List Int},z∈jw x xs↔z=x\/z∈xs
 |[]=>by simp[jw]
 |y::ys=>by
  unfold jw;split
  ·simp
  ·split
   ·rename_i h;subst h;simp
   ·simp only[cL,nR]
    constructor
    ·rintro(h|h|h)<;>simp[h]
    ·rintro(h|h|h)<;>simp[h]
def yl{x:Int}:∀{xs:List Int},ed xs->ed (jw x xs)
 |[],_=>by simp[jw,ed]
 |y::ys,h=>by
  unfold jw;have a:=h;rw[ed,my]at a;split
  ·rename_i b
   rw[ed,my];refine⟨λz hz=>?_,h⟩;rcases cL.1 hz with rfl|hz
   ·exact b
   ·have:=a.1 z hz;omega
  ·split
   ·exact h
   ·rename_i h1 c
    rw[ed,my];refine⟨λz hz=>?_,yl a.2⟩;rcases nR.1 hz with rfl|hz
    ·omega
    ·exact a.1 z hz
def mg{xs:List Int}(h:ed xs):xs.Nodup:=List.Pairwise.imp (λh=>by omega) h
def Yg{x:Int}{xs:List Int}(h:ed xs)(a:∀y∈xs,y<x):ed (xs++[x]):=by rw[ed,List.pairwise_append];exact⟨h,by simp,λy b z hz=>by simp at hz;subst hz;exact a y b⟩
def AT{x:Int}:∀{xs:List Int},x∉xs->(jw x xs).Perm (x::xs)
 |[],_=> .refl _
 |y::ys,h=>by
  unfold jw;split
  ·exact .refl _
  ·split
   ·rename_i e;subst e;simp at h
   ·exact((AT λa=>h (by simp[a])).cons y).trans (.swap _ _ _)
def vg{α:Type}:∀{l m:List α},l.Nodup->l⊆m->l.length<=m.length
 |[],_,_,_=>by simp
 |a::l,m,b,h=>by
  have ha:a∈m:=h (by simp);obtain⟨u,v,rfl⟩:=v' ha;rw[fg]at b
  have:=vg (l:=l) (m:=u++v) b.2 λx c=>by
   have h1:=h (iw _ c);have d:x≠a:=λe=>b.1 (e▸c);simp only[dO,cL]at h1⊢;rcases h1 with h1|h1|h1
   ·exact .inl h1
   ·exact absurd h1 d
   ·exact .inr h1
  simp only[c8,b']at*;omega
def nT:∀(n:Nat) {l:List Nat},l.Nodup->(∀x∈l,x<n)->l.length<=n
 |0,l,_,h=>by
  cases l with
  |nil=>simp
  |cons a l=>exact absurd (h a (by simp)) (by omega)
 |n+1,l,b,h=>by
  have h1:=nT n (b.erase n) λx c=>by
   have:=h x (sd c);have:x≠n:=λe=>by subst e;exact b.not_mem_erase c
   omega
  have:=List.length_erase (a:=n) (l:=l);split at this<;>omega
section
abbrev N3:=Int×Int×Int
def cj(l:List Nat):Int:=match l.getLast? with|some x=>(x:Int)|none=>-1
def bW:List Nat->Int
 |[]=>-1
 |x::_=>(x:Int)
def qj:cj []=-1:=rfl
def A1(l:List Nat)(x:Nat):cj (l++[x])=x:=by simp[cj]
def xz(l r:List Nat)(x:Nat):cj (l++x::r)=cj (x::r):=by
 simp[cj,List.getLast?_append];cases r with
 |nil=>simp
 |cons y r=>simp[List.getLast?_cons_cons];cases h:(y::r).getLast? with
  |none=>simp at h
  |some z=>simp
def A0{l:List Nat}:cj l<0↔l=[]:=by
 unfold cj
 cases h:l.getLast? with
 |none=>simp at h;simp[h]
 |some x=>
  constructor
  ·intro a;simp only at a;omega
  ·intro e;subst e;simp at h
def sY{l:List Nat}(h:l≠[]):∃(a:List Nat) (x:Nat),l=a++[x]/\cj l=(x:Int):=by refine⟨l.dropLast,l.getLast h,(tR h).symm,?_⟩;unfold cj;rw[C6 h]
def Du(ls:Nat->List Nat)(n:Nat)(x:N3):Prop:=
 (x=(-1,-1,-1)/\∀k,n∉ls k)\/∃(k:Nat) (a b:List Nat),ls k=a++n::b/\x=(cj a,bW b,(k:Int))
structure jo(nl nn:Nat)(ls:Nat->List Nat)(nd en:Nat->N3):Prop where
 node:∀n,n<nn->Du ls n (nd n)
 ends:∀k,k<nl->en k=(cj (ls k),bW (ls k),((ls k).length:Int))
 nodup:∀k,(ls k).Nodup
 rh:∀k k' n,n∈ls k->n∈ls k'->k=k'
 jt:∀k n,n∈ls k->k<nl/\n<nn
def up{α:Type}(f:Nat->α)(i:Nat)(v:α):Nat->α:=λj=>if j=i then v else f j
@[simp] theorem eJ {α:Type} (f:Nat->α) (i:Nat) (v:α):up f i v i=v:=by simp[up]
theorem dA{α:Type}(f:Nat->α){i j:Nat}(v:α)(h:j≠i):up f i v j=f j:=by simp[up,h]
section
variable {nl nn:Nat}{ls:Nat->List Nat}{nd en:Nat->N3}
def jo.rD(h:jo nl nn ls nd en){n k:Nat}{a b:List Nat}(U:ls k=a++n::b):nd n=(cj a,bW b,(k:Int)):=by
 have hm:n∈ls k:=by rw[U];simp
 rcases h.node n (h.jt k n hm).2 with⟨_,j⟩|⟨k',a',g,f,e⟩
 ·exact absurd hm (j k)
 ·have:k'=k:=h.rh k' k n (by rw[f];simp) hm
  subst this;have d:=h.nodup k';rw[f]at U;rw[f]at d
  obtain⟨rfl,rfl⟩:a'=a/\g=b:=by
   have l:n∉a':=λc=>by rw[dP]at d;exact d.2.2 n c n (by simp) rfl
   have i:(a++n::b).Nodup:=U▸d
   have m:n∉a:=λc=>by rw[dP]at i;exact i.2.2 n c n (by simp) rfl
   have o:(a'++n::g).takeWhile (·!=n)=a':=by rw[Jg (by intro x c;simp;intro e;subst e;exact l c)];simp
   have p:(a++n::b).takeWhile (·!=n)=a:=by rw[Jg (by intro x c;simp;intro e;subst e;exact m c)];simp
   have:a'=a:=by rw[<-o,<-p,U]
   subst this;have:=List.append_cancel_left U;simp at this;exact⟨rfl,this⟩
  exact e
def uw(nd:Nat->N3)(eU:Int)(k n:Nat):Nat->N3:=
 let a:=up nd n (eU,-1,(k:Int))
 if 0<=eU then up a eU.toNat ((a eU.toNat).1,(n:Int),(a eU.toNat).2.2)else a
def q5(en:Nat->N3)(k n:Nat):Nat->N3:=up en k ((n:Int),(if 0<=(en k).1 then(en k).2.1 else(n:Int)),(en k).2.2+1)
def jo.add(h:jo nl nn ls nd en){k n:Nat}(U:k<nl)(v:n<nn)(q:∀k,n∉ls k):jo nl nn (up ls k (ls k++[n])) (uw nd (en k).1 k n) (q5 en k n):=by
 have he:=h.ends k U;have D:∀k' m,k'≠k->m∈ls k'->m∉ls k:=λk' m d hm w=>d (h.rh _ _ _ hm w);refine⟨λm hm=>?_,λk' f=>?_,λk'=>?_,λz A m h1 B=>?_,λk' m hm=>?_⟩
 ·unfold uw
  rw[he];simp only;by_cases i:m=n
  ·subst i
   refine .inr ⟨k,ls k,[],by simp,?_⟩;split
   ·rename_i C
    have d:m≠(cj (ls k)).toNat:=by
     intro e;have d:ls k≠[]:=λe=>by rw[e,qj]at C;omega
     obtain⟨a,x,j,hl⟩:=sY d;rw[hl]at e;simp at e;subst e;exact q k (by rw[j];simp)
    rw[dA _ _ d];simp[bW]
   ·simp[bW]
  ·have t:Du ls m (nd m):=h.node m hm
   by_cases g:0<=cj (ls k)
   ·rw[ag g]
    have d:ls k≠[]:=λe=>by rw[e,qj]at g;omega
    obtain⟨a,x,j,hl⟩:=sY d;rw[hl];simp only[aZ];by_cases r:m=x
    ·subst r
     rw[eJ,dA _ _ i];have:=h.rD (by rw[j]);rw[this];exact .inr ⟨k,a,[n],by rw[eJ,j];simp,by simp[bW]⟩
    ·rw[dA _ _ r,dA _ _ i]
     rcases t with⟨e,p⟩|⟨k',a',o,f,e⟩
     ·refine .inl ⟨e,λk'=>?_⟩
      by_cases c:k'=k
      ·subst c;rw[eJ];simp[p k',i]
      ·rw[dA _ _ c];exact p k'
     ·by_cases c:k'=k
      ·subst c
       refine .inr ⟨k',a',o++[n],by rw[eJ,f];simp,?_⟩;rw[e]
       cases o with
       |nil=>exfalso;rw[f]at j;have:=congrArg List.getLast? j;simp at this;exact r this
       |cons y o=>simp[bW]
      ·exact .inr ⟨k',a',o,by rw[dA _ _ c,f],e⟩
   ·rw[aj g,dA _ _ i]
    have s:ls k=[]:=A0.1 (by omega);rcases t with⟨e,p⟩|⟨k',a',o,f,e⟩
    ·refine .inl ⟨e,λk'=>?_⟩
     by_cases c:k'=k
     ·subst c;rw[eJ];simp[p k',i]
     ·rw[dA _ _ c];exact p k'
    ·have c:k'≠k:=λe=>by subst e;rw[s]at f;simp at f
     exact .inr ⟨k',a',o,by rw[dA _ _ c,f],e⟩
 ·unfold q5
  by_cases c:k'=k
  ·subst c
   rw[eJ,eJ,he];simp only;rw[A1];by_cases g:0<=cj (ls k')
   ·rw[ag g]
    have d:ls k'≠[]:=λe=>by rw[e,qj]at g;omega
    cases hc:ls k' with
    |nil=>exact absurd hc d
    |cons y l=>simp[bW]
   ·rw[aj g]
    have s:ls k'=[]:=A0.1 (by omega);simp[s,bW]
  ·rw[dA _ _ c,dA _ _ c];exact h.ends k' f
 ·by_cases c:k'=k
  ·subst c
   rw[eJ,dP];refine⟨h.nodup k',by simp,?_⟩;intro a ha b u e;simp at u;subst u;subst e;exact q _ ha
  ·rw[dA _ _ c];exact h.nodup k'
 ·have aux:∀k',m∈up ls k (ls k++[n]) k'->(m∈ls k'\/(m=n/\k'=k)):=by
   intro k' hm;by_cases c:k'=k
   ·subst c;rw[eJ]at hm;simp at hm;rcases hm with hm|hm
    ·exact .inl hm
    ·exact .inr ⟨hm,rfl⟩
   ·rw[dA _ _ c]at hm;exact .inl hm
  rcases aux z h1 with a|⟨rfl,rfl⟩<;>rcases aux A B with b|⟨b,rfl⟩
  ·exact h.rh _ _ _ a b
  ·subst b;exact absurd a (q _)
  ·exact absurd b (q _)
  ·rfl
 ·by_cases c:k'=k
  ·subst c;rw[eJ]at hm;simp at hm;rcases hm with hm|hm
   ·exact h.jt _ _ hm
   ·subst hm;exact⟨U,v⟩
  ·rw[dA _ _ c]at hm;exact h.jt _ _ hm
def sJ(nd:Nat->N3)(n:Nat):Nat->N3:=
 let x:=nd n
 let a:=if 0<=x.1 then up nd x.1.toNat ((nd x.1.toNat).1,x.2.1,(nd x.1.toNat).2.2)else nd
 let b:=if 0<=x.2.1 then up a x.2.1.toNat (x.1,(a x.2.1.toNat).2.1,(a x.2.1.toNat).2.2)else a
 up b n (-1,-1,-1)
def sI(nd en:Nat->N3)(n:Nat):Nat->N3:=
 let x:=nd n
 let k:=x.2.2.toNat
 up en k ((if 0<=x.2.1 then(en k).1 else x.1),(if 0<=x.1 then(en k).2.1 else x.2.1),(en k).2.2-1)
def xr{a b:List Nat}(h:a≠[]):bW (a++b)=bW a:=by cases a with
 |nil=>exact absurd rfl h
 |cons x a=>rfl
def jo.drop(h:jo nl nn ls nd en){k n:Nat}{a b:List Nat}(U:ls k=a++n::b):jo nl nn (up ls k (a++b)) (sJ nd n) (sI nd en n):=by
 have l:=h.rD U;have D:n∈ls k:=by rw[U];simp
 have K:=(h.jt k n D).1;have g:(a++n::b).Nodup:=U▸h.nodup k;have L:n∉a:=λl=>by rw[dP]at g;exact g.2.2 n l n (by simp) rfl
 have M:n∉b:=λl=>by rw[dP,fg]at g;exact g.2.1.1 l
 have E:∀x∈a,x∉b:=λx l v=>by rw[dP]at g;exact g.2.2 x l x (by simp[v]) rfl
 have he:=h.ends k K;refine⟨λm hm=>?_,λk' s=>?_,λk'=>?_,λZ aa m h1 N=>?_,λk' m hm=>?_⟩
 ·unfold sJ
  rw[l];simp only;by_cases w:m=n
  ·subst w
   rw[eJ];refine .inl ⟨rfl,λk'=>?_⟩;by_cases c:k'=k
   ·subst c;rw[eJ];simp[L,M]
   ·rw[dA _ _ c];exact λt=>c (h.rh _ _ _ t D)
  ·rw[dA _ _ w]
   by_cases p:m∈ls k
   ·
    have O:m∈a\/m∈b:=by rw[U]at p;simp[w]at p;exact p
    rcases O with F|G
    ·
     obtain⟨i,a2,rfl⟩:=v' F;have hold:=h.rD (n:=m) (k:=k) (a:=i) (b:=a2++n::b) (by rw[U];simp)
     have H:∀f:Nat->N3,f m=nd m\/True->(0<=bW b->m≠(bW b).toNat):=by
      intro f _ d e
      cases b with
      |nil=>simp[bW]at d
      |cons y b=>simp[bW]at e;subst e;exact E _ F (by simp)
     refine .inr ⟨k,i,a2++b,by rw[eJ];simp,?_⟩;by_cases A:a2=[]
     ·subst A
      have hl:cj (i++[m])=(m:Int):=A1 _ _;rw[hl];have r:(0:Int)<=(m:Int):=by omega
      rw[ag r];simp only[aZ];have I:up nd m ((nd m).1,bW b,(nd m).2.2) m=(cj i,bW b,(k:Int)):=by rw[eJ,hold]
      by_cases d:0<=bW b
      ·rw[ag d,dA _ _ (H nd (.inr trivial) d),I];simp
      ·rw[aj d,I];simp
     ·obtain⟨a3,z,rfl⟩:∃a3 z,a2=a3++[z]:=⟨a2.dropLast,a2.getLast A,(tR A).symm⟩
      have hl:cj (i++m::(a3++[z]))=(z:Int):=by rw[show i++m::(a3++[z])=(i++m::a3)++[z] by simp];exact A1 _ _
      rw[hl];have P:(0:Int)<=(z:Int):=by omega
      rw[ag P];simp only[aZ]
      have J:m≠z:=by intro e;subst e;rw[dP]at g;have:=g.1;rw[show i++m::(a3++[m])=(i++m::a3)++[m] by simp,dP]at this;exact this.2.2 m (by simp) m (by simp) rfl
      have u:(cj i,bW (a3++[z]++n::b),(k:Int))=(cj i,bW (a3++[z]++b),(k:Int)):=by rw[xr (a:=a3++[z]) (by simp),xr (a:=a3++[z]) (by simp)]
      by_cases d:0<=bW b
      ·rw[ag d,dA _ _ (H nd (.inr trivial) d),dA _ _ J,hold,u]
      ·rw[aj d,dA _ _ J,hold,u]
    ·
     obtain⟨o,dG,rfl⟩:=v' G;have hold:=h.rD (n:=m) (k:=k) (a:=a++n::o) (b:=dG) (by rw[U];simp)
     have Q:0<=cj a->m≠(cj a).toNat:=by
      intro j e;have q:a≠[]:=λe=>by rw[e,qj]at j;omega
      obtain⟨a',x,B,hl⟩:=sY q;rw[hl]at e;simp at e;subst e;exact E m (by rw[B];simp) G
     refine .inr ⟨k,a++o,dG,by rw[eJ];simp,?_⟩
     have first:(if 0<=cj a then up nd (cj a).toNat ((nd (cj a).toNat).1,bW (o++m::dG),(nd (cj a).toNat).2.2)else nd) m=nd m:=by
      split
      ·rename_i j;rw[dA _ _ (Q j)]
      ·rfl
     cases o with
     |nil=>
      have r:0<=bW ([]++m::dG):=by simp[bW]
      have C:(bW ([]++m::dG)).toNat=m:=by simp[bW]
      rw[ag r,C,eJ,first,hold];simp
     |cons y o=>
      have r:0<=bW (y::o++m::dG):=by simp[bW]
      have C:(bW (y::o++m::dG)).toNat=y:=by simp[bW]
      have R:m≠y:=by intro e;subst e;rw[dP,fg]at g;have:=g.2.1.2;simp at this
      rw[ag r,C,dA _ _ R,first,hold];rw[show a++n::y::o=(a++[n])++y::o by simp,xz,xz]
   ·
    have S:0<=cj a->m≠(cj a).toNat:=by
     intro j e;have q:a≠[]:=λe=>by rw[e,qj]at j;omega
     obtain⟨a',x,B,hl⟩:=sY q;rw[hl]at e;simp at e;subst e;exact p (by rw[U,B];simp)
    have T:0<=bW b->m≠(bW b).toNat:=by
     intro d e
     cases b with
     |nil=>simp[bW]at d
     |cons y b=>simp[bW]at e;subst e;exact p (by rw[U];simp)
    have u:(if 0<=bW b then up (if 0<=cj a then up nd (cj a).toNat ((nd (cj a).toNat).1,bW b,(nd (cj a).toNat).2.2)else nd) (bW b).toNat
      (cj a,((if 0<=cj a then up nd (cj a).toNat ((nd (cj a).toNat).1,bW b,(nd (cj a).toNat).2.2)else nd) (bW b).toNat).2.1,
       ((if 0<=cj a then up nd (cj a).toNat ((nd (cj a).toNat).1,bW b,(nd (cj a).toNat).2.2)else nd) (bW b).toNat).2.2)else
      (if 0<=cj a then up nd (cj a).toNat ((nd (cj a).toNat).1,bW b,(nd (cj a).toNat).2.2)else nd)) m=nd m:=by
     have first:(if 0<=cj a then up nd (cj a).toNat ((nd (cj a).toNat).1,bW b,(nd (cj a).toNat).2.2)else nd) m=nd m:=by
      split
      ·rename_i j;rw[dA _ _ (S j)]
      ·rfl
     by_cases d:0<=bW b
     ·rw[ag d,dA _ _ (T d),first]
     ·rw[aj d,first]
    rw[u];rcases h.node m hm with⟨e,V⟩|⟨k',a',W,s,e⟩
    ·refine .inl ⟨e,λk'=>?_⟩
     by_cases c:k'=k
     ·subst c;rw[eJ];intro t;exact p (by rw[U];simp at t⊢;rcases t with h|h<;>simp[h])
     ·rw[dA _ _ c];exact V k'
    ·have c:k'≠k:=λe=>by subst e;exact p (by rw[s];simp)
     exact .inr ⟨k',a',W,by rw[dA _ _ c,s],e⟩
 ·unfold sI
  rw[l];simp only[aZ];by_cases c:k'=k
  ·subst c
   rw[eJ,eJ,he,U];simp only
   have X:(if 0<=bW b then cj (a++n::b)else cj a)=cj (a++b):=by
    cases b with
    |nil=>simp[bW]
    |cons y b=>
     have:(0:Int)<=bW (y::b):=by simp[bW]
     rw[ag this,show a++n::y::b=(a++[n])++y::b by simp,xz,xz]
   have Y:(if 0<=cj a then bW (a++n::b)else bW b)=bW (a++b):=by
    by_cases j:0<=cj a
    ·have q:a≠[]:=λe=>by rw[e,qj]at j;omega
     rw[ag j,xr q,xr q]
    ·have:a=[]:=A0.1 (by omega)
     rw[aj j,this];rfl
   rw[X,Y];simp;omega
  ·rw[dA _ _ c,dA _ _ c];exact h.ends k' s
 ·by_cases c:k'=k
  ·subst c
   rw[eJ];rw[dP,fg]at g;rw[dP];exact⟨g.1,g.2.1.2,λx l y v=>g.2.2 x l y (by simp[v])⟩
  ·rw[dA _ _ c];exact h.nodup k'
 ·have aux:∀k',m∈up ls k (a++b) k'->m∈ls k':=by
   intro k' hm;by_cases c:k'=k
   ·subst c;rw[eJ]at hm;rw[U];simp at hm⊢;rcases hm with h|h<;>simp[h]
   ·rw[dA _ _ c]at hm;exact hm
  exact h.rh _ _ _ (aux _ h1) (aux _ N)
 ·by_cases c:k'=k
  ·subst c
   rw[eJ]at hm;exact h.jt _ _ (by rw[U];simp at hm⊢;rcases hm with h|h<;>simp[h])
  ·rw[dA _ _ c]at hm;exact h.jt _ _ hm
end
end
section
section
variable {α:Type}
abbrev ML(α:Type):=List (Int×α)
def aQ(m:ML α)(k:Int):Option α:=match m with
 |[]=>none
 |e::m=>if e.1=k then some e.2 else aQ m k
def bC(k:Int)(v:α):ML α->ML α
 |[]=>[(k,v)]
 |e::m=>if k<e.1 then(k,v)::e::m else if k=e.1 then(k,v)::m else e::bC k v m
def bN(k:Int)(m:ML α):ML α:=m.filter λe=>!(e.1==k)
abbrev a7(m:ML α):List Int:=m.map (·.1)
abbrev bQ(m:ML α):Prop:=ed (a7 m)
def kC{k:Int}:∀{m:ML α},aQ m k=none↔k∉a7 m
 |[]=>by simp[aQ]
 |e::m=>by
  unfold aQ;split
  ·rename_i h;subst h;simp
  ·rename_i h
   rw[kC];simp only[a7,cX,cL];constructor
   ·rintro h1 (a|a)
    ·exact h a.symm
    ·exact h1 a
   ·exact λh1 a=>h1 (.inr a)
def jA{k:Int}{v:α}:∀{m:ML α},aQ m k=some v->(k,v)∈m
 |[],h=>by simp[aQ]at h
 |e::m,h=>by
  unfold aQ at h;split at h
  ·rename_i h1;cases h;subst h1;simp
  ·exact iw _ (jA h)
def Ba{k:Int}{v:α}:∀{m:ML α},bQ m->(k,v)∈m->aQ m k=some v
 |[],_,h=>by simp at h
 |e::m,hs,h=>by
  unfold aQ;rw[bQ,ed,a7,cX,my]at hs;rcases cL.1 h with h|h
  ·subst h;simp
  ·have:=hs.1 k (bP.2 ⟨_,h,rfl⟩)
   rw[aj (by omega)];exact Ba hs.2 h
def xM{k:Int}{v:α}{m:ML α}(hs:bQ m):aQ m k=some v↔(k,v)∈m:=⟨jA,Ba hs⟩
def oX{k:Int}{v:α}:∀{m:ML α},a7 (bC k v m)=jw k (a7 m)
 |[]=>rfl
 |e::m=>by
  simp only[bC,a7,cX,jw];split
  ·rfl
  ·split
   ·rename_i h;simp[h]
   ·simp only[cX]
    have:=oX (k:=k) (v:=v) (m:=m);simp only[a7]at this;rw[this]
def fu{k:Int}{v:α}{m:ML α}(h:bQ m):bQ (bC k v m):=by rw[bQ,oX];exact yl h
def gR{k j:Int}{v:α}:∀{m:ML α},bQ m->aQ (bC k v m) j=if j=k then some v else aQ m j
 |[],_=>by
  simp only[bC,aQ];by_cases h:j=k
  ·rw[ag h,ag h.symm]
  ·rw[aj h,aj λe=>h e.symm]
 |e::m,hs=>by
  simp only[bC];have a:=hs;rw[bQ,ed,a7,cX,my]at a;split
  ·simp only[aQ]
   by_cases h:k=j
   ·rw[ag h,ag h.symm]
   ·simp only[aj h,aj (Ne.symm h)]
  ·split
   ·rename_i h1 b
    simp only[aQ];by_cases h:k=j
    ·rw[ag h,ag h.symm]
    ·simp only[aj h,aj (Ne.symm h)]
     rw[aj (by omega)]
   ·simp only[aQ]
    rw[gR a.2];by_cases h:e.1=j
    ·rw[ag h,ag h,aj (by omega)]
    ·rw[aj h,aj h]
def mV{k j:Int}:∀{m:ML α},aQ (bN k m) j=if j=k then none else aQ m j
 |[]=>by simp[bN,aQ]
 |e::m=>by
  have b:=mV (k:=k) (j:=j) (m:=m);simp only[bN]at b⊢;by_cases h:e.1=k
  ·rw[nu (by simp[h]),b]
   by_cases a:j=k
   ·rw[ag a,ag a]
   ·rw[aj a,aj a,aQ,aj (by omega)]
  ·rw[nw (by simp[h]),aQ,aQ,b]
   by_cases a:e.1=j
   ·rw[ag a,ag a,aj (by omega)]
   ·rw[aj a,aj a]
def ml{k:Int}{m:ML α}(h:bQ m):bQ (bN k m):=I3 (List.filter_sublist.map _) h
def ta{k:Int}{e:Int×α}{m:ML α}:e∈bN k m↔e∈m/\e.1≠k:=by simp[bN]
def o2{k:Int}{v:α}{e:Int×α}{m:ML α}(hs:bQ m):e∈bC k v m↔e=(k,v)\/(e∈m/\e.1≠k):=by
 obtain⟨j,w⟩:=e;rw[<-xM (fu hs),gR hs];by_cases h:j=k
 ·subst h;rw[ag rfl];simp[eq_comm]
 ·rw[aj h,xM hs];simp[h]
def u3{k:Int}{m:ML α}(h:aQ m k=none):bN k m=m:=by rw[kC]at h;refine qM.2 λe he=>?_;simp only[ns,ub];exact λa=>h (bP.2 ⟨e,he,a⟩)
def Bc{m c:ML α}(h:bQ m)(d:bQ c)(e:∀k,aQ m k=aQ c k):m=c:=by
 have U:a7 m=a7 c:=vA h d λz=>by
  have:=e z;constructor
  ·intro hz
   by_cases f:aQ c z=none
   ·rw[f]at this;exact absurd hz (kC.1 this)
   ·exact r4.1 λhc=>f (kC.2 hc)
  ·intro hz
   by_cases f:aQ m z=none
   ·rw[f]at this;exact absurd hz (kC.1 this.symm)
   ·exact r4.1 λhc=>f (kC.2 hc)
 have key:∀{m c:ML α},bQ m->bQ c->a7 m=a7 c->(∀k,aQ m k=aQ c k)->m=c:=by
  intro m
  induction m with
  |nil=>intro c _ _ U _;cases c with|nil=>rfl|cons=>simp[a7]at U
  |cons a m i=>
   intro c h d U e
   cases c with
   |nil=>simp[a7]at U
   |cons b c=>
    simp only[a7,cX,lH]at U;rw[bQ,ed,a7,cX,my]at h d;have g:=e a.1;simp only[aQ,ag rfl,U.1.symm,eb]at g;have j:a=b:=wu U.1 (by simpa using g);subst j;congr 1;refine i h.2 d.2 U.2 λk=>?_;by_cases l:a.1=k
    ·rw[kC.2,kC.2]
     ·intro hc;have:=d.1 k hc;omega
     ·intro hc;have:=h.1 k hc;omega
    ·have:=e k
     simpa only[aQ,aj l]using this
 exact key h d U e
end
end
abbrev NH:=Int×Int
inductive Ends:Int->List NH->Prop where
 |nil (f:Int):Ends f []
 |step {f:Int} {l r:List NH} (x:NH):l.Perm (x::r)->x.1<=f->Ends (f+x.2) r->Ends f l
def qf(l:List NH):Int:=(l.map (·.2)).sum
def Ends.perm{f:Int}{l a:List NH}(h:Ends f l)(p:l.Perm a):Ends f a:=by
 cases h with
 |nil=>rw[List.nil_perm.1 p];exact .nil f
 |step x b c hr=>exact .step x (p.symm.trans b) c hr
def Ends.take{f:Int}{l:List NH}(h:Ends f l)(b:∀x∈l,0<=x.2):∀(y:NH) (r:List NH),l.Perm (y::r)->y.1<=f->Ends (f+y.2) r:=by
 induction h with
 |nil=>intro y r a _;exact absurd a.length_eq (by simp)
 |@step f l s x a j hr e=>
  intro y r d k;have c:(x::s).Perm (y::r):=a.symm.trans d;by_cases he:y=x
  ·subst he
   exact hr.perm ((tY y).1 c)
  ·have g:y∈s:=by
    have:y∈x::s:=c.mem_iff.2 (by simp);rcases cL.1 this with h|h
    ·exact absurd h he
    ·exact h
   have h1:s.Perm (y::s.erase y):=zk g
   have i:r.Perm (x::s.erase y):=by refine(tY y).1 (c.symm.trans ?_);exact(h1.cons x).trans (.swap _ _ _)
   have m:0<=x.2:=b x (a.mem_iff.2 (by simp));have n:0<=y.2:=b y (d.mem_iff.2 (by simp));refine .step x i (by omega) ?_;have:=e (λz hz=>b z (a.mem_iff.2 (by simp[hz]))) y (s.erase y) h1 (by omega);rw[show f+y.2+x.2=f+x.2+y.2 by omega];exact this
def US{l a:List NH}(h:l.Perm a):qf l=qf a:=by
 unfold qf
 induction h with
 |nil=>rfl
 |cons x _ b=>simp only[cX,jM,b]
 |swap x y l=>simp only[cX,jM];omega
 |trans _ _ c d=>exact c.trans d
def Ends.more{f:Int}{l:List NH}(h:Ends f l){c:Int}(hc:c<=f+qf l):Ends f ((c,0)::l):=by
 induction h with
 |nil f=>exact .step (c,0) (.refl _) (by simpa[qf]using hc) (.nil _)
 |@step f l r x a d _ b=>have hs:=US a;simp only[qf,cX,jM]at hs b hc;exact .step x ((a.cons _).trans (.swap _ _ _)) d (b (by omega))
def Ends.Uh{f:Int}{c:Int}{l:List NH}(h:Ends f ((c,0)::l)):Ends f l:=by
 have key:∀f m,Ends f m->∀l,m.Perm ((c,0)::l)->Ends f l:=by
  intro f m h
  induction h with
  |nil=>intro l a;exact absurd a.length_eq (by simp)
  |@step f m r x a d hr e=>
   intro l g;have b:(x::r).Perm ((c,0)::l):=a.symm.trans g;by_cases he:x=(c,0)
   ·subst he
    simp only[CW]at hr;exact hr.perm ((tY _).1 b)
   ·have hm:(c,0)∈r:=by
     have:((c,0):NH)∈x::r:=b.mem_iff.2 (by simp);rcases cL.1 this with h|h
     ·exact absurd h.symm he
     ·exact h
    have h1:=zk hm
    have i:l.Perm (x::r.erase (c,0)):=by refine(tY (c,0)).1 (b.symm.trans ?_);exact(h1.cons x).trans (.swap _ _ _)
    exact .step x i d (e _ h1)
 exact key f _ h l (.refl _)
def Ends.eG{f d h n:Int}{l:List NH}(e:Ends f ((d,h)::l))(h0:0<=n)(hl:∀x∈l,0<=x.2)(k:0<=h):Ends (f+n) ((d+n,h-n)::l):=by
 have key:∀f m,Ends f m->∀l,m.Perm ((d,h)::l)->Ends (f+n) ((d+n,h-n)::l):=by
  intro f m e
  induction e with
  |nil=>intro l a;exact absurd a.length_eq (by simp)
  |@step f m r x a c hr g=>
   intro l i;have b:(x::r).Perm ((d,h)::l):=a.symm.trans i;by_cases he:x=(d,h)
   ·subst he
    refine .step (d+n,h-n) (.refl _) (by simp only at c⊢;omega) ?_;rw[show f+n+(d+n,h-n).2=f+(d,h).2 by simp;omega];exact hr.perm ((tY _).1 b)
   ·have hm:(d,h)∈r:=by
     have:((d,h):NH)∈x::r:=b.mem_iff.2 (by simp);rcases cL.1 this with h|h
     ·exact absurd h.symm he
     ·exact h
    have h1:=zk hm
    have j:l.Perm (x::r.erase (d,h)):=by refine(tY (d,h)).1 (b.symm.trans ?_);exact(h1.cons x).trans (.swap _ _ _)
    refine .step x ((j.cons _).trans (.swap _ _ _)) (by omega) ?_;rw[show f+n+x.2=f+x.2+n by omega];exact g _ h1
 exact key f _ e l (.refl _)
def Ends.B9{f:Int}{l:List NH}(h:Ends f l)(hl:l≠[]):∃x∈l,x.1<=f:=by
 cases h with
 |nil=>exact absurd rfl hl
 |step x a b _=>exact⟨x,a.mem_iff.2 (by simp),b⟩
end Go.bm
namespace Go.XS
section
abbrev Heap:=Array Obj
abbrev HP:=Heap->Prop
def bp{α:Type}{a:Option α}{b c:α}(h:a=some b)(e:b=c:=by kernel_rfl):a=some c:=h.trans (congrArg some e)
abbrev av:=Option Addr
abbrev aw:=Array Value
abbrev az:=List Value
abbrev aN:=List Int
abbrev aK:=Value->HP
inductive SV where
 |val (v:Value)
 |kb (b:Bool)
 |un
 |nx (k x:Value)
 |en (k x:Value)
def SV.cd:SV->Value
 | .val v=>v
 | .kb b=> .bool b
 | .un=>undef
 | .nx k x=> .tuple #[.bool true,k,x]
 | .en k x=> .tuple #[k,x]
abbrev Env:=Nat->Option SV
def F:HP:=λ_=>False
def fj(w w':World):Prop:=w'.os=w.os/\w'.tape=w.tape/\w'.output=w.output
def fj.refl(w:World):fj w w:=⟨rfl,rfl,rfl⟩
def fj.trans{a b c:World}(h:fj a b)(k:fj b c):fj a c:=⟨k.1.trans h.1,k.2.1.trans h.2.1,k.2.2.trans h.2.2⟩
def b0(s:Heap)(a:Addr):Option Value:=
 match s[a.block]? with
 |some (.cells c _ _)=>if a.spot.isSome then none else c[a.off]?
 |_=>none
def xt(s:Heap)(a:Addr):Bool:=
 match s[a.block]? with
 |some (.cells _ _ (lo,hi))=>lo<=a.off&&a.off<hi
 |_=>false
def eP(s:Heap)(a:Addr)(v:Value):Heap:=
 s.modify a.block λ
   | .cells c elem frozen=> .cells (if a.spot.isSome then c else c.setIfInBounds a.off v) elem frozen
   |o=>o
def k1(w:World)(a:Addr):w.cell? a=b0 w.heap a:=rfl
def AB(w:World)(a:Addr):w.frozen? a=xt w.heap a:=rfl
def setCell_eq(w:World)(a:Addr)(v:Value):w.setCell a v={w with heap:=eP w.heap a v}:=rfl
def aH{α:Type}(P:Program)(s:Sem α)(K:α->HP):HP:=λσ=>
 ∀w:World,w.heap=σ->∃v w',s.run P w= .ok v w'/\fj w w'/\K v w'.heap
section
variable {P:Program}
def cv{α:Type}{v:α}{K:α->HP}{σ:Heap}(h:K v σ):aH P (pure v) K σ:=λw hw=>⟨v,w,rfl,.refl w,hw▸h⟩
def aX{α β:Type}{s:Sem α}{f:α->Sem β}{K:β->HP}{σ:Heap}(h:aH P s (λv=>aH P (f v) K) σ):aH P (s>>=f) K σ:=by intro w hw;obtain⟨v,a,h1,b,c⟩:=h w hw;obtain⟨u,w2,d,e,g⟩:=c a rfl;exact⟨u,w2,by rw[Sem.run_bind,h1,Result.andThen_ok,d],b.trans e,g⟩
def gU{α:Type}{s:Sem α}{K a:α->HP}{σ:Heap}(U:∀v σ,K v σ->a v σ)(h:aH P s K σ):aH P s a σ:=λw hw=>let⟨v,w',h1,b,c⟩:=h w hw;⟨v,w',h1,b,U _ _ c⟩
def dD{α:Type}{s:Sem α}{K:α->HP}{σ:Heap}(v:α)(h:∀w:World,w.heap=σ->s.run P w= .ok v w)(U:K v σ):aH P s K σ:=λw hw=>⟨v,w,h w hw,.refl w,hw▸U⟩
end
def ae(b:Bool)(p q:HP):HP:=λσ=>(b=true->p σ)/\(b=false->q σ)
def aP(c:Prop)(p:HP):HP:=λσ=>c/\p σ
def ay(p:Option Addr)(f:Addr->HP):HP:=match p with|some a=>f a|none=>F
def bA(k:IntKind)(a:Addr)(f:Int->HP):HP:=λσ=>∃n,b0 σ a=some (.int k n)/\f n σ
def gB(a:Addr)(f:Bool->HP):HP:=λσ=>∃b,b0 σ a=some (.bool b)/\f b σ
def bq(a:Addr)(f:Option Addr->HP):HP:=λσ=>∃p,b0 σ a=some (.pointer p)/\f p σ
def a8(a:Addr)(f:Option Addr->Nat->Nat->HP):HP:=λσ=>∃p l c,b0 σ a=some (.slice p l c)/\f p l c σ
def hB(a:Addr)(f:ByteArray->HP):HP:=λσ=>∃s,b0 σ a=some (.string s)/\f s σ
def gm(a:Addr)(f:Option Nat->HP):HP:=λσ=>∃m,b0 σ a=some (.map m)/\f m σ
def gN(a:Addr)(f:Value->HP):HP:=λσ=>∃v,b0 σ a=some v/\f v σ
def eQ(a:Addr)(n:Nat)(f:Array Value->HP):HP:=λσ=>∃cs:Array Value,cs.size=n/\(∀i,i<n->b0 σ (a.add i)=cs[i]?)/\f cs σ
def db(k:IntKind)(v:Value)(f:Int->HP):HP:=λσ=>∃n,v= .int k n/\f n σ
def dq(v:Value)(f:Bool->HP):HP:=λσ=>∃b,v= .bool b/\f b σ
def iA(v:Value)(f:Option Addr->HP):HP:=λσ=>∃p,v= .pointer p/\f p σ
def i1(v:Value)(f:Option Addr->Nat->Nat->HP):HP:=λσ=>∃p l c,v= .slice p l c/\f p l c σ
def mI(v:Value)(f:ByteArray->HP):HP:=λσ=>∃s,v= .string s/\f s σ
def uz(v:Value)(f:Option Nat->HP):HP:=λσ=>∃m,v= .map m/\f m σ
def gi(v:Value)(f:Array Value->HP):HP:=λσ=>∃cs,v= .agg cs/\f cs σ
def st(a:Addr)(v:Value)(k:HP):HP:=λσ=>(∃u,b0 σ a=some u)/\xt σ a=false/\v.oneCell'=true/\k (eP σ a v)
def hJ(a:Addr):Nat->List Value->HP->HP
 |_,[],k=>k
 |i,v::r,k=>st (a.add i) v (hJ a (i+1) r k)
def gW(a:Addr)(cs:Array Value)(n:Nat)(k:HP):HP:=aP (cs.size=n) (hJ a 0 cs.toList k)
def Cb(a:Addr)(v:Value)(n:Nat)(k:HP):HP:=match Nat.beq n 1 with|true=>st a v k|false=>F
def al(cs:Array Value)(T:TypeId)(f:Nat->HP):HP:=λσ=>f σ.size (σ.push (.cells cs T))
def hE(f:Nat->HP):HP:=λσ=>f σ.size (σ.push (.map #[] 0))
def ad(P:Program)(f:FuncId)(args:Array Value)(K:Value->HP):HP:=λσ=>
 ∀w:World,w.heap=σ->Calls P f args w λe w'=>∃v,e= .returned v/\K v w'.heap/\fj w w'
def BS(P:Program)(l:Nat)(f:FuncId)(tmps:Array Value)(a body:Code)(K:Value->HP):HP:=λσ=>
 ∀w:World,w.heap=σ->RoundIn Fence.wide 0 P l f tmps a body w λe w'=>∃v,e= .returned v/\K v w'.heap/\fj w w'
def ey(P:Program)(s:Sem Next)(K:Value->HP):HP:=λσ=>
 ∀w:World,w.heap=σ->∃r w',s.run P w= .ok r w'/\fj w w'/\
  ((∃v,r= .value v/\K v w'.heap)\/(r= .skip/\K undef w'.heap)\/(∃f args,r= .enter f args/\ad P f args K w'.heap)\/
   (∃l f tmps a body,r= .round l f tmps a body/\BS P l f tmps a body K w'.heap))
def ga(P:Program)(l:Nat)(first captured:Array Value)(vs:List Value)(K:Value->HP):HP:=
 ey P (do let d<-Deferred.ofValue (.func (.yield l) first captured) vs.toArray;invoke d.target d.args) K
def bz(body:List Value->(List Value->HP)->HP)(init:List Value):HP:=λσ=>
 ∀R:List Value->HP,(∀s σ,body s R σ->R s σ)->R init σ
def bu(a:List Value->HP)(body:(List Value->HP)->HP):HP:=body a
def Et{P:Program}{f:FuncId}{args:Array Value}{K a:Value->HP}{σ:Heap}(U:∀v σ,K v σ->a v σ)(h:ad P f args K σ):ad P f args a σ:=λw hw=>(h w hw).mono λ_ _ ⟨v,e,k,o⟩=>⟨v,e,U _ _ k,o⟩
def Yh{P:Program}{l:Nat}{f:FuncId}{tmps:Array Value}{a body:Code}{K b:Value->HP}{σ:Heap}(U:∀v σ,K v σ->b v σ)(h:BS P l f tmps a body K σ):BS P l f tmps a body b σ:=λw hw=>(h w hw).mono λ_ _ ⟨v,e,k,o⟩=>⟨v,e,U _ _ k,o⟩
def mY(P:Program)(it:Value)(s:Bool)(t:TypeId)(f0:HP)(f1:Value->Value->HP):HP:=
 aH P (Instr.next it s t) λr σ=>(r= .tuple #[.bool false]/\f0 σ)\/∃k x,r= .tuple #[.bool true,k,x]/\f1 k x σ
def k4(P:Program)(it:Value)(f:Value->Value->HP):HP:=
 aH P (Instr.entry it) λr σ=>∃k x,r= .tuple #[k,x]/\f k x σ
def cC(P:Program)(a:Array TypeId)(p:Option Addr)(l c:Nat)(q:Option Addr)(m d:Nat)(f:Option Addr->Nat->Nat->HP):HP:=
 aH P (Builtin.append_ a 0 #[.slice p l c,.slice q m d]) λv=>i1 v f
inductive TK where
 |bool|int (k:IntKind)|str|ptr|slice|map|agg|any
def TK.of(P:Program)(t:TypeId):TK:=
 match P.underlying t with
 |some .bool=> .bool
 |some (.int k)=> .int k
 |some .string=> .str
 |some (.pointer _)=> .ptr
 |some (.slice _)=> .slice
 |some (.map ..)=> .map
 |some (.struct _)=> .agg
 |some (.array ..)=> .agg
 |_=> .any
def TK.as:TK->Value->(Value->HP)->HP
 | .bool,v,f=>dq v λb=>f (.bool b)
 | .int k,v,f=>db k v λn=>f (.int k n)
 | .str,v,f=>mI v λs=>f (.string s)
 | .ptr,v,f=>iA v λp=>f (.pointer p)
 | .slice,v,f=>i1 v λp l c=>f (.slice p l c)
 | .map,v,f=>uz v λm=>f (.map m)
 | .agg,v,f=>gi v λcs=>f (.agg cs)
 | .any,v,f=>f v
def TK.ld:TK->Addr->Nat->(Value->HP)->HP
 | .bool,a,_,f=>gB a λb=>f (.bool b)
 | .int k,a,_,f=>bA k a λn=>f (.int k n)
 | .str,a,_,f=>hB a λs=>f (.string s)
 | .ptr,a,_,f=>bq a λp=>f (.pointer p)
 | .slice,a,_,f=>a8 a λp l c=>f (.slice p l c)
 | .map,a,_,f=>gm a λm=>f (.map m)
 | .agg,a,n,f=>eQ a n λcs=>f (.agg cs)
 | .any,a,_,f=>gN a f
def iZ:List TK->(List Value->Prop)->Prop
 |[],g=>g []
 | .bool::ts,g=>∀b,iZ ts λr=>g (.bool b::r)
 | .int k::ts,g=>∀n,iZ ts λr=>g (.int k n::r)
 | .str::ts,g=>∀s,iZ ts λr=>g (.string s::r)
 | .ptr::ts,g=>∀p,iZ ts λr=>g (.pointer p::r)
 | .slice::ts,g=>∀p l c,iZ ts λr=>g (.slice p l c::r)
 | .map::ts,g=>∀m,iZ ts λr=>g (.map m::r)
 | .agg::ts,g=>∀cs,iZ ts λr=>g (.agg cs::r)
 | .any::ts,g=>∀v,iZ ts λr=>g (v::r)
def TK.D'(tk:TK){v:Value}{f:Value->HP}{σ:Heap}(h:tk.as v f σ):f v σ:=by
 cases tk<;>simp only[TK.as]at h
 case bool=>obtain⟨b,rfl,h⟩:=h;exact h
 case int=>obtain⟨b,rfl,h⟩:=h;exact h
 case str=>obtain⟨b,rfl,h⟩:=h;exact h
 case ptr=>obtain⟨b,rfl,h⟩:=h;exact h
 case slice=>obtain⟨p,l,c,rfl,h⟩:=h;exact h
 case map=>obtain⟨b,rfl,h⟩:=h;exact h
 case agg=>obtain⟨b,rfl,h⟩:=h;exact h
 case any=>exact h
def TK.Vt(tk:TK)(d:tk≠ .agg){a:Addr}{n:Nat}{f:Value->HP}{σ:Heap}(h:tk.ld a n f σ):∃v,b0 σ a=some v/\f v σ:=by
 cases tk<;>simp only[TK.ld]at h
 case bool=>obtain⟨b,e,h⟩:=h;exact⟨_,e,h⟩
 case int=>obtain⟨b,e,h⟩:=h;exact⟨_,e,h⟩
 case str=>obtain⟨b,e,h⟩:=h;exact⟨_,e,h⟩
 case ptr=>obtain⟨b,e,h⟩:=h;exact⟨_,e,h⟩
 case slice=>obtain⟨p,l,c,e,h⟩:=h;exact⟨_,e,h⟩
 case map=>obtain⟨b,e,h⟩:=h;exact⟨_,e,h⟩
 case agg=>exact absurd rfl d
 case any=>exact h
def ku:List TK->(List Value->Prop)->Prop
 |[],g=>g []
 | .bool::ts,g=>∃b,ku ts λr=>g (.bool b::r)
 | .int k::ts,g=>∃n,ku ts λr=>g (.int k n::r)
 | .str::ts,g=>∃s,ku ts λr=>g (.string s::r)
 | .ptr::ts,g=>∃p,ku ts λr=>g (.pointer p::r)
 | .slice::ts,g=>∃p l c,ku ts λr=>g (.slice p l c::r)
 | .map::ts,g=>∃m,ku ts λr=>g (.map m::r)
 | .agg::ts,g=>∃cs,ku ts λr=>g (.agg cs::r)
 | .any::ts,g=>∃v,ku ts λr=>g (v::r)
def Uc:∀(ts:List TK) (g:List Value->Prop),ku ts g->∃vs,g vs:=by
 intro ts
 induction ts with
 |nil=>intro g h;exact⟨_,h⟩
 |cons t ts a=>
  intro g h;cases t<;>simp only[ku]at h
  case slice=>obtain⟨p,l,c,h⟩:=h;obtain⟨vs,h⟩:=a _ h;exact⟨_,h⟩
  all_goals (obtain⟨x,h⟩:=h;obtain⟨vs,h⟩:=a _ h;exact⟨_,h⟩)
def wQ:∀(ts:List TK) (g b:List Value->Prop),(∀r,g r->b r)->iZ ts g->iZ ts b:=by
 intro ts
 induction ts with
 |nil=>intro g b h a;exact h _ a
 |cons t ts d=>
  intro g b h a;cases t<;>simp only[iZ]at a⊢
  case slice=>intro p l c;exact d _ _ (λr=>h _) (a p l c)
  all_goals (intro x;exact d _ _ (λr=>h _) (a x))
def Typed(ts:List TK)(s:List Value):Prop:=¬iZ ts (λr=>s≠r)
def Typed.use{ts:List TK}{s:List Value}{f:List Value->Prop}(a:Typed ts s)(h:iZ ts λr=>s=r->f r):f s:=by refine I2 λb=>a (wQ ts _ _ (λr hr he=>?_) h);subst he;exact b (hr rfl)
def Cr(ts:List TK)(f:List Value->HP):List Value->HP:=λs σ=>iZ ts λr=>s=r->f r σ
def ev(e:Env):Operand->Option SV
 | .tmp t=>e t
 | .const (.bool b)=>some (.kb b)
 | .const v=>some (.val v)
 | .global g=>some (.val (.pointer (some ⟨g,0,none⟩)))
 | .func f=>some (.val (.func (.func f) #[] #[]))
def rq(e:Env):List Operand->Option (List Value)
 |[]=>some []
 |x::r=>
  match ev e x with
  |some v=>match rq e r with
   |some vs=>some (v.cd::vs)
   |none=>none
  |none=>none
def dv(e:Env)(x:Operand)(f:Value->HP):HP:=match ev e x with|some v=>f v.cd|none=>F
def nr(e:Env)(x:Operand)(f:SV->HP):HP:=match ev e x with|some v=>f v|none=>F
def tI(e:Env)(x:List Operand)(f:List Value->HP):HP:=match rq e x with|some v=>f v|none=>F
def hO(P:Program)(t:TypeId):Bool:=match P.info? t with|some i=>i.zero.isSome|none=>false
def zc(P:Program)(t:TypeId):Array Value:=match P.info? t with|some i=>(i.zero.getD undef).cells|none=>#[]
def fm(P:Program)(t:TypeId)(v:Value)(f:Value->HP):HP:=
 match P.underlying t with
 |some (.tuple ts)=>λσ=>ku (ts.toList.map (TK.of P)) λvs=>v= .tuple vs.toArray/\f (.tuple vs.toArray) σ
 |_=>(TK.of P t).as v f
def nL{P:Program}{t:TypeId}{v:Value}{f:Value->HP}{σ:Heap}(h:fm P t v f σ):f v σ:=by
 unfold fm at h;generalize P.underlying t=d at h
 cases d with
 |none=>exact TK.D' _ h
 |some d=>
  cases d
  case tuple ts=>obtain⟨vs,a,b⟩:=Uc _ _ h;rw[a];exact b
  all_goals exact TK.D' _ h
def bh(op:BinOp)(k:IntKind)(x y:Int):Int:=
 k.wrap (match op with
  | .and=>BitVec.ofInt k.bits x&&&BitVec.ofInt k.bits y
  | .or=>BitVec.ofInt k.bits x|||BitVec.ofInt k.bits y
  | .xor=>BitVec.ofInt k.bits x^^^BitVec.ofInt k.bits y
  |_=>BitVec.ofInt k.bits x&&&~~~BitVec.ofInt k.bits y).toNat
def iG(k:IntKind)(x y:Int):Int:=k.wrap (x*2^(min y.toNat k.bits))
def bO(k:IntKind)(x y:Int):Int:=x.fdiv (2^(min y.toNat k.bits))
def wV(P:Program)(t:TypeId):Bool:=match P.underlying t with|some .bool=>true|_=>false
def yb(P:Program)(t:TypeId):Bool:=match P.underlying t with|some (.pointer _)=>true|_=>false
def nm(P:Program)(t:TypeId):Bool:=match P.underlying t with|some (.slice _)=>true|_=>false
def xK(P:Program)(t:TypeId):Bool:=match P.underlying t with|some (.map ..)=>true|_=>false
def eI(b:Bool)(p:HP):HP:=match b with|true=>p|false=>F
def qJ(P:Program)(op:BinOp)(t:TypeId)(a b:Value)(K:Value->HP)(fb:HP):HP:=
 match a,b with
 | .int k m,.int k' n=>
  match op with
  | .add=>if k=k' then K (.int k (k.wrap (m+n)))else F
  | .sub=>if k=k' then K (.int k (k.wrap (m-n)))else F
  | .mul=>if k=k' then K (.int k (k.wrap (m*n)))else F
  | .quo=>if k=k' then aP (n≠0) (K (.int k (k.wrap (m.tdiv n))))else F
  | .rem=>if k=k' then aP (n≠0) (K (.int k (m.tmod n)))else F
  | .and=>if k=k' then K (.int k (bh .and k m n))else F
  | .or=>if k=k' then K (.int k (bh .or k m n))else F
  | .xor=>if k=k' then K (.int k (bh .xor k m n))else F
  | .andNot=>if k=k' then K (.int k (bh .andNot k m n))else F
  | .shl=>aP (0<=n) (K (.int k (iG k m n)))
  | .shr=>aP (0<=n) (K (.int k (bO k m n)))
  | .eql=>if k=k' then K (.bool (m==n))else F
  | .neq=>if k=k' then K (.bool (m !=n))else F
  | .lss=>if k=k' then K (.bool (m<n))else F
  | .leq=>if k=k' then K (.bool (m<=n))else F
  | .gtr=>if k=k' then K (.bool (m>n))else F
  | .geq=>if k=k' then K (.bool (m>=n))else F
 | .bool s,.bool u=>
  match op with
  | .eql=>eI (wV P t) (K (.bool (s==u)))
  | .neq=>eI (wV P t) (K (.bool !(s==u)))
  |_=>fb
 | .string s,.string u=>
  match op with
  | .eql=>K (.bool (s.toList==u.toList))
  | .neq=>K (.bool !(s.toList==u.toList))
  |_=>fb
 | .pointer p,.pointer none=>
  match op with
  | .eql=>eI (yb P t) (K (.bool p.isNone))
  | .neq=>eI (yb P t) (K (.bool !p.isNone))
  |_=>fb
 | .slice p _ _,.slice none _ _=>
  match op with
  | .eql=>eI (nm P t) (K (.bool p.isNone))
  | .neq=>eI (nm P t) (K (.bool !p.isNone))
  |_=>fb
 | .map p,.map none=>
  match op with
  | .eql=>eI (xK P t) (K (.bool p.isNone))
  | .neq=>eI (xK P t) (K (.bool !p.isNone))
  |_=>fb
 |_,_=>fb
end
section
def xe(P:Program)(s:TypeId)(f:Nat):Option Nat:=
 match P.underlying s with
 |some (.struct a)=>match a[f]? with
  |some fd=>if P.cellsOf fd.type=0 then none else some fd.offset
  |none=>none
 |_=>none
def jG(P:Program)(t:TypeId):Bool:=(P.info? t).isSome&&(P.underlying t).isSome
def TK.isAgg:TK->Bool| .agg=>true|_=>false
def mc(k:IntKind)(cs:aw)(off:Nat)(f:Int->HP):HP:=λσ=>∃n,cs[off]?=some (.int k n)/\f n σ
def Xu(cs:aw)(off:Nat)(f:Bool->HP):HP:=λσ=>∃n,cs[off]?=some (.bool n)/\f n σ
def Xw(cs:aw)(off:Nat)(f:ByteArray->HP):HP:=λσ=>∃n,cs[off]?=some (.string n)/\f n σ
def BC(cs:aw)(off:Nat)(f:av->HP):HP:=λσ=>∃n,cs[off]?=some (.pointer n)/\f n σ
def BE(cs:aw)(off:Nat)(f:av->Nat->Nat->HP):HP:=λσ=>∃p l c,cs[off]?=some (.slice p l c)/\f p l c σ
def Xv(cs:aw)(off:Nat)(f:Option Nat->HP):HP:=λσ=>∃n,cs[off]?=some (.map n)/\f n σ
def Xx(cs:aw)(off:Nat)(f:aK):HP:=λσ=>∃v,cs[off]?=some v/\f v σ
def TK.pt:TK->aw->Nat->Nat->aK->HP
 | .bool,cs,o,_,f=>Xu cs o λb=>f (.bool b)
 | .int k,cs,o,_,f=>mc k cs o λn=>f (.int k n)
 | .str,cs,o,_,f=>Xw cs o λs=>f (.string s)
 | .ptr,cs,o,_,f=>BC cs o λp=>f (.pointer p)
 | .slice,cs,o,_,f=>BE cs o λp l c=>f (.slice p l c)
 | .map,cs,o,_,f=>Xv cs o λm=>f (.map m)
 | .agg,cs,o,n,f=>f (.agg (cs.extract o (o+n)))
 | .any,cs,o,_,f=>Xx cs o f
def jB(e:Env)(x:Option Operand)(a b:Nat)(f:Nat->HP):HP:=
 match x with
 |none=>f a
 |some x=>match ev e x with
  |some (.val (.int _ n))=>aP (0<=n/\n<=(b:Int)) (f n.toNat)
  |_=>F
def da(p:av)(size l m:Nat):av:=if m=l then p else p.map (·.add (l*size))
def lT(a:Addr)(size l m:Nat):Addr:=if m=l then a else a.add (l*size)
def gr(z:aw)(n:Nat):aw:=(Array.range n).map (z[·%z.size]!)
def c5(P:Program)(elem:TypeId)(l c:Int)(f:Nat->HP):HP:=λσ=>
 0<=l/\l<=c/\c<9223372036854775808/\(P.bytesOf elem:Int)*c<=2^48/\(P.info? elem).isSome=true/\(hO P elem=true)/\
  f σ.size (σ.push (.cells (gr (zc P elem) (c.toNat*P.cellsOf elem)) elem))
def scale(n:Nat):Nat->Nat
 |1=>n
 |s=>n*s
def BZ(n s:Nat):scale n s=n*s:=by
 unfold scale;split
 ·simp
 ·rfl
def yC(P:Program)(t:TypeId):Bool:=match P.underlying t with|some .string=>true|_=>false
def sS(f:TypeId->Bool)(a:Array TypeId):Bool:=match a[0]? with|some t=>f t|none=>false
def gv(s:ByteArray)(i:Int):Int:=((s.data[i.toNat]?).getD 0).toNat
def partsOf(e:Env):List (Nat×Operand)->Option (List (Nat×Value))
 |[]=>some []
 |(i,x)::r=>
  match ev e x with
  |some v=>match partsOf e r with
   |some vs=>some ((i,v.cd)::vs)
   |none=>none
  |none=>none
def xf(P:Program)(t:TypeId):Option (Nat->Option (Nat×Nat)):=
 match P.underlying t with
 |some (.struct a)=>if a.toList.all (λf=>(P.info? f.type).isSome)then some λi=>(a[i]?).map λf=>(f.offset,P.cellsOf f.type)else none
 |some (.array _ elem)=>if(P.info? elem).isSome then some λi=>some (i*P.cellsOf elem,P.cellsOf elem)else none
 |_=>none
def nj(z:az):Nat->az
 |0=>[]
 |n+1=>z++nj z n
def zS(P:Program)(elem:TypeId)(len:Nat):Bool:=
 hO P elem&&Nat.ble (len*P.cellsOf elem) 16777216&&Nat.beq (zc P elem).size (P.cellsOf elem)
def fW(P:Program)(f:FuncId):Bool:=match P.funcs[f]? with|some fn=>fn.body.isSome|none=>false
def kn(P:Program)(a:FuncId)(args:aw)(K:aK):HP:=
 match fW P a with
 |true=>ad P a args K
 |false=>ey P (callFunc a args) K
def ES(P:Program)(t:TypeId):Bool:=match P.underlying t with|some (.interface _)=>false|some _=>true|none=>false
def lG(P:Program)(f:Value)(args:az)(K:aK):HP:=
 match f with
 | .func (.func a) first captured=>kn P a (first.toList++args++captured.toList).toArray K
 | .func (.yield l) first captured=>ga P l first captured args K
 |f=>ey P (do let d<-Deferred.ofValue f args.toArray;invoke d.target d.args) K
def CE(P:Program)(f:Value)(args:az)(t:TypeId)(K:aK):HP:=lG P f args λv=>fm P t v K
def IT(P:Program)(b:Builtin)(a:Array TypeId)(t:TypeId)(args:az)(K:aK):HP:=
 match b,args with
 | .len,[.slice _ n _]=>eI (sS (nm P) a) (K (.int .i64 n))
 | .len,[.string s]=>eI (sS (yC P) a) (K (.int .i64 s.size))
 | .cap,[.slice p n c]=>aH P (Builtin.cap_ a t #[.slice p n c]) λv=>fm P t v K
 | .max,[.int k x,.int _ y]=>K (.int k (if y>x then y else x))
 | .min,[.int k x,.int _ y]=>K (.int k (if y<x then y else x))
 | .append,[.slice p l c,.slice q m d]=>cC P a p l c q m d λp l c=>K (.slice p l c)
 | .append,vs=>aH P (Builtin.append_ a t vs.toArray) λv=>fm P t v K
 | .copy,vs=>aH P (Builtin.copy_ a t vs.toArray) λv=>fm P t v K
 | .clear,vs=>aH P (Builtin.clear_ a t vs.toArray) λv=>fm P t v K
 | .delete,vs=>aH P (Builtin.delete_ a t vs.toArray) λv=>fm P t v K
 | .len,vs=>aH P (Builtin.len_ a t vs.toArray) λv=>fm P t v K
 | .max,vs=>aH P (Builtin.max_ a t vs.toArray) λv=>fm P t v K
 | .min,vs=>aH P (Builtin.min_ a t vs.toArray) λv=>fm P t v K
 |_,_=>F
def cV:az->Nat->az->az
 |cells,0,[]=>cells
 |_::cs,0,v::vs=>v::cV cs 0 vs
 |c::cs,n+1,vs=>c::cV cs n vs
 |[],_,_=>[]
def oU(pl:Nat->Option (Nat×Nat))(n:Nat):az->List (Nat×Value)->(az->HP)->HP
 |cells,[],k=>k cells
 |cells,(i,v)::r,k=>match pl i with
  |none=>F
  |some (off,size)=>match v with
   | .agg cs=>aP (cs.size=size) (eI (Nat.ble (off+size) n) (oU pl n (cV cells off cs.toList) r k))
   |v=>eI (Nat.beq size 1&&Nat.ble (off+1) n) (oU pl n (cV cells off [v]) r k)
def vX(P:Program)(e:Env)(o:Oper)(K:SV->HP):HP:=
 match o.op with
 | .move x=>nr e x K
 | .assign x=>nr e x K
 | .pick c a b=>nr e c λv=>match v with
  | .kb true=>nr e a K
  | .kb false=>nr e b K
  | .val (.bool t)=>ae t (nr e a K) (nr e b K)
  |_=>F
 | .build t parts=>
  match partsOf e parts.toList,xf P t with
  |some [],some _=>eI (hO P t) (K (.val (.agg (zc P t))))
  |some ps,some pl=>eI (hO P t) (oU pl (zc P t).size (zc P t).toList ps λcells=>K (.val (.agg cells.toArray)))
  |_,_=>F
 | .nilCheck x=>dv e x λv=>match v with
  | .pointer p=>ay p λa=>K (.val (.pointer (some a)))
  | .func (.func f) first captured=>K (.val (.func (.func f) first captured))
  |_=>F
 | .binOp op t x y _=>dv e x λa=>dv e y λb=>qJ P op t a b (λv=>K (.val v)) F
 | .unOp op _ x=>nr e x λv=>match op,v with
  | .not,.kb b=>K (.kb (match b with|true=>false|false=>true))
  | .not,.val (.bool b)=>K (.val (.bool !b))
  | .neg,.val (.int k n)=>K (.val (.int k (k.wrap (0-n))))
  | .xor,.val (.int k n)=>K (.val (.int k (bh .xor k (if k.signed then-1 else k.max) n)))
  |_,_=>F
 | .convert src dst x=>dv e x λv=>match P.underlying dst,v with
  |some (.int k),.int _ n=>eI (P.underlying src).isSome (K (.val (.int k (k.wrap n))))
  |_,_=>F
 | .makeFunc fn first captured=>tI e first.toList λg=>tI e captured.toList λcs=>K (.val (.func fn g.toArray cs.toArray))
 | .slice t x lo hi d=>dv e x λv=>match P.underlying t,v with
  |some (.slice elem),.slice p len cap=>eI (jG P elem) (
    jB e d cap cap λm=>jB e hi len m λh=>jB e lo 0 h λl=>
     match d,hi with
     |some _,none=>F
     |_,_=>K (.val (.slice (da p (P.cellsOf elem) l m) (h-l) (m-l))))
  |some .string,.string s=>
    match d with
    |some _=>F
    |none=>jB e hi s.size s.size λh=>jB e lo 0 h λl=>K (.val (.string (s.extract l h)))
  |some (.array n elem),.pointer q=>ay q λa=>eI (jG P elem) (
    jB e d n n λm=>jB e hi n m λh=>jB e lo 0 h λl=>
     match d,hi with
     |some _,none=>F
     |_,_=>K (.val (.slice (some (lT a (P.cellsOf elem) l m)) (h-l) (m-l))))
  |_,_=>F
 | .fieldAddr s x f=>dv e x λv=>match v,xe P s f with
  | .pointer q,some off=>ay q λa=>K (.val (.pointer (some (a.add off))))
  |_,_=>F
 | .field t x f=>dv e x λv=>match v,P.underlying t with
  | .agg cs,some (.struct g)=>match g[f]? with
   |some fd=>eI (jG P fd.type) ((TK.of P fd.type).pt cs fd.offset (P.cellsOf fd.type) λv=>K (.val v))
   |none=>F
  |_,_=>F
 | .indexAddr t x i=>dv e x λv=>dv e i λiv=>match P.underlying t,v,iv with
  |some (.slice elem),.slice q len _,.int _ n=>ay q λa=>eI (jG P elem) (
    aP (0<=n/\n<(len:Int)) (K (.val (.pointer (some (a.add (scale n.toNat (P.cellsOf elem))))))))
  |some (.array len elem),.pointer q,.int _ n=>ay q λa=>eI (jG P elem) (
    aP (0<=n/\n<(len:Int)) (K (.val (.pointer (some (a.add (scale n.toNat (P.cellsOf elem))))))))
  |_,_,_=>F
 | .index t x i=>dv e x λv=>dv e i λiv=>match P.underlying t,v,iv with
  |some (.array len elem),.agg cs,.int _ n=>eI (jG P elem) (
    aP (0<=n/\n<(len:Int)) ((TK.of P elem).pt cs (scale n.toNat (P.cellsOf elem)) (P.cellsOf elem) λv=>K (.val v)))
  |some .string,.string s,.int _ n=>aP (0<=n/\n<(s.size:Int)) (K (.val (.int .u8 (gv s n))))
  |_,_,_=>F
 | .extract x i=>nr e x λj=>match j with
  | .nx k x=>match i with
   |0=>K (.val (.bool true))
   |1=>fm P o.type k λv=>K (.val v)
   |2=>fm P o.type x λv=>K (.val v)
   |_=>F
  | .en k x=>match i with
   |0=>fm P o.type k λv=>K (.val v)
   |1=>fm P o.type x λv=>K (.val v)
   |_=>F
  | .val (.tuple vs)=>match vs[i]? with
   |some u=>K (.val u)
   |none=>F
  |_=>F
 | .call c=>tI e c.args.toList λargs=>
  match c.callee,args with
  | .builtin .len,[.slice _ n _]=>eI (sS (nm P) c.argTypes) (K (.val (.int .i64 n)))
  | .builtin .len,[.string s]=>eI (sS (yC P) c.argTypes) (K (.val (.int .i64 s.size)))
  | .builtin .max,[.int k x,.int _ y]=>K (.val (.int k (if y>x then y else x)))
  | .builtin .min,[.int k x,.int _ y]=>K (.val (.int k (if y<x then y else x)))
  |_,_=>F
 |_=>F
def og(P:Program)(e:Env)(o:Oper)(K:SV->HP):HP:=
 match o.op with
 | .alloc elem=>eI (hO P elem) (al (zc P elem) elem λb=>K (.val (.pointer (some ⟨b,0,none⟩))))
 | .box elem x=>dv e x λv=>al v.cells elem λb=>K (.val (.pointer (some ⟨b,0,none⟩)))
 | .buildSlice t len parts=>
  match partsOf e parts.toList,P.underlying t with
  |some ps,some (.slice elem)=>eI (zS P elem len) (oU (λi=>some (i*P.cellsOf elem,P.cellsOf elem)) (len*P.cellsOf elem) (nj (zc P elem).toList len) ps λcells=>al cells.toArray elem λb=>K (.val (.slice (some ⟨b,0,none⟩) len len)))
  |_,_=>F
 | .load t x=>dv e x λv=>match v with
  | .pointer p=>ay p λa=>eI (jG P t) ((TK.of P t).ld a (P.cellsOf t) λv=>K (.val v))
  |_=>F
 | .store t x y=>dv e x λv=>dv e y λu=>match v with
  | .pointer p=>ay p λa=>eI (jG P t) (match u with
   | .agg cs=>gW a cs (P.cellsOf t) (K .un)
   |u=>Cb a u (P.cellsOf t) (K .un))
  |_=>F
 | .binOp op t x y _=>dv e x λa=>dv e y λb=>match TK.of P t with
  | .any=>aH P (do eqGuard op t x y a b;binOp op t a b) λv=>fm P o.type v λv=>K (.val v)
  |_=>qJ P op t a b (λv=>K (.val v)) (aH P (do eqGuard op t x y a b;binOp op t a b) λv=>fm P o.type v λv=>K (.val v))
 | .convert src dst x=>dv e x λv=>match P.underlying dst,v with
  |some (.int k),.int _ n=>eI (P.underlying src).isSome (K (.val (.int k (k.wrap n))))
  |_,_=>aH P (convert src dst v) λv=>fm P dst v λv=>K (.val v)
 | .makeMap t none=>hE λb=>K (.val (.map (some b)))
 | .makeMap t (some x)=>dv e x λv=>aH P (Instr.makeMap t (some v)) λv=>fm P t v λv=>K (.val v)
 | .makeSlice t l c=>dv e l λlv=>dv e c λg=>match P.underlying t,lv,g with
  |some (.slice elem),.int _ l,.int _ c=>c5 P elem l c λb=>K (.val (.slice (some ⟨b,0,none⟩) l.toNat c.toNat))
  |_,_,_=>F
 | .lookup t x i ok=>dv e x λv=>dv e i λiv=>aH P (Instr.lookup t v iv ok) λv=>fm P o.type v λv=>K (.val v)
 | .mapUpdate t m k x=>dv e m λmv=>dv e k λkv=>dv e x λd=>aH P (Instr.mapUpdate t mv kv d) λ_=>K .un
 | .insert t m k x=>dv e m λmv=>dv e k λkv=>dv e x λd=>aH P (Instr.mapUpdate t mv kv d) λ_=>K .un
 | .mapEntry t m k=>dv e m λmv=>dv e k λkv=>aH P (Instr.mapEntry t mv kv) λv σ=>∃x n,v= .tuple #[x,.int .i64 n]/\K (.val (.tuple #[x,.int .i64 n])) σ
 | .entryStore t m s x=>dv e m λmv=>dv e s λkv=>dv e x λd=>aH P (Instr.entryStore t mv kv d) λ_=>K .un
 | .range t x=>dv e x λv=>aH P (Instr.range t v) λv=>iA v λp=>K (.val (.pointer p))
 | .next it s=>dv e it λv=>mY P v s o.type (K (.val (.tuple #[.bool false]))) λk x=>K (.nx k x)
 | .entry it=>dv e it λv=>k4 P v λk x=>K (.en k x)
 | .makeInterface t x=>dv e x λv=>eI (ES P t) (K (.val (.iface t v)))
 | .typeAssert x t u ok=>dv e x λv=>aH P (Instr.typeAssert v t u ok) λv=>fm P o.type v λv=>K (.val v)
 | .call c=>tI e c.args.toList λargs=>
  match c.callee with
  | .value f=>dv e f λrA=>CE P rA args o.type λv=>K (.val v)
  | .builtin b=>IT P b c.argTypes o.type args λv=>K (.val v)
  | .invoke r name=>dv e r λh=>ey P (invoke (.fn (.method name) #[]) (#[h]++args.toArray)) λv=>fm P o.type v λv=>K (.val v)
 |_=>vX P e o K
def dC{e:Env}{ρ:Operand->Value}(b:∀x v,ev e x=some v->ρ x=v.cd){x:Operand}{f:aK}{σ:Heap}(h:dv e x f σ):f (ρ x) σ:=by
 unfold dv at h
 cases a:ev e x with
 |none=>rw[a]at h;exact h.elim
 |some v=>rw[a]at h;rw[b x v a];exact h
def pC{e:Env}{ρ:Operand->Value}(b:∀x v,ev e x=some v->ρ x=v.cd){x:Operand}{f:SV->HP}{σ:Heap}(h:nr e x f σ):∃v,ρ x=v.cd/\f v σ:=by
 unfold nr at h
 cases a:ev e x with
 |none=>rw[a]at h;exact h.elim
 |some v=>rw[a]at h;exact⟨v,b x v a,h⟩
def Fa{e:Env}{ρ:Operand->Value}(a:∀x v,ev e x=some v->ρ x=v.cd):∀(l:List Operand) (vs:az),rq e l=some vs->l.map ρ=vs
 |[],vs,h=>by simpa[rq]using h
 |x::r,vs,h=>by
  simp only[rq]at h;split at h
  ·rename_i v b
   split at h
   ·rename_i us hu
    cases h;simp[a x v b,Fa a r us hu]
   ·cases h
  ·cases h
def yL{e:Env}{ρ:Operand->Value}(b:∀x v,ev e x=some v->ρ x=v.cd){l:List Operand}{f:az->HP}{σ:Heap}(h:tI e l f σ):f (l.map ρ) σ:=by
 unfold tI at h
 cases a:rq e l with
 |none=>rw[a]at h;exact h.elim
 |some vs=>rw[a]at h;rw[Fa b l vs a];exact h
def Bw{e:Env}{ρ:Operand->Value}(a:∀x v,ev e x=some v->ρ x=v.cd):∀(l:List (Nat×Operand)) (vs:List (Nat×Value)),partsOf e l=some vs->l.map (λp=>(p.1,ρ p.2))=vs
 |[],vs,h=>by simpa[partsOf]using h
 |(i,x)::r,vs,h=>by
  simp only[partsOf]at h;split at h
  ·rename_i v b
   split at h
   ·rename_i us hu
    cases h;simp[a x v b,Bw a r us hu]
   ·cases h
  ·cases h
def eW{b:Bool}{p:HP}{σ:Heap}(h:eI b p σ):b=true/\p σ:=by
 cases b
 ·exact h.elim
 ·exact⟨rfl,h⟩
def oO{p:av}{f:Addr->HP}{σ:Heap}(h:ay p f σ):∃a,p=some a/\f a σ:=by
 cases p
 ·exact h.elim
 ·exact⟨_,rfl,h⟩
def yV{b:Bool}{p q:HP}{σ:Heap}(h:ae b p q σ):(if b then p else q) σ:=by
 cases b
 ·exact h.2 rfl
 ·exact h.1 rfl
section
variable {P:Program}
def kD{s:Sem Value}{K:aK}{σ:Heap}(h:aH P s K σ):ey P (do let v<-s;pure (.value v)) K σ:=by intro w hw;obtain⟨v,w',h1,a,b⟩:=h w hw;exact⟨.value v,w',by simp[h1],a,.inl ⟨v,rfl,b⟩⟩
def Wu{s:Sem Unit}{K:aK}{σ:Heap}(h:aH P s (λ_=>K undef) σ):ey P (do s;pure .skip) K σ:=by intro w hw;obtain⟨v,w',h1,a,b⟩:=h w hw;exact⟨.skip,w',by simp[h1],a,.inr (.inl ⟨rfl,b⟩)⟩
def GN{s:Sem Next}{K a:aK}{σ:Heap}(U:∀v σ,K v σ->a v σ)(h:ey P s K σ):ey P s a σ:=by
 intro w hw;obtain⟨r,w',h1,b,c⟩:=h w hw;refine⟨r,w',h1,b,?_⟩;rcases c with⟨v,e,k⟩|⟨e,k⟩|⟨f,args,e,k⟩|⟨l,f,ts,as,oP,e,k⟩
 ·exact .inl ⟨v,e,U _ _ k⟩
 ·exact .inr (.inl ⟨e,U _ _ k⟩)
 ·exact .inr (.inr (.inl ⟨f,args,e,Et U k⟩))
 ·exact .inr (.inr (.inr ⟨l,f,ts,as,oP,e,Yh U k⟩))
def gV{t:TypeId}{d:TypeDesc}{K:TypeDesc->HP}{σ:Heap}(h:P.underlying t=some d)(k:K d σ):aH P (underlying t) K σ:=dD d (λw _=>by simp[underlying,h]) k
def n8{t:TypeId}{i:TypeInfo}{K:TypeInfo->HP}{σ:Heap}(h:P.info? t=some i)(k:K i σ):aH P (typeInfo t) K σ:=dD i (λw _=>by simp[typeInfo,h]) k
def pf{t:TypeId}{K:Nat->HP}{σ:Heap}(h:(P.info? t).isSome=true)(k:K (P.cellsOf t) σ):aH P (sizeOf t) K σ:=by obtain⟨i,hi⟩:=h9.1 h;refine dD _ (λw _=>?_) k;simp[sizeOf,typeInfo,hi,Program.cellsOf]
def vF{t:TypeId}{d:TypeDesc}(h:P.underlying t=some d)(w:World):(isAgg t).run P w= .ok (match d with| .struct _| .array _ _=>true|_=>false) w:=by simp only[isAgg,Sem.run_bind,underlying,run_program,Result.andThen_ok,h,Sem.run_pure];cases d<;>rfl
def TK.vh{t:TypeId}{d:TypeDesc}(h:P.underlying t=some d):(match d with| .struct _| .array _ _=>true|_=>false)=(TK.of P t).isAgg:=by simp only[TK.of,h];cases d<;>rfl
def YF{t:TypeId}{K:Bool->HP}{σ:Heap}(h:(P.underlying t).isSome=true)(k:K (TK.of P t).isAgg σ):aH P (isAgg t) K σ:=by obtain⟨d,hd⟩:=h9.1 h;refine dD _ (λw _=>?_) k;rw[vF hd,TK.vh hd]
def YG{a:Addr}{K:aK}{σ:Heap}(h:∃v,b0 σ a=some v/\K v σ):aH P (load a) K σ:=by obtain⟨v,b,U⟩:=h;refine dD v (λw hw=>?_) U;rw[run_load,k1,hw,b]
def YI{a:Addr}{v:Value}{k:HP}{σ:Heap}(h:st a v k σ):aH P (store a v) (λ_=>k) σ:=by
 obtain⟨⟨u,hu⟩,hf,b,U⟩:=h;intro w hw;refine⟨(),w.setCell a v,?_,⟨rfl,rfl,rfl⟩,?_⟩
 ·rw[run_store _ _ _ _ _ b,k1,hw,hu]
  simp only[AB,hw,hf];rfl
 ·rw[setCell_eq,hw];exact U
def qC{a:Addr}:∀(vs:az) (i:Nat) {k:HP} {σ:Heap},hJ a i vs k σ->aH P (storeCells a vs i) (λ_=>k) σ
 |[],i,k,σ,h=>by simp only[storeCells];exact cv h
 |v::r,i,k,σ,h=>by simp only[storeCells];simp only[hJ]at h;exact aX (gU (λ_ σ h=>qC r (i+1) h) (YI h))
def HO{a:Addr}{n:Nat}{K:aw->HP}{σ:Heap}(h:eQ a n K σ):aH P (loadCells a n) K σ:=by
 obtain⟨cs,b,hc,U⟩:=h;refine dD cs (λw hw=>?_) U
 have:=run_loadCells_list (P:=P) w a cs.toList (λj v c=>by
  have d:j<n:=by have:=bY.1 c;obtain⟨h1,_⟩:=this;simpa[b]using h1
  rw[k1,hw,hc j d];simpa using c)
 simpa[b]using this
def px{t:TypeId}(h:jG P t=true):(P.info? t).isSome=true/\(P.underlying t).isSome=true:=by simpa[jG]using h
def YH{t:TypeId}{a:Addr}{K:aK}{σ:Heap}(b:jG P t=true)(h:(TK.of P t).ld a (P.cellsOf t) K σ):aH P (loadVar t a) K σ:=by
 obtain⟨hi,hu⟩:=px b;unfold loadVar;refine aX (YF hu ?_)
 cases U:(TK.of P t).isAgg with
 |true=>
  have he:TK.of P t= .agg:=by revert U;generalize TK.of P t=k;cases k<;>simp[TK.isAgg]
  rw[he]at h;simp only[TK.ld]at h;simp only[eb];refine aX (pf hi ?_);refine aX (gU (λv σ h=>cv h) (HO h))
 |false=>
  have he:TK.of P t≠ .agg:=by intro he;rw[he]at U;cases U
  simp only[gb,ep];exact YG (TK.Vt _ he h)
end
end
section
section
variable {P:Program}
abbrev lift(K:SV->HP):aK:=λv σ=>∃a:SV,a.cd=v/\K a σ
def gn{K:SV->HP}{v:Value}{σ:Heap}(h:K (.val v) σ):lift K v σ:=⟨.val v,rfl,h⟩
def qD{t:TypeId}{K:aK}{σ:Heap}(h:hO P t=true)(k:∀z,z.cells=zc P t->K z σ):aH P (zeroValue t) K σ:=by
 unfold hO at h
 cases hi:P.info? t with
 |none=>rw[hi]at h;cases h
 |some i=>rw[hi]at h;obtain⟨z,hz⟩:=h9.1 h;refine dD z (λw _=>by simp[zeroValue,typeInfo,hi,hz]) (k z ?_);simp[zc,hi,hz]
def vG{cs:aw}{T:TypeId}{K:Nat->HP}{σ:Heap}(h:K σ.size (σ.push (.cells cs T))):aH P (newObj (.cells cs T)) K σ:=by intro w hw;refine⟨_,_,run_newObj P w _,⟨rfl,rfl,rfl⟩,?_⟩;rw[hw];exact h
def HS{v:Value}{T:TypeId}{K:Addr->HP}{σ:Heap}(h:al v.cells T (λb=>K ⟨b,0,none⟩) σ):aH P (newVar T v) K σ:=by unfold newVar newRow;exact aX (vG (cv h))
def Hh:Value->Value->Prop
 | .nilIface,.nilIface=>False
 | .agg _,.agg _=>False
 |_,_=>True
def T5{op:BinOp}{t:TypeId}{x y:Operand}{a b:Value}(h:Hh a b)(w:World):(eqGuard op t x y a b).run P w= .ok () w:=by unfold eqGuard;cases op<;>(try rfl);all_goals (cases a<;>cases b<;>first|exact h.elim|rfl)
def Hn{t:TypeId}(h:yb P t=true):∃e,P.underlying t=some (.pointer e):=by
 unfold yb at h
 cases hu:P.underlying t with
 |none=>rw[hu]at h;cases h
 |some d=>cases d<;>simp[hu]at h;exact⟨_,rfl⟩
def rW{t:TypeId}(h:nm P t=true):∃e,P.underlying t=some (.slice e):=by
 unfold nm at h
 cases hu:P.underlying t with
 |none=>rw[hu]at h;cases h
 |some d=>cases d<;>simp[hu]at h;exact⟨_,rfl⟩
def Gv{t:TypeId}(h:xK P t=true):∃k e,P.underlying t=some (.map k e):=by
 unfold xK at h
 cases hu:P.underlying t with
 |none=>rw[hu]at h;cases h
 |some d=>cases d<;>simp[hu]at h;exact⟨_,_,rfl⟩
def Ek{t:TypeId}(h:wV P t=true):P.underlying t=some .bool:=by
 unfold wV at h
 cases hu:P.underlying t with
 |none=>rw[hu]at h;cases h
 |some d=>cases d<;>simp[hu]at h;rfl
def E8{t:TypeId}{x y:Value}{b:Bool}(h:∀d (w:World),(Op.equalIn (d+1) t x y).run P w= .ok b w)(w:World):(Op.equal t x y).run P w= .ok b w:=h 9999 w
def w9{t:TypeId}{x y:Value}{b:Bool}(a:binOp .eql t x y=(do pure (.bool (<-Op.equal t x y))))(h:∀d (w:World),(Op.equalIn (d+1) t x y).run P w= .ok b w)(w:World):(binOp .eql t x y).run P w= .ok (.bool b) w:=by rw[a,Sem.run_bind,E8 h,Result.andThen_ok,Sem.run_pure]
def xN{t:TypeId}{x y:Value}{b:Bool}(a:binOp .neq t x y=(do pure (.bool (!(<-Op.equal t x y)))))(h:∀d (w:World),(Op.equalIn (d+1) t x y).run P w= .ok b w)(w:World):(binOp .neq t x y).run P w= .ok (.bool !b) w:=by rw[a,Sem.run_bind,E8 h,Result.andThen_ok,Sem.run_pure]
def GQ{t e:TypeId}{p:av}(he:P.underlying t=some (.pointer e))(d:Nat)(w:World):(Op.equalIn (d+1) t (.pointer p) (.pointer none)).run P w= .ok p.isNone w:=by cases p<;>simp only[Op.equalIn,underlying,Sem.run_bind,run_program,Result.andThen_ok,he,Sem.run_pure]<;>rfl
def GR{t e:TypeId}{p:av}{l c a c':Nat}(he:P.underlying t=some (.slice e))(d:Nat)(w:World):(Op.equalIn (d+1) t (.slice p l c) (.slice none a c')).run P w= .ok p.isNone w:=by cases p<;>simp only[Op.equalIn,underlying,Sem.run_bind,run_program,Result.andThen_ok,he,Sem.run_pure]<;>rfl
def GP{t k e:TypeId}{p:Option Nat}(he:P.underlying t=some (.map k e))(d:Nat)(w:World):(Op.equalIn (d+1) t (.map p) (.map none)).run P w= .ok p.isNone w:=by cases p<;>simp only[Op.equalIn,underlying,Sem.run_bind,run_program,Result.andThen_ok,he,Sem.run_pure]<;>rfl
def Ar{t:TypeId}{a b:Bool}(he:P.underlying t=some .bool)(d:Nat)(w:World):(Op.equalIn (d+1) t (.bool a) (.bool b)).run P w= .ok (a==b) w:=by simp only[Op.equalIn,underlying,Sem.run_bind,run_program,Result.andThen_ok,he,Sem.run_pure]
def IS{op:BinOp}{t:TypeId}{x y:Operand}{a b:Value}{K:aK}{σ:Heap}(h:qJ P op t a b K F σ):∃v,(∀w:World,(do eqGuard op t x y a b;binOp op t a b:Sem Value).run P w= .ok v w)/\K v σ:=by
 have f:∀{v:Value},Hh a b->(∀w:World,(binOp op t a b).run P w= .ok v w)->
   ∀w:World,(do eqGuard op t x y a b;binOp op t a b:Sem Value).run P w= .ok v w:=by
  intro v hm hr w;rw[Sem.run_bind,T5 hm,Result.andThen_ok,hr]
 cases a
 case int k m=>
  cases b
  case int k' n=>
   by_cases U:k=k'
   ·subst U
    cases op<;>simp only[qJ,eb]at h
    case quo=>obtain⟨h1,d⟩:=h;exact⟨_,f trivial λw=>by simp only[binOp,ne_eq,Dk,ep,Op.intDiv,h1];rfl,d⟩
    case rem=>obtain⟨h1,d⟩:=h;exact⟨_,f trivial λw=>by simp only[binOp,ne_eq,Dk,ep,Op.intDiv,h1];rfl,d⟩
    case shl=>obtain⟨h1,d⟩:=h;exact⟨_,f trivial λw=>by simp only[binOp,Op.shift,aj (v8.2 h1)];rfl,d⟩
    case shr=>obtain⟨h1,d⟩:=h;exact⟨_,f trivial λw=>by simp only[binOp,Op.shift,aj (v8.2 h1)];rfl,d⟩
    all_goals exact⟨_,f trivial λw=>by simp only[binOp,ne_eq,Dk,ep];rfl,h⟩
   ·cases op<;>simp only[qJ,U,ep]at h
    case shl=>obtain⟨h1,d⟩:=h;exact⟨_,f trivial λw=>by simp only[binOp,Op.shift,aj (v8.2 h1)];rfl,d⟩
    case shr=>obtain⟨h1,d⟩:=h;exact⟨_,f trivial λw=>by simp only[binOp,Op.shift,aj (v8.2 h1)];rfl,d⟩
    all_goals exact h.elim
  all_goals exact h.elim
 case bool s=>
  cases b
  case bool u=>
   cases op
   case eql=>obtain⟨h1,d⟩:=eW h;exact⟨_,f trivial (w9 rfl (Ar (Ek h1))),d⟩
   case neq=>obtain⟨h1,d⟩:=eW h;exact⟨_,f trivial (xN rfl (Ar (Ek h1))),d⟩
   all_goals exact h.elim
  all_goals exact h.elim
 case string s=>
  cases b
  case string u=>
   cases op
   case eql=>exact⟨_,f trivial λw=>rfl,h⟩
   case neq=>exact⟨_,f trivial λw=>rfl,h⟩
   all_goals exact h.elim
  all_goals exact h.elim
 case pointer p=>
  cases b
  case pointer q=>
   cases q with
   |some q=>cases p<;>exact h.elim
   |none=>
    cases op
    case eql=>obtain⟨h1,d⟩:=eW h;obtain⟨e,he⟩:=Hn h1;exact⟨_,f trivial (w9 (by cases p<;>rfl) (GQ he)),d⟩
    case neq=>obtain⟨h1,d⟩:=eW h;obtain⟨e,he⟩:=Hn h1;exact⟨_,f trivial (xN (by cases p<;>rfl) (GQ he)),d⟩
    all_goals exact h.elim
  all_goals exact h.elim
 case slice p l c=>
  cases b
  case slice q g c'=>
   cases q with
   |some q=>exact h.elim
   |none=>
    cases op
    case eql=>obtain⟨h1,d⟩:=eW h;obtain⟨e,he⟩:=rW h1;exact⟨_,f trivial (w9 (by cases p<;>rfl) (GR he)),d⟩
    case neq=>obtain⟨h1,d⟩:=eW h;obtain⟨e,he⟩:=rW h1;exact⟨_,f trivial (xN (by cases p<;>rfl) (GR he)),d⟩
    all_goals exact h.elim
  all_goals exact h.elim
 case map p=>
  cases b
  case map q=>
   cases q with
   |some q=>exact h.elim
   |none=>
    cases op
    case eql=>obtain⟨h1,d⟩:=eW h;obtain⟨k,e,he⟩:=Gv h1;exact⟨_,f trivial (w9 (by cases p<;>rfl) (GP he)),d⟩
    case neq=>obtain⟨h1,d⟩:=eW h;obtain⟨k,e,he⟩:=Gv h1;exact⟨_,f trivial (xN (by cases p<;>rfl) (GP he)),d⟩
    all_goals exact h.elim
  all_goals exact h.elim
 all_goals exact h.elim
def aa8{op:BinOp}{t:TypeId}{a b:Value}{K:aK}{fb:HP}{σ:Heap}(h:qJ P op t a b K fb σ):qJ P op t a b K F σ\/fb σ:=by
 cases a
 case int k m=>
  cases b
  case int k' n=>exact .inl h
  all_goals exact .inr h
 case bool s=>
  cases b
  case bool u=>cases op<;>first|exact .inl h|exact .inr h
  all_goals exact .inr h
 case string s=>
  cases b
  case string u=>cases op<;>first|exact .inl h|exact .inr h
  all_goals exact .inr h
 case pointer p=>
  cases b
  case pointer q=>
   cases q with
   |some q=>cases p<;>exact .inr h
   |none=>cases op<;>first|exact .inl h|exact .inr h
  all_goals exact .inr h
 case slice p l c=>
  cases b
  case slice q d c'=>
   cases q with
   |some q=>exact .inr h
   |none=>cases op<;>first|exact .inl h|exact .inr h
  all_goals exact .inr h
 case map p=>
  cases b
  case map q=>
   cases q with
   |some q=>exact .inr h
   |none=>cases op<;>first|exact .inl h|exact .inr h
  all_goals exact .inr h
 all_goals exact .inr h
end
end
section
section
variable {P:Program}
def Yields(P:Program)(s:Sem Next)(v:Value):Prop:=∀w:World,s.run P w= .ok (.value v) w
def j8{s:Sem Value}{v:Value}(h:∀w:World,s.run P w= .ok v w):Yields P (do let v<-s;pure (.value v)) v:=λw=>by simp[h w]
def Hd{t:TypeId}{cs:aw}{off:Nat}{K:aK}{σ:Heap}(a:jG P t=true)(h:(TK.of P t).pt cs off (P.cellsOf t) K σ):∃v,(∀w:World,(part t cs off).run P w= .ok v w)/\K v σ:=by
 obtain⟨hi,hu⟩:=px a;obtain⟨d,hd⟩:=h9.1 hu
 cases U:(TK.of P t).isAgg with
 |true=>
  have he:TK.of P t= .agg:=by revert U;generalize TK.of P t=k;cases k<;>simp[TK.isAgg]
  rw[he]at h;simp only[TK.pt]at h;refine⟨_,λw=>?_,h⟩;obtain⟨i,hi⟩:=h9.1 hi;unfold part;rw[Sem.run_bind,vF hd,TK.vh hd,U,Result.andThen_ok];simp[sizeOf,typeInfo,hi,Program.cellsOf]
 |false=>
  have b0:∃v,cs[off]?=some v/\K v σ:=by
   revert h U;generalize TK.of P t=k;intro h U;cases k<;>simp only[TK.pt]at h
   case agg=>cases U
   case slice=>obtain⟨p,l,c,e,h⟩:=h;exact⟨_,e,h⟩
   all_goals (obtain⟨b,e,h⟩:=h;exact⟨_,e,h⟩)
  obtain⟨v,f,g⟩:=b0;refine⟨v,λw=>?_,g⟩;unfold part;rw[Sem.run_bind,vF hd,TK.vh hd,U,Result.andThen_ok];simp[f]
def rF{e:Env}{ρ:Operand->Value}(g:∀x v,ev e x=some v->ρ x=v.cd){x:Option Operand}{d c:Nat}{f:Nat->HP}{σ:Heap}(h:jB e x d c f σ):(x=none/\f d σ)\/∃y k n,x=some y/\ρ y= .int k n/\0<=n/\n<=(c:Int)/\f n.toNat σ:=by
 unfold jB at h
 cases x with
 |none=>exact .inl ⟨rfl,h⟩
 |some y=>
  right;simp only at h
  cases a:ev e y with
  |none=>rw[a]at h;exact h.elim
  |some v=>
   rw[a]at h
   cases v with
   |val v=>
    cases v<;>first|exact h.elim|skip
    obtain⟨⟨h1,i⟩,j⟩:=h;exact⟨y,_,_,rfl,g y _ a,h1,i,j⟩
   |kb b=>exact h.elim
   |un=>exact h.elim
   |nx _ _=>exact h.elim
   |en _ _=>exact h.elim
def po{k:IntKind}{n:Int}{a:Nat}{code:BoundsCode}(h0:0<=n)(h1:n<=(a:Int))(w:World):(Instr.sliceBound (.int k n) a code).run P w= .ok n.toNat w:=by simp[Instr.sliceBound,asIntOf,h0,h1]
def zT{ρ:Operand->Value}{isSlice:Bool}{len cap:Nat}{lo hi k:Option Operand}{e:Env}{σ:Heap}{f:Nat->Nat->Nat->HP}(a:∀x v,ev e x=some v->ρ x=v.cd)(h:jB e k cap cap (λm=>jB e hi len m λh=>jB e lo 0 h λl=>match k,hi with|some _,none=>F|_,_=>f l h m) σ):∃l h m,(∀w:World,(Instr.sliceBounds isSlice len cap (lo.map ρ) (hi.map ρ) (k.map ρ)).run P w= .ok (l,h,m) w)/\f l h m σ:=by
 rcases rF a h with⟨rfl,h⟩|⟨t,u,p,rfl,em,q,r,h⟩
 ·rcases rF a h with⟨rfl,h⟩|⟨s,kh,nh,rfl,g,i,j,h⟩
  ·rcases rF a h with⟨rfl,h⟩|⟨n,o,nl,rfl,b,c,d,h⟩
   ·exact⟨0,len,cap,λw=>by simp[Instr.sliceBounds],h⟩
   ·exact⟨nl.toNat,len,cap,λw=>by simp[Instr.sliceBounds,b,po c d],h⟩
  ·rcases rF a h with⟨rfl,h⟩|⟨n,o,nl,rfl,b,c,d,h⟩
   ·exact⟨0,nh.toNat,cap,λw=>by simp[Instr.sliceBounds,g,po i j],h⟩
   ·exact⟨nl.toNat,nh.toNat,cap,λw=>by simp[Instr.sliceBounds,b,g,po i j,po c d],h⟩
 ·rcases rF a h with⟨rfl,h⟩|⟨s,kh,nh,rfl,g,i,j,h⟩
  ·rcases rF a h with⟨rfl,h⟩|⟨n,o,nl,rfl,b,c,d,h⟩
   ·exact h.elim
   ·exact h.elim
  ·rcases rF a h with⟨rfl,h⟩|⟨n,o,nl,rfl,b,c,d,h⟩
   ·exact⟨0,nh.toNat,p.toNat,λw=>by simp[Instr.sliceBounds,g,em,po q r,po i j],h⟩
   ·exact⟨nl.toNat,nh.toNat,p.toNat,λw=>by simp[Instr.sliceBounds,b,g,em,po q r,po i j,po c d],h⟩
def n9{t:TypeId}(h:(P.info? t).isSome=true)(w:World):(sizeOf t).run P w= .ok (P.cellsOf t) w:=by obtain⟨i,hi⟩:=h9.1 h;simp[sizeOf,typeInfo,hi,Program.cellsOf]
def h6{t:TypeId}{d:TypeDesc}(h:P.underlying t=some d)(w:World):(underlying t).run P w= .ok d w:=by simp[underlying,h]
def Ui{s:TypeId}{f off:Nat}(h:xe P s f=some off):∃a fd,P.underlying s=some (.struct a)/\a[f]?=some fd/\(P.info? fd.type).isSome=true/\P.cellsOf fd.type≠0/\fd.offset=off:=by
 unfold xe at h
 cases hu:P.underlying s with
 |none=>rw[hu]at h;cases h
 |some d=>
  rw[hu]at h;cases d<;>simp only at h<;>first|(cases h;done)|skip
  rename_i a
  cases hf:a[f]? with
  |none=>rw[hf]at h;cases h
  |some fd=>
   rw[hf]at h;simp only at h;split at h
   ·cases h
   ·rename_i b
    cases h;refine⟨a,fd,rfl,hf,?_,b,rfl⟩;unfold Program.cellsOf at b
    cases hi:P.info? fd.type with
    |none=>rw[hi]at b;simp at b
    |some i=>rfl
def tA{s:Sem Next}{v:Value}{K:aK}{σ:Heap}(h:Yields P s v)(k:K v σ):ey P s K σ:=λw hw=>⟨_,w,h w,.refl w,.inl ⟨v,rfl,hw▸k⟩⟩
def Ii{t:TypeId}(h:yC P t=true):P.underlying t=some .string:=by
 unfold yC at h
 cases hu:P.underlying t with
 |none=>rw[hu]at h;cases h
 |some d=>cases d<;>simp[hu]at h;rfl
def Uj{pl pl':Nat->Option (Nat×Nat)}(h:∀i,pl i=pl' i)(z:aw)(ps:List (Nat×Value)):Instr.fill pl z ps=Instr.fill pl' z ps:=by rw[show pl=pl' from funext h]
def V4(a:List Field)(h:a.all (λf=>(P.info? f.type).isSome)=true)(w:World):(a.mapM (λf=>do pure (f.offset,<-sizeOf f.type):Field->Sem (Nat×Nat))).run P w= .ok (a.map λf=>(f.offset,P.cellsOf f.type)) w:=by
 induction a with
 |nil=>rfl
 |cons f a b=>simp only[y7,cg]at h;rw[C7];simp only[Sem.run_bind,n9 h.1,Result.andThen_ok,Sem.run_pure,b h.2,cX]
def Lp{t:TypeId}{pl:Nat->Option (Nat×Nat)}{ps:List (Nat×Value)}{cells:aw}(hz:hO P t=true)(a:xf P t=some pl)(hf:Instr.fill pl (zc P t) ps=some cells)(w:World):(Instr.build t ps.toArray).run P w= .ok (.agg cells) w:=by
 unfold hO at hz
 cases hi:P.info? t with
 |none=>rw[hi]at hz;cases hz
 |some i=>
  rw[hi]at hz;obtain⟨z,c⟩:=h9.1 hz;have e:z.cells=zc P t:=by simp[zc,hi,c]
  unfold Instr.build;have g:(zeroValue t).run P w= .ok z w:=by simp[zeroValue,typeInfo,hi,c]
  unfold xf at a
  cases hu:P.underlying t with
  |none=>rw[hu]at a;cases a
  |some d=>
   rw[hu]at a;simp only[Sem.run_bind,g,Result.andThen_ok,h6 hu,e];cases d<;>simp only at a<;>first|(cases a;done)|skip
   case struct b=>
    split at a
    ·rename_i h
     cases a;have:=V4 b.toList h w;simp only[Sem.run_bind]
     have hm:(b.mapM (λf=>do pure (f.offset,<-sizeOf f.type):Field->Sem (Nat×Nat))).run P w= .ok ((b.toList.map λf=>(f.offset,P.cellsOf f.type)).toArray) w:=by rw[I0];simp only[Sem.run_map,this,Result.andThen_ok]
     rw[hm];simp only[Result.andThen_ok];rw[Uj (pl':=λi=>(b[i]?).map λf=>(f.offset,P.cellsOf f.type)) λi=>by simp];rw[hf];rfl
    ·cases a
   case array n elem=>
    split at a
    ·rename_i hs
     cases a;simp only[Sem.run_bind,n9 hs,Result.andThen_ok,hf];rfl
    ·cases a
def FD(off:Nat):∀(l:az) (k:Nat) (cs:aw),off+k+l.length<=cs.size->((l.zipIdx k).foldl (λ(cs:aw) (x:Value×Nat)=>cs.setIfInBounds (off+x.2) x.1) cs).toList=cs.toList.take (off+k)++l++cs.toList.drop (off+k+l.length)
 |[],k,cs,h=>by simp
 |v::l,k,cs,h=>by
  simp only[c8]at h;simp only[List.zipIdx_cons,wi];rw[FD off l (k+1) _ (by simp;omega)];have a:off+k<cs.toList.length:=by simp;omega
  simp only[CO,c8];rw[show off+(k+1)=(off+k)+1 from by omega,Dd (by simpa using a)];simp only[Ja,Db (dQ _),el,qL,kQ];rw[List.drop_set_of_lt (by omega)];rw[show off+k+1+l.length=off+k+(l.length+1)from by omega]
def BG:∀(cells:az) (off:Nat) (vs:az),off+vs.length<=cells.length->cV cells off vs=cells.take off++vs++cells.drop (off+vs.length)
 |cells,0,[],_=>by cases cells<;>simp[cV]
 |c::cs,0,v::vs,h=>by simp only[c8]at h;simp only[cV];rw[BG cs 0 vs (by omega)];simp
 |c::cs,n+1,vs,h=>by simp only[c8]at h;simp only[cV];rw[BG cs n vs (by omega)];simp[Nat.add_right_comm]
 |[],0,v::vs,h=>by simp at h
 |[],n+1,vs,h=>by simp at h
def Ax{pl:Nat->Option (Nat×Nat)}:∀(ps:List (Nat×Value)) (cells:aw) {k:az->HP} {σ:Heap},oU pl cells.size cells.toList ps k σ->∃a,Instr.fill pl cells ps=some a/\k a.toList σ
 |[],cells,k,σ,h=>⟨cells,rfl,h⟩
 |(i,v)::r,cells,k,σ,h=>by
  simp only[oU]at h
  cases e:pl i with
  |none=>rw[e]at h;exact h.elim
  |some os=>
   obtain⟨off,size⟩:=os;rw[e]at h
   have key:∀(vs:aw),v.cells=vs->vs.size=size->off+size<=cells.size->
     oU pl cells.size (cV cells.toList off vs.toList) r k σ->
     ∃a,Instr.fill pl cells ((i,v)::r)=some a/\k a.toList σ:=by
    intro vs d hs hle h;rw[BG _ _ _ (by simpa[hs]using hle),kM,hs]at h;simp only[Instr.fill,e];rw[aj (by rw[d,hs];simp;omega)];have hf:=FD off vs.toList 0 cells (by simpa[hs]using hle)
    have he:(v.cells.zipIdx.foldl (λcs (c,j)=>cs.setIfInBounds (off+j) c) cells).toList=cells.toList.take off++vs.toList++cells.toList.drop (off+size):=by rw[d,<-Array.foldl_toList];simp only[Array.toList_zipIdx];simpa[hs]using hf
    have f:(v.cells.zipIdx.foldl (λcs (c,j)=>cs.setIfInBounds (off+j) c) cells).size=cells.size:=by rw[<-kM,he];simp only[b',fv,kN,kM,hs];omega
    have:=Ax (pl:=pl) r (v.cells.zipIdx.foldl (λcs (c,j)=>cs.setIfInBounds (off+j) c) cells) (k:=k) (σ:=σ);rw[f,he]at this;exact this h
   have g:(v.cells=#[v])->eI (Nat.beq size 1&&Nat.ble (off+1) cells.size) (oU pl cells.size (cV cells.toList off [v]) r k) σ->
     ∃a,Instr.fill pl cells ((i,v)::r)=some a/\k a.toList σ:=by
    intro d h;obtain⟨b,l⟩:=eW h;simp only[cg]at b;obtain rfl:=lM b.1;exact key #[v] d rfl (wq b.2) l
   cases v
   case agg cs=>obtain⟨hs,h⟩:=h;obtain⟨b,h⟩:=eW h;exact key cs rfl hs (wq b) h
   all_goals exact g rfl h
def X6(z:az):∀n,(nj z n).length=n*z.length
 |0=>by simp[nj]
 |n+1=>by simp[nj,X6 z n,pK];omega
def HA(z:aw):∀n,(gr z (n*z.size)).toList=nj z.toList n
 |0=>by simp[gr,nj,Array.range]
 |n+1=>by
  have c:=HA z n;simp only[nj];rw[<-c];apply ji;intro i;have d:(n+1)*z.size=z.size+n*z.size:=by rw[pK];omega
  simp only[gr,y1,Array.getElem?_map,zd,kM];by_cases h1:i<z.size
  ·have a:i<(n+1)*z.size:=by omega
   rw[ag h1];simp[CM,a,ov h1,h1]
  ·rw[aj h1]
   by_cases a:i<(n+1)*z.size
   ·have b:i-z.size<n*z.size:=by omega
    have hm:i%z.size=(i-z.size)%z.size:=by rw[zp (by omega)]
    simp[CM,a,b,hm]
   ·have b:¬i-z.size<n*z.size:=by omega
    simp[CM,a,b]
def Lq{t elem:TypeId}{len:Nat}{ps:List (Nat×Value)}{K:Nat->HP}{σ:Heap}(hu:P.underlying t=some (.slice elem))(aM:zS P elem len=true)(h:oU (λi=>some (i*P.cellsOf elem,P.cellsOf elem)) (len*P.cellsOf elem) (nj (zc P elem).toList len) ps (λcells=>al cells.toArray elem K) σ):aH P (Instr.buildSlice t len ps.toArray) (λv eC=>∃b,v= .slice (some ⟨b,0,none⟩) len len/\K b eC) σ:=by
 simp only[zS,cg]at aM;obtain⟨⟨hz,hle⟩,hs⟩:=aM;have hs:=lM hs;have hle:=wq hle
 have hi:(P.info? elem).isSome=true:=by
  unfold hO at hz
  cases hi:P.info? elem with
  |none=>rw[hi]at hz;cases hz
  |some i=>rfl
 have a:=HA (zc P elem) len;rw[hs]at a;have c:(gr (zc P elem) (len*P.cellsOf elem)).size=len*P.cellsOf elem:=by simp[gr]
 have h1:=Ax ps (gr (zc P elem) (len*P.cellsOf elem)) (σ:=σ)
  (by rw[c,a];exact h)
 obtain⟨cells,hf,U⟩:=h1;unfold Instr.buildSlice;refine aX (gV hu ?_);refine aX (pf hi ?_);rw[aj (by omega)]
 have fin:∀(sT:String)(z:aw),(len*P.cellsOf elem=0/\z=#[])\/z=zc P elem->aH P (do
   let some cells:=Instr.fill (λi=>some (i*P.cellsOf elem,P.cellsOf elem)) ((Array.range (len*P.cellsOf elem)).map (z[·%z.size]!)) ps.toArray.toList
    |stuck sT
   pure (.slice (some (<-newRow elem cells)) len len):Sem Value) (λv eC=>∃b,v= .slice (some ⟨b,0,none⟩) len len/\K b eC) σ:=by
  intro _ z hz
  have d:(Array.range (len*P.cellsOf elem)).map (z[·%z.size]!)=gr (zc P elem) (len*P.cellsOf elem):=by
   rcases hz with⟨h0,rfl⟩|rfl
   ·rw[h0];simp[gr,Array.range]
   ·rfl
  rw[d];simp only[hf];unfold newRow;exact aX (aX (vG (cv (cv ⟨σ.size,rfl,U⟩))))
 by_cases h0:len*P.cellsOf elem=0
 ·rw[ag h0]
  exact aX (cv (fin _ _ (.inl ⟨h0,rfl⟩)))
 ·rw[aj h0]
  exact aX (qD hz λz e=>aX (cv (fin _ _ (.inr e))))
end
end
section
variable {P:Program}
def Gx{a:Array TypeId}{t:TypeId}{k k':IntKind}{x y:Int}(w:World):(Builtin.max_ a t #[.int k x,.int k' y]).run P w= .ok (.int k (if y>x then y else x)) w:=by simp[Builtin.max_,Builtin.max2]
def GH{a:Array TypeId}{t:TypeId}{k k':IntKind}{x y:Int}(w:World):(Builtin.min_ a t #[.int k x,.int k' y]).run P w= .ok (.int k (if y<x then y else x)) w:=by simp[Builtin.min_,Builtin.min2]
def xg{f:TypeId->Bool}{a:Array TypeId}(h:sS f a=true):∃t,a[0]?=some t/\f t=true:=by
 unfold sS at h
 cases b:a[0]? with
 |none=>rw[b]at h;cases h
 |some t=>rw[b]at h;exact⟨t,rfl,h⟩
def IV{e:Env}{ρ:Operand->Value}{o:Oper}{K:SV->HP}{σ:Heap}(j:∀x v,ev e x=some v->ρ x=v.cd)(h:vX P e o K σ):∃B:SV,Yields P (execOp ρ o) B.cd/\K B σ:=by
 obtain⟨dst,op,ty,pos,after,guard⟩:=o;cases op<;>simp only[vX]at h<;>first|exact h.elim|skip
 case move x=>obtain⟨v,A,h⟩:=pC j h;exact⟨v,λw=>by simp[execOp,A],h⟩
 case assign x=>obtain⟨v,A,h⟩:=pC j h;exact⟨v,λw=>by simp[execOp,A],h⟩
 case pick c a b=>
  obtain⟨v,A,h⟩:=pC j h
  cases v with
  |un=>exact h.elim
  |nx _ _=>exact h.elim
  |en _ _=>exact h.elim
  |kb t=>
   cases t
   ·obtain⟨u,hu,h⟩:=pC j h
    exact⟨u,λw=>by simp[execOp,A,SV.cd,asBool,hu],h⟩
   ·obtain⟨u,hu,h⟩:=pC j h
    exact⟨u,λw=>by simp[execOp,A,SV.cd,asBool,hu],h⟩
  |val v=>
   cases v<;>(try simp only at h)<;>first|exact h.elim|skip
   rename_i t;have:=yV h;cases t
   ·obtain⟨u,hu,h⟩:=pC j this
    exact⟨u,λw=>by simp[execOp,A,SV.cd,asBool,hu],h⟩
   ·obtain⟨u,hu,h⟩:=pC j this
    exact⟨u,λw=>by simp[execOp,A,SV.cd,asBool,hu],h⟩
 case build t parts=>
  cases G:partsOf e parts.toList with
  |none=>rw[G]at h;exact h.elim
  |some ps=>
   cases I:xf P t with
   |none=>rw[G,I]at h;cases ps<;>exact h.elim
   |some pl=>
    rw[G,I]at h;have O:=Bw j _ _ G
    have he:parts.map (λ(i,x)=>(i,ρ x))=ps.toArray:=by rw[<-O];apply gE;simp
    have fin:∀cells:aw,hO P t=true->Instr.fill pl (zc P t) ps=some cells->K (.val (.agg cells)) σ->∃B:SV,Yields P (execOp ρ ⟨dst,.build t parts,ty,pos,after,guard⟩) B.cd/\K B σ:=by intro cells hz hf h;refine⟨_,?_,h⟩;simp only[execOp];rw[he];exact j8 (Lp hz I hf)
    cases ps with
    |nil=>obtain⟨hz,h⟩:=eW h;exact fin _ hz rfl h
    |cons q Q=>obtain⟨hz,h⟩:=eW h;obtain⟨cells,hf,h⟩:=Ax (q::Q) (zc P t) h;exact fin cells hz hf h
 case nilCheck x=>
  have h:=dC j h;cases g:ρ x<;>rw[g]at h<;>(try simp only at h)<;>first|exact h.elim|skip
  case pointer p=>obtain⟨a,rfl,h⟩:=oO h;exact⟨_,λw=>by simp[execOp,g,SV.cd],h⟩
  case func fn first captured=>
   cases fn<;>(try simp only at h)<;>first|exact h.elim|skip
   exact⟨_,λw=>by simp[execOp,g,SV.cd],h⟩
 case binOp op t x y Y=>have h:=dC j (dC j h);obtain⟨v,hr,U⟩:=IS (x:=x) (y:=y) h;exact⟨.val v,j8 hr,U⟩
 case unOp op t x=>
  obtain⟨v,A,h⟩:=pC j h;cases op
  case plus=>exact h.elim
  case not=>
   cases v with
   |kb b=>cases b<;>exact⟨_,λw=>by simp[execOp,A,SV.cd,Op.unary],h⟩
   |un=>exact h.elim
   |nx _ _=>exact h.elim
   |en _ _=>exact h.elim
   |val v=>
    cases v<;>(try simp only at h)<;>first|exact h.elim|skip
    exact⟨_,λw=>by simp[execOp,A,SV.cd,Op.unary],h⟩
  case neg=>
   cases v with
   |kb b=>exact h.elim
   |un=>exact h.elim
   |nx _ _=>exact h.elim
   |en _ _=>exact h.elim
   |val v=>
    cases v<;>(try simp only at h)<;>first|exact h.elim|skip
    exact⟨_,λw=>by simp[execOp,A,SV.cd,Op.unary,Op.intArith],h⟩
  case xor=>
   cases v with
   |kb b=>exact h.elim
   |un=>exact h.elim
   |nx _ _=>exact h.elim
   |en _ _=>exact h.elim
   |val v=>
    cases v<;>(try simp only at h)<;>first|exact h.elim|skip
    exact⟨_,λw=>by simp[execOp,A,SV.cd,Op.unary,Op.intBits,bh],h⟩
 case convert src dst x=>
  have h:=dC j h
  cases hd:P.underlying dst with
  |none=>rw[hd]at h;exact h.elim
  |some d=>
   rw[hd]at h;cases d<;>(try simp only at h)<;>first|exact h.elim|skip
   rename_i k;cases g:ρ x<;>rw[g]at h<;>(try simp only at h)<;>first|exact h.elim|skip
   obtain⟨hs,h⟩:=eW h;obtain⟨s,hs⟩:=h9.1 hs;refine⟨_,?_,h⟩;simp only[execOp];refine j8 λw=>?_;unfold convert;simp only[Sem.run_bind,h6 hs,h6 hd,Result.andThen_ok,g];rfl
 case makeFunc fn first captured=>
  have h:=yL j (yL j h);refine⟨_,λw=>?_,h⟩
  have key:∀(vs:Array Operand),vs.map ρ=(vs.toList.map ρ).toArray:=by intro vs;apply gE;simp
  simp only[execOp,Instr.makeFunc,SV.cd,key];rfl
 case slice t x lo hi R=>
  have h:=dC j h
  cases hu:P.underlying t with
  |none=>rw[hu]at h;exact h.elim
  |some d=>
   rw[hu]at h;cases d<;>(try simp only at h)<;>first|exact h.elim|skip
   case string=>
    cases g:ρ x<;>rw[g]at h<;>(try simp only at h)<;>first|exact h.elim|skip
    rename_i s
    cases R with
    |some m=>exact h.elim
    |none=>have S:jB e none s.size s.size (λm=>jB e hi s.size m λq=>jB e lo 0 q λl=>match(none:Option Operand),hi with|some _,none=>F|_,_=>K (.val (.string (s.extract l q)))) σ:=h;obtain⟨l,L,m,hr,U⟩:=zT (P:=P) (isSlice:=false) (f:=λl h m=>K (.val (.string (s.extract l h)))) j S;refine⟨_,?_,U⟩;simp only[execOp];refine j8 λw=>?_;have hr:=hr w;simp only[zq]at hr;simp[Instr.sliceAt,h6 hu,Instr.slice,g,hr,SV.cd]
   case slice elem=>
    cases g:ρ x<;>rw[g]at h<;>(try simp only at h)<;>first|exact h.elim|skip
    rename_i p len cap;obtain⟨z,h⟩:=eW h;obtain⟨C,H⟩:=px z;obtain⟨l,L,m,hr,U⟩:=zT (P:=P) (isSlice:=true) (f:=λl h m=>K (.val (.slice (da p (P.cellsOf elem) l m) (h-l) (m-l)))) j h;refine⟨_,?_,U⟩;simp only[execOp];refine j8 λw=>?_;simp[Instr.sliceAt,h6 hu,Instr.slice,g,hr w,n9 C,da,SV.cd]
   case array n elem=>
    cases g:ρ x<;>rw[g]at h<;>(try simp only at h)<;>first|exact h.elim|skip
    rename_i q;obtain⟨a,rfl,h⟩:=oO h;obtain⟨z,h⟩:=eW h;obtain⟨C,H⟩:=px z;obtain⟨l,L,m,hr,U⟩:=zT (P:=P) (isSlice:=false) (f:=λl h m=>K (.val (.slice (some (lT a (P.cellsOf elem) l m)) (h-l) (m-l)))) j h;refine⟨_,?_,U⟩;simp only[execOp];refine j8 λw=>?_;simp[Instr.sliceAt,Instr.sureAddr,h6 hu,g,hr w,n9 C,lT,SV.cd]
 case fieldAddr s x f=>
  have h:=dC j h;cases g:ρ x<;>rw[g]at h<;>(try simp only at h)<;>first|exact h.elim|skip
  rename_i q
  cases hf:xe P s f with
  |none=>rw[hf]at h;exact h.elim
  |some off=>rw[hf]at h;obtain⟨a,rfl,h⟩:=oO h;obtain⟨M,fd,h1,T,V,W,rfl⟩:=Ui hf;refine⟨_,?_,h⟩;simp only[execOp];refine j8 λw=>?_;simp[Instr.fieldAt,h6 h1,T,Instr.sureAddr,g,fieldPlace,n9 V,W,SV.cd]
 case field t x f=>
  have h:=dC j h;cases g:ρ x<;>rw[g]at h<;>(try simp only at h)<;>first|exact h.elim|skip
  rename_i cs
  cases hu:P.underlying t with
  |none=>rw[hu]at h;exact h.elim
  |some d=>
   rw[hu]at h;cases d<;>(try simp only at h)<;>first|exact h.elim|skip
   rename_i M
   cases hf:M[f]? with
   |none=>rw[hf]at h;exact h.elim
   |some fd=>rw[hf]at h;obtain⟨z,h⟩:=eW h;obtain⟨v,hr,U⟩:=Hd z h;refine⟨.val v,?_,U⟩;simp only[execOp];refine j8 λw=>?_;simp[Instr.field,h6 hu,hf,asAgg,g,hr w,SV.cd]
 case indexAddr t x i=>
  have h:=dC j (dC j h)
  cases hu:P.underlying t with
  |none=>rw[hu]at h;exact h.elim
  |some d=>
   rw[hu]at h;cases d<;>(try simp only at h)<;>first|exact h.elim|skip
   case slice elem=>
    cases g:ρ x<;>rw[g]at h<;>(try simp only at h)<;>first|exact h.elim|skip
    cases hi:ρ i<;>rw[hi]at h<;>(try simp only at h)<;>first|exact h.elim|skip
    obtain⟨a,rfl,h⟩:=oO h;obtain⟨z,h⟩:=eW h;obtain⟨C,H⟩:=px z;obtain⟨⟨D,E⟩,h⟩:=h;refine⟨_,?_,h⟩;simp only[execOp];refine j8 λw=>?_;simp[BZ,Instr.indexAt,asIntOf,h6 hu,g,hi,D,E,n9 C,SV.cd]
   case array len elem=>
    cases g:ρ x<;>rw[g]at h<;>(try simp only at h)<;>first|exact h.elim|skip
    cases hi:ρ i<;>rw[hi]at h<;>(try simp only at h)<;>first|exact h.elim|skip
    obtain⟨a,rfl,h⟩:=oO h;obtain⟨z,h⟩:=eW h;obtain⟨C,H⟩:=px z;obtain⟨⟨D,E⟩,h⟩:=h;refine⟨_,?_,h⟩;simp only[execOp];refine j8 λw=>?_;simp[BZ,Instr.indexAt,asIntOf,h6 hu,g,hi,D,E,n9 C,SV.cd,Instr.sureAddr]
 case index t x i=>
  have h:=dC j (dC j h)
  cases hu:P.underlying t with
  |none=>rw[hu]at h;exact h.elim
  |some d=>
   rw[hu]at h;cases d<;>(try simp only at h)<;>first|exact h.elim|skip
   case string=>
    cases g:ρ x<;>rw[g]at h<;>(try simp only at h)<;>first|exact h.elim|skip
    cases hi:ρ i<;>rw[hi]at h<;>(try simp only at h)<;>first|exact h.elim|skip
    rename_i s k n;obtain⟨⟨D,E⟩,h⟩:=h;refine⟨_,?_,h⟩;simp only[execOp];refine j8 λw=>?_;have N:n.toNat<s.size:=by omega
    have X:s[n.toNat]?=some s[n.toNat]:=by simp[N]
    have hd:s.data[n.toNat]?=some s[n.toNat]:=by have:n.toNat<s.data.size:=N;rw[CL this];rfl
    simp[Instr.index,asIntOf,h6 hu,g,hi,D,X,gv,hd,SV.cd]
   case array len elem=>
    cases g:ρ x<;>rw[g]at h<;>(try simp only at h)<;>first|exact h.elim|skip
    cases hi:ρ i<;>rw[hi]at h<;>(try simp only at h)<;>first|exact h.elim|skip
    obtain⟨z,h⟩:=eW h;obtain⟨C,H⟩:=px z;obtain⟨⟨D,E⟩,h⟩:=h;rw[BZ]at h;obtain⟨v,hr,U⟩:=Hd z h;refine⟨.val v,?_,U⟩;simp only[execOp];refine j8 λw=>?_;simp[Instr.index,asIntOf,h6 hu,g,hi,D,E,n9 C,SV.cd,hr w]
 case extract x i=>
  obtain⟨v,A,h⟩:=pC j h
  cases v with
  |un=>exact h.elim
  |kb b=>exact h.elim
  |nx k y=>
   have fin:∀u,(#[.bool true,k,y]:aw)[i]?=some u->K (.val u) σ->∃B:SV,Yields P (execOp ρ ⟨dst,.extract x i,ty,pos,after,guard⟩) B.cd/\K B σ:=by intro u hu U;refine⟨.val u,?_,U⟩;simp only[execOp];refine j8 λw=>?_;simp[Instr.extract,A,SV.cd,hu]
   match i,h with
   |0,h=>exact fin _ rfl h
   |1,h=>exact fin _ rfl (nL h)
   |2,h=>exact fin _ rfl (nL h)
  |en k y=>
   have fin:∀u,(#[k,y]:aw)[i]?=some u->K (.val u) σ->∃B:SV,Yields P (execOp ρ ⟨dst,.extract x i,ty,pos,after,guard⟩) B.cd/\K B σ:=by intro u hu U;refine⟨.val u,?_,U⟩;simp only[execOp];refine j8 λw=>?_;simp[Instr.extract,A,SV.cd,hu]
   match i,h with
   |0,h=>exact fin _ rfl (nL h)
   |1,h=>exact fin _ rfl (nL h)
  |val v=>
   cases v<;>(try simp only at h)<;>first|exact h.elim|skip
   rename_i vs
   cases hu:vs[i]? with
   |none=>rw[hu]at h;exact h.elim
   |some u=>rw[hu]at h;refine⟨.val u,?_,h⟩;simp only[execOp];refine j8 λw=>?_;simp[Instr.extract,A,SV.cd,hu]
 case call c=>
  have h:=yL j h;obtain⟨callee,args,argTypes⟩:=c;simp only at h
  have key:∀(vs:az),args.toList.map ρ=vs->args.map ρ=vs.toArray:=by intro vs A;rw[<-A];apply gE;simp
  cases callee with
  |value f=>exact h.elim
  |invoke r n=>exact h.elim
  |builtin b=>
   cases b<;>(try simp only at h)<;>first|exact h.elim|skip
   case len=>
    cases hl:args.toList.map ρ with
    |nil=>rw[hl]at h;exact h.elim
    |cons a r=>
     cases r with
     |cons _ _=>rw[hl]at h;cases a<;>exact h.elim
     |nil=>
      rw[hl]at h;cases a<;>(try simp only at h)<;>first|exact h.elim|skip
      case slice q n Z=>obtain⟨z,h⟩:=eW h;obtain⟨t0,J,z⟩:=xg z;obtain⟨aa,he⟩:=rW z;refine⟨_,λw=>?_,h⟩;simp[execOp,resolve,invoke,key _ hl,builtin,Builtin.len_,J,h6 he,goInt,SV.cd]
      case string s=>obtain⟨z,h⟩:=eW h;obtain⟨t0,J,z⟩:=xg z;have he:=Ii z;refine⟨_,λw=>?_,h⟩;simp[execOp,resolve,invoke,key _ hl,builtin,Builtin.len_,J,h6 he,goInt,SV.cd]
   case max=>
    cases hl:args.toList.map ρ with
    |nil=>rw[hl]at h;exact h.elim
    |cons a r=>
     cases r with
     |nil=>rw[hl]at h;cases a<;>exact h.elim
     |cons b r=>
      cases r with
      |cons _ _=>rw[hl]at h;cases a<;>cases b<;>exact h.elim
      |nil=>
       rw[hl]at h;cases a<;>cases b<;>(try simp only at h)<;>first|exact h.elim|skip
       refine⟨_,λw=>?_,h⟩;simp[execOp,resolve,invoke,key _ hl,builtin,Gx,SV.cd]
   case min=>
    cases hl:args.toList.map ρ with
    |nil=>rw[hl]at h;exact h.elim
    |cons a r=>
     cases r with
     |nil=>rw[hl]at h;cases a<;>exact h.elim
     |cons b r=>
      cases r with
      |cons _ _=>rw[hl]at h;cases a<;>cases b<;>exact h.elim
      |nil=>
       rw[hl]at h;cases a<;>cases b<;>(try simp only at h)<;>first|exact h.elim|skip
       refine⟨_,λw=>?_,h⟩;simp[execOp,resolve,invoke,key _ hl,builtin,GH,SV.cd]
end
