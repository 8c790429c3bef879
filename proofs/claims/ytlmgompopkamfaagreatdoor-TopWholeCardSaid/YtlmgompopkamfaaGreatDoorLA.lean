/- Lemmas that lead to TopWhole (their names made short by a program); no condition. -/
import Derived.WalkKit
import Derived.OrdersIn
import Derived.TacticsIn
import Derived.RangeFuncLeaves
import Derived.KernelRfl
set_option linter.all false
def bz:=@decide_eq_true_eq
def fC:=@Option.getD_some
def dT:=@if_true
def fM:=@Bool.false_eq_true
def ej:=@if_false
def ah:=@if_pos
def ak:=@if_neg
def tF:=@List.Pairwise.map
def yT:=@List.Pairwise.and_mem
def bQ:=@List.mem_map
def ba:=@List.getElem?_eq_getElem
def fo:=@List.getElem?_map
def j7:=@List.take_of_length_le
def vQ:=@List.foldl_append
def kF:=@List.length_eq_zero_iff
def tG:=@List.dropLast_concat_getLast
def rY:=@List.countP_append
def rZ:=@List.countP_singleton
def dZ:=@List.nodup_append
def fe:=@List.length_map
def dd:=@List.length_cons
def ei:=@List.getD_eq_getElem?_getD
def y5:=@List.perm_ext_iff_of_nodup
def pB:=@List.mem_filter
def om:=@List.mem_range
def vM:=@List.countP_eq_zero
def CH:=@List.countP_pos_iff
def cB:=@decide_eq_true
def b9:=@Bool.and_eq_true
def gB:=@beq_iff_eq
def yQ:=@Bool.eq_iff_iff
def dz:=@List.getElem_mem
def a7:=@Int.toNat_natCast
def bJ:=@Nat.zero_add
def jL:=@Nat.le_trans
def mn:=@List.countP_le_length
def ff:=@List.length_take
def gA:=@List.take_length
def CL:=@List.getElem?_of_mem
def r8:=@of_decide_eq_true
def tE:=@Decidable.byContradiction
def cz:=@List.mem_of_getElem?
def yY:=@List.findIdx?_eq_some_iff_getElem
def vS:=@List.getElem?_zip_eq_some
def ml:=@Bool.not_eq_true'
def cD:=@decide_eq_false
def dY:=@List.getElem?_toArray
def b0:=@List.getElem?_eq_some_iff
def iK:=@List.set_cons_succ
def iM:=@Nat.mul_one
def jh:=@List.map_set
def er:=@List.append_assoc
def je:=@List.append_nil
def ig:=@List.all_eq_true
def tR:=@Nat.zero_mul
def r5:=@List.take_zero
def lC:=@List.mem_flatMap
def cR:=@List.mem_cons
def jH:=@List.not_mem_nil
def ji:=@or_false
def oe:=@List.drop_of_length_le
def gH:=@List.length_nil
def Cz:=@Bool.and_false
def j5:=@List.mem_or_eq_of_mem_set
def cy:=@List.Perm.swap
def CF:=@Int.tdiv_eq_ediv_of_nonneg
def jG:=@List.length_replicate
def yS:=@Int.tmod_eq_emod_of_nonneg
def e5:=@Bool.true_and
def vJ:=@Bool.false_and
def CY:=@Nat.pow_lt_pow_right
def CZ:=@Nat.testBit_two_pow
def jI:=@List.setIfInBounds_toArray
def hg:=@List.length_set
def CA:=@Bool.not_eq_false'
def CC:=@Bool.not_false
def yP:=@Bool.and_true
def oq:=@Nat.mod_eq_of_lt
def CE:=@Int.fdiv_eq_ediv_of_nonneg
def r6:=@Nat.mod_lt
def lz:=@List.eq_of_mem_replicate
def kE:=@List.getElem?_set
def qL:=@Option.some.inj
def hZ:=@decide_eq_decide
def y8:=@Option.map_none
def ih:=@Option.map_some
def iI:=@List.getElem?_append_right
def hb:=@List.getElem?_append_left
def qE:=@List.cons_append
def e6:=@List.map_append
def lB:=@List.length_drop
def iN:=@Nat.sub_zero
def j6:=@List.take_append_drop
def cr:=@List.length_append
def qJ:=@Nat.min_eq_left
def r1:=@List.length_pos_iff
def d':=@Nat.le_refl
def qI:=@List.take_left'
def yW:=@List.drop_drop
def yX:=@List.drop_left'
def CD:=@Function.comp_def
def qH:=@List.getElem_of_mem
def fY:=@Int.le_refl
def kJ:=@List.pairwise_iff_getElem
def tL:=@List.getElem_map
def Cy:=@Bool.and_eq_false_iff
def fN:=@decide_eq_false_iff_not
def CU:=@List.take_sublist
def kH:=@List.mem_of_mem_take
def yU:=@List.all_cons
def ly:=@List.cons.injEq
def kK:=@and_true
def qK:=@Nat.zero_le
def nk:=@true_and
def py:=@List.countP_cons
def lF:=@Nat.sub_self
def tP:=@List.replicate_zero
def mm:=@List.Perm.cons
def iL:=@List.size_toArray
def oi:=@List.getElem?_take
def qG:=@List.getElem?_drop
def tH:=@List.drop_append
def kI:=@List.nil_append
def jf:=@List.ext_getElem?
def jg:=@List.getElem?_eq_none
def IF:=@List.countP_replicate
def r0:=@List.getElem?_replicate
def mx:=@Nat.add_zero
def vW:=@List.sum_append
def jK:=@List.sum_cons
def mq:=@List.filter_cons_of_neg
def c4:=@List.map_cons
def mr:=@List.filter_cons_of_pos
def vZ:=@Nat.lt_or_ge
def lD:=@List.pairwise_map
def nj:=@List.map_map
def tM:=@List.mem_of_mem_drop
def pA:=@List.find?_eq_none
def g':=@Array.ext'
def Cw:=@Array.toList_map
def yO:=@Array.toList_range
def tJ:=@List.getElem?_range
def iO:=@Option.some.injEq
def CN:=@List.getLast?_eq_some_getLast
def IS:=@List.takeWhile_append_of_pos
def fp:=@List.nodup_cons
def vL:=@List.append_of_mem
def r7:=@beq_eq_false_iff_ne
def kD:=@Array.length_toList
def qF:=@List.filter_eq_self
def II:=@List.filter_eq_nil_iff
def C0:=@Option.bind_some
def yM:=@Array.getElem?_eq_none
def og:=@List.flatMap_append
def tO:=@List.perm_cons
def y4:=@List.perm_cons_erase
def tI:=@List.drop_eq_getElem_cons
def rW:=@Classical.not_not
def CP:=@List.reverse_cons
def oc:=@Array.mem_of_getElem?
def hY:=@Option.isSome_iff_exists
def vY:=@Nat.le_of_ble_eq_true
def CR:=@List.take_append_of_le_length
def vT:=@List.length_eraseIdx_of_lt
def IG:=@List.drop_append_of_le_length
def pD:=@List.set_append_right
def jJ:=@List.set_cons_zero
def gz:=@List.flatMap_cons
def CK:=@List.flatMap_nil
def y2:=@List.mem_iff_getElem?
def tK:=@List.getElem?_set_self
def IN:=@List.mem_of_mem_eraseIdx
def dL:=@List.mem_append
def oh:=@List.getElem?_set_ne
def mw:=@List.nodup_iff_pairwise_ne
def tN:=@List.nodup_nil
def fB:=@List.mem_singleton
def j8:=@Nat.le_succ
def iJ:=@List.mem_cons_of_mem
def kG:=@List.mem_cons_self
def y1:=@List.length_filter_le
def yR:=@Int.emod_lt_of_pos
def hX:=@List.map_congr_left
def vU:=@List.length_singleton
def jF:=@List.getElem?_cons_zero
def pE:=@Nat.succ_mul
def jM:=@Nat.mul_le_mul_right
def IP:=@List.pairwise_flatMap
def r4:=@List.replicate_succ
def vX:=@List.zip_cons_cons
def mu:=@List.getElem?_cons_succ
def CG:=@List.Nodup.not_mem_erase
def r3:=@List.mem_of_mem_erase
def v7:=@Prod.ext
def vN:=@List.filter_map
def oj:=@List.map_nil
def tQ:=@List.take_succ_cons
def IH:=@List.eraseIdx_cons_succ
def y9:=@Prod.mk.injEq
def IX:=@Option.ne_none_iff_exists'
def vO:=@List.findIdx?_eq_none_iff
def vK:=@Int.not_lt
def IA:=@Classical.byContradiction
def gF:=@Array.getElem?_eq_some_iff
def oo:=@List.pairwise_cons
def IU:=@List.takeWhile_cons_of_pos
def IT:=@List.takeWhile_cons_of_neg
def tC:=@Bool.or_eq_false_iff
def vR:=@List.foldl_cons
def qD:=@Array.getElem?_modify
def od:=@Array.mem_toList_iff
def Cu:=@Array.getElem?_eq_getElem
def CQ:=@List.take_append
def gk:=@Nat.add_mul
def IB:=@List.Pairwise.sublist
def y3:=@List.mem_of_getLast?
def rX:=@Int.toNat_of_nonneg
def tD:=@Bool.or_eq_true
def mo:=@List.filter_append
def yL:=@And.intro
def rV:=@Array.getElem?_setIfInBounds
def Iz:=@Array.size_setIfInBounds
def CM:=@List.getLast?_eq_getElem?
def y6:=@Nat.add_sub_cancel_left
def pC:=@List.set_append_left
def vP:=@List.find?_append
def yV:=@List.contains_iff_mem
def CJ:=@List.filter_nil
def y7:=@Nat.mod_eq_sub_mod
def CI:=@List.drop_eq_nil_of_le
def IE:=@List.contains_eq_any_beq
def IK:=@List.getLast?_eq_some_iff
def IQ:=@List.takeWhile_append_dropWhile
def ID:=@List.Sublist.length_le
def IV:=@List.takeWhile_sublist
def IL:=@List.idxOf_lt_length_iff
def r2:=@List.mem_iff_getElem
def lA:=@List.filterMap_cons
def IC:=@List.Perm.append_right
def vV:=@List.set_set
def C1:=@forall_eq_or_imp
def CB:=@Bool.not_eq_true
def CX:=@Nat.mul_comm
def C2:=@not_true_eq_false
def CO:=@List.mapM_cons
def Iy:=@Array.mapM_eq_mapM_toList
def Cx:=@Array.toList_setIfInBounds
def CV:=@List.take_succ_eq_append_getElem
def IJ:=@List.getElem_set_self
def CS:=@List.take_set_of_le
def lE:=@Nat.eq_of_beq_eq_true
def yN:=@Array.getElem?_toList
def yZ:=@List.getElem?_append
def Cv:=@Array.getElem?_range
def oa:=@Array.getD_eq_getD_getElem?
def vI:=@Array.getElem?_setIfInBounds_ne
def Ix:=@Array.getElem?_append
def IW:=@Option.bind_eq_some_iff
def CW:=@Nat.eq_zero_or_pos
def y0:=@List.getElem_inj
namespace Go.bn
abbrev eu(xs:List Int):Prop:=xs.Pairwise (·<·)
def vk:∀{xs ys:List Int},eu xs->eu ys->(∀z,z∈xs↔z∈ys)->xs=ys
 |[],[],_,_,_=>rfl
 |[],y::ys,_,_,h=>absurd ((h y).2 (by simp)) (by simp)
 |x::xs,[],_,_,h=>absurd ((h x).1 (by simp)) (by simp)
 |x::xs,y::ys,b,c,h=>by
  rw[eu,oo]at b c
  have e:x=y:=by
   have U:=(h x).1 (by simp);have a:=(h y).2 (by simp);rcases cR.1 U with U|U
   ·exact U
   ·rcases cR.1 a with a|a
    ·exact a.symm
    ·have:=b.1 y a;have:=c.1 x U;omega
  subst e;congr 1;refine vk b.2 c.2 λz=>?_;constructor
  ·intro hz
   rcases cR.1 ((h z).1 (by simp[hz]))with e|d
   ·subst e;have:=b.1 z hz;omega
   ·exact d
  ·intro hz
   rcases cR.1 ((h z).2 (by simp[hz]))with e|d
   ·subst e;have:=c.1 z hz;omega
   ·exact d
def jq(x:Int):List Int->List Int
 |[]=>[x]
 |y::ys=>if x<y then x::y::ys else if x=y then y::ys else y::jq x ys
def nL{x z:Int}:∀{xs:List Int},z∈jq x xs↔z=x\/z∈xs
 |[]=>by simp[jq]
 |y::ys=>by
  unfold jq;split
  ·simp
  ·split
   ·rename_i h;subst h;simp
   ·simp only[cR,nL]
    constructor
    ·rintro(h|h|h)<;>simp[h]
    ·rintro(h|h|h)<;>simp[h]
def ya{x:Int}:∀{xs:List Int},eu xs->eu (jq x xs)
 |[],_=>by simp[jq,eu]
 |y::ys,h=>by
  unfold jq;have a:=h;rw[eu,oo]at a;split
  ·rename_i b
   rw[eu,oo];refine⟨λz hz=>?_,h⟩;rcases cR.1 hz with rfl|hz
   ·exact b
   ·have:=a.1 z hz;omega
  ·split
   ·exact h
   ·rename_i U c
    rw[eu,oo];refine⟨λz hz=>?_,ya a.2⟩;rcases nL.1 hz with rfl|hz
    ·omega
    ·exact a.1 z hz
def l7{xs:List Int}(h:eu xs):xs.Nodup:=List.Pairwise.imp (λh=>by omega) h
def Yh{x:Int}{xs:List Int}(h:eu xs)(a:∀y∈xs,y<x):eu (xs++[x]):=by rw[eu,List.pairwise_append];exact⟨h,by simp,λy b z hz=>by simp at hz;subst hz;exact a y b⟩
def Av{x:Int}:∀{xs:List Int},x∉xs->(jq x xs).Perm (x::xs)
 |[],_=> .refl _
 |y::ys,h=>by
  unfold jq;split
  ·exact .refl _
  ·split
   ·rename_i e;subst e;simp at h
   ·exact((Av λa=>h (by simp[a])).cons y).trans (.swap _ _ _)
def u1{α:Type}:∀{l m:List α},l.Nodup->l⊆m->l.length<=m.length
 |[],_,_,_=>by simp
 |a::l,m,b,h=>by
  have ha:a∈m:=h (by simp);obtain⟨u,v,rfl⟩:=vL ha;rw[fp]at b
  have:=u1 (l:=l) (m:=u++v) b.2 λx c=>by
   have U:=h (iJ _ c);have d:x≠a:=λe=>b.1 (e▸c);simp only[dL,cR]at U⊢;rcases U with U|U|U
   ·exact .inl U
   ·exact absurd U d
   ·exact .inr U
  simp only[dd,cr]at*;omega
def nO:∀(n:Nat) {l:List Nat},l.Nodup->(∀x∈l,x<n)->l.length<=n
 |0,l,_,h=>by
  cases l with
  |nil=>simp
  |cons a l=>exact absurd (h a (by simp)) (by omega)
 |n+1,l,b,h=>by
  have U:=nO n (b.erase n) λx c=>by
   have:=h x (r3 c);have:x≠n:=λe=>by subst e;exact b.not_mem_erase c
   omega
  have:=List.length_erase (a:=n) (l:=l);split at this<;>omega
section
abbrev N3:=Int×Int×Int
def ck(l:List Nat):Int:=match l.getLast? with|some x=>(x:Int)|none=>-1
def bU:List Nat->Int
 |[]=>-1
 |x::_=>(x:Int)
def qc:ck []=-1:=rfl
def AE(l:List Nat)(x:Nat):ck (l++[x])=x:=by simp[ck]
def xo(l r:List Nat)(x:Nat):ck (l++x::r)=ck (x::r):=by
 simp[ck,List.getLast?_append];cases r with
 |nil=>simp
 |cons y r=>simp[List.getLast?_cons_cons];cases h:(y::r).getLast? with
  |none=>simp at h
  |some z=>simp
def AD{l:List Nat}:ck l<0↔l=[]:=by
 unfold ck
 cases h:l.getLast? with
 |none=>simp at h;simp[h]
 |some x=>
  constructor
  ·intro a;simp only at a;omega
  ·intro e;subst e;simp at h
def sO{l:List Nat}(h:l≠[]):∃(a:List Nat) (x:Nat),l=a++[x]/\ck l=(x:Int):=by refine⟨l.dropLast,l.getLast h,(tG h).symm,?_⟩;unfold ck;rw[CN h]
def C'(ls:Nat->List Nat)(n:Nat)(x:N3):Prop:=
 (x=(-1,-1,-1)/\∀k,n∉ls k)\/∃(k:Nat) (a b:List Nat),ls k=a++n::b/\x=(ck a,bU b,(k:Int))
structure jj(nl nn:Nat)(ls:Nat->List Nat)(nd en:Nat->N3):Prop where
 node:∀n,n<nn->C' ls n (nd n)
 ends:∀k,k<nl->en k=(ck (ls k),bU (ls k),((ls k).length:Int))
 nodup:∀k,(ls k).Nodup
 q8:∀k k' n,n∈ls k->n∈ls k'->k=k'
 jm:∀k n,n∈ls k->k<nl/\n<nn
def up{α:Type}(f:Nat->α)(i:Nat)(v:α):Nat->α:=λj=>if j=i then v else f j
@[simp] theorem eT {α:Type} (f:Nat->α) (i:Nat) (v:α):up f i v i=v:=by simp[up]
theorem dF{α:Type}(f:Nat->α){i j:Nat}(v:α)(h:j≠i):up f i v j=f j:=by simp[up,h]
section
variable {nl nn:Nat}{ls:Nat->List Nat}{nd en:Nat->N3}
def jj.ry(h:jj nl nn ls nd en){n k:Nat}{a b:List Nat}(I:ls k=a++n::b):nd n=(ck a,bU b,(k:Int)):=by
 have hm:n∈ls k:=by rw[I];simp
 rcases h.node n (h.jm k n hm).2 with⟨_,j⟩|⟨k',a',g,f,e⟩
 ·exact absurd hm (j k)
 ·have:k'=k:=h.q8 k' k n (by rw[f];simp) hm
  subst this;have d:=h.nodup k';rw[f]at I;rw[f]at d
  obtain⟨rfl,rfl⟩:a'=a/\g=b:=by
   have l:n∉a':=λc=>by rw[dZ]at d;exact d.2.2 n c n (by simp) rfl
   have i:(a++n::b).Nodup:=I▸d
   have m:n∉a:=λc=>by rw[dZ]at i;exact i.2.2 n c n (by simp) rfl
   have o:(a'++n::g).takeWhile (·!=n)=a':=by rw[IS (by intro x c;simp;intro e;subst e;exact l c)];simp
   have p:(a++n::b).takeWhile (·!=n)=a:=by rw[IS (by intro x c;simp;intro e;subst e;exact m c)];simp
   have:a'=a:=by rw[<-o,<-p,I]
   subst this;have:=List.append_cancel_left I;simp at this;exact⟨rfl,this⟩
  exact e
def ue(nd:Nat->N3)(e2:Int)(k n:Nat):Nat->N3:=
 let a:=up nd n (e2,-1,(k:Int))
 if 0<=e2 then up a e2.toNat ((a e2.toNat).1,(n:Int),(a e2.toNat).2.2)else a
def qW(en:Nat->N3)(k n:Nat):Nat->N3:=up en k ((n:Int),(if 0<=(en k).1 then(en k).2.1 else(n:Int)),(en k).2.2+1)
def jj.add(h:jj nl nn ls nd en){k n:Nat}(I:k<nl)(v:n<nn)(q:∀k,n∉ls k):jj nl nn (up ls k (ls k++[n])) (ue nd (en k).1 k n) (qW en k n):=by
 have he:=h.ends k I;have D:∀k' m,k'≠k->m∈ls k'->m∉ls k:=λk' m d hm w=>d (h.q8 _ _ _ hm w);refine⟨λm hm=>?_,λk' f=>?_,λk'=>?_,λz A m U B=>?_,λk' m hm=>?_⟩
 ·unfold ue
  rw[he];simp only;by_cases i:m=n
  ·subst i
   refine .inr ⟨k,ls k,[],by simp,?_⟩;split
   ·rename_i C
    have d:m≠(ck (ls k)).toNat:=by
     intro e;have d:ls k≠[]:=λe=>by rw[e,qc]at C;omega
     obtain⟨a,x,j,hl⟩:=sO d;rw[hl]at e;simp at e;subst e;exact q k (by rw[j];simp)
    rw[dF _ _ d];simp[bU]
   ·simp[bU]
  ·have t:C' ls m (nd m):=h.node m hm
   by_cases g:0<=ck (ls k)
   ·rw[ah g]
    have d:ls k≠[]:=λe=>by rw[e,qc]at g;omega
    obtain⟨a,x,j,hl⟩:=sO d;rw[hl];simp only[a7];by_cases r:m=x
    ·subst r
     rw[eT,dF _ _ i];have:=h.ry (by rw[j]);rw[this];exact .inr ⟨k,a,[n],by rw[eT,j];simp,by simp[bU]⟩
    ·rw[dF _ _ r,dF _ _ i]
     rcases t with⟨e,p⟩|⟨k',a',o,f,e⟩
     ·refine .inl ⟨e,λk'=>?_⟩
      by_cases c:k'=k
      ·subst c;rw[eT];simp[p k',i]
      ·rw[dF _ _ c];exact p k'
     ·by_cases c:k'=k
      ·subst c
       refine .inr ⟨k',a',o++[n],by rw[eT,f];simp,?_⟩;rw[e]
       cases o with
       |nil=>exfalso;rw[f]at j;have:=congrArg List.getLast? j;simp at this;exact r this
       |cons y o=>simp[bU]
      ·exact .inr ⟨k',a',o,by rw[dF _ _ c,f],e⟩
   ·rw[ak g,dF _ _ i]
    have s:ls k=[]:=AD.1 (by omega);rcases t with⟨e,p⟩|⟨k',a',o,f,e⟩
    ·refine .inl ⟨e,λk'=>?_⟩
     by_cases c:k'=k
     ·subst c;rw[eT];simp[p k',i]
     ·rw[dF _ _ c];exact p k'
    ·have c:k'≠k:=λe=>by subst e;rw[s]at f;simp at f
     exact .inr ⟨k',a',o,by rw[dF _ _ c,f],e⟩
 ·unfold qW
  by_cases c:k'=k
  ·subst c
   rw[eT,eT,he];simp only;rw[AE];by_cases g:0<=ck (ls k')
   ·rw[ah g]
    have d:ls k'≠[]:=λe=>by rw[e,qc]at g;omega
    cases hc:ls k' with
    |nil=>exact absurd hc d
    |cons y l=>simp[bU]
   ·rw[ak g]
    have s:ls k'=[]:=AD.1 (by omega);simp[s,bU]
  ·rw[dF _ _ c,dF _ _ c];exact h.ends k' f
 ·by_cases c:k'=k
  ·subst c
   rw[eT,dZ];refine⟨h.nodup k',by simp,?_⟩;intro a ha b u e;simp at u;subst u;subst e;exact q _ ha
  ·rw[dF _ _ c];exact h.nodup k'
 ·have aux:∀k',m∈up ls k (ls k++[n]) k'->(m∈ls k'\/(m=n/\k'=k)):=by
   intro k' hm;by_cases c:k'=k
   ·subst c;rw[eT]at hm;simp at hm;rcases hm with hm|hm
    ·exact .inl hm
    ·exact .inr ⟨hm,rfl⟩
   ·rw[dF _ _ c]at hm;exact .inl hm
  rcases aux z U with a|⟨rfl,rfl⟩<;>rcases aux A B with b|⟨b,rfl⟩
  ·exact h.q8 _ _ _ a b
  ·subst b;exact absurd a (q _)
  ·exact absurd b (q _)
  ·rfl
 ·by_cases c:k'=k
  ·subst c;rw[eT]at hm;simp at hm;rcases hm with hm|hm
   ·exact h.jm _ _ hm
   ·subst hm;exact⟨I,v⟩
  ·rw[dF _ _ c]at hm;exact h.jm _ _ hm
def sA(nd:Nat->N3)(n:Nat):Nat->N3:=
 let x:=nd n
 let a:=if 0<=x.1 then up nd x.1.toNat ((nd x.1.toNat).1,x.2.1,(nd x.1.toNat).2.2)else nd
 let b:=if 0<=x.2.1 then up a x.2.1.toNat (x.1,(a x.2.1.toNat).2.1,(a x.2.1.toNat).2.2)else a
 up b n (-1,-1,-1)
def sy(nd en:Nat->N3)(n:Nat):Nat->N3:=
 let x:=nd n
 let k:=x.2.2.toNat
 up en k ((if 0<=x.2.1 then(en k).1 else x.1),(if 0<=x.1 then(en k).2.1 else x.2.1),(en k).2.2-1)
def xh{a b:List Nat}(h:a≠[]):bU (a++b)=bU a:=by cases a with
 |nil=>exact absurd rfl h
 |cons x a=>rfl
def jj.drop(h:jj nl nn ls nd en){k n:Nat}{a b:List Nat}(I:ls k=a++n::b):jj nl nn (up ls k (a++b)) (sA nd n) (sy nd en n):=by
 have l:=h.ry I;have D:n∈ls k:=by rw[I];simp
 have L:=(h.jm k n D).1;have g:(a++n::b).Nodup:=I▸h.nodup k;have M:n∉a:=λl=>by rw[dZ]at g;exact g.2.2 n l n (by simp) rfl
 have N:n∉b:=λl=>by rw[dZ,fp]at g;exact g.2.1.1 l
 have E:∀x∈a,x∉b:=λx l v=>by rw[dZ]at g;exact g.2.2 x l x (by simp[v]) rfl
 have he:=h.ends k L;refine⟨λm hm=>?_,λk' s=>?_,λk'=>?_,λaa ab m U O=>?_,λk' m hm=>?_⟩
 ·unfold sA
  rw[l];simp only;by_cases w:m=n
  ·subst w
   rw[eT];refine .inl ⟨rfl,λk'=>?_⟩;by_cases c:k'=k
   ·subst c;rw[eT];simp[M,N]
   ·rw[dF _ _ c];exact λt=>c (h.q8 _ _ _ t D)
  ·rw[dF _ _ w]
   by_cases p:m∈ls k
   ·
    have P:m∈a\/m∈b:=by rw[I]at p;simp[w]at p;exact p
    rcases P with F|G
    ·
     obtain⟨i,a2,rfl⟩:=vL F;have hold:=h.ry (n:=m) (k:=k) (a:=i) (b:=a2++n::b) (by rw[I];simp)
     have H:∀f:Nat->N3,f m=nd m\/True->(0<=bU b->m≠(bU b).toNat):=by
      intro f _ d e
      cases b with
      |nil=>simp[bU]at d
      |cons y b=>simp[bU]at e;subst e;exact E _ F (by simp)
     refine .inr ⟨k,i,a2++b,by rw[eT];simp,?_⟩;by_cases A:a2=[]
     ·subst A
      have hl:ck (i++[m])=(m:Int):=AE _ _;rw[hl];have r:(0:Int)<=(m:Int):=by omega
      rw[ah r];simp only[a7];have J:up nd m ((nd m).1,bU b,(nd m).2.2) m=(ck i,bU b,(k:Int)):=by rw[eT,hold]
      by_cases d:0<=bU b
      ·rw[ah d,dF _ _ (H nd (.inr trivial) d),J];simp
      ·rw[ak d,J];simp
     ·obtain⟨a3,z,rfl⟩:∃a3 z,a2=a3++[z]:=⟨a2.dropLast,a2.getLast A,(tG A).symm⟩
      have hl:ck (i++m::(a3++[z]))=(z:Int):=by rw[show i++m::(a3++[z])=(i++m::a3)++[z] by simp];exact AE _ _
      rw[hl];have Q:(0:Int)<=(z:Int):=by omega
      rw[ah Q];simp only[a7]
      have K:m≠z:=by intro e;subst e;rw[dZ]at g;have:=g.1;rw[show i++m::(a3++[m])=(i++m::a3)++[m] by simp,dZ]at this;exact this.2.2 m (by simp) m (by simp) rfl
      have u:(ck i,bU (a3++[z]++n::b),(k:Int))=(ck i,bU (a3++[z]++b),(k:Int)):=by rw[xh (a:=a3++[z]) (by simp),xh (a:=a3++[z]) (by simp)]
      by_cases d:0<=bU b
      ·rw[ah d,dF _ _ (H nd (.inr trivial) d),dF _ _ K,hold,u]
      ·rw[ak d,dF _ _ K,hold,u]
    ·
     obtain⟨o,dJ,rfl⟩:=vL G;have hold:=h.ry (n:=m) (k:=k) (a:=a++n::o) (b:=dJ) (by rw[I];simp)
     have R:0<=ck a->m≠(ck a).toNat:=by
      intro j e;have q:a≠[]:=λe=>by rw[e,qc]at j;omega
      obtain⟨a',x,B,hl⟩:=sO q;rw[hl]at e;simp at e;subst e;exact E m (by rw[B];simp) G
     refine .inr ⟨k,a++o,dJ,by rw[eT];simp,?_⟩
     have first:(if 0<=ck a then up nd (ck a).toNat ((nd (ck a).toNat).1,bU (o++m::dJ),(nd (ck a).toNat).2.2)else nd) m=nd m:=by
      split
      ·rename_i j;rw[dF _ _ (R j)]
      ·rfl
     cases o with
     |nil=>
      have r:0<=bU ([]++m::dJ):=by simp[bU]
      have C:(bU ([]++m::dJ)).toNat=m:=by simp[bU]
      rw[ah r,C,eT,first,hold];simp
     |cons y o=>
      have r:0<=bU (y::o++m::dJ):=by simp[bU]
      have C:(bU (y::o++m::dJ)).toNat=y:=by simp[bU]
      have S:m≠y:=by intro e;subst e;rw[dZ,fp]at g;have:=g.2.1.2;simp at this
      rw[ah r,C,dF _ _ S,first,hold];rw[show a++n::y::o=(a++[n])++y::o by simp,xo,xo]
   ·
    have T:0<=ck a->m≠(ck a).toNat:=by
     intro j e;have q:a≠[]:=λe=>by rw[e,qc]at j;omega
     obtain⟨a',x,B,hl⟩:=sO q;rw[hl]at e;simp at e;subst e;exact p (by rw[I,B];simp)
    have V:0<=bU b->m≠(bU b).toNat:=by
     intro d e
     cases b with
     |nil=>simp[bU]at d
     |cons y b=>simp[bU]at e;subst e;exact p (by rw[I];simp)
    have u:(if 0<=bU b then up (if 0<=ck a then up nd (ck a).toNat ((nd (ck a).toNat).1,bU b,(nd (ck a).toNat).2.2)else nd) (bU b).toNat
      (ck a,((if 0<=ck a then up nd (ck a).toNat ((nd (ck a).toNat).1,bU b,(nd (ck a).toNat).2.2)else nd) (bU b).toNat).2.1,
       ((if 0<=ck a then up nd (ck a).toNat ((nd (ck a).toNat).1,bU b,(nd (ck a).toNat).2.2)else nd) (bU b).toNat).2.2)else
      (if 0<=ck a then up nd (ck a).toNat ((nd (ck a).toNat).1,bU b,(nd (ck a).toNat).2.2)else nd)) m=nd m:=by
     have first:(if 0<=ck a then up nd (ck a).toNat ((nd (ck a).toNat).1,bU b,(nd (ck a).toNat).2.2)else nd) m=nd m:=by
      split
      ·rename_i j;rw[dF _ _ (T j)]
      ·rfl
     by_cases d:0<=bU b
     ·rw[ah d,dF _ _ (V d),first]
     ·rw[ak d,first]
    rw[u];rcases h.node m hm with⟨e,W⟩|⟨k',a',X,s,e⟩
    ·refine .inl ⟨e,λk'=>?_⟩
     by_cases c:k'=k
     ·subst c;rw[eT];intro t;exact p (by rw[I];simp at t⊢;rcases t with h|h<;>simp[h])
     ·rw[dF _ _ c];exact W k'
    ·have c:k'≠k:=λe=>by subst e;exact p (by rw[s];simp)
     exact .inr ⟨k',a',X,by rw[dF _ _ c,s],e⟩
 ·unfold sy
  rw[l];simp only[a7];by_cases c:k'=k
  ·subst c
   rw[eT,eT,he,I];simp only
   have Y:(if 0<=bU b then ck (a++n::b)else ck a)=ck (a++b):=by
    cases b with
    |nil=>simp[bU]
    |cons y b=>
     have:(0:Int)<=bU (y::b):=by simp[bU]
     rw[ah this,show a++n::y::b=(a++[n])++y::b by simp,xo,xo]
   have Z:(if 0<=ck a then bU (a++n::b)else bU b)=bU (a++b):=by
    by_cases j:0<=ck a
    ·have q:a≠[]:=λe=>by rw[e,qc]at j;omega
     rw[ah j,xh q,xh q]
    ·have:a=[]:=AD.1 (by omega)
     rw[ak j,this];rfl
   rw[Y,Z];simp;omega
  ·rw[dF _ _ c,dF _ _ c];exact h.ends k' s
 ·by_cases c:k'=k
  ·subst c
   rw[eT];rw[dZ,fp]at g;rw[dZ];exact⟨g.1,g.2.1.2,λx l y v=>g.2.2 x l y (by simp[v])⟩
  ·rw[dF _ _ c];exact h.nodup k'
 ·have aux:∀k',m∈up ls k (a++b) k'->m∈ls k':=by
   intro k' hm;by_cases c:k'=k
   ·subst c;rw[eT]at hm;rw[I];simp at hm⊢;rcases hm with h|h<;>simp[h]
   ·rw[dF _ _ c]at hm;exact hm
  exact h.q8 _ _ _ (aux _ U) (aux _ O)
 ·by_cases c:k'=k
  ·subst c
   rw[eT]at hm;exact h.jm _ _ (by rw[I];simp at hm⊢;rcases hm with h|h<;>simp[h])
  ·rw[dF _ _ c]at hm;exact h.jm _ _ hm
end
end
section
section
variable {α:Type}
abbrev ML(α:Type):=List (Int×α)
def aS(m:ML α)(k:Int):Option α:=match m with
 |[]=>none
 |e::m=>if e.1=k then some e.2 else aS m k
def bE(k:Int)(v:α):ML α->ML α
 |[]=>[(k,v)]
 |e::m=>if k<e.1 then(k,v)::e::m else if k=e.1 then(k,v)::m else e::bE k v m
def bO(k:Int)(m:ML α):ML α:=m.filter λe=>!(e.1==k)
abbrev bb(m:ML α):List Int:=m.map (·.1)
abbrev bS(m:ML α):Prop:=eu (bb m)
def kr{k:Int}:∀{m:ML α},aS m k=none↔k∉bb m
 |[]=>by simp[aS]
 |e::m=>by
  unfold aS;split
  ·rename_i h;subst h;simp
  ·rename_i h
   rw[kr];simp only[bb,c4,cR];constructor
   ·rintro U (a|a)
    ·exact h a.symm
    ·exact U a
   ·exact λU a=>U (.inr a)
def jv{k:Int}{v:α}:∀{m:ML α},aS m k=some v->(k,v)∈m
 |[],h=>by simp[aS]at h
 |e::m,h=>by
  unfold aS at h;split at h
  ·rename_i U;cases h;subst U;simp
  ·exact iJ _ (jv h)
def AQ{k:Int}{v:α}:∀{m:ML α},bS m->(k,v)∈m->aS m k=some v
 |[],_,h=>by simp at h
 |e::m,hs,h=>by
  unfold aS;rw[bS,eu,bb,c4,oo]at hs;rcases cR.1 h with h|h
  ·subst h;simp
  ·have:=hs.1 k (bQ.2 ⟨_,h,rfl⟩)
   rw[ak (by omega)];exact AQ hs.2 h
def xB{k:Int}{v:α}{m:ML α}(hs:bS m):aS m k=some v↔(k,v)∈m:=⟨jv,AQ hs⟩
def oT{k:Int}{v:α}:∀{m:ML α},bb (bE k v m)=jq k (bb m)
 |[]=>rfl
 |e::m=>by
  simp only[bE,bb,c4,jq];split
  ·rfl
  ·split
   ·rename_i h;simp[h]
   ·simp only[c4]
    have:=oT (k:=k) (v:=v) (m:=m);simp only[bb]at this;rw[this]
def fA{k:Int}{v:α}{m:ML α}(h:bS m):bS (bE k v m):=by rw[bS,oT];exact ya h
def gR{k j:Int}{v:α}:∀{m:ML α},bS m->aS (bE k v m) j=if j=k then some v else aS m j
 |[],_=>by
  simp only[bE,aS];by_cases h:j=k
  ·rw[ah h,ah h.symm]
  ·rw[ak h,ak λe=>h e.symm]
 |e::m,hs=>by
  simp only[bE];have a:=hs;rw[bS,eu,bb,c4,oo]at a;split
  ·simp only[aS]
   by_cases h:k=j
   ·rw[ah h,ah h.symm]
   ·simp only[ak h,ak (Ne.symm h)]
  ·split
   ·rename_i U b
    simp only[aS];by_cases h:k=j
    ·rw[ah h,ah h.symm]
    ·simp only[ak h,ak (Ne.symm h)]
     rw[ak (by omega)]
   ·simp only[aS]
    rw[gR a.2];by_cases h:e.1=j
    ·rw[ah h,ah h,ak (by omega)]
    ·rw[ak h,ak h]
def mR{k j:Int}:∀{m:ML α},aS (bO k m) j=if j=k then none else aS m j
 |[]=>by simp[bO,aS]
 |e::m=>by
  have b:=mR (k:=k) (j:=j) (m:=m);simp only[bO]at b⊢;by_cases h:e.1=k
  ·rw[mq (by simp[h]),b]
   by_cases a:j=k
   ·rw[ah a,ah a]
   ·rw[ak a,ak a,aS,ak (by omega)]
  ·rw[mr (by simp[h]),aS,aS,b]
   by_cases a:e.1=j
   ·rw[ah a,ah a,ak (by omega)]
   ·rw[ak a,ak a]
def ma{k:Int}{m:ML α}(h:bS m):bS (bO k m):=IB (List.filter_sublist.map _) h
def sW{k:Int}{e:Int×α}{m:ML α}:e∈bO k m↔e∈m/\e.1≠k:=by simp[bO]
def oX{k:Int}{v:α}{e:Int×α}{m:ML α}(hs:bS m):e∈bE k v m↔e=(k,v)\/(e∈m/\e.1≠k):=by
 obtain⟨j,w⟩:=e;rw[<-xB (fA hs),gR hs];by_cases h:j=k
 ·subst h;rw[ah rfl];simp[eq_comm]
 ·rw[ak h,xB hs];simp[h]
def uT{k:Int}{m:ML α}(h:aS m k=none):bO k m=m:=by rw[kr]at h;refine qF.2 λe he=>?_;simp only[ml,r7];exact λa=>h (bQ.2 ⟨e,he,a⟩)
def AT{m c:ML α}(h:bS m)(d:bS c)(e:∀k,aS m k=aS c k):m=c:=by
 have I:bb m=bb c:=vk h d λz=>by
  have:=e z;constructor
  ·intro hz
   by_cases f:aS c z=none
   ·rw[f]at this;exact absurd hz (kr.1 this)
   ·exact rW.1 λhc=>f (kr.2 hc)
  ·intro hz
   by_cases f:aS m z=none
   ·rw[f]at this;exact absurd hz (kr.1 this.symm)
   ·exact rW.1 λhc=>f (kr.2 hc)
 have key:∀{m c:ML α},bS m->bS c->bb m=bb c->(∀k,aS m k=aS c k)->m=c:=by
  intro m
  induction m with
  |nil=>intro c _ _ I _;cases c with|nil=>rfl|cons=>simp[bb]at I
  |cons a m i=>
   intro c h d I e
   cases c with
   |nil=>simp[bb]at I
   |cons b c=>
    simp only[bb,c4,ly]at I;rw[bS,eu,bb,c4,oo]at h d;have g:=e a.1;simp only[aS,ah rfl,I.1.symm,dT]at g;have j:a=b:=v7 I.1 (by simpa using g);subst j;congr 1;refine i h.2 d.2 I.2 λk=>?_;by_cases l:a.1=k
    ·rw[kr.2,kr.2]
     ·intro hc;have:=d.1 k hc;omega
     ·intro hc;have:=h.1 k hc;omega
    ·have:=e k
     simpa only[aS,ak l]using this
 exact key h d I e
end
end
abbrev NH:=Int×Int
inductive Ends:Int->List NH->Prop where
 |nil (f:Int):Ends f []
 |step {f:Int} {l r:List NH} (x:NH):l.Perm (x::r)->x.1<=f->Ends (f+x.2) r->Ends f l
def p8(l:List NH):Int:=(l.map (·.2)).sum
def Ends.perm{f:Int}{l a:List NH}(h:Ends f l)(p:l.Perm a):Ends f a:=by
 cases h with
 |nil=>rw[List.nil_perm.1 p];exact .nil f
 |step x b c hr=>exact .step x (p.symm.trans b) c hr
def Ends.take{f:Int}{l:List NH}(h:Ends f l)(b:∀x∈l,0<=x.2):∀(y:NH) (r:List NH),l.Perm (y::r)->y.1<=f->Ends (f+y.2) r:=by
 induction h with
 |nil=>intro y r a _;exact absurd a.length_eq (by simp)
 |@step f l s x a j hr e=>
  intro y r d k;have c:(x::s).Perm (y::r):=a.symm.trans d;by_cases he:y=x
  ·subst he
   exact hr.perm ((tO y).1 c)
  ·have g:y∈s:=by
    have:y∈x::s:=c.mem_iff.2 (by simp);rcases cR.1 this with h|h
    ·exact absurd h he
    ·exact h
   have U:s.Perm (y::s.erase y):=y4 g
   have i:r.Perm (x::s.erase y):=by refine(tO y).1 (c.symm.trans ?_);exact(U.cons x).trans (.swap _ _ _)
   have m:0<=x.2:=b x (a.mem_iff.2 (by simp));have n:0<=y.2:=b y (d.mem_iff.2 (by simp));refine .step x i (by omega) ?_;have:=e (λz hz=>b z (a.mem_iff.2 (by simp[hz]))) y (s.erase y) U (by omega);rw[show f+y.2+x.2=f+x.2+y.2 by omega];exact this
def UL{l a:List NH}(h:l.Perm a):p8 l=p8 a:=by
 unfold p8
 induction h with
 |nil=>rfl
 |cons x _ b=>simp only[c4,jK,b]
 |swap x y l=>simp only[c4,jK];omega
 |trans _ _ c d=>exact c.trans d
def Ends.more{f:Int}{l:List NH}(h:Ends f l){c:Int}(hc:c<=f+p8 l):Ends f ((c,0)::l):=by
 induction h with
 |nil f=>exact .step (c,0) (.refl _) (by simpa[p8]using hc) (.nil _)
 |@step f l r x a d _ b=>have hs:=UL a;simp only[p8,c4,jK]at hs b hc;exact .step x ((a.cons _).trans (.swap _ _ _)) d (b (by omega))
def Ends.Ua{f:Int}{c:Int}{l:List NH}(h:Ends f ((c,0)::l)):Ends f l:=by
 have key:∀f m,Ends f m->∀l,m.Perm ((c,0)::l)->Ends f l:=by
  intro f m h
  induction h with
  |nil=>intro l a;exact absurd a.length_eq (by simp)
  |@step f m r x a d hr e=>
   intro l g;have b:(x::r).Perm ((c,0)::l):=a.symm.trans g;by_cases he:x=(c,0)
   ·subst he
    simp only[Int.add_zero]at hr;exact hr.perm ((tO _).1 b)
   ·have hm:(c,0)∈r:=by
     have:((c,0):NH)∈x::r:=b.mem_iff.2 (by simp);rcases cR.1 this with h|h
     ·exact absurd h.symm he
     ·exact h
    have U:=y4 hm
    have i:l.Perm (x::r.erase (c,0)):=by refine(tO (c,0)).1 (b.symm.trans ?_);exact(U.cons x).trans (.swap _ _ _)
    exact .step x i d (e _ U)
 exact key f _ h l (.refl _)
def Ends.eL{f d h n:Int}{l:List NH}(e:Ends f ((d,h)::l))(h0:0<=n)(hl:∀x∈l,0<=x.2)(k:0<=h):Ends (f+n) ((d+n,h-n)::l):=by
 have key:∀f m,Ends f m->∀l,m.Perm ((d,h)::l)->Ends (f+n) ((d+n,h-n)::l):=by
  intro f m e
  induction e with
  |nil=>intro l a;exact absurd a.length_eq (by simp)
  |@step f m r x a c hr g=>
   intro l i;have b:(x::r).Perm ((d,h)::l):=a.symm.trans i;by_cases he:x=(d,h)
   ·subst he
    refine .step (d+n,h-n) (.refl _) (by simp only at c⊢;omega) ?_;rw[show f+n+(d+n,h-n).2=f+(d,h).2 by simp;omega];exact hr.perm ((tO _).1 b)
   ·have hm:(d,h)∈r:=by
     have:((d,h):NH)∈x::r:=b.mem_iff.2 (by simp);rcases cR.1 this with h|h
     ·exact absurd h.symm he
     ·exact h
    have U:=y4 hm
    have j:l.Perm (x::r.erase (d,h)):=by refine(tO (d,h)).1 (b.symm.trans ?_);exact(U.cons x).trans (.swap _ _ _)
    refine .step x ((j.cons _).trans (.swap _ _ _)) (by omega) ?_;rw[show f+n+x.2=f+x.2+n by omega];exact g _ U
 exact key f _ e l (.refl _)
def Ends.BQ{f:Int}{l:List NH}(h:Ends f l)(hl:l≠[]):∃x∈l,x.1<=f:=by
 cases h with
 |nil=>exact absurd rfl hl
 |step x a b _=>exact⟨x,a.mem_iff.2 (by simp),b⟩
end Go.bn
namespace Go.XS
section
abbrev Heap:=Array Obj
abbrev HP:=Heap->Prop
def bu{α:Type}{a:Option α}{b c:α}(h:a=some b)(e:b=c:=by kernel_rfl):a=some c:=h.trans (congrArg some e)
abbrev aw:=Option Addr
abbrev ax:=Array Value
abbrev aB:=List Value
abbrev aO:=List Int
abbrev aK:=Value->HP
inductive SV where
 |val (v:Value)
 |kb (b:Bool)
 |un
 |nx (k x:Value)
 |en (k x:Value)
def SV.cd:SV->Value
 | .val v=>v
 | .kb b=> .bool b
 | .un=>undef
 | .nx k x=> .tuple #[.bool true,k,x]
 | .en k x=> .tuple #[k,x]
abbrev Env:=Nat->Option SV
def F:HP:=λ_=>False
def ft(w w':World):Prop:=w'.os=w.os/\w'.tape=w.tape/\w'.output=w.output
def ft.refl(w:World):ft w w:=⟨rfl,rfl,rfl⟩
def ft.trans{a b c:World}(h:ft a b)(k:ft b c):ft a c:=⟨k.1.trans h.1,k.2.1.trans h.2.1,k.2.2.trans h.2.2⟩
def cA(s:Heap)(a:Addr):Option Value:=
 match s[a.block]? with
 |some (.cells c _ _)=>if a.spot.isSome then none else c[a.off]?
 |_=>none
def xi(s:Heap)(a:Addr):Bool:=
 match s[a.block]? with
 |some (.cells _ _ (lo,hi))=>lo<=a.off&&a.off<hi
 |_=>false
def eW(s:Heap)(a:Addr)(v:Value):Heap:=
 s.modify a.block λ
   | .cells c elem frozen=> .cells (if a.spot.isSome then c else c.setIfInBounds a.off v) elem frozen
   |o=>o
def kQ(w:World)(a:Addr):w.cell? a=cA w.heap a:=rfl
def Ag(w:World)(a:Addr):w.frozen? a=xi w.heap a:=rfl
def setCell_eq(w:World)(a:Addr)(v:Value):w.setCell a v={w with heap:=eW w.heap a v}:=rfl
def aI{α:Type}(P:Program)(s:Sem α)(K:α->HP):HP:=λσ=>
 ∀w:World,w.heap=σ->∃v w',s.run P w= .ok v w'/\ft w w'/\K v w'.heap
section
variable {P:Program}
def cu{α:Type}{v:α}{K:α->HP}{σ:Heap}(h:K v σ):aI P (pure v) K σ:=λw hw=>⟨v,w,rfl,.refl w,hw▸h⟩
def aY{α β:Type}{s:Sem α}{f:α->Sem β}{K:β->HP}{σ:Heap}(h:aI P s (λv=>aI P (f v) K) σ):aI P (s>>=f) K σ:=by intro w hw;obtain⟨v,a,U,b,c⟩:=h w hw;obtain⟨u,w2,d,e,g⟩:=c a rfl;exact⟨u,w2,by rw[Sem.run_bind,U,Result.andThen_ok,d],b.trans e,g⟩
def gU{α:Type}{s:Sem α}{K a:α->HP}{σ:Heap}(I:∀v σ,K v σ->a v σ)(h:aI P s K σ):aI P s a σ:=λw hw=>let⟨v,w',U,b,c⟩:=h w hw;⟨v,w',U,b,I _ _ c⟩
def dK{α:Type}{s:Sem α}{K:α->HP}{σ:Heap}(v:α)(h:∀w:World,w.heap=σ->s.run P w= .ok v w)(I:K v σ):aI P s K σ:=λw hw=>⟨v,w,h w hw,.refl w,hw▸I⟩
end
def ae(b:Bool)(p q:HP):HP:=λσ=>(b=true->p σ)/\(b=false->q σ)
def aR(c:Prop)(p:HP):HP:=λσ=>c/\p σ
def aA(p:Option Addr)(f:Addr->HP):HP:=match p with|some a=>f a|none=>F
def bs(k:IntKind)(a:Addr)(f:Int->HP):HP:=λσ=>∃n,cA σ a=some (.int k n)/\f n σ
def hA(a:Addr)(f:Bool->HP):HP:=λσ=>∃b,cA σ a=some (.bool b)/\f b σ
def bx(a:Addr)(f:Option Addr->HP):HP:=λσ=>∃p,cA σ a=some (.pointer p)/\f p σ
def aT(a:Addr)(f:Option Addr->Nat->Nat->HP):HP:=λσ=>∃p l c,cA σ a=some (.slice p l c)/\f p l c σ
def iz(a:Addr)(f:ByteArray->HP):HP:=λσ=>∃s,cA σ a=some (.string s)/\f s σ
def gu(a:Addr)(f:Option Nat->HP):HP:=λσ=>∃m,cA σ a=some (.map m)/\f m σ
def gN(a:Addr)(f:Value->HP):HP:=λσ=>∃v,cA σ a=some v/\f v σ
def eY(a:Addr)(n:Nat)(f:Array Value->HP):HP:=λσ=>∃cs:Array Value,cs.size=n/\(∀i,i<n->cA σ (a.add i)=cs[i]?)/\f cs σ
def di(k:IntKind)(v:Value)(f:Int->HP):HP:=λσ=>∃n,v= .int k n/\f n σ
def dv(v:Value)(f:Bool->HP):HP:=λσ=>∃b,v= .bool b/\f b σ
def im(v:Value)(f:Option Addr->HP):HP:=λσ=>∃p,v= .pointer p/\f p σ
def iX(v:Value)(f:Option Addr->Nat->Nat->HP):HP:=λσ=>∃p l c,v= .slice p l c/\f p l c σ
def nC(v:Value)(f:ByteArray->HP):HP:=λσ=>∃s,v= .string s/\f s σ
def uh(v:Value)(f:Option Nat->HP):HP:=λσ=>∃m,v= .map m/\f m σ
def hk(v:Value)(f:Array Value->HP):HP:=λσ=>∃cs,v= .agg cs/\f cs σ
def st(a:Addr)(v:Value)(k:HP):HP:=λσ=>(∃u,cA σ a=some u)/\xi σ a=false/\v.oneCell'=true/\k (eW σ a v)
def hF(a:Addr):Nat->List Value->HP->HP
 |_,[],k=>k
 |i,v::r,k=>st (a.add i) v (hF a (i+1) r k)
def gW(a:Addr)(cs:Array Value)(n:Nat)(k:HP):HP:=aR (cs.size=n) (hF a 0 cs.toList k)
def BT(a:Addr)(v:Value)(n:Nat)(k:HP):HP:=match Nat.beq n 1 with|true=>st a v k|false=>F
def al(cs:Array Value)(T:TypeId)(f:Nat->HP):HP:=λσ=>f σ.size (σ.push (.cells cs T))
def hD(f:Nat->HP):HP:=λσ=>f σ.size (σ.push (.map #[] 0))
def ab(P:Program)(f:FuncId)(args:Array Value)(K:Value->HP):HP:=λσ=>
 ∀w:World,w.heap=σ->Calls P f args w λe w'=>∃v,e= .returned v/\K v w'.heap/\ft w w'
def Bz(P:Program)(l:Nat)(f:FuncId)(tmps:Array Value)(a body:Code)(K:Value->HP):HP:=λσ=>
 ∀w:World,w.heap=σ->RoundIn Fence.wide 0 P l f tmps a body w λe w'=>∃v,e= .returned v/\K v w'.heap/\ft w w'
def eF(P:Program)(s:Sem Next)(K:Value->HP):HP:=λσ=>
 ∀w:World,w.heap=σ->∃r w',s.run P w= .ok r w'/\ft w w'/\
  ((∃v,r= .value v/\K v w'.heap)\/(r= .skip/\K undef w'.heap)\/(∃f args,r= .enter f args/\ab P f args K w'.heap)\/
   (∃l f tmps a body,r= .round l f tmps a body/\Bz P l f tmps a body K w'.heap))
def gj(P:Program)(l:Nat)(first captured:Array Value)(vs:List Value)(K:Value->HP):HP:=
 eF P (do let d<-Deferred.ofValue (.func (.yield l) first captured) vs.toArray;invoke d.target d.args) K
def bm(body:List Value->(List Value->HP)->HP)(init:List Value):HP:=λσ=>
 ∀R:List Value->HP,(∀s σ,body s R σ->R s σ)->R init σ
def bq(a:List Value->HP)(body:(List Value->HP)->HP):HP:=body a
def D2{P:Program}{f:FuncId}{args:Array Value}{K a:Value->HP}{σ:Heap}(I:∀v σ,K v σ->a v σ)(h:ab P f args K σ):ab P f args a σ:=λw hw=>(h w hw).mono λ_ _ ⟨v,e,k,o⟩=>⟨v,e,I _ _ k,o⟩
def Yi{P:Program}{l:Nat}{f:FuncId}{tmps:Array Value}{a body:Code}{K b:Value->HP}{σ:Heap}(I:∀v σ,K v σ->b v σ)(h:Bz P l f tmps a body K σ):Bz P l f tmps a body b σ:=λw hw=>(h w hw).mono λ_ _ ⟨v,e,k,o⟩=>⟨v,e,I _ _ k,o⟩
def mU(P:Program)(it:Value)(s:Bool)(t:TypeId)(f0:HP)(f1:Value->Value->HP):HP:=
 aI P (Instr.next it s t) λr σ=>(r= .tuple #[.bool false]/\f0 σ)\/∃k x,r= .tuple #[.bool true,k,x]/\f1 k x σ
def kT(P:Program)(it:Value)(f:Value->Value->HP):HP:=
 aI P (Instr.entry it) λr σ=>∃k x,r= .tuple #[k,x]/\f k x σ
def cI(P:Program)(a:Array TypeId)(p:Option Addr)(l c:Nat)(q:Option Addr)(m d:Nat)(f:Option Addr->Nat->Nat->HP):HP:=
 aI P (Builtin.append_ a 0 #[.slice p l c,.slice q m d]) λv=>iX v f
inductive TK where
 |bool|int (k:IntKind)|str|ptr|slice|map|agg|any
def TK.of(P:Program)(t:TypeId):TK:=
 match P.underlying t with
 |some .bool=> .bool
 |some (.int k)=> .int k
 |some .string=> .str
 |some (.pointer _)=> .ptr
 |some (.slice _)=> .slice
 |some (.map ..)=> .map
 |some (.struct _)=> .agg
 |some (.array ..)=> .agg
 |_=> .any
def TK.as:TK->Value->(Value->HP)->HP
 | .bool,v,f=>dv v λb=>f (.bool b)
 | .int k,v,f=>di k v λn=>f (.int k n)
 | .str,v,f=>nC v λs=>f (.string s)
 | .ptr,v,f=>im v λp=>f (.pointer p)
 | .slice,v,f=>iX v λp l c=>f (.slice p l c)
 | .map,v,f=>uh v λm=>f (.map m)
 | .agg,v,f=>hk v λcs=>f (.agg cs)
 | .any,v,f=>f v
def TK.ld:TK->Addr->Nat->(Value->HP)->HP
 | .bool,a,_,f=>hA a λb=>f (.bool b)
 | .int k,a,_,f=>bs k a λn=>f (.int k n)
 | .str,a,_,f=>iz a λs=>f (.string s)
 | .ptr,a,_,f=>bx a λp=>f (.pointer p)
 | .slice,a,_,f=>aT a λp l c=>f (.slice p l c)
 | .map,a,_,f=>gu a λm=>f (.map m)
 | .agg,a,n,f=>eY a n λcs=>f (.agg cs)
 | .any,a,_,f=>gN a f
def iW:List TK->(List Value->Prop)->Prop
 |[],g=>g []
 | .bool::ts,g=>∀b,iW ts λr=>g (.bool b::r)
 | .int k::ts,g=>∀n,iW ts λr=>g (.int k n::r)
 | .str::ts,g=>∀s,iW ts λr=>g (.string s::r)
 | .ptr::ts,g=>∀p,iW ts λr=>g (.pointer p::r)
 | .slice::ts,g=>∀p l c,iW ts λr=>g (.slice p l c::r)
 | .map::ts,g=>∀m,iW ts λr=>g (.map m::r)
 | .agg::ts,g=>∀cs,iW ts λr=>g (.agg cs::r)
 | .any::ts,g=>∀v,iW ts λr=>g (v::r)
def TK.DJ(tk:TK){v:Value}{f:Value->HP}{σ:Heap}(h:tk.as v f σ):f v σ:=by
 cases tk<;>simp only[TK.as]at h
 case bool=>obtain⟨b,rfl,h⟩:=h;exact h
 case int=>obtain⟨b,rfl,h⟩:=h;exact h
 case str=>obtain⟨b,rfl,h⟩:=h;exact h
 case ptr=>obtain⟨b,rfl,h⟩:=h;exact h
 case slice=>obtain⟨p,l,c,rfl,h⟩:=h;exact h
 case map=>obtain⟨b,rfl,h⟩:=h;exact h
 case agg=>obtain⟨b,rfl,h⟩:=h;exact h
 case any=>exact h
def TK.Vm(tk:TK)(d:tk≠ .agg){a:Addr}{n:Nat}{f:Value->HP}{σ:Heap}(h:tk.ld a n f σ):∃v,cA σ a=some v/\f v σ:=by
 cases tk<;>simp only[TK.ld]at h
 case bool=>obtain⟨b,e,h⟩:=h;exact⟨_,e,h⟩
 case int=>obtain⟨b,e,h⟩:=h;exact⟨_,e,h⟩
 case str=>obtain⟨b,e,h⟩:=h;exact⟨_,e,h⟩
 case ptr=>obtain⟨b,e,h⟩:=h;exact⟨_,e,h⟩
 case slice=>obtain⟨p,l,c,e,h⟩:=h;exact⟨_,e,h⟩
 case map=>obtain⟨b,e,h⟩:=h;exact⟨_,e,h⟩
 case agg=>exact absurd rfl d
 case any=>exact h
def km:List TK->(List Value->Prop)->Prop
 |[],g=>g []
 | .bool::ts,g=>∃b,km ts λr=>g (.bool b::r)
 | .int k::ts,g=>∃n,km ts λr=>g (.int k n::r)
 | .str::ts,g=>∃s,km ts λr=>g (.string s::r)
 | .ptr::ts,g=>∃p,km ts λr=>g (.pointer p::r)
 | .slice::ts,g=>∃p l c,km ts λr=>g (.slice p l c::r)
 | .map::ts,g=>∃m,km ts λr=>g (.map m::r)
 | .agg::ts,g=>∃cs,km ts λr=>g (.agg cs::r)
 | .any::ts,g=>∃v,km ts λr=>g (v::r)
def T5:∀(ts:List TK) (g:List Value->Prop),km ts g->∃vs,g vs:=by
 intro ts
 induction ts with
 |nil=>intro g h;exact⟨_,h⟩
 |cons t ts a=>
  intro g h;cases t<;>simp only[km]at h
  case slice=>obtain⟨p,l,c,h⟩:=h;obtain⟨vs,h⟩:=a _ h;exact⟨_,h⟩
  all_goals (obtain⟨x,h⟩:=h;obtain⟨vs,h⟩:=a _ h;exact⟨_,h⟩)
def wC:∀(ts:List TK) (g b:List Value->Prop),(∀r,g r->b r)->iW ts g->iW ts b:=by
 intro ts
 induction ts with
 |nil=>intro g b h a;exact h _ a
 |cons t ts d=>
  intro g b h a;cases t<;>simp only[iW]at a⊢
  case slice=>intro p l c;exact d _ _ (λr=>h _) (a p l c)
  all_goals (intro x;exact d _ _ (λr=>h _) (a x))
def Typed(ts:List TK)(s:List Value):Prop:=¬iW ts (λr=>s≠r)
def Typed.use{ts:List TK}{s:List Value}{f:List Value->Prop}(a:Typed ts s)(h:iW ts λr=>s=r->f r):f s:=by refine IA λb=>a (wC ts _ _ (λr hr he=>?_) h);subst he;exact b (hr rfl)
def B8(ts:List TK)(f:List Value->HP):List Value->HP:=λs σ=>iW ts λr=>s=r->f r σ
def ev(e:Env):Operand->Option SV
 | .tmp t=>e t
 | .const (.bool b)=>some (.kb b)
 | .const v=>some (.val v)
 | .global g=>some (.val (.pointer (some ⟨g,0,none⟩)))
 | .func f=>some (.val (.func (.func f) #[] #[]))
def re(e:Env):List Operand->Option (List Value)
 |[]=>some []
 |x::r=>
  match ev e x with
  |some v=>match re e r with
   |some vs=>some (v.cd::vs)
   |none=>none
  |none=>none
def dy(e:Env)(x:Operand)(f:Value->HP):HP:=match ev e x with|some v=>f v.cd|none=>F
def ni(e:Env)(x:Operand)(f:SV->HP):HP:=match ev e x with|some v=>f v|none=>F
def tw(e:Env)(x:List Operand)(f:List Value->HP):HP:=match re e x with|some v=>f v|none=>F
def hI(P:Program)(t:TypeId):Bool:=match P.info? t with|some i=>i.zero.isSome|none=>false
def zc(P:Program)(t:TypeId):Array Value:=match P.info? t with|some i=>(i.zero.getD undef).cells|none=>#[]
def fw(P:Program)(t:TypeId)(v:Value)(f:Value->HP):HP:=
 match P.underlying t with
 |some (.tuple ts)=>λσ=>km (ts.toList.map (TK.of P)) λvs=>v= .tuple vs.toArray/\f (.tuple vs.toArray) σ
 |_=>(TK.of P t).as v f
def nB{P:Program}{t:TypeId}{v:Value}{f:Value->HP}{σ:Heap}(h:fw P t v f σ):f v σ:=by
 unfold fw at h;generalize P.underlying t=d at h
 cases d with
 |none=>exact TK.DJ _ h
 |some d=>
  cases d
  case tuple ts=>obtain⟨vs,a,b⟩:=T5 _ _ h;rw[a];exact b
  all_goals exact TK.DJ _ h
def bl(op:BinOp)(k:IntKind)(x y:Int):Int:=
 k.wrap (match op with
  | .and=>BitVec.ofInt k.bits x&&&BitVec.ofInt k.bits y
  | .or=>BitVec.ofInt k.bits x|||BitVec.ofInt k.bits y
  | .xor=>BitVec.ofInt k.bits x^^^BitVec.ofInt k.bits y
  |_=>BitVec.ofInt k.bits x&&&~~~BitVec.ofInt k.bits y).toNat
def nI(k:IntKind)(x y:Int):Int:=k.wrap (x*2^(min y.toNat k.bits))
def bP(k:IntKind)(x y:Int):Int:=x.fdiv (2^(min y.toNat k.bits))
def wH(P:Program)(t:TypeId):Bool:=match P.underlying t with|some .bool=>true|_=>false
def xV(P:Program)(t:TypeId):Bool:=match P.underlying t with|some (.pointer _)=>true|_=>false
def nf(P:Program)(t:TypeId):Bool:=match P.underlying t with|some (.slice _)=>true|_=>false
def xz(P:Program)(t:TypeId):Bool:=match P.underlying t with|some (.map ..)=>true|_=>false
def eS(b:Bool)(p:HP):HP:=match b with|true=>p|false=>F
def qC(P:Program)(op:BinOp)(t:TypeId)(a b:Value)(K:Value->HP)(fb:HP):HP:=
 match a,b with
 | .int k m,.int k' n=>
  match op with
  | .add=>if k=k' then K (.int k (k.wrap (m+n)))else F
  | .sub=>if k=k' then K (.int k (k.wrap (m-n)))else F
  | .mul=>if k=k' then K (.int k (k.wrap (m*n)))else F
  | .quo=>if k=k' then aR (n≠0) (K (.int k (k.wrap (m.tdiv n))))else F
  | .rem=>if k=k' then aR (n≠0) (K (.int k (m.tmod n)))else F
  | .and=>if k=k' then K (.int k (bl .and k m n))else F
  | .or=>if k=k' then K (.int k (bl .or k m n))else F
  | .xor=>if k=k' then K (.int k (bl .xor k m n))else F
  | .andNot=>if k=k' then K (.int k (bl .andNot k m n))else F
  | .shl=>aR (0<=n) (K (.int k (nI k m n)))
  | .shr=>aR (0<=n) (K (.int k (bP k m n)))
  | .eql=>if k=k' then K (.bool (m==n))else F
  | .neq=>if k=k' then K (.bool (m !=n))else F
  | .lss=>if k=k' then K (.bool (m<n))else F
  | .leq=>if k=k' then K (.bool (m<=n))else F
  | .gtr=>if k=k' then K (.bool (m>n))else F
  | .geq=>if k=k' then K (.bool (m>=n))else F
 | .bool s,.bool u=>
  match op with
  | .eql=>eS (wH P t) (K (.bool (s==u)))
  | .neq=>eS (wH P t) (K (.bool !(s==u)))
  |_=>fb
 | .string s,.string u=>
  match op with
  | .eql=>K (.bool (s.toList==u.toList))
  | .neq=>K (.bool !(s.toList==u.toList))
  |_=>fb
 | .pointer p,.pointer none=>
  match op with
  | .eql=>eS (xV P t) (K (.bool p.isNone))
  | .neq=>eS (xV P t) (K (.bool !p.isNone))
  |_=>fb
 | .slice p _ _,.slice none _ _=>
  match op with
  | .eql=>eS (nf P t) (K (.bool p.isNone))
  | .neq=>eS (nf P t) (K (.bool !p.isNone))
  |_=>fb
 | .map p,.map none=>
  match op with
  | .eql=>eS (xz P t) (K (.bool p.isNone))
  | .neq=>eS (xz P t) (K (.bool !p.isNone))
  |_=>fb
 |_,_=>fb
end
section
def wZ(P:Program)(s:TypeId)(f:Nat):Option Nat:=
 match P.underlying s with
 |some (.struct a)=>match a[f]? with
  |some fd=>if P.cellsOf fd.type=0 then none else some fd.offset
  |none=>none
 |_=>none
def jD(P:Program)(t:TypeId):Bool:=(P.info? t).isSome&&(P.underlying t).isSome
def TK.isAgg:TK->Bool| .agg=>true|_=>false
def lZ(k:IntKind)(cs:ax)(off:Nat)(f:Int->HP):HP:=λσ=>∃n,cs[off]?=some (.int k n)/\f n σ
def Xg(cs:ax)(off:Nat)(f:Bool->HP):HP:=λσ=>∃n,cs[off]?=some (.bool n)/\f n σ
def Xi(cs:ax)(off:Nat)(f:ByteArray->HP):HP:=λσ=>∃n,cs[off]?=some (.string n)/\f n σ
def Bk(cs:ax)(off:Nat)(f:aw->HP):HP:=λσ=>∃n,cs[off]?=some (.pointer n)/\f n σ
def Bl(cs:ax)(off:Nat)(f:aw->Nat->Nat->HP):HP:=λσ=>∃p l c,cs[off]?=some (.slice p l c)/\f p l c σ
def Xh(cs:ax)(off:Nat)(f:Option Nat->HP):HP:=λσ=>∃n,cs[off]?=some (.map n)/\f n σ
def Xj(cs:ax)(off:Nat)(f:aK):HP:=λσ=>∃v,cs[off]?=some v/\f v σ
def TK.pt:TK->ax->Nat->Nat->aK->HP
 | .bool,cs,o,_,f=>Xg cs o λb=>f (.bool b)
 | .int k,cs,o,_,f=>lZ k cs o λn=>f (.int k n)
 | .str,cs,o,_,f=>Xi cs o λs=>f (.string s)
 | .ptr,cs,o,_,f=>Bk cs o λp=>f (.pointer p)
 | .slice,cs,o,_,f=>Bl cs o λp l c=>f (.slice p l c)
 | .map,cs,o,_,f=>Xh cs o λm=>f (.map m)
 | .agg,cs,o,n,f=>f (.agg (cs.extract o (o+n)))
 | .any,cs,o,_,f=>Xj cs o f
def jx(e:Env)(x:Option Operand)(a b:Nat)(f:Nat->HP):HP:=
 match x with
 |none=>f a
 |some x=>match ev e x with
  |some (.val (.int _ n))=>aR (0<=n/\n<=(b:Int)) (f n.toNat)
  |_=>F
def dh(p:aw)(size l m:Nat):aw:=if m=l then p else p.map (·.add (l*size))
def lK(a:Addr)(size l m:Nat):Addr:=if m=l then a else a.add (l*size)
def gx(z:ax)(n:Nat):ax:=(Array.range n).map (z[·%z.size]!)
def c7(P:Program)(elem:TypeId)(l c:Int)(f:Nat->HP):HP:=λσ=>
 0<=l/\l<=c/\c<9223372036854775808/\(P.bytesOf elem:Int)*c<=2^48/\(P.info? elem).isSome=true/\(hI P elem=true)/\
  f σ.size (σ.push (.cells (gx (zc P elem) (c.toNat*P.cellsOf elem)) elem))
def scale(n:Nat):Nat->Nat
 |1=>n
 |s=>n*s
def BG(n s:Nat):scale n s=n*s:=by
 unfold scale;split
 ·simp
 ·rfl
def yp(P:Program)(t:TypeId):Bool:=match P.underlying t with|some .string=>true|_=>false
def sI(f:TypeId->Bool)(a:Array TypeId):Bool:=match a[0]? with|some t=>f t|none=>false
def ic(s:ByteArray)(i:Int):Int:=((s.data[i.toNat]?).getD 0).toNat
def partsOf(e:Env):List (Nat×Operand)->Option (List (Nat×Value))
 |[]=>some []
 |(i,x)::r=>
  match ev e x with
  |some v=>match partsOf e r with
   |some vs=>some ((i,v.cd)::vs)
   |none=>none
  |none=>none
def w1(P:Program)(t:TypeId):Option (Nat->Option (Nat×Nat)):=
 match P.underlying t with
 |some (.struct a)=>if a.toList.all (λf=>(P.info? f.type).isSome)then some λi=>(a[i]?).map λf=>(f.offset,P.cellsOf f.type)else none
 |some (.array _ elem)=>if(P.info? elem).isSome then some λi=>some (i*P.cellsOf elem,P.cellsOf elem)else none
 |_=>none
def na(z:aB):Nat->aB
 |0=>[]
 |n+1=>z++na z n
def zz(P:Program)(elem:TypeId)(len:Nat):Bool:=
 hI P elem&&Nat.ble (len*P.cellsOf elem) 16777216&&Nat.beq (zc P elem).size (P.cellsOf elem)
def gb(P:Program)(f:FuncId):Bool:=match P.funcs[f]? with|some fn=>fn.body.isSome|none=>false
def kj(P:Program)(a:FuncId)(args:ax)(K:aK):HP:=
 match gb P a with
 |true=>ab P a args K
 |false=>eF P (callFunc a args) K
def Er(P:Program)(t:TypeId):Bool:=match P.underlying t with|some (.interface _)=>false|some _=>true|none=>false
def lx(P:Program)(f:Value)(args:aB)(K:aK):HP:=
 match f with
 | .func (.func a) first captured=>kj P a (first.toList++args++captured.toList).toArray K
 | .func (.yield l) first captured=>gj P l first captured args K
 |f=>eF P (do let d<-Deferred.ofValue f args.toArray;invoke d.target d.args) K
def Cm(P:Program)(f:Value)(args:aB)(t:TypeId)(K:aK):HP:=lx P f args λv=>fw P t v K
def Ir(P:Program)(b:Builtin)(a:Array TypeId)(t:TypeId)(args:aB)(K:aK):HP:=
 match b,args with
 | .len,[.slice _ n _]=>eS (sI (nf P) a) (K (.int .i64 n))
 | .len,[.string s]=>eS (sI (yp P) a) (K (.int .i64 s.size))
 | .cap,[.slice p n c]=>aI P (Builtin.cap_ a t #[.slice p n c]) λv=>fw P t v K
 | .max,[.int k x,.int _ y]=>K (.int k (if y>x then y else x))
 | .min,[.int k x,.int _ y]=>K (.int k (if y<x then y else x))
 | .append,[.slice p l c,.slice q m d]=>cI P a p l c q m d λp l c=>K (.slice p l c)
 | .append,vs=>aI P (Builtin.append_ a t vs.toArray) λv=>fw P t v K
 | .copy,vs=>aI P (Builtin.copy_ a t vs.toArray) λv=>fw P t v K
 | .clear,vs=>aI P (Builtin.clear_ a t vs.toArray) λv=>fw P t v K
 | .delete,vs=>aI P (Builtin.delete_ a t vs.toArray) λv=>fw P t v K
 | .len,vs=>aI P (Builtin.len_ a t vs.toArray) λv=>fw P t v K
 | .max,vs=>aI P (Builtin.max_ a t vs.toArray) λv=>fw P t v K
 | .min,vs=>aI P (Builtin.min_ a t vs.toArray) λv=>fw P t v K
 |_,_=>F
def cX:aB->Nat->aB->aB
 |cells,0,[]=>cells
 |_::cs,0,v::vs=>v::cX cs 0 vs
 |c::cs,n+1,vs=>c::cX cs n vs
 |[],_,_=>[]
def oR(pl:Nat->Option (Nat×Nat))(n:Nat):aB->List (Nat×Value)->(aB->HP)->HP
 |cells,[],k=>k cells
 |cells,(i,v)::r,k=>match pl i with
  |none=>F
  |some (off,size)=>match v with
   | .agg cs=>aR (cs.size=size) (eS (Nat.ble (off+size) n) (oR pl n (cX cells off cs.toList) r k))
   |v=>eS (Nat.beq size 1&&Nat.ble (off+1) n) (oR pl n (cX cells off [v]) r k)
def vH(P:Program)(e:Env)(o:Oper)(K:SV->HP):HP:=
 match o.op with
 | .move x=>ni e x K
 | .assign x=>ni e x K
 | .pick c a b=>ni e c λv=>match v with
  | .kb true=>ni e a K
  | .kb false=>ni e b K
  | .val (.bool t)=>ae t (ni e a K) (ni e b K)
  |_=>F
 | .build t parts=>
  match partsOf e parts.toList,w1 P t with
  |some [],some _=>eS (hI P t) (K (.val (.agg (zc P t))))
  |some ps,some pl=>eS (hI P t) (oR pl (zc P t).size (zc P t).toList ps λcells=>K (.val (.agg cells.toArray)))
  |_,_=>F
 | .nilCheck x=>dy e x λv=>match v with
  | .pointer p=>aA p λa=>K (.val (.pointer (some a)))
  | .func (.func f) first captured=>K (.val (.func (.func f) first captured))
  |_=>F
 | .binOp op t x y _=>dy e x λa=>dy e y λb=>qC P op t a b (λv=>K (.val v)) F
 | .unOp op _ x=>ni e x λv=>match op,v with
  | .not,.kb b=>K (.kb (match b with|true=>false|false=>true))
  | .not,.val (.bool b)=>K (.val (.bool !b))
  | .neg,.val (.int k n)=>K (.val (.int k (k.wrap (0-n))))
  | .xor,.val (.int k n)=>K (.val (.int k (bl .xor k (if k.signed then-1 else k.max) n)))
  |_,_=>F
 | .convert src dst x=>dy e x λv=>match P.underlying dst,v with
  |some (.int k),.int _ n=>eS (P.underlying src).isSome (K (.val (.int k (k.wrap n))))
  |_,_=>F
 | .makeFunc fn first captured=>tw e first.toList λg=>tw e captured.toList λcs=>K (.val (.func fn g.toArray cs.toArray))
 | .slice t x lo hi d=>dy e x λv=>match P.underlying t,v with
  |some (.slice elem),.slice p len cap=>eS (jD P elem) (
    jx e d cap cap λm=>jx e hi len m λh=>jx e lo 0 h λl=>
     match d,hi with
     |some _,none=>F
     |_,_=>K (.val (.slice (dh p (P.cellsOf elem) l m) (h-l) (m-l))))
  |some .string,.string s=>
    match d with
    |some _=>F
    |none=>jx e hi s.size s.size λh=>jx e lo 0 h λl=>K (.val (.string (s.extract l h)))
  |some (.array n elem),.pointer q=>aA q λa=>eS (jD P elem) (
    jx e d n n λm=>jx e hi n m λh=>jx e lo 0 h λl=>
     match d,hi with
     |some _,none=>F
     |_,_=>K (.val (.slice (some (lK a (P.cellsOf elem) l m)) (h-l) (m-l))))
  |_,_=>F
 | .fieldAddr s x f=>dy e x λv=>match v,wZ P s f with
  | .pointer q,some off=>aA q λa=>K (.val (.pointer (some (a.add off))))
  |_,_=>F
 | .field t x f=>dy e x λv=>match v,P.underlying t with
  | .agg cs,some (.struct g)=>match g[f]? with
   |some fd=>eS (jD P fd.type) ((TK.of P fd.type).pt cs fd.offset (P.cellsOf fd.type) λv=>K (.val v))
   |none=>F
  |_,_=>F
 | .indexAddr t x i=>dy e x λv=>dy e i λiv=>match P.underlying t,v,iv with
  |some (.slice elem),.slice q len _,.int _ n=>aA q λa=>eS (jD P elem) (
    aR (0<=n/\n<(len:Int)) (K (.val (.pointer (some (a.add (scale n.toNat (P.cellsOf elem))))))))
  |some (.array len elem),.pointer q,.int _ n=>aA q λa=>eS (jD P elem) (
    aR (0<=n/\n<(len:Int)) (K (.val (.pointer (some (a.add (scale n.toNat (P.cellsOf elem))))))))
  |_,_,_=>F
 | .index t x i=>dy e x λv=>dy e i λiv=>match P.underlying t,v,iv with
  |some (.array len elem),.agg cs,.int _ n=>eS (jD P elem) (
    aR (0<=n/\n<(len:Int)) ((TK.of P elem).pt cs (scale n.toNat (P.cellsOf elem)) (P.cellsOf elem) λv=>K (.val v)))
  |some .string,.string s,.int _ n=>aR (0<=n/\n<(s.size:Int)) (K (.val (.int .u8 (ic s n))))
  |_,_,_=>F
 | .extract x i=>ni e x λj=>match j with
  | .nx k x=>match i with
   |0=>K (.val (.bool true))
   |1=>fw P o.type k λv=>K (.val v)
   |2=>fw P o.type x λv=>K (.val v)
   |_=>F
  | .en k x=>match i with
   |0=>fw P o.type k λv=>K (.val v)
   |1=>fw P o.type x λv=>K (.val v)
   |_=>F
  | .val (.tuple vs)=>match vs[i]? with
   |some u=>K (.val u)
   |none=>F
  |_=>F
 | .call c=>tw e c.args.toList λargs=>
  match c.callee,args with
  | .builtin .len,[.slice _ n _]=>eS (sI (nf P) c.argTypes) (K (.val (.int .i64 n)))
  | .builtin .len,[.string s]=>eS (sI (yp P) c.argTypes) (K (.val (.int .i64 s.size)))
  | .builtin .max,[.int k x,.int _ y]=>K (.val (.int k (if y>x then y else x)))
  | .builtin .min,[.int k x,.int _ y]=>K (.val (.int k (if y<x then y else x)))
  |_,_=>F
 |_=>F
def n'(P:Program)(e:Env)(o:Oper)(K:SV->HP):HP:=
 match o.op with
 | .alloc elem=>eS (hI P elem) (al (zc P elem) elem λb=>K (.val (.pointer (some ⟨b,0,none⟩))))
 | .box elem x=>dy e x λv=>al v.cells elem λb=>K (.val (.pointer (some ⟨b,0,none⟩)))
 | .buildSlice t len parts=>
  match partsOf e parts.toList,P.underlying t with
  |some ps,some (.slice elem)=>eS (zz P elem len) (oR (λi=>some (i*P.cellsOf elem,P.cellsOf elem)) (len*P.cellsOf elem) (na (zc P elem).toList len) ps λcells=>al cells.toArray elem λb=>K (.val (.slice (some ⟨b,0,none⟩) len len)))
  |_,_=>F
 | .load t x=>dy e x λv=>match v with
  | .pointer p=>aA p λa=>eS (jD P t) ((TK.of P t).ld a (P.cellsOf t) λv=>K (.val v))
  |_=>F
 | .store t x y=>dy e x λv=>dy e y λu=>match v with
  | .pointer p=>aA p λa=>eS (jD P t) (match u with
   | .agg cs=>gW a cs (P.cellsOf t) (K .un)
   |u=>BT a u (P.cellsOf t) (K .un))
  |_=>F
 | .binOp op t x y _=>dy e x λa=>dy e y λb=>match TK.of P t with
  | .any=>aI P (do eqGuard op t x y a b;binOp op t a b) λv=>fw P o.type v λv=>K (.val v)
  |_=>qC P op t a b (λv=>K (.val v)) (aI P (do eqGuard op t x y a b;binOp op t a b) λv=>fw P o.type v λv=>K (.val v))
 | .convert src dst x=>dy e x λv=>match P.underlying dst,v with
  |some (.int k),.int _ n=>eS (P.underlying src).isSome (K (.val (.int k (k.wrap n))))
  |_,_=>aI P (convert src dst v) λv=>fw P dst v λv=>K (.val v)
 | .makeMap t none=>hD λb=>K (.val (.map (some b)))
 | .makeMap t (some x)=>dy e x λv=>aI P (Instr.makeMap t (some v)) λv=>fw P t v λv=>K (.val v)
 | .makeSlice t l c=>dy e l λlv=>dy e c λg=>match P.underlying t,lv,g with
  |some (.slice elem),.int _ l,.int _ c=>c7 P elem l c λb=>K (.val (.slice (some ⟨b,0,none⟩) l.toNat c.toNat))
  |_,_,_=>F
 | .lookup t x i ok=>dy e x λv=>dy e i λiv=>aI P (Instr.lookup t v iv ok) λv=>fw P o.type v λv=>K (.val v)
 | .mapUpdate t m k x=>dy e m λmv=>dy e k λkv=>dy e x λd=>aI P (Instr.mapUpdate t mv kv d) λ_=>K .un
 | .insert t m k x=>dy e m λmv=>dy e k λkv=>dy e x λd=>aI P (Instr.mapUpdate t mv kv d) λ_=>K .un
 | .mapEntry t m k=>dy e m λmv=>dy e k λkv=>aI P (Instr.mapEntry t mv kv) λv σ=>∃x n,v= .tuple #[x,.int .i64 n]/\K (.val (.tuple #[x,.int .i64 n])) σ
 | .entryStore t m s x=>dy e m λmv=>dy e s λkv=>dy e x λd=>aI P (Instr.entryStore t mv kv d) λ_=>K .un
 | .range t x=>dy e x λv=>aI P (Instr.range t v) λv=>im v λp=>K (.val (.pointer p))
 | .next it s=>dy e it λv=>mU P v s o.type (K (.val (.tuple #[.bool false]))) λk x=>K (.nx k x)
 | .entry it=>dy e it λv=>kT P v λk x=>K (.en k x)
 | .makeInterface t x=>dy e x λv=>eS (Er P t) (K (.val (.iface t v)))
 | .typeAssert x t u ok=>dy e x λv=>aI P (Instr.typeAssert v t u ok) λv=>fw P o.type v λv=>K (.val v)
 | .call c=>tw e c.args.toList λargs=>
  match c.callee with
  | .value f=>dy e f λrq=>Cm P rq args o.type λv=>K (.val v)
  | .builtin b=>Ir P b c.argTypes o.type args λv=>K (.val v)
  | .invoke r name=>dy e r λh=>eF P (invoke (.fn (.method name) #[]) (#[h]++args.toArray)) λv=>fw P o.type v λv=>K (.val v)
 |_=>vH P e o K
def dI{e:Env}{ρ:Operand->Value}(b:∀x v,ev e x=some v->ρ x=v.cd){x:Operand}{f:aK}{σ:Heap}(h:dy e x f σ):f (ρ x) σ:=by
 unfold dy at h
 cases a:ev e x with
 |none=>rw[a]at h;exact h.elim
 |some v=>rw[a]at h;rw[b x v a];exact h
def pw{e:Env}{ρ:Operand->Value}(b:∀x v,ev e x=some v->ρ x=v.cd){x:Operand}{f:SV->HP}{σ:Heap}(h:ni e x f σ):∃v,ρ x=v.cd/\f v σ:=by
 unfold ni at h
 cases a:ev e x with
 |none=>rw[a]at h;exact h.elim
 |some v=>rw[a]at h;exact⟨v,b x v a,h⟩
def EL{e:Env}{ρ:Operand->Value}(a:∀x v,ev e x=some v->ρ x=v.cd):∀(l:List Operand) (vs:aB),re e l=some vs->l.map ρ=vs
 |[],vs,h=>by simpa[re]using h
 |x::r,vs,h=>by
  simp only[re]at h;split at h
  ·rename_i v b
   split at h
   ·rename_i us hu
    cases h;simp[a x v b,EL a r us hu]
   ·cases h
  ·cases h
def yy{e:Env}{ρ:Operand->Value}(b:∀x v,ev e x=some v->ρ x=v.cd){l:List Operand}{f:aB->HP}{σ:Heap}(h:tw e l f σ):f (l.map ρ) σ:=by
 unfold tw at h
 cases a:re e l with
 |none=>rw[a]at h;exact h.elim
 |some vs=>rw[a]at h;rw[EL b l vs a];exact h
def Be{e:Env}{ρ:Operand->Value}(a:∀x v,ev e x=some v->ρ x=v.cd):∀(l:List (Nat×Operand)) (vs:List (Nat×Value)),partsOf e l=some vs->l.map (λp=>(p.1,ρ p.2))=vs
 |[],vs,h=>by simpa[partsOf]using h
 |(i,x)::r,vs,h=>by
  simp only[partsOf]at h;split at h
  ·rename_i v b
   split at h
   ·rename_i us hu
    cases h;simp[a x v b,Be a r us hu]
   ·cases h
  ·cases h
def e4{b:Bool}{p:HP}{σ:Heap}(h:eS b p σ):b=true/\p σ:=by
 cases b
 ·exact h.elim
 ·exact⟨rfl,h⟩
def oL{p:aw}{f:Addr->HP}{σ:Heap}(h:aA p f σ):∃a,p=some a/\f a σ:=by
 cases p
 ·exact h.elim
 ·exact⟨_,rfl,h⟩
def yH{b:Bool}{p q:HP}{σ:Heap}(h:ae b p q σ):(if b then p else q) σ:=by
 cases b
 ·exact h.2 rfl
 ·exact h.1 rfl
section
variable {P:Program}
def ku{s:Sem Value}{K:aK}{σ:Heap}(h:aI P s K σ):eF P (do let v<-s;pure (.value v)) K σ:=by intro w hw;obtain⟨v,w',U,a,b⟩:=h w hw;exact⟨.value v,w',by simp[U],a,.inl ⟨v,rfl,b⟩⟩
def Wf{s:Sem Unit}{K:aK}{σ:Heap}(h:aI P s (λ_=>K undef) σ):eF P (do s;pure .skip) K σ:=by intro w hw;obtain⟨v,w',U,a,b⟩:=h w hw;exact⟨.skip,w',by simp[U],a,.inr (.inl ⟨rfl,b⟩)⟩
def Gj{s:Sem Next}{K a:aK}{σ:Heap}(I:∀v σ,K v σ->a v σ)(h:eF P s K σ):eF P s a σ:=by
 intro w hw;obtain⟨r,w',U,b,c⟩:=h w hw;refine⟨r,w',U,b,?_⟩;rcases c with⟨v,e,k⟩|⟨e,k⟩|⟨f,args,e,k⟩|⟨l,f,ts,as,wF,e,k⟩
 ·exact .inl ⟨v,e,I _ _ k⟩
 ·exact .inr (.inl ⟨e,I _ _ k⟩)
 ·exact .inr (.inr (.inl ⟨f,args,e,D2 I k⟩))
 ·exact .inr (.inr (.inr ⟨l,f,ts,as,wF,e,Yi I k⟩))
def gV{t:TypeId}{d:TypeDesc}{K:TypeDesc->HP}{σ:Heap}(h:P.underlying t=some d)(k:K d σ):aI P (underlying t) K σ:=dK d (λw _=>by simp[underlying,h]) k
def nY{t:TypeId}{i:TypeInfo}{K:TypeInfo->HP}{σ:Heap}(h:P.info? t=some i)(k:K i σ):aI P (typeInfo t) K σ:=dK i (λw _=>by simp[typeInfo,h]) k
def o8{t:TypeId}{K:Nat->HP}{σ:Heap}(h:(P.info? t).isSome=true)(k:K (P.cellsOf t) σ):aI P (sizeOf t) K σ:=by obtain⟨i,hi⟩:=hY.1 h;refine dK _ (λw _=>?_) k;simp[sizeOf,typeInfo,hi,Program.cellsOf]
def vo{t:TypeId}{d:TypeDesc}(h:P.underlying t=some d)(w:World):(isAgg t).run P w= .ok (match d with| .struct _| .array _ _=>true|_=>false) w:=by simp only[isAgg,Sem.run_bind,underlying,run_program,Result.andThen_ok,h,Sem.run_pure];cases d<;>rfl
def TK.u2{t:TypeId}{d:TypeDesc}(h:P.underlying t=some d):(match d with| .struct _| .array _ _=>true|_=>false)=(TK.of P t).isAgg:=by simp only[TK.of,h];cases d<;>rfl
def YG{t:TypeId}{K:Bool->HP}{σ:Heap}(h:(P.underlying t).isSome=true)(k:K (TK.of P t).isAgg σ):aI P (isAgg t) K σ:=by obtain⟨d,hd⟩:=hY.1 h;refine dK _ (λw _=>?_) k;rw[vo hd,TK.u2 hd]
def YH{a:Addr}{K:aK}{σ:Heap}(h:∃v,cA σ a=some v/\K v σ):aI P (load a) K σ:=by obtain⟨v,b,I⟩:=h;refine dK v (λw hw=>?_) I;rw[run_load,kQ,hw,b]
def YJ{a:Addr}{v:Value}{k:HP}{σ:Heap}(h:st a v k σ):aI P (store a v) (λ_=>k) σ:=by
 obtain⟨⟨u,hu⟩,hf,b,I⟩:=h;intro w hw;refine⟨(),w.setCell a v,?_,⟨rfl,rfl,rfl⟩,?_⟩
 ·rw[run_store _ _ _ _ _ b,kQ,hw,hu]
  simp only[Ag,hw,hf];rfl
 ·rw[setCell_eq,hw];exact I
def qu{a:Addr}:∀(vs:aB) (i:Nat) {k:HP} {σ:Heap},hF a i vs k σ->aI P (storeCells a vs i) (λ_=>k) σ
 |[],i,k,σ,h=>by simp only[storeCells];exact cu h
 |v::r,i,k,σ,h=>by simp only[storeCells];simp only[hF]at h;exact aY (gU (λ_ σ h=>qu r (i+1) h) (YJ h))
def Ho{a:Addr}{n:Nat}{K:ax->HP}{σ:Heap}(h:eY a n K σ):aI P (loadCells a n) K σ:=by
 obtain⟨cs,b,hc,I⟩:=h;refine dK cs (λw hw=>?_) I
 have:=run_loadCells_list (P:=P) w a cs.toList (λj v c=>by
  have d:j<n:=by have:=b0.1 c;obtain⟨U,_⟩:=this;simpa[b]using U
  rw[kQ,hw,hc j d];simpa using c)
 simpa[b]using this
def po{t:TypeId}(h:jD P t=true):(P.info? t).isSome=true/\(P.underlying t).isSome=true:=by simpa[jD]using h
def YI{t:TypeId}{a:Addr}{K:aK}{σ:Heap}(b:jD P t=true)(h:(TK.of P t).ld a (P.cellsOf t) K σ):aI P (loadVar t a) K σ:=by
 obtain⟨hi,hu⟩:=po b;unfold loadVar;refine aY (YG hu ?_)
 cases I:(TK.of P t).isAgg with
 |true=>
  have he:TK.of P t= .agg:=by revert I;generalize TK.of P t=k;cases k<;>simp[TK.isAgg]
  rw[he]at h;simp only[TK.ld]at h;simp only[dT];refine aY (o8 hi ?_);refine aY (gU (λv σ h=>cu h) (Ho h))
 |false=>
  have he:TK.of P t≠ .agg:=by intro he;rw[he]at I;cases I
  simp only[fM,ej];exact YH (TK.Vm _ he h)
end
end
section
section
variable {P:Program}
abbrev lift(K:SV->HP):aK:=λv σ=>∃a:SV,a.cd=v/\K a σ
def gv{K:SV->HP}{v:Value}{σ:Heap}(h:K (.val v) σ):lift K v σ:=⟨.val v,rfl,h⟩
def qv{t:TypeId}{K:aK}{σ:Heap}(h:hI P t=true)(k:∀z,z.cells=zc P t->K z σ):aI P (zeroValue t) K σ:=by
 unfold hI at h
 cases hi:P.info? t with
 |none=>rw[hi]at h;cases h
 |some i=>rw[hi]at h;obtain⟨z,hz⟩:=hY.1 h;refine dK z (λw _=>by simp[zeroValue,typeInfo,hi,hz]) (k z ?_);simp[zc,hi,hz]
def vp{cs:ax}{T:TypeId}{K:Nat->HP}{σ:Heap}(h:K σ.size (σ.push (.cells cs T))):aI P (newObj (.cells cs T)) K σ:=by intro w hw;refine⟨_,_,run_newObj P w _,⟨rfl,rfl,rfl⟩,?_⟩;rw[hw];exact h
def Hr{v:Value}{T:TypeId}{K:Addr->HP}{σ:Heap}(h:al v.cells T (λb=>K ⟨b,0,none⟩) σ):aI P (newVar T v) K σ:=by unfold newVar newRow;exact aY (vp (cu h))
def GO:Value->Value->Prop
 | .nilIface,.nilIface=>False
 | .agg _,.agg _=>False
 |_,_=>True
def TY{op:BinOp}{t:TypeId}{x y:Operand}{a b:Value}(h:GO a b)(w:World):(eqGuard op t x y a b).run P w= .ok () w:=by unfold eqGuard;cases op<;>(try rfl);all_goals (cases a<;>cases b<;>first|exact h.elim|rfl)
def GW{t:TypeId}(h:xV P t=true):∃e,P.underlying t=some (.pointer e):=by
 unfold xV at h
 cases hu:P.underlying t with
 |none=>rw[hu]at h;cases h
 |some d=>cases d<;>simp[hu]at h;exact⟨_,rfl⟩
def rP{t:TypeId}(h:nf P t=true):∃e,P.underlying t=some (.slice e):=by
 unfold nf at h
 cases hu:P.underlying t with
 |none=>rw[hu]at h;cases h
 |some d=>cases d<;>simp[hu]at h;exact⟨_,rfl⟩
def F3{t:TypeId}(h:xz P t=true):∃k e,P.underlying t=some (.map k e):=by
 unfold xz at h
 cases hu:P.underlying t with
 |none=>rw[hu]at h;cases h
 |some d=>cases d<;>simp[hu]at h;exact⟨_,_,rfl⟩
def DU{t:TypeId}(h:wH P t=true):P.underlying t=some .bool:=by
 unfold wH at h
 cases hu:P.underlying t with
 |none=>rw[hu]at h;cases h
 |some d=>cases d<;>simp[hu]at h;rfl
def EI{t:TypeId}{x y:Value}{b:Bool}(h:∀d (w:World),(Op.equalIn (d+1) t x y).run P w= .ok b w)(w:World):(Op.equal t x y).run P w= .ok b w:=h 9999 w
def wU{t:TypeId}{x y:Value}{b:Bool}(a:binOp .eql t x y=(do pure (.bool (<-Op.equal t x y))))(h:∀d (w:World),(Op.equalIn (d+1) t x y).run P w= .ok b w)(w:World):(binOp .eql t x y).run P w= .ok (.bool b) w:=by rw[a,Sem.run_bind,EI h,Result.andThen_ok,Sem.run_pure]
def xC{t:TypeId}{x y:Value}{b:Bool}(a:binOp .neq t x y=(do pure (.bool (!(<-Op.equal t x y)))))(h:∀d (w:World),(Op.equalIn (d+1) t x y).run P w= .ok b w)(w:World):(binOp .neq t x y).run P w= .ok (.bool !b) w:=by rw[a,Sem.run_bind,EI h,Result.andThen_ok,Sem.run_pure]
def Gn{t e:TypeId}{p:aw}(he:P.underlying t=some (.pointer e))(d:Nat)(w:World):(Op.equalIn (d+1) t (.pointer p) (.pointer none)).run P w= .ok p.isNone w:=by cases p<;>simp only[Op.equalIn,underlying,Sem.run_bind,run_program,Result.andThen_ok,he,Sem.run_pure]<;>rfl
def Gp{t e:TypeId}{p:aw}{l c a c':Nat}(he:P.underlying t=some (.slice e))(d:Nat)(w:World):(Op.equalIn (d+1) t (.slice p l c) (.slice none a c')).run P w= .ok p.isNone w:=by cases p<;>simp only[Op.equalIn,underlying,Sem.run_bind,run_program,Result.andThen_ok,he,Sem.run_pure]<;>rfl
def Gm{t k e:TypeId}{p:Option Nat}(he:P.underlying t=some (.map k e))(d:Nat)(w:World):(Op.equalIn (d+1) t (.map p) (.map none)).run P w= .ok p.isNone w:=by cases p<;>simp only[Op.equalIn,underlying,Sem.run_bind,run_program,Result.andThen_ok,he,Sem.run_pure]<;>rfl
def z6{t:TypeId}{a b:Bool}(he:P.underlying t=some .bool)(d:Nat)(w:World):(Op.equalIn (d+1) t (.bool a) (.bool b)).run P w= .ok (a==b) w:=by simp only[Op.equalIn,underlying,Sem.run_bind,run_program,Result.andThen_ok,he,Sem.run_pure]
def Iq{op:BinOp}{t:TypeId}{x y:Operand}{a b:Value}{K:aK}{σ:Heap}(h:qC P op t a b K F σ):∃v,(∀w:World,(do eqGuard op t x y a b;binOp op t a b:Sem Value).run P w= .ok v w)/\K v σ:=by
 have f:∀{v:Value},GO a b->(∀w:World,(binOp op t a b).run P w= .ok v w)->
   ∀w:World,(do eqGuard op t x y a b;binOp op t a b:Sem Value).run P w= .ok v w:=by
  intro v hm hr w;rw[Sem.run_bind,TY hm,Result.andThen_ok,hr]
 cases a
 case int k m=>
  cases b
  case int k' n=>
   by_cases I:k=k'
   ·subst I
    cases op<;>simp only[qC,dT]at h
    case quo=>obtain⟨U,d⟩:=h;exact⟨_,f trivial λw=>by simp only[binOp,ne_eq,C2,ej,Op.intDiv,U];rfl,d⟩
    case rem=>obtain⟨U,d⟩:=h;exact⟨_,f trivial λw=>by simp only[binOp,ne_eq,C2,ej,Op.intDiv,U];rfl,d⟩
    case shl=>obtain⟨U,d⟩:=h;exact⟨_,f trivial λw=>by simp only[binOp,Op.shift,ak (vK.2 U)];rfl,d⟩
    case shr=>obtain⟨U,d⟩:=h;exact⟨_,f trivial λw=>by simp only[binOp,Op.shift,ak (vK.2 U)];rfl,d⟩
    all_goals exact⟨_,f trivial λw=>by simp only[binOp,ne_eq,C2,ej];rfl,h⟩
   ·cases op<;>simp only[qC,I,ej]at h
    case shl=>obtain⟨U,d⟩:=h;exact⟨_,f trivial λw=>by simp only[binOp,Op.shift,ak (vK.2 U)];rfl,d⟩
    case shr=>obtain⟨U,d⟩:=h;exact⟨_,f trivial λw=>by simp only[binOp,Op.shift,ak (vK.2 U)];rfl,d⟩
    all_goals exact h.elim
  all_goals exact h.elim
 case bool s=>
  cases b
  case bool u=>
   cases op
   case eql=>obtain⟨U,d⟩:=e4 h;exact⟨_,f trivial (wU rfl (z6 (DU U))),d⟩
   case neq=>obtain⟨U,d⟩:=e4 h;exact⟨_,f trivial (xC rfl (z6 (DU U))),d⟩
   all_goals exact h.elim
  all_goals exact h.elim
 case string s=>
  cases b
  case string u=>
   cases op
   case eql=>exact⟨_,f trivial λw=>rfl,h⟩
   case neq=>exact⟨_,f trivial λw=>rfl,h⟩
   all_goals exact h.elim
  all_goals exact h.elim
 case pointer p=>
  cases b
  case pointer q=>
   cases q with
   |some q=>cases p<;>exact h.elim
   |none=>
    cases op
    case eql=>obtain⟨U,d⟩:=e4 h;obtain⟨e,he⟩:=GW U;exact⟨_,f trivial (wU (by cases p<;>rfl) (Gn he)),d⟩
    case neq=>obtain⟨U,d⟩:=e4 h;obtain⟨e,he⟩:=GW U;exact⟨_,f trivial (xC (by cases p<;>rfl) (Gn he)),d⟩
    all_goals exact h.elim
  all_goals exact h.elim
 case slice p l c=>
  cases b
  case slice q g c'=>
   cases q with
   |some q=>exact h.elim
   |none=>
    cases op
    case eql=>obtain⟨U,d⟩:=e4 h;obtain⟨e,he⟩:=rP U;exact⟨_,f trivial (wU (by cases p<;>rfl) (Gp he)),d⟩
    case neq=>obtain⟨U,d⟩:=e4 h;obtain⟨e,he⟩:=rP U;exact⟨_,f trivial (xC (by cases p<;>rfl) (Gp he)),d⟩
    all_goals exact h.elim
  all_goals exact h.elim
 case map p=>
  cases b
  case map q=>
   cases q with
   |some q=>exact h.elim
   |none=>
    cases op
    case eql=>obtain⟨U,d⟩:=e4 h;obtain⟨k,e,he⟩:=F3 U;exact⟨_,f trivial (wU (by cases p<;>rfl) (Gm he)),d⟩
    case neq=>obtain⟨U,d⟩:=e4 h;obtain⟨k,e,he⟩:=F3 U;exact⟨_,f trivial (xC (by cases p<;>rfl) (Gm he)),d⟩
    all_goals exact h.elim
  all_goals exact h.elim
 all_goals exact h.elim
def aa2{op:BinOp}{t:TypeId}{a b:Value}{K:aK}{fb:HP}{σ:Heap}(h:qC P op t a b K fb σ):qC P op t a b K F σ\/fb σ:=by
 cases a
 case int k m=>
  cases b
  case int k' n=>exact .inl h
  all_goals exact .inr h
 case bool s=>
  cases b
  case bool u=>cases op<;>first|exact .inl h|exact .inr h
  all_goals exact .inr h
 case string s=>
  cases b
  case string u=>cases op<;>first|exact .inl h|exact .inr h
  all_goals exact .inr h
 case pointer p=>
  cases b
  case pointer q=>
   cases q with
   |some q=>cases p<;>exact .inr h
   |none=>cases op<;>first|exact .inl h|exact .inr h
  all_goals exact .inr h
 case slice p l c=>
  cases b
  case slice q d c'=>
   cases q with
   |some q=>exact .inr h
   |none=>cases op<;>first|exact .inl h|exact .inr h
  all_goals exact .inr h
 case map p=>
  cases b
  case map q=>
   cases q with
   |some q=>exact .inr h
   |none=>cases op<;>first|exact .inl h|exact .inr h
  all_goals exact .inr h
 all_goals exact .inr h
end
end
section
section
variable {P:Program}
def Yields(P:Program)(s:Sem Next)(v:Value):Prop:=∀w:World,s.run P w= .ok (.value v) w
def j4{s:Sem Value}{v:Value}(h:∀w:World,s.run P w= .ok v w):Yields P (do let v<-s;pure (.value v)) v:=λw=>by simp[h w]
def GK{t:TypeId}{cs:ax}{off:Nat}{K:aK}{σ:Heap}(a:jD P t=true)(h:(TK.of P t).pt cs off (P.cellsOf t) K σ):∃v,(∀w:World,(part t cs off).run P w= .ok v w)/\K v σ:=by
 obtain⟨hi,hu⟩:=po a;obtain⟨d,hd⟩:=hY.1 hu
 cases I:(TK.of P t).isAgg with
 |true=>
  have he:TK.of P t= .agg:=by revert I;generalize TK.of P t=k;cases k<;>simp[TK.isAgg]
  rw[he]at h;simp only[TK.pt]at h;refine⟨_,λw=>?_,h⟩;obtain⟨i,hi⟩:=hY.1 hi;unfold part;rw[Sem.run_bind,vo hd,TK.u2 hd,I,Result.andThen_ok];simp[sizeOf,typeInfo,hi,Program.cellsOf]
 |false=>
  have cA:∃v,cs[off]?=some v/\K v σ:=by
   revert h I;generalize TK.of P t=k;intro h I;cases k<;>simp only[TK.pt]at h
   case agg=>cases I
   case slice=>obtain⟨p,l,c,e,h⟩:=h;exact⟨_,e,h⟩
   all_goals (obtain⟨b,e,h⟩:=h;exact⟨_,e,h⟩)
  obtain⟨v,f,g⟩:=cA;refine⟨v,λw=>?_,g⟩;unfold part;rw[Sem.run_bind,vo hd,TK.u2 hd,I,Result.andThen_ok];simp[f]
def rA{e:Env}{ρ:Operand->Value}(g:∀x v,ev e x=some v->ρ x=v.cd){x:Option Operand}{d c:Nat}{f:Nat->HP}{σ:Heap}(h:jx e x d c f σ):(x=none/\f d σ)\/∃y k n,x=some y/\ρ y= .int k n/\0<=n/\n<=(c:Int)/\f n.toNat σ:=by
 unfold jx at h
 cases x with
 |none=>exact .inl ⟨rfl,h⟩
 |some y=>
  right;simp only at h
  cases a:ev e y with
  |none=>rw[a]at h;exact h.elim
  |some v=>
   rw[a]at h
   cases v with
   |val v=>
    cases v<;>first|exact h.elim|skip
    obtain⟨⟨U,i⟩,j⟩:=h;exact⟨y,_,_,rfl,g y _ a,U,i,j⟩
   |kb b=>exact h.elim
   |un=>exact h.elim
   |nx _ _=>exact h.elim
   |en _ _=>exact h.elim
def o'{k:IntKind}{n:Int}{a:Nat}{code:BoundsCode}(h0:0<=n)(U:n<=(a:Int))(w:World):(Instr.sliceBound (.int k n) a code).run P w= .ok n.toNat w:=by simp[Instr.sliceBound,asIntOf,h0,U]
def zA{ρ:Operand->Value}{isSlice:Bool}{len cap:Nat}{lo hi k:Option Operand}{e:Env}{σ:Heap}{f:Nat->Nat->Nat->HP}(a:∀x v,ev e x=some v->ρ x=v.cd)(h:jx e k cap cap (λm=>jx e hi len m λh=>jx e lo 0 h λl=>match k,hi with|some _,none=>F|_,_=>f l h m) σ):∃l h m,(∀w:World,(Instr.sliceBounds isSlice len cap (lo.map ρ) (hi.map ρ) (k.map ρ)).run P w= .ok (l,h,m) w)/\f l h m σ:=by
 rcases rA a h with⟨rfl,h⟩|⟨t,u,p,rfl,em,q,r,h⟩
 ·rcases rA a h with⟨rfl,h⟩|⟨s,kh,nh,rfl,g,i,j,h⟩
  ·rcases rA a h with⟨rfl,h⟩|⟨n,o,nl,rfl,b,c,d,h⟩
   ·exact⟨0,len,cap,λw=>by simp[Instr.sliceBounds],h⟩
   ·exact⟨nl.toNat,len,cap,λw=>by simp[Instr.sliceBounds,b,o' c d],h⟩
  ·rcases rA a h with⟨rfl,h⟩|⟨n,o,nl,rfl,b,c,d,h⟩
   ·exact⟨0,nh.toNat,cap,λw=>by simp[Instr.sliceBounds,g,o' i j],h⟩
   ·exact⟨nl.toNat,nh.toNat,cap,λw=>by simp[Instr.sliceBounds,b,g,o' i j,o' c d],h⟩
 ·rcases rA a h with⟨rfl,h⟩|⟨s,kh,nh,rfl,g,i,j,h⟩
  ·rcases rA a h with⟨rfl,h⟩|⟨n,o,nl,rfl,b,c,d,h⟩
   ·exact h.elim
   ·exact h.elim
  ·rcases rA a h with⟨rfl,h⟩|⟨n,o,nl,rfl,b,c,d,h⟩
   ·exact⟨0,nh.toNat,p.toNat,λw=>by simp[Instr.sliceBounds,g,em,o' q r,o' i j],h⟩
   ·exact⟨nl.toNat,nh.toNat,p.toNat,λw=>by simp[Instr.sliceBounds,b,g,em,o' q r,o' i j,o' c d],h⟩
def nZ{t:TypeId}(h:(P.info? t).isSome=true)(w:World):(sizeOf t).run P w= .ok (P.cellsOf t) w:=by obtain⟨i,hi⟩:=hY.1 h;simp[sizeOf,typeInfo,hi,Program.cellsOf]
def hV{t:TypeId}{d:TypeDesc}(h:P.underlying t=some d)(w:World):(underlying t).run P w= .ok d w:=by simp[underlying,h]
def Ub{s:TypeId}{f off:Nat}(h:wZ P s f=some off):∃a fd,P.underlying s=some (.struct a)/\a[f]?=some fd/\(P.info? fd.type).isSome=true/\P.cellsOf fd.type≠0/\fd.offset=off:=by
 unfold wZ at h
 cases hu:P.underlying s with
 |none=>rw[hu]at h;cases h
 |some d=>
  rw[hu]at h;cases d<;>simp only at h<;>first|(cases h;done)|skip
  rename_i a
  cases hf:a[f]? with
  |none=>rw[hf]at h;cases h
  |some fd=>
   rw[hf]at h;simp only at h;split at h
   ·cases h
   ·rename_i b
    cases h;refine⟨a,fd,rfl,hf,?_,b,rfl⟩;unfold Program.cellsOf at b
    cases hi:P.info? fd.type with
    |none=>rw[hi]at b;simp at b
    |some i=>rfl
def tl{s:Sem Next}{v:Value}{K:aK}{σ:Heap}(h:Yields P s v)(k:K v σ):eF P s K σ:=λw hw=>⟨_,w,h w,.refl w,.inl ⟨v,rfl,hw▸k⟩⟩
def HM{t:TypeId}(h:yp P t=true):P.underlying t=some .string:=by
 unfold yp at h
 cases hu:P.underlying t with
 |none=>rw[hu]at h;cases h
 |some d=>cases d<;>simp[hu]at h;rfl
def Uc{pl pl':Nat->Option (Nat×Nat)}(h:∀i,pl i=pl' i)(z:ax)(ps:List (Nat×Value)):Instr.fill pl z ps=Instr.fill pl' z ps:=by rw[show pl=pl' from funext h]
def VX(a:List Field)(h:a.all (λf=>(P.info? f.type).isSome)=true)(w:World):(a.mapM (λf=>do pure (f.offset,<-sizeOf f.type):Field->Sem (Nat×Nat))).run P w= .ok (a.map λf=>(f.offset,P.cellsOf f.type)) w:=by
 induction a with
 |nil=>rfl
 |cons f a b=>simp only[yU,b9]at h;rw[CO];simp only[Sem.run_bind,nZ h.1,Result.andThen_ok,Sem.run_pure,b h.2,c4]
def KW{t:TypeId}{pl:Nat->Option (Nat×Nat)}{ps:List (Nat×Value)}{cells:ax}(hz:hI P t=true)(a:w1 P t=some pl)(hf:Instr.fill pl (zc P t) ps=some cells)(w:World):(Instr.build t ps.toArray).run P w= .ok (.agg cells) w:=by
 unfold hI at hz
 cases hi:P.info? t with
 |none=>rw[hi]at hz;cases hz
 |some i=>
  rw[hi]at hz;obtain⟨z,c⟩:=hY.1 hz;have e:z.cells=zc P t:=by simp[zc,hi,c]
  unfold Instr.build;have g:(zeroValue t).run P w= .ok z w:=by simp[zeroValue,typeInfo,hi,c]
  unfold w1 at a
  cases hu:P.underlying t with
  |none=>rw[hu]at a;cases a
  |some d=>
   rw[hu]at a;simp only[Sem.run_bind,g,Result.andThen_ok,hV hu,e];cases d<;>simp only at a<;>first|(cases a;done)|skip
   case struct b=>
    split at a
    ·rename_i h
     cases a;have:=VX b.toList h w;simp only[Sem.run_bind]
     have hm:(b.mapM (λf=>do pure (f.offset,<-sizeOf f.type):Field->Sem (Nat×Nat))).run P w= .ok ((b.toList.map λf=>(f.offset,P.cellsOf f.type)).toArray) w:=by rw[Iy];simp only[Sem.run_map,this,Result.andThen_ok]
     rw[hm];simp only[Result.andThen_ok];rw[Uc (pl':=λi=>(b[i]?).map λf=>(f.offset,P.cellsOf f.type)) λi=>by simp];rw[hf];rfl
    ·cases a
   case array n elem=>
    split at a
    ·rename_i hs
     cases a;simp only[Sem.run_bind,nZ hs,Result.andThen_ok,hf];rfl
    ·cases a
def E'(off:Nat):∀(l:aB) (k:Nat) (cs:ax),off+k+l.length<=cs.size->((l.zipIdx k).foldl (λ(cs:ax) (x:Value×Nat)=>cs.setIfInBounds (off+x.2) x.1) cs).toList=cs.toList.take (off+k)++l++cs.toList.drop (off+k+l.length)
 |[],k,cs,h=>by simp
 |v::l,k,cs,h=>by
  simp only[dd]at h;simp only[List.zipIdx_cons,vR];rw[E' off l (k+1) _ (by simp;omega)];have a:off+k<cs.toList.length:=by simp;omega
  simp only[Cx,dd];rw[show off+(k+1)=(off+k)+1 from by omega,CV (by simpa using a)];simp only[IJ,CS (d' _),er,qE,kI];rw[List.drop_set_of_lt (by omega)];rw[show off+k+1+l.length=off+k+(l.length+1)from by omega]
def Bn:∀(cells:aB) (off:Nat) (vs:aB),off+vs.length<=cells.length->cX cells off vs=cells.take off++vs++cells.drop (off+vs.length)
 |cells,0,[],_=>by cases cells<;>simp[cX]
 |c::cs,0,v::vs,h=>by simp only[dd]at h;simp only[cX];rw[Bn cs 0 vs (by omega)];simp
 |c::cs,n+1,vs,h=>by simp only[dd]at h;simp only[cX];rw[Bn cs n vs (by omega)];simp[Nat.add_right_comm]
 |[],0,v::vs,h=>by simp at h
 |[],n+1,vs,h=>by simp at h
def Ab{pl:Nat->Option (Nat×Nat)}:∀(ps:List (Nat×Value)) (cells:ax) {k:aB->HP} {σ:Heap},oR pl cells.size cells.toList ps k σ->∃a,Instr.fill pl cells ps=some a/\k a.toList σ
 |[],cells,k,σ,h=>⟨cells,rfl,h⟩
 |(i,v)::r,cells,k,σ,h=>by
  simp only[oR]at h
  cases e:pl i with
  |none=>rw[e]at h;exact h.elim
  |some os=>
   obtain⟨off,size⟩:=os;rw[e]at h
   have key:∀(vs:ax),v.cells=vs->vs.size=size->off+size<=cells.size->
     oR pl cells.size (cX cells.toList off vs.toList) r k σ->
     ∃a,Instr.fill pl cells ((i,v)::r)=some a/\k a.toList σ:=by
    intro vs d hs hle h;rw[Bn _ _ _ (by simpa[hs]using hle),kD,hs]at h;simp only[Instr.fill,e];rw[ak (by rw[d,hs];simp;omega)];have hf:=E' off vs.toList 0 cells (by simpa[hs]using hle)
    have he:(v.cells.zipIdx.foldl (λcs (c,j)=>cs.setIfInBounds (off+j) c) cells).toList=cells.toList.take off++vs.toList++cells.toList.drop (off+size):=by rw[d,<-Array.foldl_toList];simp only[Array.toList_zipIdx];simpa[hs]using hf
    have f:(v.cells.zipIdx.foldl (λcs (c,j)=>cs.setIfInBounds (off+j) c) cells).size=cells.size:=by rw[<-kD,he];simp only[cr,ff,lB,kD,hs];omega
    have:=Ab (pl:=pl) r (v.cells.zipIdx.foldl (λcs (c,j)=>cs.setIfInBounds (off+j) c) cells) (k:=k) (σ:=σ);rw[f,he]at this;exact this h
   have g:(v.cells=#[v])->eS (Nat.beq size 1&&Nat.ble (off+1) cells.size) (oR pl cells.size (cX cells.toList off [v]) r k) σ->
     ∃a,Instr.fill pl cells ((i,v)::r)=some a/\k a.toList σ:=by
    intro d h;obtain⟨b,l⟩:=e4 h;simp only[b9]at b;obtain rfl:=lE b.1;exact key #[v] d rfl (vY b.2) l
   cases v
   case agg cs=>obtain⟨hs,h⟩:=h;obtain⟨b,h⟩:=e4 h;exact key cs rfl hs (vY b) h
   all_goals exact g rfl h
def X8(z:aB):∀n,(na z n).length=n*z.length
 |0=>by simp[na]
 |n+1=>by simp[na,X8 z n,pE];omega
def G'(z:ax):∀n,(gx z (n*z.size)).toList=na z.toList n
 |0=>by simp[gx,na,Array.range]
 |n+1=>by
  have c:=G' z n;simp only[na];rw[<-c];apply jf;intro i;have d:(n+1)*z.size=z.size+n*z.size:=by rw[pE];omega
  simp only[gx,yN,Array.getElem?_map,yZ,kD];by_cases U:i<z.size
  ·have a:i<(n+1)*z.size:=by omega
   rw[ah U];simp[Cv,a,oq U,U]
  ·rw[ak U]
   by_cases a:i<(n+1)*z.size
   ·have b:i-z.size<n*z.size:=by omega
    have hm:i%z.size=(i-z.size)%z.size:=by rw[y7 (by omega)]
    simp[Cv,a,b,hm]
   ·have b:¬i-z.size<n*z.size:=by omega
    simp[Cv,a,b]
def KX{t elem:TypeId}{len:Nat}{ps:List (Nat×Value)}{K:Nat->HP}{σ:Heap}(hu:P.underlying t=some (.slice elem))(aP:zz P elem len=true)(h:oR (λi=>some (i*P.cellsOf elem,P.cellsOf elem)) (len*P.cellsOf elem) (na (zc P elem).toList len) ps (λcells=>al cells.toArray elem K) σ):aI P (Instr.buildSlice t len ps.toArray) (λv eI=>∃b,v= .slice (some ⟨b,0,none⟩) len len/\K b eI) σ:=by
 simp only[zz,b9]at aP;obtain⟨⟨hz,hle⟩,hs⟩:=aP;have hs:=lE hs;have hle:=vY hle
 have hi:(P.info? elem).isSome=true:=by
  unfold hI at hz
  cases hi:P.info? elem with
  |none=>rw[hi]at hz;cases hz
  |some i=>rfl
 have a:=G' (zc P elem) len;rw[hs]at a;have c:(gx (zc P elem) (len*P.cellsOf elem)).size=len*P.cellsOf elem:=by simp[gx]
 have U:=Ab ps (gx (zc P elem) (len*P.cellsOf elem)) (σ:=σ)
  (by rw[c,a];exact h)
 obtain⟨cells,hf,I⟩:=U;unfold Instr.buildSlice;refine aY (gV hu ?_);refine aY (o8 hi ?_);rw[ak (by omega)]
 have fin:∀(sT:String)(z:ax),(len*P.cellsOf elem=0/\z=#[])\/z=zc P elem->aI P (do
   let some cells:=Instr.fill (λi=>some (i*P.cellsOf elem,P.cellsOf elem)) ((Array.range (len*P.cellsOf elem)).map (z[·%z.size]!)) ps.toArray.toList
    |stuck sT
   pure (.slice (some (<-newRow elem cells)) len len):Sem Value) (λv eI=>∃b,v= .slice (some ⟨b,0,none⟩) len len/\K b eI) σ:=by
  intro _ z hz
  have d:(Array.range (len*P.cellsOf elem)).map (z[·%z.size]!)=gx (zc P elem) (len*P.cellsOf elem):=by
   rcases hz with⟨h0,rfl⟩|rfl
   ·rw[h0];simp[gx,Array.range]
   ·rfl
  rw[d];simp only[hf];unfold newRow;exact aY (aY (vp (cu (cu ⟨σ.size,rfl,I⟩))))
 by_cases h0:len*P.cellsOf elem=0
 ·rw[ah h0]
  exact aY (cu (fin _ _ (.inl ⟨h0,rfl⟩)))
 ·rw[ak h0]
  exact aY (qv hz λz e=>aY (cu (fin _ _ (.inr e))))
end
end
section
variable {P:Program}
def F5{a:Array TypeId}{t:TypeId}{k k':IntKind}{x y:Int}(w:World):(Builtin.max_ a t #[.int k x,.int k' y]).run P w= .ok (.int k (if y>x then y else x)) w:=by simp[Builtin.max_,Builtin.max2]
def Gc{a:Array TypeId}{t:TypeId}{k k':IntKind}{x y:Int}(w:World):(Builtin.min_ a t #[.int k x,.int k' y]).run P w= .ok (.int k (if y<x then y else x)) w:=by simp[Builtin.min_,Builtin.min2]
def w4{f:TypeId->Bool}{a:Array TypeId}(h:sI f a=true):∃t,a[0]?=some t/\f t=true:=by
 unfold sI at h
 cases b:a[0]? with
 |none=>rw[b]at h;cases h
 |some t=>rw[b]at h;exact⟨t,rfl,h⟩
def It{e:Env}{ρ:Operand->Value}{o:Oper}{K:SV->HP}{σ:Heap}(j:∀x v,ev e x=some v->ρ x=v.cd)(h:vH P e o K σ):∃B:SV,Yields P (execOp ρ o) B.cd/\K B σ:=by
 obtain⟨dst,op,ty,pos,after,guard⟩:=o;cases op<;>simp only[vH]at h<;>first|exact h.elim|skip
 case move x=>obtain⟨v,A,h⟩:=pw j h;exact⟨v,λw=>by simp[execOp,A],h⟩
 case assign x=>obtain⟨v,A,h⟩:=pw j h;exact⟨v,λw=>by simp[execOp,A],h⟩
 case pick c a b=>
  obtain⟨v,A,h⟩:=pw j h
  cases v with
  |un=>exact h.elim
  |nx _ _=>exact h.elim
  |en _ _=>exact h.elim
  |kb t=>
   cases t
   ·obtain⟨u,hu,h⟩:=pw j h
    exact⟨u,λw=>by simp[execOp,A,SV.cd,asBool,hu],h⟩
   ·obtain⟨u,hu,h⟩:=pw j h
    exact⟨u,λw=>by simp[execOp,A,SV.cd,asBool,hu],h⟩
  |val v=>
   cases v<;>(try simp only at h)<;>first|exact h.elim|skip
   rename_i t;have:=yH h;cases t
   ·obtain⟨u,hu,h⟩:=pw j this
    exact⟨u,λw=>by simp[execOp,A,SV.cd,asBool,hu],h⟩
   ·obtain⟨u,hu,h⟩:=pw j this
    exact⟨u,λw=>by simp[execOp,A,SV.cd,asBool,hu],h⟩
 case build t parts=>
  cases G:partsOf e parts.toList with
  |none=>rw[G]at h;exact h.elim
  |some ps=>
   cases J:w1 P t with
   |none=>rw[G,J]at h;cases ps<;>exact h.elim
   |some pl=>
    rw[G,J]at h;have Q:=Be j _ _ G
    have he:parts.map (λ(i,x)=>(i,ρ x))=ps.toArray:=by rw[<-Q];apply g';simp
    have fin:∀cells:ax,hI P t=true->Instr.fill pl (zc P t) ps=some cells->K (.val (.agg cells)) σ->∃B:SV,Yields P (execOp ρ ⟨dst,.build t parts,ty,pos,after,guard⟩) B.cd/\K B σ:=by intro cells hz hf h;refine⟨_,?_,h⟩;simp only[execOp];rw[he];exact j4 (KW hz J hf)
    cases ps with
    |nil=>obtain⟨hz,h⟩:=e4 h;exact fin _ hz rfl h
    |cons q R=>obtain⟨hz,h⟩:=e4 h;obtain⟨cells,hf,h⟩:=Ab (q::R) (zc P t) h;exact fin cells hz hf h
 case nilCheck x=>
  have h:=dI j h;cases g:ρ x<;>rw[g]at h<;>(try simp only at h)<;>first|exact h.elim|skip
  case pointer p=>obtain⟨a,rfl,h⟩:=oL h;exact⟨_,λw=>by simp[execOp,g,SV.cd],h⟩
  case func fn first captured=>
   cases fn<;>(try simp only at h)<;>first|exact h.elim|skip
   exact⟨_,λw=>by simp[execOp,g,SV.cd],h⟩
 case binOp op t x y Z=>have h:=dI j (dI j h);obtain⟨v,hr,I⟩:=Iq (x:=x) (y:=y) h;exact⟨.val v,j4 hr,I⟩
 case unOp op t x=>
  obtain⟨v,A,h⟩:=pw j h;cases op
  case plus=>exact h.elim
  case not=>
   cases v with
   |kb b=>cases b<;>exact⟨_,λw=>by simp[execOp,A,SV.cd,Op.unary],h⟩
   |un=>exact h.elim
   |nx _ _=>exact h.elim
   |en _ _=>exact h.elim
   |val v=>
    cases v<;>(try simp only at h)<;>first|exact h.elim|skip
    exact⟨_,λw=>by simp[execOp,A,SV.cd,Op.unary],h⟩
  case neg=>
   cases v with
   |kb b=>exact h.elim
   |un=>exact h.elim
   |nx _ _=>exact h.elim
   |en _ _=>exact h.elim
   |val v=>
    cases v<;>(try simp only at h)<;>first|exact h.elim|skip
    exact⟨_,λw=>by simp[execOp,A,SV.cd,Op.unary,Op.intArith],h⟩
  case xor=>
   cases v with
   |kb b=>exact h.elim
   |un=>exact h.elim
   |nx _ _=>exact h.elim
   |en _ _=>exact h.elim
   |val v=>
    cases v<;>(try simp only at h)<;>first|exact h.elim|skip
    exact⟨_,λw=>by simp[execOp,A,SV.cd,Op.unary,Op.intBits,bl],h⟩
 case convert src dst x=>
  have h:=dI j h
  cases hd:P.underlying dst with
  |none=>rw[hd]at h;exact h.elim
  |some d=>
   rw[hd]at h;cases d<;>(try simp only at h)<;>first|exact h.elim|skip
   rename_i k;cases g:ρ x<;>rw[g]at h<;>(try simp only at h)<;>first|exact h.elim|skip
   obtain⟨hs,h⟩:=e4 h;obtain⟨s,hs⟩:=hY.1 hs;refine⟨_,?_,h⟩;simp only[execOp];refine j4 λw=>?_;unfold convert;simp only[Sem.run_bind,hV hs,hV hd,Result.andThen_ok,g];rfl
 case makeFunc fn first captured=>
  have h:=yy j (yy j h);refine⟨_,λw=>?_,h⟩
  have key:∀(vs:Array Operand),vs.map ρ=(vs.toList.map ρ).toArray:=by intro vs;apply g';simp
  simp only[execOp,Instr.makeFunc,SV.cd,key];rfl
 case slice t x lo hi S=>
  have h:=dI j h
  cases hu:P.underlying t with
  |none=>rw[hu]at h;exact h.elim
  |some d=>
   rw[hu]at h;cases d<;>(try simp only at h)<;>first|exact h.elim|skip
   case string=>
    cases g:ρ x<;>rw[g]at h<;>(try simp only at h)<;>first|exact h.elim|skip
    rename_i s
    cases S with
    |some m=>exact h.elim
    |none=>have T:jx e none s.size s.size (λm=>jx e hi s.size m λq=>jx e lo 0 q λl=>match(none:Option Operand),hi with|some _,none=>F|_,_=>K (.val (.string (s.extract l q)))) σ:=h;obtain⟨l,M,m,hr,I⟩:=zA (P:=P) (isSlice:=false) (f:=λl h m=>K (.val (.string (s.extract l h)))) j T;refine⟨_,?_,I⟩;simp only[execOp];refine j4 λw=>?_;have hr:=hr w;simp only[y8]at hr;simp[Instr.sliceAt,hV hu,Instr.slice,g,hr,SV.cd]
   case slice elem=>
    cases g:ρ x<;>rw[g]at h<;>(try simp only at h)<;>first|exact h.elim|skip
    rename_i p len cap;obtain⟨z,h⟩:=e4 h;obtain⟨C,H⟩:=po z;obtain⟨l,M,m,hr,I⟩:=zA (P:=P) (isSlice:=true) (f:=λl h m=>K (.val (.slice (dh p (P.cellsOf elem) l m) (h-l) (m-l)))) j h;refine⟨_,?_,I⟩;simp only[execOp];refine j4 λw=>?_;simp[Instr.sliceAt,hV hu,Instr.slice,g,hr w,nZ C,dh,SV.cd]
   case array n elem=>
    cases g:ρ x<;>rw[g]at h<;>(try simp only at h)<;>first|exact h.elim|skip
    rename_i q;obtain⟨a,rfl,h⟩:=oL h;obtain⟨z,h⟩:=e4 h;obtain⟨C,H⟩:=po z;obtain⟨l,M,m,hr,I⟩:=zA (P:=P) (isSlice:=false) (f:=λl h m=>K (.val (.slice (some (lK a (P.cellsOf elem) l m)) (h-l) (m-l)))) j h;refine⟨_,?_,I⟩;simp only[execOp];refine j4 λw=>?_;simp[Instr.sliceAt,Instr.sureAddr,hV hu,g,hr w,nZ C,lK,SV.cd]
 case fieldAddr s x f=>
  have h:=dI j h;cases g:ρ x<;>rw[g]at h<;>(try simp only at h)<;>first|exact h.elim|skip
  rename_i q
  cases hf:wZ P s f with
  |none=>rw[hf]at h;exact h.elim
  |some off=>rw[hf]at h;obtain⟨a,rfl,h⟩:=oL h;obtain⟨N,fd,U,V,W,X,rfl⟩:=Ub hf;refine⟨_,?_,h⟩;simp only[execOp];refine j4 λw=>?_;simp[Instr.fieldAt,hV U,V,Instr.sureAddr,g,fieldPlace,nZ W,X,SV.cd]
 case field t x f=>
  have h:=dI j h;cases g:ρ x<;>rw[g]at h<;>(try simp only at h)<;>first|exact h.elim|skip
  rename_i cs
  cases hu:P.underlying t with
  |none=>rw[hu]at h;exact h.elim
  |some d=>
   rw[hu]at h;cases d<;>(try simp only at h)<;>first|exact h.elim|skip
   rename_i N
   cases hf:N[f]? with
   |none=>rw[hf]at h;exact h.elim
   |some fd=>rw[hf]at h;obtain⟨z,h⟩:=e4 h;obtain⟨v,hr,I⟩:=GK z h;refine⟨.val v,?_,I⟩;simp only[execOp];refine j4 λw=>?_;simp[Instr.field,hV hu,hf,asAgg,g,hr w,SV.cd]
 case indexAddr t x i=>
  have h:=dI j (dI j h)
  cases hu:P.underlying t with
  |none=>rw[hu]at h;exact h.elim
  |some d=>
   rw[hu]at h;cases d<;>(try simp only at h)<;>first|exact h.elim|skip
   case slice elem=>
    cases g:ρ x<;>rw[g]at h<;>(try simp only at h)<;>first|exact h.elim|skip
    cases hi:ρ i<;>rw[hi]at h<;>(try simp only at h)<;>first|exact h.elim|skip
    obtain⟨a,rfl,h⟩:=oL h;obtain⟨z,h⟩:=e4 h;obtain⟨C,H⟩:=po z;obtain⟨⟨D,E⟩,h⟩:=h;refine⟨_,?_,h⟩;simp only[execOp];refine j4 λw=>?_;simp[BG,Instr.indexAt,asIntOf,hV hu,g,hi,D,E,nZ C,SV.cd]
   case array len elem=>
    cases g:ρ x<;>rw[g]at h<;>(try simp only at h)<;>first|exact h.elim|skip
    cases hi:ρ i<;>rw[hi]at h<;>(try simp only at h)<;>first|exact h.elim|skip
    obtain⟨a,rfl,h⟩:=oL h;obtain⟨z,h⟩:=e4 h;obtain⟨C,H⟩:=po z;obtain⟨⟨D,E⟩,h⟩:=h;refine⟨_,?_,h⟩;simp only[execOp];refine j4 λw=>?_;simp[BG,Instr.indexAt,asIntOf,hV hu,g,hi,D,E,nZ C,SV.cd,Instr.sureAddr]
 case index t x i=>
  have h:=dI j (dI j h)
  cases hu:P.underlying t with
  |none=>rw[hu]at h;exact h.elim
  |some d=>
   rw[hu]at h;cases d<;>(try simp only at h)<;>first|exact h.elim|skip
   case string=>
    cases g:ρ x<;>rw[g]at h<;>(try simp only at h)<;>first|exact h.elim|skip
    cases hi:ρ i<;>rw[hi]at h<;>(try simp only at h)<;>first|exact h.elim|skip
    rename_i s k n;obtain⟨⟨D,E⟩,h⟩:=h;refine⟨_,?_,h⟩;simp only[execOp];refine j4 λw=>?_;have O:n.toNat<s.size:=by omega
    have Y:s[n.toNat]?=some s[n.toNat]:=by simp[O]
    have hd:s.data[n.toNat]?=some s[n.toNat]:=by have:n.toNat<s.data.size:=O;rw[Cu this];rfl
    simp[Instr.index,asIntOf,hV hu,g,hi,D,Y,ic,hd,SV.cd]
   case array len elem=>
    cases g:ρ x<;>rw[g]at h<;>(try simp only at h)<;>first|exact h.elim|skip
    cases hi:ρ i<;>rw[hi]at h<;>(try simp only at h)<;>first|exact h.elim|skip
    obtain⟨z,h⟩:=e4 h;obtain⟨C,H⟩:=po z;obtain⟨⟨D,E⟩,h⟩:=h;rw[BG]at h;obtain⟨v,hr,I⟩:=GK z h;refine⟨.val v,?_,I⟩;simp only[execOp];refine j4 λw=>?_;simp[Instr.index,asIntOf,hV hu,g,hi,D,E,nZ C,SV.cd,hr w]
 case extract x i=>
  obtain⟨v,A,h⟩:=pw j h
  cases v with
  |un=>exact h.elim
  |kb b=>exact h.elim
  |nx k y=>
   have fin:∀u,(#[.bool true,k,y]:ax)[i]?=some u->K (.val u) σ->∃B:SV,Yields P (execOp ρ ⟨dst,.extract x i,ty,pos,after,guard⟩) B.cd/\K B σ:=by intro u hu I;refine⟨.val u,?_,I⟩;simp only[execOp];refine j4 λw=>?_;simp[Instr.extract,A,SV.cd,hu]
   match i,h with
   |0,h=>exact fin _ rfl h
   |1,h=>exact fin _ rfl (nB h)
   |2,h=>exact fin _ rfl (nB h)
  |en k y=>
   have fin:∀u,(#[k,y]:ax)[i]?=some u->K (.val u) σ->∃B:SV,Yields P (execOp ρ ⟨dst,.extract x i,ty,pos,after,guard⟩) B.cd/\K B σ:=by intro u hu I;refine⟨.val u,?_,I⟩;simp only[execOp];refine j4 λw=>?_;simp[Instr.extract,A,SV.cd,hu]
   match i,h with
   |0,h=>exact fin _ rfl (nB h)
   |1,h=>exact fin _ rfl (nB h)
  |val v=>
   cases v<;>(try simp only at h)<;>first|exact h.elim|skip
   rename_i vs
   cases hu:vs[i]? with
   |none=>rw[hu]at h;exact h.elim
   |some u=>rw[hu]at h;refine⟨.val u,?_,h⟩;simp only[execOp];refine j4 λw=>?_;simp[Instr.extract,A,SV.cd,hu]
 case call c=>
  have h:=yy j h;obtain⟨callee,args,argTypes⟩:=c;simp only at h
  have key:∀(vs:aB),args.toList.map ρ=vs->args.map ρ=vs.toArray:=by intro vs A;rw[<-A];apply g';simp
  cases callee with
  |value f=>exact h.elim
  |invoke r n=>exact h.elim
  |builtin b=>
   cases b<;>(try simp only at h)<;>first|exact h.elim|skip
   case len=>
    cases hl:args.toList.map ρ with
    |nil=>rw[hl]at h;exact h.elim
    |cons a r=>
     cases r with
     |cons _ _=>rw[hl]at h;cases a<;>exact h.elim
     |nil=>
      rw[hl]at h;cases a<;>(try simp only at h)<;>first|exact h.elim|skip
      case slice q n aa=>obtain⟨z,h⟩:=e4 h;obtain⟨t0,L,z⟩:=w4 z;obtain⟨ab,he⟩:=rP z;refine⟨_,λw=>?_,h⟩;simp[execOp,resolve,invoke,key _ hl,builtin,Builtin.len_,L,hV he,goInt,SV.cd]
      case string s=>obtain⟨z,h⟩:=e4 h;obtain⟨t0,L,z⟩:=w4 z;have he:=HM z;refine⟨_,λw=>?_,h⟩;simp[execOp,resolve,invoke,key _ hl,builtin,Builtin.len_,L,hV he,goInt,SV.cd]
   case max=>
    cases hl:args.toList.map ρ with
    |nil=>rw[hl]at h;exact h.elim
    |cons a r=>
     cases r with
     |nil=>rw[hl]at h;cases a<;>exact h.elim
     |cons b r=>
      cases r with
      |cons _ _=>rw[hl]at h;cases a<;>cases b<;>exact h.elim
      |nil=>
       rw[hl]at h;cases a<;>cases b<;>(try simp only at h)<;>first|exact h.elim|skip
       refine⟨_,λw=>?_,h⟩;simp[execOp,resolve,invoke,key _ hl,builtin,F5,SV.cd]
   case min=>
    cases hl:args.toList.map ρ with
    |nil=>rw[hl]at h;exact h.elim
    |cons a r=>
     cases r with
     |nil=>rw[hl]at h;cases a<;>exact h.elim
     |cons b r=>
      cases r with
      |cons _ _=>rw[hl]at h;cases a<;>cases b<;>exact h.elim
      |nil=>
       rw[hl]at h;cases a<;>cases b<;>(try simp only at h)<;>first|exact h.elim|skip
       refine⟨_,λw=>?_,h⟩;simp[execOp,resolve,invoke,key _ hl,builtin,Gc,SV.cd]
end
