/- Lemmas that lead to TopWhole (their names made short by a program); no condition. -/
import Derived.Test.YtlmgompopkamfaaGreatDoorLG
import Derived.Shelf.Sort.Plain
import Derived.Shelf.Slices.In.SortNone
import Derived.Sort.OwnSortedInts
set_option linter.all false
set_option maxRecDepth 20000
set_option synthInstance.checkSynthOrder false
namespace Go.Proofs.YtlmgompopkamfaaGreatDoor
section
open Go.XS
def abh:zc P 430=#[.int .i64 0]:=by kernel_rfl
def Td:P.cellsOf 430=1:=by kernel_rfl
def K8:P.bytesOf 430=8:=by kernel_rfl
def gp:wa P 409 (Extern.Atomic.update (Op.intArith .add) .i64 true):=E3 uX Tryz.func409 (by kernel_rfl) (by kernel_rfl) (by kernel_rfl)
def uO:wa P 236 (Extern.Atomic.loadT (.int .i64)):=E3 uX Tryz.func236 (by kernel_rfl) (by kernel_rfl) (by kernel_rfl)
def uo(n:Nat):ax:=#[.int .i64 (n:Int),.int .u32 0,.int .i32 0,.int .u32 0,.slice none 0 0]
def q0(n rwb:Nat):ax:=#[.int .i64 (n:Int),.int .u32 1,.int .i32 0,.int .u32 0,.slice (some ⟨rwb,0,none⟩) n n]
abbrev k2:Int:=4611686018427387904
def ur(b n:Nat)(xs:aO):Option Nat->bg
 |none=>fk (xs=List.replicate n 0) (cl b (uo n))
 |some rwb=>eG [cl b (q0 n rwb),cl rwb (iv .i64 xs).toArray]
def eC(b n:Nat)(xs:aO):bg:=
 fk (1<=n/\n<=64/\xs.length=n/\∀x∈xs,0<=x/\x<=k2)<|eK (ur b n xs)
section
variable {B:Heap}{H:au}{K:aK}{b n rwb:Nat}{xs:aO}
def zw{b i:Nat}{cs:ax}{n:Int}[h:bY B H b cs](hc:cs[i]?=some (.int .i64 n))(I:T B H (K (.int .i64 n))):T B H (ab P 148 #[.pointer (some ⟨b,i,none⟩)] K):=by apply an (R6 _);simp only[cT,aQ,mx];refine Dp uO (Jd hc ?_);simp only[gq];exact I
def DM{b i:Nat}{cs:ax}{n y:Int}{H':ax->au}[h:fZ H b cs H'](hc:cs[i]?=some (.int .i64 n))(I:T B (H' (cs.setIfInBounds i (.int .i64 (IntKind.wrap .i64 (n+y))))) (K (.int .i64 (IntKind.wrap .i64 (n+y))))):T B H (ab P 368 #[.pointer (some ⟨b,i,none⟩),.int .i64 y] K):=by apply an (R5 _ _);simp only[cT,aQ,mx];refine Dp gp (Ja hc ?_);simp only[gq];exact I
def zK{p:HP}(t:1<=n->n<=64->xs.length=n->(∀x∈xs,0<=x/\x<=k2)->T B (eC b n xs::H) p):T B (eC b n xs::H) p:=gD λh=>h4 h (t h.1 h.2.1 h.2.2.1 h.2.2.2)
def q4{p:HP}(U:1<=n)(a:n<=64)(c:xs.length=n)(d:∀x∈xs,0<=x/\x<=k2)(t:T B (eC b n xs::H) p):T B (cl b (q0 n rwb)::cl rwb (iv .i64 xs).toArray::H) p:=by have t1:T B (ur b n xs (some rwb)::H) p:=gI (some rwb) (h4 ⟨U,a,c,d⟩ t);rw[ur]at t1;exact jQ t1
def wN{p:HP}(U:1<=n)(a:n<=64)(t:T B (eC b n (List.replicate n 0)::H) p):T B (cl b (uo n)::H) p:=by have t1:T B (ur b n (List.replicate n 0) none::H) p:=gI none (h4 ⟨U,a,by simp,λx c=>by rw[lz c];decide⟩ t);rw[ur]at t1;exact h4 rfl t1
def Eb{p:HP}(h0:1<=n->n<=64->xs=List.replicate n 0->T B (cl b (uo n)::H) p)(U:1<=n->n<=64->xs.length=n->(∀x∈xs,0<=x/\x<=k2)->∀rwb,T B (cl b (q0 n rwb)::cl rwb (iv .i64 xs).toArray::H) p):T B (eC b n xs::H) p:=
 gD λh=>gn λo=>match o with
  |none=>gD λa=>h0 h.1 h.2.1 a
  |some rwb=>lJ (U h.1 h.2.1 h.2.2.1 h.2.2.2 rwb)
def Tw{cs:ax}(a:n<=64)(h0:cs[0]?=some (.int .i64 (n:Int)))(c:4<cs.size)(I:∀rwb,T B (cl b (cs.setIfInBounds 4 (.slice (some ⟨rwb,0,none⟩) n n))::cl rwb (iv .i64 (List.replicate n 0)).toArray::H) (K (.tuple #[]))):T B (cl b cs::H) (ab P 235 #[pz b] K):=by
 apply an (MJ _);simp only[cT,aQ];refine a1 h0 (gC (by omega) (by omega) (by omega) (by rw[K8];omega) (by kernel_rfl) (by kernel_rfl) λrwb=>?_);rw[Td,abh,k7,iM,a7];have e:List.replicate n (Value.int .i64 0)=iv .i64 (List.replicate n 0):=by simp[iv]
 rw[e];exact cq (cy _ _ _) (eB (by omega) rfl (I rwb))
def Eu{i:Int}(d:¬(0<=i/\i<(n:Int))->T B (eC b n xs::H) (K (.pointer none)))(aP:∀(j:Nat) (rwb:Nat),i=(j:Int)->j<n->1<=n->n<=64->xs.length=n->(∀x∈xs,0<=x/\x<=k2)->T B (cl b (q0 n rwb)::cl rwb (iv .i64 xs).toArray::H) (K (.pointer (some ⟨rwb,j,none⟩)))):T B (eC b n xs::H) (ab P 147 #[pz b,.int .i64 i] K):=by
 apply an (MI _ _);simp only[cT,aQ];refine Eb (λU a e=>?_) λU a f g rwb=>?_
 ·subst e
  refine gm (λvs H'=>vs=[]/\cl b (uo n)::H=H'/\0<=i/\i<(n:Int)) ?_ λR k=>aD rfl (cH (λh=>wN U a (d (by simp at h;omega))) λh=>a1 rfl (cH (λc=>wN U a (d (by simp at c;omega))) λc=>k _ _ ⟨rfl,rfl,by simp at h;omega,by simp at c;omega⟩));rintro vs H' ⟨rfl,rfl,l,m⟩;simp only[fu];intro _;obtain⟨j,rfl⟩:∃j:Nat,i=(j:Int):=⟨i.toNat,by omega⟩
  refine Ww rfl rfl (λ_=>rfl) (λ_=>rfl)
   (λKf o=>Tw a rfl (by simp[uo]) o) λrwb=>dU rfl ?_
  show T B (cl b (q0 n rwb)::cl rwb (iv .i64 (List.replicate n 0)).toArray::H) _;refine bW rfl (bj ⟨by omega,by omega⟩ ?_);rw[a7,aQ,bJ];exact aP j rwb rfl (by omega) U a (by simp) λx e=>by rw[lz e];decide
 ·refine gm (λvs H'=>vs=[]/\cl b (q0 n rwb)::cl rwb (iv .i64 xs).toArray::H=H'/\0<=i/\i<(n:Int)) ?_ λR k=>aD rfl (cH (λh=>q4 U a f g (d (by simp at h;omega))) λh=>a1 rfl (cH (λc=>q4 U a f g (d (by simp at c;omega))) λc=>k _ _ ⟨rfl,rfl,by simp at h;omega,by simp at c;omega⟩))
  rintro vs H' ⟨rfl,rfl,l,m⟩;simp only[fu];intro _;obtain⟨j,rfl⟩:∃j:Nat,i=(j:Int):=⟨i.toNat,by omega⟩;refine GA rfl (dU rfl (bW rfl (bj ⟨by omega,by omega⟩ ?_)));rw[a7,aQ,bJ];exact aP j rwb rfl (by omega) U a f g
def Et(U:1<=n)(a:n<=64)(I:∀b,T B (eC b n (List.replicate n 0)::H) (K (pz b))):T B H (ab P 139 #[.int .i64 (n:Int)] K):=by apply an (MK _);exact aD (by simp;omega) (aD (by simp;omega) (el λb=>wN U a (I b)))
def hq(xs:aO)(i:Int):Int:=if 0<=i then xs.getD i.toNat 0 else 0
def Tv{i:Int}(I:T B (eC b n xs::H) (K (.int .i64 (hq xs i)))):T B (eC b n xs::H) (ab P 82 #[pz b,.int .i64 i] K):=by
 refine zK λg1 g2 g3 g4=>an (MH _ _) (Eu (λg=>?_) λj rwb c h U d e f=>?_)
 ·simp only[sj]
  refine bk rfl (dN I ?_);unfold hq;split
  ·rw[List.getD,jg (by omega)];rfl
  ·rfl
 ·subst c
  simp only[sj];obtain⟨x,a⟩:∃x,xs[j]?=some x:=⟨_,ba (by omega)⟩;refine aD rfl (zw (by rw[dY];exact lT a) ?_);simp only[gq];refine q4 U d e f (dN I ?_);simp[hq,List.getD,a]
def iq(xs:aO)(i a:Int):Int:=if 0<=i/\i<(xs.length:Int)/\0<=a then(if a>k2-hq xs i then 6 else 0)else 2
def fG(xs:aO)(i a:Int):aO:=if iq xs i a=0 then xs.set i.toNat (hq xs i+a)else xs
def Tu{i y:Int}(I:T B (eC b n (fG xs i y)::H) (K (.int .i64 (iq xs i y)))):T B (eC b n xs::H) (ab P 300 #[pz b,.int .i64 i,.int .i64 y] K):=by
 refine zK λg1 g2 g3 g4=>an (MG _ _ _) ?_;simp only[cT,aQ];refine gm (λvs H'=>vs=[]/\eC b n xs::H=H') ?_ λR g=>aD rfl ?_
 rotate_left
 ·refine Eb (λU a c=>a1 rfl (aD ?_ ?_)) λU a d f rwb=>a1 rfl (aD ?_ (q4 U a d f (g _ _ ⟨rfl,rfl⟩)))
  ·exact r7.2 (by omega)
  ·subst c
   exact wN U a (g _ _ ⟨rfl,rfl⟩)
  ·exact r7.2 (by omega)
 rintro vs H' ⟨rfl,rfl⟩;simp only[fu];intro _;refine Eu (λq=>?_) λj rwb m r U a d f=>?_
 ·have e:iq xs i y=2:=by rw[iq,ak (by omega)]
  rw[fG,e,ak (by decide)]at I;simp only[sj];exact gm (λ_ _=>False) (λ_ _ h=>h.elim) λR _=>bk rfl I
 subst m;simp only[sj];obtain⟨x,c⟩:∃x,xs[j]?=some x:=⟨_,ba (by omega)⟩;have l:hq xs (j:Int)=x:=by simp[hq,List.getD,c]
 have o:=g4 x (cz c);refine gm (λvs H'=>vs=[]/\cl b (q0 n rwb)::cl rwb (iv .i64 xs).toArray::H=H'/\0<=y) ?_ λR g=>aD rfl (cH (λh=>?_) λh=>g _ _ ⟨rfl,rfl,by simp at h;omega⟩)
 rotate_left
 ·have h:y<0:=by simpa using h
  have e:iq xs (j:Int) y=2:=by rw[iq,ak (by omega)]
  rw[fG,e,ak (by decide)]at I;exact q4 U a d f I
 rintro vs H' ⟨rfl,rfl,s⟩;simp only[fu];intro _;refine zw (by rw[dY];exact lT c) ?_;simp only[gq];rw[kC (by simp only[k2]at o;omega) (by omega)];have k:iq xs (j:Int) y=if y>k2-x then 6 else 0:=by rw[iq,ah (by omega),l]
 refine cH (λh=>?_) λh=>?_
 ·have h:y>k2-x:=by simpa using h
  rw[ah h]at k;rw[fG,k,ak (by decide)]at I;exact q4 U a d f I
 ·have h:¬y>k2-x:=by simpa using h
  rw[ak h]at k;rw[fG,k,ah rfl,l,a7]at I;refine DM (by rw[dY];exact lT c) ?_;simp only[gq];rw[kC (by omega) (by simp only[k2]at*;omega)]
  have e:(iv .i64 xs).toArray.setIfInBounds j (.int .i64 (x+y))=(iv .i64 (xs.set j (x+y))).toArray:=by simp[iv,jh]
  rw[e];refine q4 U a (by simpa using d) (λz hz=>?_) I;rcases j5 hz with p|rfl
  ·exact f z p
  ·exact⟨by omega,by omega⟩
end
end
section
open Go.XS
structure Wm where
 mark:Int
 low:Bool
 eV:Bool
 level:Int
 least:Int
 times:Int
def gi(m:Wm):ax:=#[.int .i64 m.mark,.bool m.low,.bool m.eV,.int .i64 m.level,.int .i64 m.least,.int .i64 m.times]
def lv(n:Int):Int:=if 0>n then 0 else n
def wY(m:Wm)(n:Int):Wm:=
 let l:=lv n
 let s:=if m.eV then m.least else l
 let low:=decide (l<m.mark)
 {mark:=m.mark,low:=low,eV:=true,level:=l,least:=if l<s then l else s,times:=if low&&!m.low then IntKind.wrap .i64 (m.times+1)else m.times}
def sG(m:Wm)(n:Int):Int:=
 let low:=decide (lv n<m.mark)
 if low&&!m.low then 1 else if m.low&&!low then 2 else 0
def aaK{B:Heap}{H:au}{K:aK}{n:Int}(h0:0<=n)(U:n<=1048576)(I:∀b,T B (cl b (gi ⟨n,false,false,0,0,0⟩)::H) (K (pz b))):T B H (ab P 143 #[.int .i64 n] K):=by apply an (S3 n);refine aD (by simp;omega) (aD (by simp;omega) (el λb=>I b))
def aaJ{B:Heap}{H:au}{K:aK}{b:Nat}{m:Wm}(I:T B (cl b (gi m)::H) (K (.bool m.low))):T B (cl b (gi m)::H) (ab P 370 #[pz b] K):=by apply an (S1 _);simp only[cT,aQ];exact bk rfl (iT rfl I)
def aaI{B:Heap}{H:au}{K:aK}{b:Nat}{m:Wm}(I:T B (cl b (gi m)::H) (K (.int .i64 (if m.low then IntKind.wrap .i64 (m.mark-m.level)else 0)))):T B (cl b (gi m)::H) (ab P 303 #[pz b] K):=by
 apply an (S0 _);simp only[cT,aQ];apply aaJ;simp only[fv];cases hl:m.low
 ·rw[hl]at I
  exact bk rfl I
 ·rw[hl]at I
  exact aD rfl (a1 rfl (a1 rfl I))
def aaH{B:Heap}{H:au}{K:aK}{b:Nat}{m:Wm}{n:Int}(I:T B (cl b (gi (wY m n))::H) (K (.int .i64 (sG m n)))):T B (cl b (gi m)::H) (ab P 301 #[pz b,.int .i64 n] K):=by
 apply an (SZ _ _);simp only[cT,aQ];refine aD rfl (iS #[.bool m.low,.bool m.eV,.int .i64 m.level,.int .i64 m.least,.int .i64 m.times] rfl ?_ ?_)
 ·intro j f
  match j,f with
  |0,_=>rfl
  |1,_=>rfl
  |2,_=>rfl
  |3,_=>rfl
  |4,_=>rfl
 refine el λa=>hj rfl rfl (by simp[Value.oneCell']) ?_
 refine gm (λvs H'=>vs=[]/\H'=cl a #[.bool m.low,.bool m.eV,.int .i64 m.level,.int .i64 m.least,.int .i64 m.times]::
  cl b (gi {m with least:=if m.eV then m.least else lv n})::H) ?_ ?_
 ·rintro vs H' ⟨rfl,rfl⟩
  refine fu.2 λ_=>a1 rfl (eB (by simp[gi]) rfl (eB (by simp[gi]) rfl (eB (by simp[gi]) rfl (a1 rfl (eB (by simp[gi]) rfl ?_)))))
  have e:∀t:Int,(#[.int .i64 m.mark,.bool (decide (lv n<m.mark)),.bool true,.int .i64 (lv n),.int .i64 (if lv n<(if m.eV then m.least else lv n)then lv n else(if m.eV then m.least else lv n)),.int .i64 t]:ax)=
    gi {mark:=m.mark,low:=decide (lv n<m.mark),eV:=true,level:=lv n,least:=if lv n<(if m.eV then m.least else lv n)then lv n else(if m.eV then m.least else lv n),times:=t}:=λt=>rfl
  show T B (cl a #[.bool m.low,.bool m.eV,.int .i64 m.level,.int .i64 m.least,.int .i64 m.times]::cl b #[.int .i64 m.mark,.bool (decide (lv n<m.mark)),.bool true,.int .i64 (lv n),.int .i64 (if lv n<(if m.eV then m.least else lv n)then lv n else(if m.eV then m.least else lv n)),.int .i64 m.times]::H) _;refine gm (λvs H'=>vs=[.bool (decide (lv n<m.mark)&&!m.low)]/\H'=cl a #[.bool m.low,.bool m.eV,.int .i64 m.level,.int .i64 m.least,.int .i64 m.times]::cl b #[.int .i64 m.mark,.bool (decide (lv n<m.mark)),.bool true,.int .i64 (lv n),.int .i64 (if lv n<(if m.eV then m.least else lv n)then lv n else(if m.eV then m.least else lv n)),.int .i64 m.times]::H) ?_ ?_
  ·rintro vs H' ⟨rfl,rfl⟩
   simp only[kM,fu];intro g h;obtain rfl:(decide (lv n<m.mark)&&!m.low)=g:=by simpa using h
   cases hr:(decide (lv n<m.mark)&&!m.low)
   ·refine aD rfl (iT rfl ?_)
    have fin:∀r,sG m n=r->T B (cl a #[.bool m.low,.bool m.eV,.int .i64 m.level,.int .i64 m.least,.int .i64 m.times]::cl b #[.int .i64 m.mark,.bool (decide (lv n<m.mark)),.bool true,.int .i64 (lv n),.int .i64 (if lv n<(if m.eV then m.least else lv n)then lv n else(if m.eV then m.least else lv n)),.int .i64 m.times]::H) (K (.int .i64 r)):=by intro r i;apply ec;rw[e,<-i];simpa[wY,hr]using I
    cases hl:m.low
    ·rw[hl]at fin
     exact aD rfl (fin 0 (by simp[sG,hl]at hr⊢;exact hr))
    ·rw[hl]at fin
     refine bk rfl (iT rfl ?_);cases hd:decide (lv n<m.mark)
     ·rw[hd]at fin
      exact bk rfl (fin 2 (by simp[sG,hl]at hd⊢;exact hd))
     ·rw[hd]at fin
      exact aD rfl (fin 0 (by simp[sG,hl]at hd⊢;exact hd))
   ·refine bk rfl (a1 rfl (eB (by simp) rfl (ec ?_)))
    show T B (cl b #[.int .i64 m.mark,.bool (decide (lv n<m.mark)),.bool true,.int .i64 (lv n),.int .i64 (if lv n<(if m.eV then m.least else lv n)then lv n else(if m.eV then m.least else lv n)),.int .i64 (IntKind.wrap .i64 (m.times+1))]::H) _;rw[e];simpa[wY,sG,hr]using I
  ·intro R c
   apply iT rfl;cases hd:decide (lv n<m.mark)
   ·exact aD rfl (c _ _ ⟨by simp[hd],by rw[hd]⟩)
   ·exact bk rfl (iT rfl (c _ _ ⟨by simp[hd],by rw[hd]⟩))
 ·intro R c
  have k:∀{H':au},m.eV=true->H'=cl a #[.bool m.low,.bool m.eV,.int .i64 m.level,.int .i64 m.least,.int .i64 m.times]::cl b (gi m)::H->T B H' (R []):=by rintro _ hf rfl;exact c _ _ ⟨rfl,by simp[hf,gi]⟩
  have hy:m.eV=false->T B (cl a #[.bool m.low,.bool m.eV,.int .i64 m.level,.int .i64 m.least,.int .i64 m.times]::cl b (gi m)::H) (st ⟨b,0+1+3,none⟩ (.int .i64 (lv n)) (R [])):=by intro hf;refine eB (by simp[gi]) rfl (c _ _ ⟨rfl,?_⟩);simp[gi,hf]
  refine gm (λvs H'=>vs=[.bool (!m.eV)]/\H'=cl a #[.bool m.low,.bool m.eV,.int .i64 m.level,.int .i64 m.least,.int .i64 m.times]::cl b (gi m)::H) ?_ ?_
  ·rintro vs H' ⟨rfl,rfl⟩
   simp only[kM,fu];intro l h;obtain rfl:(!m.eV)=l:=by simpa using h
   cases hf:m.eV
   ·exact bk rfl (by rw[<-hf];exact hy hf)
   ·exact aD rfl (by rw[<-hf];exact k hf rfl)
  ·intro o d
   refine bI rfl ?_;refine Jw (b:=m.low==false&&(m.eV==false&&(m.level==0&&(m.least==0&&(m.times==0&&true))))) (by kernel_rfl) (by kernel_rfl) (by kernel_rfl) (by kernel_rfl) ?_;simp only[fv];cases hf:m.eV
   ·rw[hf]at d
    cases hz:(m.low==false&&(false==false&&(m.level==0&&(m.least==0&&(m.times==0&&true)))))
    ·exact aD rfl (iT rfl (d _ _ ⟨rfl,rfl⟩))
    ·exact bk rfl (d _ _ ⟨rfl,rfl⟩)
   ·rw[hf]at d
    exact aD (by simp) (iT rfl (d _ _ ⟨rfl,rfl⟩))
end
section
open Go.XS
def tk(p lack:Int):Int:=if 0>(if lack<p then lack else p)then 0 else(if lack<p then lack else p)
def spread:Int->aO->aO
 |_,[]=>[]
 |lack,p::ps=>tk p lack::spread (lack-tk p lack) ps
def rest:Int->aO->Nat->Int
 |lack,[],_=>lack
 |lack,_,0=>lack
 |lack,p::ps,i+1=>rest (lack-tk p lack) ps i
def B7(p lack:Int):0<=tk p lack/\(0<=lack->tk p lack<=lack)/\(lack<=0->tk p lack=0):=by unfold tk;refine⟨?_,λh=>?_,λh=>?_⟩<;>split<;>split<;>omega
def n6:∀(lack:Int) (xs:aO),(spread lack xs).length=xs.length
 |_,[]=>rfl
 |lack,p::ps=>by simp[spread,n6]
def Hb(lack:Int)(xs:aO):rest lack xs 0=lack:=by cases xs<;>rfl
def BS:∀(lack:Int) (xs:aO) (i:Nat) (x:Int),xs[i]?=some x->(spread lack xs)[i]?=some (tk x (rest lack xs i))/\rest lack xs (i+1)=rest lack xs i-tk x (rest lack xs i)
 |_,[],i,x,h=>by simp at h
 |lack,p::ps,0,x,h=>by simp at h;subst h;exact⟨rfl,Hb _ _⟩
 |lack,p::ps,i+1,x,h=>BS (lack-tk p lack) ps i x (by simpa using h)
def Bt:∀(lack:Int) (xs:aO) (i:Nat),rest lack xs i<=lack/\(0<=lack->0<=rest lack xs i)/\(lack<=0->rest lack xs i=lack)
 |lack,[],i=>by simp[rest]
 |lack,p::ps,0=>by simp[rest]
 |lack,p::ps,i+1=>by obtain⟨U,a,b⟩:=B7 p lack;obtain⟨e,c,d⟩:=Bt (lack-tk p lack) ps i;simp only[rest];refine⟨by omega,λh=>c (by have:=a h;omega),λh=>?_⟩;have:=b h;rw[d (by omega)];omega
def e2(b:Nat)(xs:aO):bg:=eK λw:Nat=>eG [cl b #[.slice (some ⟨w,0,none⟩) xs.length xs.length],cl w (iv .i64 xs).toArray]
section
variable {B:Heap}{H:au}{K:aK}{b:Nat}{xs ys:aO}{lack:Int}{q:aw}{l c:Nat}
def wG{p:HP}(t:∀w,T B (cl b #[.slice (some ⟨w,0,none⟩) xs.length xs.length]::cl w (iv .i64 xs).toArray::H) p):T B (e2 b xs::H) p:=gn λw=>lJ (t w)
def sr{p:HP}(w:Nat)(t:T B (e2 b xs::H) p):T B (cl b #[.slice (some ⟨w,0,none⟩) xs.length xs.length]::cl w (iv .i64 xs).toArray::H) p:=jQ (Hs:=[cl b #[.slice (some ⟨w,0,none⟩) xs.length xs.length],cl w (iv .i64 xs).toArray]) (gI (q:=λw=>eG [cl b #[.slice (some ⟨w,0,none⟩) xs.length xs.length],cl w (iv .i64 xs).toArray]) w t)
def U2(n:Nat):(List.replicate n (Value.int .i64 0))=iv .i64 (List.replicate n 0):=by simp[iv]
def aao{n:Nat}(U:n<=64)(I:∀b,T B (e2 b (List.replicate n 0)::H) (K (pz b))):T B H (ab P 141 #[.int .i64 (n:Int)] K):=by apply an (SK _);refine aD (by simp) (aD (by simp;omega) (gC (by omega) (by omega) (by omega) (by rw[kO];omega) (by kernel_rfl) (by kernel_rfl) λw=>el λb=>?_));rw[lR,mj,k7,iM,a7,U2];have:=sr w (I b);rw[jG]at this;exact this
def aaa{k:Nat}{p:Int}(a:-9223372036854775808<=lack)(b:lack<=9223372036854775807)(I:T B (cl k #[.int .i64 (lack-tk p lack)]::H) (K (.int .i64 (tk p lack)))):T B (cl k #[.int .i64 lack]::H) (ab P 410 #[.int .i64 p,pz k] K):=by apply an (SM _ _);simp only[cT];refine a1 rfl (a1 rfl (eB (by simp) rfl ?_));show T B (cl k #[.int .i64 (IntKind.wrap .i64 (lack-tk p lack))]::H) (K (.int .i64 (tk p lack)));obtain⟨U,c,d⟩:=B7 p lack;rw[bd (by omega)];exact I
def aar(hr:bF B H q (iv .i64 xs))(hl:l=xs.length)(h:l<=10000)(j:-9223372036854775808<=lack)(m:lack<=9223372036854775807)(I:∀k,T B (cl k (iv .i64 (spread lack xs)).toArray::H) (K (.slice (some ⟨k,0,none⟩) l l))):T B H (ab P 369 #[.int .i64 lack,.slice q l c] K):=by
 subst hl;apply an (SL _ _ _ _);refine el λd=>gC (by omega) (by omega) (by omega) (by rw[kO];omega) (by kernel_rfl) (by kernel_rfl) λb=>?_;rw[lR,mj,k7,iM,a7]
 refine se (λvs H'=>∃i:Nat,i<=xs.length/\vs=[.int .i64 (i:Int)]/\H'=cl b ((iv .i64 (spread lack xs)).take i++List.replicate (xs.length-i) (Value.int .i64 0)).toArray::cl d #[.int .i64 (rest lack xs i)]::H)
  (λvs=>match vs with|[.int _ i]=>xs.length-i.toNat|_=>0) ⟨0,qK _,rfl,by simp[Hb]⟩ ?_
 rintro vs H' R ⟨i,hi,rfl,rfl⟩ e;simp only[kM,fu];intro n heq;simp only[ly,Value.int.injEq,nk,kK]at heq;subst heq;refine cH (λhc=>?_) (λhc=>?_)
 ·have a:i<xs.length:=by simpa using hc
  obtain⟨z,hz⟩:∃z,xs[i]?=some z:=⟨_,ba a⟩;obtain⟨f,g⟩:=BS lack xs i z hz;obtain⟨o,p,r⟩:=Bt lack xs i;refine Dz hr.tail.tail rfl a (lT hz) (cq (cy _ _ _) (aaa (by omega) (by omega) ?_));simp only[gq,aQ,a7];refine bj ⟨by omega,by omega⟩ (eB (by simp[n6];omega) rfl (cq (cy _ _ _) ?_));rw[yE (by omega)];refine e _ _ ⟨i+1,by omega,rfl,?_⟩ (by simp only[a7];omega);simp only[bJ,jI];rw[YR (by simp[n6]) a (lT f),g]
 ·have:i=xs.length:=by simp at hc;omega
  subst this;rw[j7 (by simp[n6]),lF,tP,je];exact cq (cy _ _ _) (ec (I b))
def asked(xs:aO)(lack:Int)(ys:aO):aO:=if ys.length<=xs.length then spread lack ys++List.replicate (xs.length-ys.length) 0 else xs
def aan(hr:bF B H q (iv .i64 ys))(hl:l=ys.length)(j:xs.length<=64)(a:-9223372036854775808<=lack)(d:lack<=9223372036854775807)(I:T B (e2 b (asked xs lack ys)::H) (K (.int .i64 (if ys.length<=xs.length then 0 else 2)))):T B (e2 b xs::H) (ab P 302 #[pz b,.int .i64 lack,.slice q l c] K):=by
 subst hl;refine wG λw=>an (SI _ _ _ _ _) ?_;simp only[cT,aQ]
 refine gm (λvs H'=>vs=[]/\cl b #[.slice (some ⟨w,0,none⟩) xs.length xs.length]::cl w (iv .i64 xs).toArray::H=H'/\ys.length<=xs.length) ?_ λR f=>gm (λvs H'=>vs=[.bool false]/\cl b #[.slice (some ⟨w,0,none⟩) xs.length xs.length]::cl w (iv .i64 xs).toArray::H=H') ?_ λm g=>aD rfl (bW rfl (g _ _ ⟨rfl,rfl⟩))
 rotate_left
 ·rintro vs H' ⟨rfl,rfl⟩
  simp only[kM,fu];intro b heq;simp only[ly,Value.bool.injEq,kK]at heq;subst heq;refine aD rfl (bW rfl (cH (λh=>?_) λh=>f _ _ ⟨rfl,rfl,by simp at h;omega⟩));have h:¬ys.length<=xs.length:=by simp at h;omega
  rw[asked,ak h,ak h]at I;exact sr w I
 rintro vs H' ⟨rfl,rfl,hle⟩;rw[asked,ah hle,ah hle]at I;simp only[fu];intro _;refine bW rfl (zg (b:=w) (o:=0) (cs:=(iv .i64 xs).toArray) (H':=λds=>cl b #[.slice (some ⟨w,0,none⟩) xs.length xs.length]::cl w ds::H) (t0:=31) (elem:=3) (s:=1) rfl (by kernel_rfl) (by kernel_rfl) (by rw[mj];rfl) ?_ (by simp) (dU rfl (bW rfl ?_)))
 ·rw[mj,yK]
  intro v i;rw[lz i];rfl
 rw[mj,yK,kz _ _ _ (by simp),r5,kI,oe (by simp),je];refine aar hr.tail.tail rfl (by omega) a d λk=>?_;simp only[sk]
 refine nr rfl (t' (b:=w) (o:=0) (H':=λds=>cl k (iv .i64 (spread lack ys)).toArray::cl b #[.slice (some ⟨w,0,none⟩) xs.length xs.length]::cl w ds::H) (s:=1) (t0:=31) (elem:=3) (ys:=iv .i64 (spread lack ys)) rfl (by kernel_rfl) (by kernel_rfl) (by kernel_rfl)
  (Xx rfl) ?_ (U1 _ _) ?_ ?_)
 ·have:Nat.min ys.length xs.length=ys.length:=qJ hle
  rw[this];simp[n6]
 ·have:Nat.min ys.length xs.length=ys.length:=qJ hle
  rw[this];simp;omega
 simp only[gq];rw[kz _ _ _ (by simp[n6];omega)];apply ec
 have e:List.take 0 (List.replicate xs.length (Value.int .i64 0))++(iv .i64 (spread lack ys)++List.drop (0+(iv .i64 (spread lack ys)).length) (List.replicate xs.length (Value.int .i64 0)))=
   iv .i64 (spread lack ys++List.replicate (xs.length-ys.length) 0):=by
  simp[iv,n6]
 rw[e];have:=sr w I;have hlen:(spread lack ys++List.replicate (xs.length-ys.length) (0:Int)).length=xs.length:=by simp[n6];omega
 rw[hlen]at this;exact this
def u5(x n:Int):Int:=if 0>x-n then 0 else x-n
def rF(xs:aO)(i n:Int):Prop:=0<=i/\i<(xs.length:Int)/\0<=n
instance (xs:aO)(i n:Int):Decidable (rF xs i n):=by unfold rF;exact inferInstance
def aaq{i n:Int}(a:¬rF xs i n)(I:T B (e2 b xs::H) (K (.int .i64 2))):T B (e2 b xs::H) (ab P 293 #[pz b,.int .i64 i,.int .i64 n] K):=by refine wG λw=>?_;have I:=sr w I;apply an (D' _ _ _);simp only[cT,aQ];refine gm (λ_ _=>False) (λ_ _ h=>h.elim) λR e=>gm (λvs H'=>vs=[.bool false]/\cl b #[.slice (some ⟨w,0,none⟩) xs.length xs.length]::cl w (iv .i64 xs).toArray::H=H') ?_ λf c=>aD rfl (bW rfl (c _ _ ⟨rfl,rfl⟩));rintro vs H' ⟨rfl,rfl⟩;simp only[kM,fu];intro b heq;simp only[ly,Value.bool.injEq,kK]at heq;subst heq;refine aD rfl (cH (λ_=>I) λU=>bW rfl (cH (λ_=>I) λd=>bk ?_ I));simp[rF]at U d a⊢;exact a (by omega) (by omega)
def aap{i:Nat}{n x:Int}(a:xs[i]?=some x)(f:0<=n)(g:n<=9223372036854775807)(h0:0<=x)(U:x<=9223372036854775807)(I:T B (e2 b (xs.set i (u5 x n))::H) (K (.int .i64 0))):T B (e2 b xs::H) (ab P 293 #[pz b,.int .i64 (i:Int),.int .i64 n] K):=by
 have hi:i<xs.length:=(b0.1 a).1;refine wG λw=>?_;have I:=sr w I;apply an (D' _ _ _);simp only[cT,aQ];refine gm (λvs H'=>vs=[]/\cl b #[.slice (some ⟨w,0,none⟩) xs.length xs.length]::cl w (iv .i64 xs).toArray::H=H') ?_ λR c=>gm (λvs H'=>vs=[.bool false]/\cl b #[.slice (some ⟨w,0,none⟩) xs.length xs.length]::cl w (iv .i64 xs).toArray::H=H') ?_ λh d=>aD rfl (bW rfl (d _ _ ⟨rfl,rfl⟩))
 ·rintro vs H' ⟨rfl,rfl⟩
  simp only[fu];intro _;refine bW rfl (bW rfl (oC rfl hi (by rw[dY,bJ];exact lT a) (oD rfl hi (by simp;omega) rfl ?_)));rw[bd (by omega)];simp only[bJ,jI];have e:(iv .i64 xs).set i (Value.int .i64 (if 0>x-n then 0 else x-n))=iv .i64 (xs.set i (u5 x n)):=by simp[iv,u5,jh]
  rw[e];simpa using I
 ·rintro vs H' ⟨rfl,rfl⟩
  simp only[kM,fu];intro b heq;simp only[ly,Value.bool.injEq,kK]at heq;subst heq;exact aD rfl (aD (by simp) (bW rfl (aD (by simp;omega) (aD (by simp;omega) (c _ _ ⟨rfl,rfl⟩)))))
def vE(xs:aO)(i:Int):Int:=if 0<=i then xs.getD i.toNat 0 else 0
def aas{i:Int}(I:T B (e2 b xs::H) (K (.int .i64 (vE xs i)))):T B (e2 b xs::H) (ab P 311 #[pz b,.int .i64 i] K):=by
 refine wG λw=>?_;have I:=sr w I;apply an (SJ _ _);simp only[cT,aQ];refine gm (λvs H'=>vs=[]/\cl b #[.slice (some ⟨w,0,none⟩) xs.length xs.length]::cl w (iv .i64 xs).toArray::H=H'/\0<=i/\i<(xs.length:Int)) ?_ λR c=>aD rfl (cH (λh=>dN I ?_) λh=>bW rfl (cH (λa=>dN I ?_) λa=>c _ _ ⟨rfl,rfl,?_,?_⟩))
 ·rintro vs H' ⟨rfl,rfl,h0,U⟩
  simp only[fu];intro _;obtain⟨j,rfl⟩:∃j:Nat,i=(j:Int):=⟨i.toNat,by omega⟩;obtain⟨z,hz⟩:∃z,xs[j]?=some z:=⟨_,ba (by omega)⟩;refine bW rfl (oC rfl (by omega) (by rw[dY,bJ];exact lT hz) (dN I ?_));simp[vE,List.getD,hz]
 ·have:¬0<=i:=by simp at h;omega
  rw[vE,ak this]
 ·have:(xs.length:Int)<=i:=by simpa using a
  rw[vE,ah (by omega),List.getD,jg (by omega)];rfl
 ·simp at h;omega
 ·simp at a;omega
end
end
section
open Go.XS
structure Tk where
 id:Int
 aM:Int
 count:Int
 state:Int
 b1:Int
def fa(t:Tk):ax:=#[.int .i64 t.id,.int .i64 t.aM,.int .i64 t.count,.int .i64 t.state,.int .i64 t.b1]
def dD:Tk:=⟨0,0,0,0,0⟩
def right(t:Tk):Bool:=decide (t.id>=1/\0<=t.aM/\t.aM<64/\1<=t.count/\t.count<=1048576/\(t.state=1\/t.state=2\/t.state=3)/\0<=t.b1)
def check(t:Tk):Int:=if right t then(if t.state=1 then 0 else 13)else 2
def c8(t:Tk)(s:Int):Tk:=if check t=0 then{t with state:=s}else dD
def j3(t:Tk):Tk:=if check t=0 then(if t.b1>=1099511627776 then dD else{t with b1:=t.b1+1})else dD
def kx(t:Tk):Int:=if check t=0 then(if t.b1>=1099511627776 then 6 else 0)else check t
def iA(a b c:Int):Tk:=⟨a,b,c,1,0⟩
def nN(a b c:Int):Tk:=if right (iA a b c)then iA a b c else dD
def oY(a b c:Int):Int:=if right (iA a b c)then 0 else 2
def mX(t:Tk)(e:Int):Value:= .tuple #[.agg (fa t),.int .i64 e]
section
variable {B:Heap}{H:au}{K:aK}
def nQ(t:Tk):∀v∈(fa t).toList,v.oneCell'=true:=by simp[fa,Value.oneCell']
def B5{n lo hi:Int}(I:T B H (K (.bool (decide (lo<=n/\n<=hi))))):T B H (ab P 400 #[.int .i64 n,.int .i64 lo,.int .i64 hi] K):=by
 refine an (Ss _ _ _) (cH (λh=>dN I ?_) λh=>dN I ?_)
 ·have:lo<=n:=by simpa using h
  simp[this]
 ·have:¬lo<=n:=by simpa using h
  simp[this]
def B4{t:Tk}(I:T B H (K (.bool (right t)))):T B H (ab P 347 #[.agg (fa t)] K):=by
 refine an (Sn _) (el λk=>?_);simp only[aQ];have a:=ec (q:=cl k (fa t)) I;refine a1 rfl (cH (λU=>a1 rfl (cH (λb=>a1 rfl (B5 ?_)) λb=>dN a ?_)) λU=>dN a ?_)
 ·simp only[fv]
  refine cH (λc=>a1 rfl (B5 ?_)) λc=>dN a ?_
  ·simp only[fv]
   refine cH (λd=>a1 rfl (B5 ?_)) λd=>dN a ?_
   ·simp only[fv]
    apply dN a;simp only[bz]at U b c d;simp only[right,Value.bool.injEq,hZ];omega
   ·simp only[bz,fN]at U b c d
    simp only[right,Value.bool.injEq,fN];omega
  ·simp only[bz,fN]at U b c
   simp only[right,Value.bool.injEq,fN];omega
 ·simp only[bz,fN]at U b
  simp only[right,Value.bool.injEq,fN];omega
 ·simp only[bz,fN]at U
  simp only[right,Value.bool.injEq,fN];omega
def XQ{t:Tk}(I:T B H (K (.bool (right t)))):T B H (ab P 51 #[.agg (fa t)] K):=by
 refine an (PX _) (el λk=>?_);simp only[aQ];have l:=ec (q:=cl k (fa t)) I
 have a:¬(t.id>=1/\0<=t.aM/\t.aM<64/\1<=t.count/\t.count<=1048576/\(t.state=1\/t.state=2\/t.state=3))->T B (cl k (fa t)::H) (K (.bool false)):=by intro h;apply dN l;simp only[right,Value.bool.injEq,fN];omega
 have b:t.id>=1/\0<=t.aM/\t.aM<64/\1<=t.count/\t.count<=1048576/\(t.state=1\/t.state=2\/t.state=3)->T B (cl k (fa t)::H) (K (.bool (decide (t.b1>=0)))):=by intro h;apply dN l;simp only[right,Value.bool.injEq,hZ];omega
 refine a1 rfl (cH (λU=>?_) λU=>a ?_)
 ·refine a1 rfl (cH (λc=>?_) λc=>a ?_)
  ·refine a1 rfl (cH (λd=>?_) λd=>a ?_)
   ·refine a1 rfl (cH (λe=>?_) λe=>a ?_)
    ·refine a1 rfl (cH (λf=>?_) λf=>a ?_)
     ·simp only[bz]at U c d e f
      refine a1 rfl (cH (λg=>a1 rfl (b ?_)) λg=>?_)
      ·simp only[gB]at g
       omega
      refine a1 rfl (cH (λi=>a1 rfl (b ?_)) λi=>?_)
      ·simp only[gB]at i
       omega
      refine a1 rfl (cH (λj=>a1 rfl (b ?_)) λj=>a ?_)
      ·simp only[gB]at j
       omega
      ·simp only[r7,ne_eq]at g i j
       omega
     ·simp only[fN]at f
      omega
    ·simp only[fN]at e
     omega
   ·simp only[fN]at d
    omega
  ·simp only[fN]at c
   omega
 ·simp only[fN]at U
  omega
def HZ{t:Tk}(I:T B H (K (.int .i64 (check t)))):T B H (ab P 374 #[.agg (fa t)] K):=by
 refine an (Sq _) (el λk=>?_);simp only[aQ];have a:=ec (q:=cl k (fa t)) I;refine bI rfl (B4 ?_);simp only[fv];cases hr:right t
 ·exact bk rfl (dN a (by simp[check,hr]))
 ·refine aD rfl (a1 rfl (cH (λh=>dN a ?_) λh=>dN a ?_))
  ·have:¬t.state=1:=by simpa using h
   simp[check,hr,this]
  ·have:t.state=1:=by simpa using h
   simp[check,hr,this]
def H3{t:Tk}{s:Int}(I:T B H (K (mX (c8 t s) (check t)))):T B H (ab P 351 #[.agg (fa t),.int .i64 s] K):=by
 refine an (Sr _ _) (el λk=>el λb=>?_);simp only[aQ];refine bI rfl (HZ ?_);simp only[gq];refine cH (λh=>?_) (λh=>?_)
 ·have a:¬check t=0:=by simpa using h
  refine hj rfl rfl (nQ dD) (bI rfl ?_);refine ec (ec (dN I ?_));simp[c8,a,mX,fa,dD]
 ·have a:check t=0:=by simpa using h
  refine eB (by simp[fa]) rfl (bI rfl ?_);refine hj rfl rfl (nQ {t with state:=s}) (bI rfl ?_);refine ec (ec (dN I ?_));simp[c8,a,mX,fa]
def aac{t:Tk}(I:T B H (K (mX (c8 t 2) (check t)))):T B H (ab P 380 #[.agg (fa t)] K):=by refine an (Sk _) (el λk=>el λa=>bI rfl (H3 (cp _ (cp _ (dU rfl ?_)))));refine hj rfl rfl (nQ _) (bI rfl ?_);exact ec (ec I)
def aab{t:Tk}(I:T B H (K (mX (c8 t 3) (check t)))):T B H (ab P 268 #[.agg (fa t)] K):=by refine an (Sj _) (el λk=>el λa=>bI rfl (H3 (cp _ (cp _ (dU rfl ?_)))));refine hj rfl rfl (nQ _) (bI rfl ?_);exact ec (ec I)
def Tn{t:Tk}(h:check t=0):0<=t.b1:=by
 unfold check at h;split at h
 ·rename_i hr
  simp only[right,bz]at hr;omega
 ·cases h
def aae{t:Tk}(I:T B H (K (mX (j3 t) (kx t)))):T B H (ab P 307 #[.agg (fa t)] K):=by
 refine an (Sm _) (el λk=>el λd=>?_);simp only[aQ];refine bI rfl (HZ ?_);simp only[gq];refine cH (λh=>?_) (λh=>a1 rfl (cH (λb=>?_) λb=>?_))
 ·have a:¬check t=0:=by simpa using h
  refine hj rfl rfl (nQ dD) (bI rfl ?_);refine ec (ec (dN I ?_));simp[j3,kx,a,mX,fa,dD]
 ·have a:check t=0:=by simpa using h
  have c:t.b1>=1099511627776:=by simpa using b
  refine hj rfl rfl (nQ dD) (bI rfl ?_);refine ec (ec (dN I ?_));simp[j3,kx,a,c,mX,fa,dD]
 ·have a:check t=0:=by simpa using h
  have c:¬t.b1>=1099511627776:=by simpa using b
  have e:=Tn a;refine a1 rfl (eB (by simp[fa]) rfl (bI rfl ?_));rw[bd (by omega)];refine hj rfl rfl (nQ {t with b1:=t.b1+1}) (bI rfl ?_);refine ec (ec (dN I ?_));simp[j3,kx,a,c,mX,fa]
def aad{a b c:Int}(I:T B H (K (mX (nN a b c) (oY a b c)))):T B H (ab P 263 #[.int .i64 a,.int .i64 b,.int .i64 c] K):=by
 apply an (Sl _ _ _);refine el λk=>el λd=>?_;refine hj (cs:=fa dD) rfl rfl (nQ (iA a b c)) (bI rfl (B4 (t:=iA a b c) ?_));simp only[fv];cases hr:right (iA a b c)
 ·refine bk rfl (hj (cs:=fa dD) rfl rfl (nQ dD) (bI rfl ?_))
  refine ec (ec (dN I ?_));simp[nN,oY,hr,mX,fa,dD]
 ·refine aD rfl (bI rfl (hj (cs:=fa dD) rfl rfl (nQ (iA a b c)) (bI rfl ?_)))
  refine ec (ec (dN I ?_));rw[nN,oY,ah hr,ah hr];rfl
end
end
section
open Go.XS
def bN(d:List UInt8)(a:Nat)(xs:List UInt8):List UInt8:=d.take a++(xs++d.drop (a+xs.length))
def tv{d xs:List UInt8}{a:Nat}(h:a+xs.length<=d.length):(bN d a xs).length=d.length:=by simp[bN];omega
def Cc{d xs:List UInt8}{a:Nat}(h:a+xs.length<=d.length)(p:Nat):(bN d a xs)[p]?=if a<=p/\p<a+xs.length then xs[p-a]? else d[p]?:=by
 unfold bN;by_cases U:p<a
 ·rw[hb (by simp;omega),ak (by omega),oi,ah U]
 ·rw[iI (by simp;omega)]
  simp only[ff];rw[show p-min a d.length=p-a by omega];by_cases b:p<a+xs.length
  ·rw[hb (by omega),ah (by omega)]
  ·rw[iI (by omega),ak (by omega),qG]
   congr 1;omega
def aaz(d:List UInt8)(a:Nat):bN d a []=d:=by simp[bN]
def yv{d xs:List UInt8}{a:Nat}(h:a+xs.length<=d.length)(p:Nat):(bN d a xs).getD p 0=if a<=p/\p<a+xs.length then xs.getD (p-a) 0 else d.getD p 0:=by simp only[List.getD,Cc h];split<;>rfl
def row(d:List UInt8)(k:Nat):List UInt8:=(List.range 64).map λj=>d.getD (64*k+j) 0
@[simp] theorem acU (d:List UInt8) (k:Nat):(row d k).length=64:=by simp[row]
theorem ti{d:List UInt8}{k j:Nat}(h:j<64):(row d k)[j]?=some (d.getD (64*k+j) 0):=by simp[row,h]
def z'{a b:List UInt8}(ha:a.length=64)(d:b.length=64)(h:∀j,j<64->a[j]?=b[j]?):a=b:=by
 apply jf;intro j;by_cases c:j<64
 ·exact h j c
 ·rw[jg (by omega),jg (by omega)]
def Yn{d src:List UInt8}{a i m c b:Nat}(h:a+src.length<=d.length)(hi:i+m<=src.length)(n:a+i=64*c+b)(I:b+m<=64):row (bN d a (src.take (i+m))) c=bN (row (bN d a (src.take i)) c) b ((src.drop i).take m):=by
 have k:(src.take (i+m)).length=i+m:=by simp;omega
 have l:(src.take i).length=i:=by simp;omega
 have e:((src.drop i).take m).length=m:=by simp;omega
 refine z' (by simp) (by rw[tv (by rw[e];simp;omega)];simp) λj f=>?_;rw[ti f,Cc (by rw[e];simp;omega),ti f,yv (by omega),yv (by omega),k,l,e];by_cases U:b<=j/\j<b+m
 ·rw[ah U,ah (by omega),oi,ah (by omega),qG]
  have:i+(j-b)<src.length:=by omega
  rw[ba this];simp only[List.getD,oi];rw[ah (by omega),show 64*c+j-a=i+(j-b) by omega,ba this];rfl
 ·rw[ak U]
  congr 1;by_cases g:a<=64*c+j/\64*c+j<a+i
  ·rw[ah g,ah (by omega)]
   simp only[List.getD,oi];rw[ah (by omega),ah (by omega)]
  ·rw[ak g,ak (by omega)]
def Yl{d src:List UInt8}{a i m c b j:Nat}(h:a+src.length<=d.length)(hi:i+m<=src.length)(n:a+i=64*c+b)(I:b+m<=64)(o:b<64)(g:j≠c):row (bN d a (src.take (i+m))) j=row (bN d a (src.take i)) j:=by
 have k:(src.take (i+m)).length=i+m:=by simp;omega
 have l:(src.take i).length=i:=by simp;omega
 refine z' (by simp) (by simp) λt e=>?_;rw[ti e,ti e,yv (by omega),yv (by omega),k,l];congr 1;by_cases f:a<=64*j+t/\64*j+t<a+i
 ·rw[ah f,ah (by omega)]
  simp only[List.getD,oi];rw[ah (by omega),ah (by omega)]
 ·rw[ak f,ak (by rcases Nat.lt_or_gt_of_ne g with h|h<;>omega)]
def Ym{d:List UInt8}{p m c b:Nat}(e:p=64*c+b)(I:b+m<=64)(hm:p+m<=d.length):(d.drop p).take m=((row d c).drop b).take m:=by
 apply jf;intro j;simp only[oi,qG];by_cases a:j<m
 ·rw[ah a,ah a,ti (by omega),ba (by omega)]
  simp only[List.getD];rw[ba (by omega)];simp only[fC];congr 2;omega
 ·rw[ak a,ak a]
def ie:List UInt8:=List.replicate 64 0
def fy(d:List UInt8):Int->Option Value:=λk=>if 0<=k/\row d k.toNat≠ie then some (.agg (bv (row d k.toNat)).toArray)else none
def w7(d:List UInt8)(k:Nat):fy d (k:Int)=if row d k≠ie then some (.agg (bv (row d k)).toArray)else none:=by simp[fy]
def Fb{d src:List UInt8}{a i m b c:Nat}(h:a+src.length<=d.length)(hi:i+m<=src.length)(f:a+i=64*b+c)(I:c+m<=64)(g:c<64){v:Option Value}(k:v=fy (bN d a (src.take (i+m))) (b:Int)):(λj=>if j=(b:Int)then v else fy (bN d a (src.take i)) j)=fy (bN d a (src.take (i+m))):=by
 funext j;by_cases e:j=(b:Int)
 ·subst e;simp[k]
 ·rw[ak e]
  unfold fy;by_cases h0:0<=j
  ·rw[Yl h hi f I g (by omega)]
  ·simp[h0]
def HF{r xs:List UInt8}{k:Nat}(h:k+xs.length<=r.length):eH (bv r).toArray k (bv xs)=(bv (bN r k xs)).toArray:=by rw[kz _ _ _ (by simpa using h)];simp[bN,bv]
def bw(d:List UInt8):Nat:=d.countP (·!=0)
def zT(a b:List UInt8):bw (a++b)=bw a+bw b:=by simp[bw]
def Ep(n:Nat):bw (List.replicate n 0)=0:=by simp[bw,IF]
def Yk(d:List UInt8)(k:Nat):∃z,row d k=(d.drop (64*k)).take 64++List.replicate z 0:=by
 refine⟨64-((d.drop (64*k)).take 64).length,?_⟩;have hl:((d.drop (64*k)).take 64).length<=64:=by simp;omega
 refine z' (by simp) (by simp only[cr,jG];omega) λj a=>?_;rw[ti a];by_cases h:j<((d.drop (64*k)).take 64).length
 ·rw[hb h,oi,ah a,qG]
  simp only[ff,lB]at h;rw[ba (by omega)];simp only[List.getD];rw[ba (by omega)];rfl
 ·rw[iI (by omega),r0,ah (by omega)]
  simp only[ff,lB]at h;simp only[List.getD];rw[jg (by omega)];rfl
def zU(d:List UInt8)(k:Nat):bw (row d k)=bw ((d.drop (64*k)).take 64):=by obtain⟨z,h⟩:=Yk d k;rw[h,zT,Ep,mx]
def Eo(d:List UInt8):∀R,((List.range R).map λk=>bw (row d k)).sum=bw (d.take (64*R))
 |0=>rfl
 |R+1=>by rw[List.range_succ,e6,vW,Eo d R,show 64*(R+1)=64*R+64 by omega,List.take_add,zT];simp[zU]
def zV{d:List UInt8}:bw d=0↔∀x∈d,x=0:=by simp[bw,vM]
def BA{d:List UInt8}{k:Nat}:row d k=ie↔bw (row d k)=0:=by
 rw[zV];constructor
 ·intro h x a;rw[h]at a;exact lz a
 ·intro h;exact List.eq_replicate_of_mem h|>.trans (by simp[ie])
def Z6{a b:List Nat}(h:a.Perm b):a.sum=b.sum:=by
 induction h with
 |nil=>rfl
 |cons x _ c=>simp[c]
 |swap x y l=>simp only[jK];omega
 |trans _ _ U d=>exact U.trans d
def HS(f:Nat->Nat)(q:Nat->Bool):∀(l:List Nat),(∀x∈l,q x=false->f x=0)->((l.filter q).map f).sum=(l.map f).sum
 |[],_=>rfl
 |x::l,h=>by
  have b:=HS f q l (λy c=>h y (by simp[c]));cases a:q x
  ·rw[mq (by simp[a]),c4,jK,h x (by simp) a,b];omega
  ·rw[mr a,c4,jK,c4,jK,b]
def Ts{d:List UInt8}{ks:aO}(U:∀k v,fy d k=some v->k∈ks)(f:∀k,k∈ks->∃v,fy d k=some v)(g:ks.Nodup):(ks.map λk=>bw (row d k.toNat)).sum=bw d:=by
 let R:=d.length/64+1
 have I:∀k,k∈ks↔0<=k/\row d k.toNat≠ie:=by
  intro k;constructor
  ·intro h
   obtain⟨v,b⟩:=f k h;unfold fy at b;split at b
   ·assumption
   ·cases b
  ·intro h
   exact U k _ (by unfold fy;rw[ah h])
 have i:∀k,row d k≠ie->k<R:=by
  intro k h;rcases vZ k R with c|c
  ·exact c
  ·exfalso
   apply h;rw[BA,zU,oe (by simp only[R]at c;omega)];rfl
 have j:ks.Perm (((List.range R).filter λk=>decide (row d k≠ie)).map λk:Nat=>(k:Int)):=by
  refine(y5 g ?_).2 λk=>?_
  ·exact lD.2 ((List.nodup_range.filter _).imp λh=>by omega)
  ·rw[I]
   simp only[bQ,pB,om,bz];constructor
   ·rintro⟨m,a⟩
    exact⟨k.toNat,⟨i _ a,a⟩,by omega⟩
   ·rintro⟨n,⟨_,a⟩,rfl⟩
    exact⟨by omega,by simpa using a⟩
 rw[Z6 (j.map _),nj];have e:((λk:Int=>bw (row d k.toNat))∘λk:Nat=>(k:Int))=λk=>bw (row d k):=by funext k;simp
 rw[e,HS,Eo,j7 (by simp only[R];omega)];intro x _ l;exact BA.1 (by simpa using l)
def Tp{d:List UInt8}:(∀k,fy d k=none)↔bw d=0:=by
 constructor
 ·intro h
  have:=Ts (d:=d) (ks:=[]) (λk v a=>by rw[h k]at a;cases a) (by simp) (by simp);exact this.symm
 ·intro h k
  have hz:=zV.1 h;unfold fy;rw[ak];rintro⟨h0,U⟩;apply U;rw[BA,zU,zV];intro x b;exact hz x (tM (kH b))
end
section
open Go.XS
def yI:zc P 533=(bv ie).toArray:=by kernel_rfl
def yJ:zc P 5=#[.int .u8 0]:=by kernel_rfl
def Tb:P.cellsOf 5=1:=by kernel_rfl
def K6:P.bytesOf 5=1:=by kernel_rfl
def jS(r:Nat)(d:List UInt8):ax:=#[.map (some r),.int .i64 (d.length:Int)]
def ey(b:Nat)(d:List UInt8):bg:=fk (1<=d.length/\d.length<=1048576)<|eK λr:Nat=>eG [cl b (jS r d),IM r (fy d)]
section
variable {B:Heap}{H:au}{K:aK}{b r:Nat}{d src:List UInt8}
def um{p:HP}(t:1<=d.length->d.length<=1048576->∀r,T B (cl b (jS r d)::IM r (fy d)::H) p):T B (ey b d::H) p:=gD λ⟨U,a⟩=>gn λr=>lJ (t U a r)
def uk{p:HP}(U:1<=d.length)(a:d.length<=1048576)(t:T B (ey b d::H) p):T B (cl b (jS r d)::IM r (fy d)::H) p:=jQ (Hs:=[cl b (jS r d),IM r (fy d)]) (gI (q:=λr=>eG [cl b (jS r d),IM r (fy d)]) r (h4 ⟨U,a⟩ t))
def zF{p:HP}(t:1<=d.length->d.length<=1048576->T B (ey b d::H) p):T B (ey b d::H) p:=gD λh=>h4 h (t h.1 h.2)
def Uy(n:Nat):fy (List.replicate n 0)=λ_=>none:=by funext k;exact(Tp.2 (Ep n)) k
def Lb{n:Nat}(h0:1<=n)(U:n<=1048576)(I:∀b,T B (ey b (List.replicate n 0)::H) (K (pz b))):T B H (ab P 377 #[.int .i64 (n:Int)] K):=by apply an (Mu _);refine aD (by simp;omega) (aD (by simp;omega) (zm λr=>el λb=>?_));have:=uk (r:=r) (by simpa using h0) (by simpa using U) (I b);rw[Uy]at this;simpa[jS]using this
def within(len:Nat)(a n:Int):Prop:=0<=a/\0<=n/\a+n<=(len:Int)
instance (len:Nat)(a n:Int):Decidable (within len a n):=by unfold within;exact inferInstance
def iu(len:Nat)(a n:Int):Int:=if within len a n then 0 else 15
def abC{a n:Int}(I:T B H (K (.int .i64 16))):T B H (ab P 362 #[.pointer none,.int .i64 a,.int .i64 n] K):=by refine an (D3 _ _ _) (gm (λvs H'=>vs=[.bool true]/\H=H') ?_ λR c=>bk rfl (c _ _ ⟨rfl,rfl⟩));rintro vs H' ⟨rfl,rfl⟩;simp only[kM,fu];intro b heq;simp only[ly,Value.bool.injEq,kK]at heq;subst heq;exact bk rfl I
def zG{a n:Int}(I:T B (ey b d::H) (K (.int .i64 (iu d.length a n)))):T B (ey b d::H) (ab P 362 #[pz b,.int .i64 a,.int .i64 n] K):=by
 refine um λU g r=>?_;have I:=uk (r:=r) U g I;apply an (D3 _ _ _);simp only[cT,aQ];refine gm (λvs H'=>vs=[.bool false]/\cl b (jS r d)::IM r (fy d)::H=H') ?_ λR i=>aD rfl (pJ rfl (i _ _ ⟨rfl,rfl⟩));rintro vs H' ⟨rfl,rfl⟩;simp only[kM,fu];intro b heq;simp only[ly,Value.bool.injEq,kK]at heq;subst heq;refine aD rfl (cH (λh=>dN I ?_) λc=>cH (λh=>dN I ?_) λe=>a1 rfl (cH (λh=>dN I ?_) λf=>a1 rfl (cH (λh=>dN I ?_) λh=>dN I ?_)))
 ·have h:a<0:=by simpa using h
  rw[iu,ak (by unfold within;omega)]
 ·have h:n<0:=by simpa using h
  rw[iu,ak (by unfold within;omega)]
 ·have c:0<=a:=by simpa using c
  have e:0<=n:=by simpa using e
  have h:a>(d.length:Int):=by simpa using h
  rw[iu,ak (by unfold within;omega)]
 ·have c:0<=a:=by simpa using c
  have f:a<=(d.length:Int):=by simpa using f
  rw[bd (by omega)]at h;have h:n>(d.length:Int)-a:=by simpa using h
  rw[iu,ak (by unfold within;omega)]
 ·have c:0<=a:=by simpa using c
  have e:0<=n:=by simpa using e
  have f:a<=(d.length:Int):=by simpa using f
  rw[bd (by omega)]at h;have h:n<=(d.length:Int)-a:=by simpa using h
  rw[iu,ah (by unfold within;omega)]
def abi{z:Value}(h:z.cells=zc P 533):z= .agg (bv ie).toArray:=by rw[yI]at h;exact Tf h (by simp[ie])
def He{k:Nat}(I:T B (IM r (fy d)::H) (K (.agg (bv (row d k)).toArray))):T B (IM r (fy d)::H) (aI P (Instr.lookup 534 (.map (some r)) (.int .i64 (k:Int)) false) K):=by
 refine JG (kt:=3) (et:=533) (by kernel_rfl) (by kernel_rfl) (by kernel_rfl) (λz a hz=>?_) λv a=>?_
 ·rw[w7]at a
  split at a
  ·cases a
  ·rename_i h
   have h:row d k=ie:=by simpa using h
   rw[abi hz,<-h];exact I
 ·rw[w7]at a
  split at a
  ·cases a;exact I
  ·cases a
def EA{a i:Nat}(h:a+i<=2000000):IntKind.wrap .i64 ((a:Int)+(i:Int))=((a+i:Nat):Int)/\IntKind.wrap .i64 (Int.tdiv ((a+i:Nat):Int) 64)=(((a+i)/64:Nat):Int)/\Int.tmod ((a+i:Nat):Int) 64=(((a+i)%64:Nat):Int):=by
 refine⟨?_,?_,?_⟩
 ·rw[bd (by omega)];omega
 ·rw[CF (by omega),bd (by omega)];omega
 ·rw[yS (by omega)];omega
def D1{a:Nat}{g3:Nat}{ca3:ax}(l:a+src.length<=d.length)(hd:d.length<=1048576)(z:∀(p1 p2:bg) (k o m c i:Nat) (cells:aB) (s:aK),o+m<=cells.length->i+m<=src.length->T B (cl k (eH cells.toArray o (bv ((src.drop i).take m)))::p1::p2::H) (s (.tuple #[]))->T B (cl k cells.toArray::p1::p2::H) (kj P g3 (Array.mk ([.slice (some ⟨k,o,none⟩) m c,.int .i64 (i:Int)]++ca3.toList)) s))(I:T B (cl b (jS r d)::IM r (fy (bN d a src))::H) (K (.tuple #[]))):T B (cl b (jS r d)::IM r (fy d)::H) (ab P 363 #[pz b,.int .i64 (a:Int),.int .i64 (src.length:Int),.func (.func g3) #[] ca3] K):=by
 apply an (Mt _ _ _ _ _);simp only[cT,aQ]
 refine se (λvs H'=>∃i:Nat,i<=src.length/\vs=[.int .i64 (i:Int)]/\cl b (jS r d)::IM r (fy (bN d a (src.take i)))::H=H')
  (λvs=>match vs with|[.int _ i]=>src.length-i.toNat|_=>0) ⟨0,qK _,rfl,by rw[r5,aaz]⟩ ?_
 rintro vs H' R ⟨i,hi,rfl,rfl⟩ A;simp only[kM,fu];intro Q heq;simp only[ly,Value.int.injEq,nk,kK]at heq;subst heq;refine cH (λhc=>?_) (λhc=>?_)
 rotate_left
 ·have:i=src.length:=by simp at hc;omega
  subst this;rw[j7 (d' _)]at*;exact I
 have S:i<src.length:=by simpa using hc
 obtain⟨C,w2,D⟩:=EA (a:=a) (i:=i) (by omega);generalize U:(a+i)/64=g at*;generalize V:(a+i)%64=f at*;have p:a+i=64*g+f:=by omega
 have t:f<64:=by omega
 have E:IntKind.wrap .i64 ((src.length:Int)-(i:Int))=((src.length-i:Nat):Int):=by rw[bd (by omega)];omega
 have F:IntKind.wrap .i64 ((64:Int)-(f:Int))=((64-f:Nat):Int):=by rw[bd (by omega)];omega
 let m:Nat:=if src.length-i<64-f then src.length-i else 64-f
 have G:(if((src.length-i:Nat):Int)<((64-f:Nat):Int)then((src.length-i:Nat):Int)else((64-f:Nat):Int))=(m:Int):=by simp only[m];split<;>split<;>omega
 have j:i+m<=src.length:=by simp only[m];split<;>omega
 have q:f+m<=64:=by simp only[m];split<;>omega
 have W:0<m:=by simp only[m];split<;>omega
 have J:IntKind.wrap .i64 ((f:Int)+(m:Int))=((f+m:Nat):Int):=by rw[bd (by omega)];omega
 have L:IntKind.wrap .i64 ((i:Int)+(m:Int))=((i+m:Nat):Int):=by rw[bd (by omega)];omega
 simp only[C,w2,D,E,F,G,J,L,a7];refine bj (by decide) (bj (by decide) (pJ rfl ?_));refine cq (cy _ _ _) (He (cq (cy _ _ _) ?_));simp only[DI];have M:(bv (row (bN d a (src.take i)) g)).toArray.size=64:=by simp
 refine el λk=>hj M (by rw[yI];simp[ie]) (λv N=>zD _ v (by simpa using N)) (bj ⟨by omega,by omega⟩ (bj ⟨by omega,by omega⟩ ?_))
 have eD:lK ⟨k,0,none⟩ 1 f 64=⟨k,f,none⟩:=by unfold lK;rw[ak (by omega),aQ];simp
 rw[eD,show f+m-f=m by omega];refine z _ _ k f m (64-f) i _ _ (by simp;omega) j (dU rfl ?_);rw[HF (by simp;omega),<-Yn l j p q];apply bI (by simp);have hz:zc P 533=(iv .u8 (ie.map λb=>(b.toNat:Int))).toArray:=by rw[yI,zC]
 rw[hz];simp only[zC];apply Jx (n:=64) (e:=5) (k:= .u8) (by kernel_rfl) (by kernel_rfl) (by kernel_rfl) (by kernel_rfl) (by kernel_rfl) (by simp) (by simp[ie]);simp only[fv]
 have u:((row (bN d a (src.take (i+m))) g).map λb=>(b.toNat:Int))=(ie.map λb=>(b.toNat:Int))↔row (bN d a (src.take (i+m))) g=ie:=by refine⟨λh=>?_,λh=>by rw[h]⟩;exact List.map_inj_right (λx y X=>UInt8.toNat_inj.1 (by omega))|>.1 h
 have w:T B (cl b (jS r d)::IM r (fy (bN d a (src.take (i+m))))::H) (R [.int .i64 ((i+m:Nat):Int)]):=A _ _ ⟨i+m,j,rfl,rfl⟩ (by simp only[a7];omega)
 refine cH (λh=>?_) λh=>?_
 ·have h:row (bN d a (src.take (i+m))) g=ie:=u.1 (r8 h)
  refine pJ rfl (ec (cq (cy _ _ _) (Dm (et:=533) (by kernel_rfl) (by kernel_rfl) (dU rfl ?_))));rw[Fb l j p q t (by rw[w7,ak (by simpa using h)])];exact cq (cy _ _ _) w
 ·have h:¬row (bN d a (src.take (i+m))) g=ie:=λO=>of_decide_eq_false h (u.2 O)
  refine pJ rfl (bI (by simp) (ec (cq (cy _ _ _) (Ds (kt:=3) (et:=533) (by kernel_rfl) (by kernel_rfl) ?_))));rw[Fb l j p q t (by rw[w7,ah h,zC])];exact cq (cy _ _ _) w
end
end
section
open Go.XS
section
variable {B:Heap}{H:au}{K:aK}{b r:Nat}{d src:List UInt8}
def yz{len:Nat}{a n:Int}(h:within len a n):∃x y:Nat,a=(x:Int)/\n=(y:Int)/\x+y<=len:=by obtain⟨U,b,c⟩:=h;exact⟨a.toNat,n.toNat,by omega,by omega,by omega⟩
def DY{a:Nat}(c:a+src.length<=d.length){p:HP}(U:1<=d.length)(e:d.length<=1048576)(t:T B (ey b (bN d a src)::H) p):T B (cl b (jS r d)::IM r (fy (bN d a src))::H) p:=by
 have:=uk (b:=b) (r:=r) (d:=bN d a src) (H:=H) (by rw[tv c];exact U) (by rw[tv c];exact e) t
 rwa [jS,tv c]at this
def stored(d:List UInt8)(a:Int)(xs:List UInt8):List UInt8:=if within d.length a xs.length then bN d a.toNat xs else d
def Z4{a:Int}:(stored d a src).length=d.length:=by
 unfold stored;split
 ·rename_i h
  obtain⟨x,y,rfl,b,hl⟩:=yz h;exact tv (by simp only[a7];omega)
 ·rfl
def Lc{a:Int}(I:T B (ey b (stored d a src)::H) (K (.int .i64 (iu d.length a src.length)))):T B (ey b d::H) (ab P 297 #[pz b,.int .i64 a,.string ⟨src.toArray⟩] K):=by
 refine an (Mp _ _ _) (el λs=>iU rfl (cq (cy _ _ _) (zG ?_)));simp only[gq,sZ];by_cases hw:within d.length a src.length
 rotate_left
 ·rw[iu,ak hw]at*
  rw[stored,ak hw]at I;exact aD rfl (cq (cy _ _ _) (ec I))
 rw[iu,ah hw]at*;rw[stored,ah hw]at I;obtain⟨x,y,rfl,e,hl⟩:=yz hw;have e:y=src.length:=by omega
 subst e;refine bk rfl (iU rfl (um λU f r=>?_));rw[sZ];refine D1 hl f (λp1 p2 k o m c i cells j h hm t=>?_) (dU rfl (DY hl U f (cq (cy _ _ _) (ec I))));refine lI (by kernel_rfl) (an (Mq _ _ _ _ _) ?_);simp only[cT];refine iU rfl (bj ⟨by omega,by rw[sZ];omega⟩ ?_);rw[a7,sZ,Gx,j7 (d' _)];have g:Nat.min (src.drop i).length m=m:=Nat.min_eq_right (by simp;omega);refine Jq (b:=k) (o:=o) (cs:=cells.toArray) (H':=λds=>cl k ds::p1::p2::cl s #[.string ⟨src.toArray⟩]::H) (t0:=178) (elem:=5) rfl (by kernel_rfl) (by kernel_rfl) (by kernel_rfl) ?_ ?_
 ·rw[sZ,g];simpa using h
 ·rw[sZ,g,Gx,K']
  simp only[gq];simpa using t
def yx(d:List UInt8)(a n:Int):List UInt8:=if within d.length a n then bN d a.toNat (List.replicate n.toNat 0)else d
def Le{a n:Int}(I:T B (ey b (yx d a n)::H) (K (.int .i64 (iu d.length a n)))):T B (ey b d::H) (ab P 484 #[pz b,.int .i64 a,.int .i64 n] K):=by
 refine an (Mr _ _ _) (zG ?_);simp only[gq];by_cases hw:within d.length a n
 rotate_left
 ·rw[iu,ak hw]at*
  rw[yx,ak hw]at I;exact aD rfl I
 rw[iu,ah hw]at*;rw[yx,ah hw]at I;obtain⟨x,y,rfl,rfl,hl⟩:=yz hw;have f:x+(List.replicate y (0:UInt8)).length<=d.length:=by simpa using hl
 refine bk rfl (um λU g r=>?_)
 have:=D1 (B:=B) (H:=H) (b:=b) (r:=r) (d:=d) (src:=List.replicate y 0) (a:=x) (g3:=500) (ca3:=#[]) (K:=λh=>λj=>(h=Value.tuple #[])/\K (.int .i64 0) j) f g (λp1 p2 k o m c i cells q l hm t=>?_)
  (dU rfl (DY f U g I))
 ·rw[jG]at this
  exact this
 refine lI (by kernel_rfl) (an (Ms _ _ _ _) ?_);simp only[jG]at hm
 have e:bv (((List.replicate y (0:UInt8)).drop i).take m)=List.replicate m (.int .u8 0):=by simp[bv,qJ (show m<=y-i by omega)]
 rw[e]at t;refine zg (b:=k) (o:=o) (cs:=cells.toArray) (H':=λds=>cl k ds::p1::p2::H) (t0:=178) (elem:=5) (s:=1) rfl (by kernel_rfl) (by kernel_rfl) (by rw[yJ];rfl) ?_ ?_ (dU rfl ?_)
 ·rw[yJ,yK]
  intro v p;rw[lz p];rfl
 ·simpa using l
 ·rw[yJ,yK];exact t
def D0(I:T B (ey b d::H) (K (.int .i64 (d.length:Int)))):T B (ey b d::H) (ab P 481 #[pz b] K):=by refine um λU a r=>?_;have I:=uk (r:=r) U a I;apply an (Mo _);simp only[cT,aQ];exact aD rfl (a1 rfl I)
def abJ{cs:List UInt8}(hl:cs.length=64){n:Nat}(s:n<=100000000){R:aB->HP}{body:aB->(aB->HP)->HP}(f:body=λg=>λc=>λk=>∀b,∀a,(g=[Value.int IntKind.i64 b,Value.int IntKind.i64 a])->((ae (Decidable.decide (a<64)) (aR (((0:Int)<=a)/\(a<(↑(64:Nat):Int))) (lZ IntKind.u8 (bv cs).toArray (Int.toNat a) λm=>ae (m !=0) (c [Value.int IntKind.i64 (IntKind.wrap IntKind.i64 (b+1)),Value.int IntKind.i64 (IntKind.wrap IntKind.i64 (a+1))]) (c [Value.int IntKind.i64 b,Value.int IntKind.i64 (IntKind.wrap IntKind.i64 (a+1))]))) (R [Value.int IntKind.i64 b])) k))(I:T B H (R [.int .i64 ((n+bw cs:Nat):Int)])):T B H (bm body [.int .i64 (n:Int),.int .i64 0]):=by
 subst f
 refine se (λvs H'=>∃j:Nat,j<=64/\vs=[.int .i64 ((n+bw (cs.take j):Nat):Int),.int .i64 (j:Int)]/\H=H')
  (λvs=>match vs with|[_,.int _ i]=>64-i.toNat|_=>0) ⟨0,qK _,rfl,rfl⟩ ?_
 rintro vs H' t ⟨j,u,rfl,rfl⟩ d;simp only[kM,fu];intro b a heq;simp only[ly,Value.int.injEq,nk,kK]at heq;obtain⟨rfl,rfl⟩:=heq;refine cH (λhc=>?_) (λhc=>?_)
 ·have v:j<64:=by simp at hc;omega
  obtain⟨z,hz⟩:∃z,cs[j]?=some z:=⟨_,ba (by omega)⟩
  have w:bw (cs.take j)<=64:=by have:=mn (p:=(·!=0)) (l:=cs.take j);simp only[ff]at this;unfold bw;omega
  have e:bw (cs.take (j+1))=bw (cs.take j)+if z !=0 then 1 else 0:=by rw[dQ hz,zT];simp[bw,py]
  refine bj ⟨by omega,by omega⟩ (zn (by rw[a7,dY];exact DX hz) ?_)
  have o:(((z.toNat:Nat):Int)!=0)=(z !=0):=by
   by_cases h:z=0
   ·subst h;rfl
   ·have U:z.toNat≠0:=λq=>h (UInt8.toNat_inj.1 (by simpa using q))
    have r:(z !=0)=true:=by simpa using h
    rw[r];simp;omega
  rw[o,yE (by omega),yE (by omega)];refine cH (λh=>d _ _ ⟨j+1,by omega,?_,rfl⟩ (by simp only[a7];omega)) λh=>d _ _ ⟨j+1,by omega,?_,rfl⟩ (by simp only[a7];omega)
  ·rw[e,h];simp[Nat.add_assoc]
  ·rw[e,h];simp
 ·have:j=64:=by simp at hc;omega
  subst this;rw[j7 (by omega)];exact I
def xu(d:List UInt8)(a n:Int):List UInt8:=if within d.length a n then(d.drop a.toNat).take n.toNat else[]
def La{a n:Int}(I:T B (ey b d::H) (K (.tuple #[.string ⟨(xu d a n).toArray⟩,.int .i64 (iu d.length a n)]))):T B (ey b d::H) (ab P 298 #[pz b,.int .i64 a,.int .i64 n] K):=by
 refine an (Mn _ _ _) (zG ?_);simp only[gq];by_cases hw:within d.length a n
 rotate_left
 ·rw[iu,ak hw]at*
  rw[xu,ak hw]at I;exact bk rfl I
 rw[iu,ah hw]at*;rw[xu,ah hw]at I;obtain⟨x,y,rfl,rfl,hl⟩:=yz hw;simp only[a7]at I⊢;refine aD rfl (um λU u r=>gC (by omega) (by omega) (by omega) (by rw[K6];omega) (by kernel_rfl) (by kernel_rfl) λc=>?_);have I:=uk (r:=r) U u I;rw[Tb,yJ,k7,iM,a7];simp only[cT,aQ]
 refine se (λvs H'=>∃i:Nat,i<=y/\vs=[.int .i64 (i:Int)]/\cl c (bv ((d.drop x).take i++List.replicate (y-i) 0)).toArray::cl b (jS r d)::IM r (fy d)::H=H')
  (λvs=>match vs with|[.int _ i]=>y-i.toNat|_=>0) ⟨0,qK _,rfl,by simp[bv]⟩ ?_
 rintro vs H' R ⟨i,hi,rfl,rfl⟩ w;simp only[kM,fu];intro n heq;simp only[ly,Value.int.injEq,nk,kK]at heq;subst heq;refine cH (λhc=>?_) (λhc=>?_)
 rotate_left
 ·have:i=y:=by simp at hc;omega
  subst this;rw[lF,tP,je];apply Jo (e:=5) (l:=(d.drop x).take i) (by kernel_rfl) (by kernel_rfl) (by kernel_rfl) (bF.nP λj p=>by simp) rfl (by simp;omega);simp only[Kr];exact ec I
 have M:i<y:=by simpa using hc
 obtain⟨z,w2,A⟩:=EA (a:=x) (i:=i) (by omega);generalize N:(x+i)/64=g at*;generalize O:(x+i)%64=f at*;have C:x+i=64*g+f:=by omega
 have Q:f<64:=by omega
 simp only[z,w2,A,a7];refine pJ rfl (bj (by decide) (cq (List.Perm.trans (mm _ (cy _ _ _)) (cy _ _ _)) (He ?_)));simp only[DI];have D:(bv (row d g)).toArray.size=64:=by simp
 refine bj (by decide) (el λk=>hj D (by rw[yI];simp[ie]) (λv E=>zD _ v (by simpa using E)) (bj ⟨by omega,by omega⟩ (bj ⟨by omega,by omega⟩ ?_)))
 have eD:lK ⟨k,0,none⟩ 1 f 64=⟨k,f,none⟩:=by unfold lK;rw[ak (by omega),aQ];simp
 have es:dh (some ⟨c,0,none⟩) 1 i y=some ⟨c,i,none⟩:=by unfold dh;rw[ak (by omega)];simp[aQ]
 rw[eD,es];generalize hm:Nat.min (64-f) (y-i)=m;have S:m<=64-f:=by rw[<-hm];exact Nat.min_le_left _ _
 have V:m<=y-i:=by rw[<-hm];exact Nat.min_le_right _ _
 have W:0<m:=by
  rw[<-hm];rcases Nat.le_total (64-f) (y-i)with h|h
  ·rw[show Nat.min (64-f) (y-i)=64-f from qJ h];omega
  ·rw[show Nat.min (64-f) (y-i)=y-i from Nat.min_eq_right h];omega
 have q:(((row d g).drop f).take m).length=m:=by simp;omega
 have hlen:(bv ((d.drop x).take i++List.replicate (y-i) 0)).length=y:=by simp;omega
 refine t' (b:=c) (o:=i) (cs:=(bv ((d.drop x).take i++List.replicate (y-i) 0)).toArray) (H':=λds=>cl k (bv (row d g)).toArray::IM r (fy d)::cl c ds::cl b (jS r d)::H) (s:=1) (t0:=178) (elem:=5)
  (ys:=bv (((row d g).drop f).take m)) rfl (by kernel_rfl) (by kernel_rfl) (by kernel_rfl) ?_ (by rw[hm];simp;omega) (zD _) (by rw[hm,iL,hlen];omega) ?_
 ·refine bF.nP λj p=>?_
  simp only[KY,q]at p;rw[dY,bv,bv,fo,fo,oi,ah p,qG]
 simp only[gq,hm];have F:IntKind.wrap .i64 ((i:Int)+(m:Int))=((i+m:Nat):Int):=by rw[bd (by omega)];omega
 rw[F];refine ec (cq (List.Perm.trans (cy _ _ _) (mm _ (cy _ _ _))) (w _ _ ⟨i+m,by omega,rfl,?_⟩ (by simp only[a7];omega)));have t:((d.drop x).take i).length=i:=by simp;omega
 have G:((d.drop x).take i++List.replicate (y-i) (0:UInt8)).drop (i+m)=List.replicate (y-(i+m)) 0:=by rw[tH,oe (by omega),t,List.drop_replicate,kI];congr 1;omega
 have J:(d.drop x).take (i+m)=(d.drop x).take i++((row d g).drop f).take m:=by rw[List.take_add,yW,Ym C (by omega) (by omega)]
 have L:bN ((d.drop x).take i++List.replicate (y-i) 0) i (((row d g).drop f).take m)=(d.drop x).take (i+m)++List.replicate (y-(i+m)) 0:=by unfold bN;rw[qI t,q,G,J,er]
 rw[HF (by rw[q,cr,t,jG];omega),L]
end
end
section
open Go.XS
section
variable {B:Heap}{H:au}{K:aK}{b r:Nat}{d src:List UInt8}
end
end
section
open Go.XS
def wS(b pl:Nat):ax:=#[pz b,.int .i64 (pl:Int)]
section
variable {B:Heap}{H:au}{K:aK}{w b pl:Nat}{d:List UInt8}
def yg{q:aw}{v:Value}(I:T B (cl w #[.pointer q,v]::H) (K (.bool (!Option.isNone q)))):T B (cl w #[.pointer q,v]::H) (ab P 482 #[pz w] K):=by apply an (QI _);simp only[cT,aQ];exact bk rfl (ke rfl I)
def YB(I:∀w,T B (cl w (wS b 0)::ey b d::H) (K (pz w))):T B (ey b d::H) (ab P 445 #[pz b] K):=by refine an (QD _) (zF λU a=>D0 ?_);simp only[gq];exact aD (by simp;intro h;subst h;simp at U) (el λw=>I w)
def Hl(I:T B (cl w (wS b pl)::H) (K (.int .i64 (pl:Int)))):T B (cl w (wS b pl)::H) (ab P 485 #[pz w] K):=by refine an (QG _) (yg ?_);simp only[fv,cT,aQ];refine aD rfl (zw rfl ?_);simp only[gq];exact I
def Hk(a:pl<=d.length)(I:T B (cl w (wS b pl)::ey b d::H) (K (.int .i64 ((d.length-pl:Nat):Int)))):T B (cl w (wS b pl)::ey b d::H) (ab P 483 #[pz w] K):=by refine an (QF _) (cq (cy _ _ _) (zF λU c=>cq (cy _ _ _) (yg ?_)));simp only[fv,cT,aQ];refine aD rfl (ke rfl (cq (cy _ _ _) (D0 (cq (cy _ _ _) ?_))));simp only[gq];apply Hl;simp only[gq];apply dN I;rw[bd (by omega)];congr 1;omega
def YC(a:pl<=d.length)(I:T B (cl w (wS b pl)::ey b d::H) (K (.bool (decide (pl=d.length))))):T B (cl w (wS b pl)::ey b d::H) (ab P 447 #[pz w] K):=by
 refine an (QE _) (yg ?_);simp only[fv];refine bk rfl (Hk a ?_);simp only[gq];apply dN I;congr 1;by_cases h:pl=d.length
 ·subst h;simp
 ·have:((d.length-pl:Nat):Int)≠0:=by omega
  rw[cD h];exact(r7.2 this).symm
def stepOf(left:Nat)(n:Int):Nat:=if(left:Int)<n then left else n.toNat
def HI{left:Nat}{n:Int}(h:1<=n):stepOf left n<=left:=by unfold stepOf;split<;>omega
def YD{n:Int}(c:1<=n)(f:pl<=d.length)(I:T B (cl w (wS b (pl+stepOf (d.length-pl) n))::ey b (bN d pl (List.replicate (stepOf (d.length-pl) n) 0))::H) (K (.tuple #[.int .i64 (stepOf (d.length-pl) n:Int),.int .i64 0]))):T B (cl w (wS b pl)::ey b d::H) (ab P 446 #[pz w,.int .i64 n] K):=by
 refine an (QH _ _) (cq (cy _ _ _) (zF λU g=>cq (cy _ _ _) (yg ?_)));simp only[fv];refine aD rfl (aD (by simp;omega) (Hk f ?_));simp only[gq,cT,aQ];have hs:=HI (left:=d.length-pl) c
 have e:(if((d.length-pl:Nat):Int)<n then((d.length-pl:Nat):Int)else n)=(stepOf (d.length-pl) n:Int):=by unfold stepOf;split<;>omega
 rw[e];generalize stepOf (d.length-pl) n=m at*;refine ke rfl (Hl ?_);simp only[gq];have a:within d.length (pl:Int) (m:Int):=by unfold within;omega
 refine nr rfl (cq (cy _ _ _) (Le (cq (cy _ _ _) ?_)));rw[iu,ah a,yx,ah a];simp only[gq,a7];refine aD rfl (DM rfl ?_);simp only[gq];have hw:IntKind.wrap .i64 ((pl:Int)+(m:Int))=((pl+m:Nat):Int):=by rw[bd (by omega)];omega
 rw[hw];simpa[wS]using I
end
end
end Go.Proofs.YtlmgompopkamfaaGreatDoor
namespace Go.XS
section
open Go.bn
open Go.MapKept
def AU{es:Array MapEntry}{i:Nat}{e:MapEntry}{f g:MapEntry->MapEntry}(h:es[i]?=some e)(hf:f e=g e):es.modify i f=es.modify i g:=by
 apply Array.ext_getElem?;intro j;rw[qD,qD];split
 ·rename_i a;subst a;rw[h];simp[hf]
 ·rfl
def tW{α:Type}(enc:α->Value)(r:Nat)(k n:Int)(m:ML α):bg:=
 eK λes:Array MapEntry=>eK λbr:Nat=>eK λg:Int->Option Value=>fk (bS m/\ek es br g/\(∀j,j≠k->g j=(aS m j).map enc)/\∃e∈es.toList,e.key=key k/\(e.born:Int)=n) (ob r (.map es br))
section
variable {P:Program}{B:Heap}{H H0:au}{α:Type}{enc:α->Value}{r:Nat}{m:ML α}{k n:Int}{mt:TypeId}{z:α}{p:HP}
def C9{es:Array MapEntry}{br:Nat}{g:Int->Option Value}(hs:bS m)(hr:ek es br g)(a:∀j,j≠k->g j=(aS m j).map enc)(he:∃e∈es.toList,e.key=key k/\(e.born:Int)=n)(t:T B (tW enc r k n m::H) p):T B (ob r (.map es br)::H) p:=
 h4 ⟨hs,hr,a,he⟩ (gI (q:=λg=>fk (bS m/\ek es br g/\(∀j,j≠k->g j=(aS m j).map enc)/\∃e∈es.toList,e.key=key k/\(e.born:Int)=n) (ob r (.map es br))) g
  (gI (q:=λbr=>eK λg=>fk (bS m/\ek es br g/\(∀j,j≠k->g j=(aS m j).map enc)/\∃e∈es.toList,e.key=key k/\(e.born:Int)=n) (ob r (.map es br))) br
   (gI (q:=λes=>eK λbr=>eK λg=>fk (bS m/\ek es br g/\(∀j,j≠k->g j=(aS m j).map enc)/\∃e∈es.toList,e.key=key k/\(e.born:Int)=n) (ob r (.map es br))) es t)))
def TW{K:aK}(c:h2 P mt α enc z)(t:∀x n,T B (tW enc r k n m::H) (K (.tuple #[x,.int .i64 n]))):T B (MP enc r m::H) (aI P (Instr.mapEntry mt (.map (some r)) (.int .i64 k)) K):=by
 obtain⟨et,hm,I,hz⟩:=c.ty;refine ov λhs=>qM λes br hr=>?_;intro σ o;unfold Instr.mapEntry;refine aY (gV hm ?_);refine aY (k9 o.gL ?_);refine aY (dK () (λw _=>run_checkKey I (by rfl) _ _) ?_);rcases hr.find k with⟨i,b,a⟩|⟨j,e,b,a,g,l⟩
 ·refine aY (dK none (λw _=>run_findKey I b) ?_)
  refine aY (Ht hz (aY ?_));refine o7 o.gL (cu ?_);refine C9 hs (hr.put (enc z) a) (λj f=>ak f) ⟨{key:=key k,val:=enc z,born:=br},by simp,rfl,rfl⟩ (t _ _) _ o.o9
 ·refine aY (dK (some (j,e.val)) (λw _=>run_findKey I b) ?_)
  simp only[a,ih,fC,g];refine aY (dK (key k) (λw _=>run_keyThatStays (d:= .int .i64) (by rfl)) ?_);refine aY (o7 o.gL (cu ?_));have p:(es.modify j λe=>{e with key:=key k})=es.modify j λe=>{e with key:=key k,val:=(es[j]?.getD e).val}:=AU a (by simp[a]);have h:(es.modify j λe=>{e with key:=key k})=es.modify j λx=>{x with key:=key k,val:=e.val}:=AU a rfl;rw[h];refine C9 hs (hr.bN e.val a g) (λj f=>ak f) ⟨{e with key:=key k,val:=e.val},?_,rfl,rfl⟩ (t _ _) _ o.o9;rw[F9 a hr.st.2.1];exact .inl rfl
instance acf{K:aK}[c:h2 P mt α enc z][h:Ow H (MP enc r) m H0]:Sa B H (aI P (Instr.mapEntry mt (.map (some r)) (.int .i64 k)) K) (λx:Value×Int=>T B (tW enc r k x.2 m::H0) (K (.tuple #[x.1,.int .i64 x.2]))):=⟨λt=>bh h.pl (TW c λx n=>t (x,n))⟩
def Z3{K:Unit->HP}{v:Value}{a:α}(e:v=enc a)(t:T B (MP enc r (bE k a m)::H) (K ())):T B (tW enc r k n m::H) (aI P (Instr.entryStore mt (.map (some r)) (.int .i64 n) v) K):=by
 subst e;refine gn λes=>gn λbr=>gn λg=>gD λ⟨hs,hr,c,e,he,I,d⟩=>?_;intro σ o;unfold Instr.entryStore;refine aY (k9 o.gL ?_);refine aY (cu ?_)
 cases hf:es.findIdx? (λe=>(e.born:Int)==n)with
 |none=>rw[Array.findIdx?_eq_none_iff]at hf;have:=hf e (od.1 he);simp[d]at this
 |some i=>
  have U:∃x,es[i]?=some x/\(x.born:Int)=n:=by rw[Array.findIdx?_eq_some_iff_getElem]at hf;obtain⟨hi,f,_⟩:=hf;exact⟨es[i],Cu hi,by simpa using f⟩
  obtain⟨x,b,q⟩:=U;have h:x=e:=hr.Cb (od.2 (oc b)) he (by omega);subst h;apply o7 o.gL;have l:(es.modify i λe=>{e with val:=enc a})=es.modify i λy=>{y with key:=key k,val:=enc a}:=AU b (by rw[<-I]);rw[l];refine j9 (hr.bN (enc a) b I) (wj (fA hs) (λj=>?_) t) _ o.o9;rw[gR hs];split
  ·rfl
  ·rename_i p;exact c j p
instance abL{K:Unit->HP}{v:Value}{a:α}[c:h2 P mt α enc z][h:Ow H (tW enc r k n) m H0][e:nm enc v a]:J B H (aI P (Instr.entryStore mt (.map (some r)) (.int .i64 n) v) K) (T B (MP enc r (bE k a m)::H0) (K ())):=⟨λt=>bh h.pl (Z3 e.eq t)⟩
end
def yd{α:Type}{f:α->aB}{s:Nat}(hf:∀a,(f a).length=s):∀{l:List α} {i:Nat} {a':α},i<l.length->(l.flatMap f).take (i*s)++(f a'++(l.flatMap f).drop (i*s+s))=(l.set i a').flatMap f
 |[],i,a',h=>absurd h (by simp)
 |y::l,0,a',h=>by simp only[tR,r5,kI,bJ,jJ,gz];rw[yX (hf y)]
 |y::l,i+1,a',h=>by have b:=hf y;simp only[iK,gz];rw[<-yd hf (by simpa using h),CQ,tH,j7 (by rw[b,gk];omega),oe (by rw[b,gk];omega),b,er,kI];rw[show(i+1)*s-s=i*s by rw[gk];omega,show(i+1)*s+s-s=i*s+s by rw[gk];omega]
def JY{B:Heap}{H:au}{α:Type}{f:α->aB}{s k b:Nat}{l:List α}{a':α}{vs:ax}{p:HP}{H':ax->au}[h:fZ H b (l.flatMap f).toArray H'](hf:∀a,(f a).length=s)(I:k<l.length)(e:vs.toList=f a')[o:ka vs](t:T B (H' ((l.set k a').flatMap f).toArray) p):T B H (gW ⟨b,k*s,none⟩ vs s p):=by
 have hm:k*s+s<=l.length*s:=by rw[<-pE];exact jM s I
 have hl:vs.toList.length=s:=by rw[e,hf]
 apply ny (by simpa using hl) (by rw[iL,dr hf];exact hm) o.one;rw[kz _ _ _ (by rw[dr hf,hl];exact hm),hl,e,yd hf I];exact t
def JB{α:Type}{f:α->aB}{B:Heap}{H H0:au}{s l c:Nat}{q:aw}{rs:List α}[h:Ow H (ai s q l c) (rs.flatMap f) H0]{n:Int}{a':α}{vs:ax}{k:HP}(hf:∀a,(f a).length=s)(hs:0<s)(i:Nat)(r:n=(i:Int))(hl:i<l)(e:vs.toList=f a')[o:ka vs](t:T B (ai s q l c ((rs.set i a').flatMap f)::H0) k):T B H (jZ q l n s vs s k):=by
 subst r;refine bh h.pl (qT (λh0 U g j=>by omega) λb rest u m v hlen=>?_);subst u;unfold jZ;refine nq (bj ⟨by omega,by omega⟩ ?_);rw[a7,aQ,bJ]
 have hi:i<rs.length:=by rw[dr hf]at m;have:=Nat.eq_of_mul_eq_mul_right hs m;omega
 have hm:i*s+s<=rs.length*s:=by rw[<-pE];exact jM s hi
 have p:vs.toList.length=s:=by rw[e,hf]
 have z:=dr hf rs;have w:=dr hf (rs.set i a');rw[hg]at w;apply ny (by simpa using p) (by simp only[iL,cr];omega) o.one;rw[kz _ _ _ (by rw[cr];omega),p,e]
 have x:(rs.flatMap f++rest).take (i*s)++(f a'++(rs.flatMap f++rest).drop (i*s+s))=(rs.set i a').flatMap f++rest:=by rw[<-yd hf hi,CR (by omega),IG (by omega),er,er]
 rw[x];intro σ d;obtain⟨ch,⟨l1,l2,y,U,g⟩,j⟩:=d.own;refine t σ ⟨d.base,d.size,ch,⟨l1,l2,y,⟨by omega,v,.inr ⟨b,rest,rfl,by rw[cr]at hlen⊢;omega,U⟩⟩,g⟩,j⟩
end
end Go.XS
namespace Go.Proofs.YtlmgompopkamfaaGreatDoor
section
open Go.XS Go.bn
def pq:P.underlying 3=some (.int .i64):=by kernel_rfl
instance :h2 P 350 Bool Value.bool false:=⟨4,by kernel_rfl,pq,by kernel_rfl⟩
instance :h2 P 225 Int D 0:=⟨3,by kernel_rfl,pq,by kernel_rfl⟩
instance :h2 P 215 Unit (λ_=> .agg #[]) ():=⟨219,by kernel_rfl,pq,by kernel_rfl⟩
instance :h2 P 149 aw Value.pointer none:=⟨150,by kernel_rfl,pq,by kernel_rfl⟩
instance {b:Bool}:nm Value.bool (.bool b) b:=⟨rfl⟩
instance {n:Int}:nm D (.int .i64 n) n:=⟨rfl⟩
instance {p:aw}:nm Value.pointer (.pointer p) p:=⟨rfl⟩
instance :nm (λ_:Unit=>Value.agg #[]) (.agg #[]) ():=⟨rfl⟩
instance :gl P 31 1:=gl.of (e:=0) (by kernel_rfl)
end
end Go.Proofs.YtlmgompopkamfaaGreatDoor
namespace Go.Proofs
open Go.Shelf
def Tryz.Vh:Go.Shelf.Ren:=⟨λ|189=>91|125=>159|257=>158|128=>251|129=>252|294=>242|295=>243|296=>244|297=>245|298=>246|299=>247|216=>248|300=>249|301=>250|328=>335|329=>336|330=>337|331=>338|332=>339|215=>340|343=>397|n=>n,λ|28=>31|3=>3|46=>97|0=>0|51=>305|53=>450|4=>4|183=>442|182=>441|131=>327|5=>5|9=>9|218=>513|222=>175|228=>559|229=>560|n=>n,λ|n=>n⟩
def Tryz.FN:Go.Proofs.Lays.n189 Tryz.prog Tryz.Vh:={
 mixed:=by kernel_rfl
 f125:=XS.bu func159
 f128:=XS.bu func251
 f129:=XS.bu func252
 f189:=XS.bu func91
 f215:=XS.bu func340
 f216:=XS.bu func248
 f257:=XS.bu func158
 f294:=XS.bu func242
 f295:=XS.bu func243
 f296:=XS.bu func244
 f297:=XS.bu func245
 f298:=XS.bu func246
 f299:=XS.bu func247
 f300:=XS.bu func249
 f301:=XS.bu func250
 f328:=XS.bu func335
 f329:=XS.bu func336
 f330:=XS.bu func337
 f331:=XS.bu func338
 f332:=XS.bu func339
 f343:=XS.bu func397
 t0:=Tryz.underlying0
 a0:=Tryz.isAgg0
 z0:=Tryz.sizeOf0
 v0:=Tryz.zeroValue0
 t3:=Tryz.underlying3
 a3:=Tryz.isAgg3
 z3:=Tryz.sizeOf3
 v3:=Tryz.zeroValue3
 t4:=Tryz.underlying4
 a4:=Tryz.isAgg4
 z4:=Tryz.sizeOf4
 v4:=Tryz.zeroValue4
 t5:=Tryz.underlying5
 a5:=Tryz.isAgg5
 z5:=Tryz.sizeOf5
 v5:=Tryz.zeroValue5
 t9:=Tryz.underlying9
 a9:=Tryz.isAgg9
 z9:=Tryz.sizeOf9
 v9:=Tryz.zeroValue9
 t28:=Tryz.underlying31
 a28:=Tryz.isAgg31
 z28:=Tryz.sizeOf31
 v28:=Tryz.zeroValue31
 t46:=Tryz.underlying97
 a46:=Tryz.isAgg97
 z46:=Tryz.sizeOf97
 v46:=Tryz.zeroValue97
 t51:=Tryz.underlying305
 a51:=Tryz.isAgg305
 z51:=Tryz.sizeOf305
 v51:=Tryz.zeroValue305
 t53:=Tryz.underlying450
 a53:=Tryz.isAgg450
 z53:=Tryz.sizeOf450
 v53:=Tryz.zeroValue450
 t131:=Tryz.underlying327
 a131:=Tryz.isAgg327
 z131:=Tryz.sizeOf327
 v131:=Tryz.zeroValue327
 t182:=Tryz.underlying441
 a182:=Tryz.isAgg441
 z182:=Tryz.sizeOf441
 v182:=Tryz.zeroValue441
 t183:=Tryz.underlying442
 a183:=Tryz.isAgg442
 z183:=Tryz.sizeOf442
 v183:=Tryz.zeroValue442
 t218:=Tryz.underlying513
 a218:=Tryz.isAgg513
 z218:=Tryz.sizeOf513
 v218:=Tryz.zeroValue513
 t222:=Tryz.underlying175
 a222:=Tryz.isAgg175
 z222:=Tryz.sizeOf175
 v222:=Tryz.zeroValue175
 t228:=Tryz.underlying559
 a228:=Tryz.isAgg559
 z228:=Tryz.sizeOf559
 v228:=Tryz.zeroValue559
 t229:=Tryz.underlying560
 a229:=Tryz.isAgg560
 z229:=Tryz.sizeOf560
 v229:=Tryz.zeroValue560}
open Go.Sort Go.RowKit in
def Tryz.slices_Sort_int(a off cap:Nat)(zs:List Int)(w:World)(b:Holds (Value.int .i64) w a off zs.toArray)(c:a<w.heap.size)(d:zs.length<4611686018427387904):Calls Tryz.prog 91 #[.slice (some ⟨a,off,none⟩) zs.length cap] w λe w'=>e= .returned (.tuple #[])/\∃n os,w'=grow (putRow (Value.int .i64) (Sort.ahead w n) a off (zs.mergeSort λx y=>decide (x<=y)).toArray) os:=Any.slices_Sort_int Tryz.FN a off cap zs w b c d
end Go.Proofs
namespace Go.Proofs.YtlmgompopkamfaaGreatDoor
open Go.XS Go.bn Go.Sort
def Own.To{B σ eI:Heap}{H:List bg}{b:Nat}{cs cs':Array Value}(o:Own B (cl b cs::H) σ)(hs:σ.size<=eI.size)(U:∀k,k<σ.size->k≠b->eI[k]?=σ[k]?)(j:∀t fr,σ[b]?=some (.cells cs t fr)->eI[b]?=some (.cells cs' t fr))(m:cs'.size=cs.size):Own B (cl b cs'::H) eI:=by
 obtain⟨l,⟨l1,l2,d,⟨t,fr,rfl,n⟩,h⟩,p,hc⟩:=o.own;have f:=hc (b,.cells cs t fr) (d.mem_iff.2 (by simp));have g:((b,Obj.cells cs t fr)::l2|>.map (·.1)).Nodup:=(d.map (·.1)).nodup p;have q:∀c∈l,c.1<σ.size:=λc a=>(gF.1 (hc c a).2).1;refine⟨λk I=>?_,jL o.size hs,(b,.cells cs' t fr)::l2,⟨[(b,.cells cs' t fr)],l2,.refl _,⟨t,fr,rfl,by rw[m];exact n⟩,h⟩,by simpa using g,?_⟩
 ·have:=o.size
  rw[U k (by omega) (by have:=f.1;simp at this;omega)];exact o.base k I
 ·intro c a
  rcases cR.1 a with rfl|a
  ·exact⟨f.1,j t fr f.2⟩
  ·have i:=hc c (d.mem_iff.2 (by simp[a]))
   refine⟨i.1,?_⟩;rw[U c.1 (q c (d.mem_iff.2 (by simp[a]))) ?_];exact i.2;intro e;simp only[c4,fp]at g;exact g.1 (bQ.2 ⟨c,a,e⟩)
abbrev pd(zs:List Int):List Int:=zs.mergeSort λx y=>decide (x<=y)
def Xn{zs ts:List Int}{rest:List Value}(h:ts.length=zs.length):putCells (Value.int .i64) 0 ts.toArray (iv .i64 zs++rest).toArray=(iv .i64 ts++rest).toArray:=by
 apply g';apply jf;intro j;simp only[putCells,Array.toList_mapIdx,List.getElem?_mapIdx];by_cases a:j<ts.length
 ·rw[hb (by simp;omega),hb (by simp;omega)]
  simp[iv,a,show j<zs.length by omega]
 ·rw[iI (by simp;omega),iI (by simp;omega)]
  simp only[Fx,h]
  cases rest[j-zs.length]? with
  |none=>rfl
  |some v=>simp;omega
section
variable {B:Heap}{H H0:List bg}{K:Value->HP}{p:Option Addr}{l c:Nat}{zs:List Int}
def Zh(g:l<4611686018427387904)(I:T B (ai 1 p l c (iv .i64 (pd zs))::H) (K (.tuple #[]))):T B (ai 1 p l c (iv .i64 zs)::H) (ab P 91 #[.slice p l c] K):=by
 refine qT ?_ ?_
 ·rintro rfl rfl rfl hz
  have hz:zs=[]:=by simpa[iv]using hz
  subst hz;intro σ o w hw;refine(Any.slices_Sort_int_none Tryz.FN none 0 w).mono ?_;rintro e w' ⟨rfl,rfl⟩;exact⟨_,rfl,by rw[hw];exact dR 1 (by simpa[pd,iv]using I) σ o,.refl _⟩
 ·rintro b rest rfl h i hlen
  have hl:zs.length=l:=by simpa using h
  subst hl;intro σ o w hw;obtain⟨l1,⟨t,fr,rfl,m⟩,hc⟩:=o.head;have q:=(hc (b,.cells (iv .i64 zs++rest).toArray t fr) (by simp)).2;have d:w.heap[b]?=some (.cells (iv .i64 zs++rest).toArray t fr):=by rw[hw];exact q
  have r:Holds (Value.int .i64) w b 0 zs.toArray:=by
   intro j s;have u:j<zs.length:=by simpa using s
   refine⟨?_,?_⟩
   ·simp only[World.cell?,d,bJ,Option.isSome_none,fM,ej]
    rw[dY,hb (by simp;omega)];simp[iv,u]
   ·have:=m j (by simp;omega)
    simp only[World.frozen?,d,bJ];simpa using this
  refine(Tryz.slices_Sort_int b 0 c zs w r (gF.1 d).1 g).mono ?_;rintro e w' ⟨rfl,n,os,rfl⟩;refine⟨_,rfl,?_,⟨rfl,rfl,rfl⟩⟩;have a:(pd zs).length=zs.length:=List.length_mergeSort _
  have f:Own B (cl b (iv .i64 (pd zs)++rest).toArray::H) (grow (putRow (Value.int .i64) (Sort.ahead w n) b 0 (pd zs).toArray) os).heap:=by
   refine Own.To o ?_ ?_ ?_ (by simp[a])
   ·simp[grow,putRow,mapBlock,Sort.ahead,hw]
   ·intro k I v
    rw[heap_grow_old _ _ (by simpa[putRow,mapBlock,Sort.ahead,hw]using I)];simp[putRow,mapBlock,Sort.ahead,qD,Ne.symm v,hw]
   ·intro t fr x
    rw[heap_sortedI (pd zs).toArray (by rw[hw];exact x),Xn a]
  apply I _;obtain⟨ch,⟨l1,l2,y,U,z⟩,A⟩:=f.own;refine⟨f.base,f.size,ch,⟨l1,l2,y,⟨by simp[a],i,.inr ⟨b,rest,rfl,?_,U⟩⟩,z⟩,A⟩;simpa[a]using hlen
def Hy(zs:List Int):(pd zs).Perm zs:=List.mergeSort_perm _ _
def Zl{zs ks:List Int}(e:zs.Nodup)(I:eu ks)(h:∀z,z∈zs↔z∈ks):pd zs=ks:=by
 refine vk ?_ I λz=>by rw[(Hy zs).mem_iff];exact h z
 have U:=List.pairwise_mergeSort (le:=λx y:Int=>decide (x<=y)) (λa b c U d=>by simp at*;omega) (λa b=>by simp;omega) zs;have d:(pd zs).Nodup:=(Hy zs).symm.nodup e;refine(U.and d).imp λh=>?_;have:=h.1;have:=h.2;simp at*;omega
end
end Go.Proofs.YtlmgompopkamfaaGreatDoor
namespace Go.Proofs.YtlmgompopkamfaaGreatDoor
section
open Go.XS Go.bn
section
variable {B:Heap}{H H0:au}{K:aK}
def FF(mt:Nat)(g0:Nat)(p1:aw)(K:aK):HP:=cW p1 0 (λc=>aI P (Instr.range mt (Value.map c)) λd=>im d λa=>bm (lp λb=>mU P (Value.pointer a) false 0 (ae false (kT P (Value.pointer a) λe v28=>di .i64 e λf=>gj P g0 #[] #[] [D f] λv30=>dv v30 λg=>ae (!g) (K (Value.tuple #[])) (b [])) (K (Value.tuple #[]))) λk l=>ae true (kT P (Value.pointer a) λh m=>di .i64 h λi=>gj P g0 #[] #[] [D i] λv37=>dv v37 λj=>ae (!j) (K (Value.tuple #[])) (b [])) (K (Value.tuple #[]))) [])
def yk{α:Type}{enc:α->Value}{z:α}{mt j r k:Nat}{m:ML α}[dm:h2 P mt α enc z](h:gb P j=true)(A:∀(g:Nat) (p:aw) (K:aK) (σ:Heap),FF mt g p K σ->ab P j #[.func (.yield g) #[] #[],.pointer p] K σ)(hlen:m.length<1000000)(I:∀p c,T B (MP enc r m::ai 1 p m.length c (iv .i64 (bb m))::H) (K (.slice p m.length c))):T B (MP enc r m::cl k #[.map (some r)]::H) (ab P 43 #[.func (.func j) #[] #[pz k]] K):=by
 refine an (Rf _ _) (an (Q1 _ _) (an (QV _ _ _ _ _) (el λa=>pK h λro rr l C=>an (A _ _ _ _) ?_)));unfold FF;apply J.go;refine bL (q:=MP enc r m) (ov λhs=>?_);obtain⟨et,hm,N,hz⟩:=dm.ty;refine JV hm λit=>J.go (dR 1 ?_)
 let E:Nat->au->Prop:=λn H'=>∃(ks:aO) (p:aw) (c:Nat),n+ks.length=m.length/\ks.Nodup/\(∀x∈ks,x∈bb m)/\
  H'=lG r it (λk=>(aS m k).map enc) ks::lo l ro .ready none::ai 1 p ks.length c (iv .i64 ks)::ob rr (.deferred (some []))::cl a #[.slice p ks.length c]::H
 refine af (H':=lG r it (λk=>(aS m k).map enc) []::lo l ro .ready none::ai 1 none 0 0 []::ob rr (.deferred (some []))::cl a #[.slice none 0 0]::H) ?_;refine uc E m.length ⟨[],none,0,by simp,by simp,by simp,rfl⟩ ?_;rintro n H' R ⟨ks,p,c,O,i,o,rfl⟩ F;refine JQ (λU s Q=>?_) (λx v f t=>?_)
 ·
  apply aD rfl
  have u:∀z,z∈ks↔z∈bb m:=λz=>⟨o z,λhz=>by have:aS m z≠none:=λhc=>kr.1 hc hz;obtain⟨v,f⟩:=IX.1 this;exact U z (enc v) (by rw[f];rfl)⟩
  have hl:ks.length=m.length:=by have:=((y5 i (l7 hs)).2 u).length_eq;simpa using this
  refine bL (q:=lo l ro .ready none) (qQ (by simp) ?_);refine J.go (bL (q:=ob rr (.deferred (some []))) (oG ?_));repeat apply J.go
  refine aN (ai 1 p ks.length c) (Zh (by omega) ?_);rw[Zl i hs u,hl];refine J.go (bL (q:=lG r it (λk=>(aS m k).map enc) ks) (I3 (qN hs ?_)));exact af (I p c)
 ·refine bk rfl (Jv f (J.go ?_))
  have w:x∈bb m:=by refine rW.1 λhc=>?_;rw[kr.2 hc]at f;cases f
  have S:ks.length<m.length:=by
   have U:(x::ks).Nodup:=by simp[t,i]
   have s:(x::ks)⊆bb m:=λy d=>by
    rcases cR.1 d with rfl|d
    ·exact w
    ·exact o y d
   have:=u1 U s;simp at this;omega
  refine bL (q:=lo l ro .ready none) (oI C ?_);refine J.go (oz ?_);repeat first|apply J.go|refine Sa.go λ_=>?_
  refine e0 rfl (by omega) λG c'=>J.go (bL (q:=lo l ro .busy none) (oA ?_));repeat apply J.go
  have e:iv .i64 ks++#[D x].toList=iv .i64 (ks++[x]):=by simp[iv]
  have L:ks.length+1=(ks++[x]).length:=by simp
  rw[e,L];refine af (F (n-1) _ (by omega) ⟨ks++[x],G,c',by simp;omega,?_,λy d=>?_,rfl⟩)
  ·rw[dZ];exact⟨i,by simp,λa ha b h M=>by simp at h;subst h;subst M;exact t ha⟩
  ·rcases dL.1 d with d|d
   ·exact o y d
   ·simp at d;subst d;exact w
instance {r:Nat}{m:ML Bool}[h:Ow H (MP Value.bool r) m H0]:Sx B H (ab P 241 #[.map (some r)] λv=>ab P 43 #[v] K) (m.length<1000000) (λx:aw×Nat=>T B (MP Value.bool r m::ai 1 x.1 m.length x.2 (iv .i64 (bb m))::H0) (K (.slice x.1 m.length x.2))):=⟨λhl I=>by refine bh h.pl (an (Oa _) ?_);refine el λk=>cq (cy _ _ _) ?_;exact yk (by kernel_rfl) (λg p K σ h=>Ob g p h) hl λp c=>I (p,c)⟩
instance {r:Nat}{m:ML Int}[h:Ow H (MP D r) m H0]:Sx B H (ab P 572 #[.map (some r)] λv=>ab P 43 #[v] K) (m.length<1000000) (λx:aw×Nat=>T B (MP D r m::ai 1 x.1 m.length x.2 (iv .i64 (bb m))::H0) (K (.slice x.1 m.length x.2))):=⟨λhl I=>by refine bh h.pl (an (Oc _) ?_);refine el λk=>cq (cy _ _ _) ?_;exact yk (by kernel_rfl) (λg p K σ h=>Od g p h) hl λp c=>I (p,c)⟩
instance {r:Nat}{m:ML Unit}[h:Ow H (MP (λ_:Unit=>Value.agg #[]) r) m H0]:Sx B H (ab P 89 #[.map (some r)] λv=>ab P 43 #[v] K) (m.length<1000000) (λx:aw×Nat=>T B (MP (λ_:Unit=>Value.agg #[]) r m::ai 1 x.1 m.length x.2 (iv .i64 (bb m))::H0) (K (.slice x.1 m.length x.2))):=⟨λhl I=>by refine bh h.pl (an (Og _) ?_);refine el λk=>cq (cy _ _ _) ?_;exact yk (by kernel_rfl) (λg p K σ h=>Oh g p h) hl λp c=>I (p,c)⟩
instance {r:Nat}{m:ML aw}[h:Ow H (MP Value.pointer r) m H0]:Sx B H (ab P 44 #[.map (some r)] λv=>ab P 43 #[v] K) (m.length<1000000) (λx:aw×Nat=>T B (MP Value.pointer r m::ai 1 x.1 m.length x.2 (iv .i64 (bb m))::H0) (K (.slice x.1 m.length x.2))):=⟨λhl I=>by refine bh h.pl (an (Oe _) ?_);refine el λk=>cq (cy _ _ _) ?_;exact yk (by kernel_rfl) (λg p K σ h=>Of g p h) hl λp c=>I (p,c)⟩
end
end
open Go.XS Go.bn
structure aV where
 b6:aO
 cP:ML Bool
 closed:aO
 fresh:Int
namespace aV
structure Ok(S:aV):Prop where
 len:S.b6.length<=1048576
 fresh:0<=S.fresh/\S.fresh<=(S.b6.length:Int)
 cl:∀p∈S.closed,0<=p/\p<S.fresh
 h7:S.closed.Nodup
 op:∀e∈S.cP,e.2=true/\0<=e.1/\e.1<S.fresh/\e.1∉S.closed
 bV:bS S.cP
def new(n:Nat):aV:=⟨List.replicate n 0,[],[],0⟩
def b7(S:aV)(p:Int):Bool:=(aS S.cP p).getD false
def gen(S:aV)(p:Int):Int:=S.b6.getD p.toNat 0
def right(S:aV)(p g:Int):Bool:=S.b7 p&&(S.gen p==g)
def pick(S:aV):aV×Int×Bool:=
 match S.closed.getLast? with
 |some p=>({S with closed:=S.closed.dropLast},p,true)
 |none=>if S.fresh<(S.b6.length:Int)then({S with fresh:=S.fresh+1},S.fresh,true)else(S,0,false)
def opened(S:aV):aV:=if S.pick.2.2 then{S.pick.1 with cP:=bE S.pick.2.1 true S.cP}else S
def cM(S:aV):Int:=if S.pick.2.2 then S.pick.2.1 else 0
def fT(S:aV):Int:=if S.pick.2.2 then S.gen S.pick.2.1 else 0
def gg(S:aV):Bool:=S.pick.2.2
def shut(S:aV)(p:Int):aV:={S with cP:=bO p S.cP,b6:=S.b6.set p.toNat (IntKind.wrap .i64 (S.gen p+1)),closed:=S.closed++[p]}
def close(S:aV)(p g:Int):aV:=if S.right p g then S.shut p else S
end aV
structure Dc where
 g:Nat
 r:Nat
 p:aw
 c:Nat
abbrev vt(b:Nat)(S:aV)(x:Dc)(H:au):au:=
 cl b #[.slice (some ⟨x.g,0,none⟩) S.b6.length S.b6.length,.map (some x.r),.slice x.p S.closed.length x.c,D S.fresh]::cl x.g (iv .i64 S.b6).toArray::MP Value.bool x.r S.cP::ai 1 x.p S.closed.length x.c (iv .i64 S.closed)::H
def fz(b:Nat)(S:aV):bg:=BX S.Ok (vt b S)
section
variable {B:Heap}{H H0:au}{K:aK}{b n:Nat}{S:aV}{p g:Int}
def n5{q:HP}(t:∀x,S.Ok->T B (vt b S x H) q):T B (fz b S::H) q:=pG (λ_ _=>rfl) t
def kA{q:HP}(x:Dc)(h:S.Ok)(t:T B (fz b S::H) q):T B (vt b S x H) q:=pF x h (λ_ _=>rfl) t
def aV.Ok.lt(h:S.Ok)(a:S.b7 p=true):0<=p/\p<(S.b6.length:Int):=by
 unfold aV.b7 at a
 cases b:aS S.cP p with
 |none=>rw[b]at a;cases a
 |some v=>have:=h.op _ (jv b);have:=h.fresh;simp only at*;omega
instance ada[h:Ow H (fz b) S H0]:J B H (ab P 344 #[pz b,D p,D g] K) (T B (fz b S::H0) (K (.bool (S.right p g)))):=⟨by
 intro I;refine bh h.pl (n5 λx hs=>an (Rl _ _ _) ?_);repeat' first|apply J.go|refine S2.go (λ_=>?_) λ_=>?_|done
 ·rename_i U
  have c:=hs.lt U
  have a:S.b6[p.toNat]?=some (S.gen p):=by unfold aV.gen;rw[List.getD,ba (by omega)];rfl
  refine e1 p.toNat (by omega) (by omega) a (af (kA x hs (eb I ?_)));unfold aV.right aV.b7;rw[U,e5]
 ·rename_i U
  refine af (kA x hs (eb I ?_));unfold aV.right aV.b7;rw[U,vJ]⟩
def aV.uV(h:n<=1048576):(aV.new n).Ok:=⟨by simpa[aV.new]using h,by simp[aV.new],by simp[aV.new],by simp[aV.new],by simp[aV.new],by simp[aV.new,bS,bb,eu]⟩
def BP(a:n<=1048576)(I:∀b,T B (fz b (aV.new n)::H) (K (pz b))):T B H (ab P 146 #[D n] K):=by
 apply an (Rg _);refine aD (by simp) (aD (by simp;omega) (gC (by omega) (by omega) (by omega) (by rw[kO];omega) (by kernel_rfl) (by kernel_rfl) λg=>?_));rw[lR,mj,k7,iM,a7,show List.replicate n (D 0)=iv .i64 (List.replicate n 0) by simp[iv]];repeat refine Sa.go λ_=>?_
 rename_i r b;refine bL (q:=IM r λ_=>none) (iQ Value.bool (dR 1 ?_));have:=kA ⟨g,r,none,0⟩ (aV.uV a) (I b);simp only[aV.new,vt,jG,iv,oj,gH]at this⊢;exact af this
def aV.Ok.Em(h:S.Ok):S.closed.length<=1048576:=by
 have U:(S.closed.map Int.toNat).Nodup:=by refine tF _ (λa b c=>?_) (yT.1 h.h7);have:=h.cl a c.1;have:=h.cl b c.2.1;have:=c.2.2;omega
 have d:=nO S.fresh.toNat U λp e=>by obtain⟨q,f,rfl⟩:=bQ.1 e;have:=h.cl q f;omega
 have:=h.fresh;have:=h.len;simp only[fe]at d;omega
def aV.Ok.snoc(h:S.Ok){a:aO}{z:Int}(e:S.closed=a++[z]):{S with closed:=a}.Ok:=by have c:=h.h7;rw[e,dZ]at c;exact⟨h.len,h.fresh,λp d=>h.cl p (by rw[e];simp[d]),c.1,λx b=>⟨(h.op x b).1,(h.op x b).2.1,(h.op x b).2.2.1,λhm=>(h.op x b).2.2.2 (by rw[e];simp[hm])⟩,h.bV⟩
def Zi(I:S.Ok->T B (fz b S.pick.1::H) (K (.tuple #[D S.pick.2.1,.bool S.pick.2.2]))):T B (fz b S::H) (ab P 348 #[pz b] K):=by
 refine n5 λx hs=>an (Rm _) ?_
 replace I:=I hs
 unfold aV.pick at I;have hl:=hs.len;have hf:=hs.fresh
 cases hc:S.closed.getLast? with
 |none=>
  have eN:S.closed=[]:=by simpa using hc
  rw[hc]at I;simp only at I;repeat' first|apply J.go|refine S2.go (λ_=>?_) λ_=>?_|done
  ·rename_i h;simp[eN]at h
  ·rename_i h
   rw[ah h]at I;rw[bd (by omega),show S.fresh+1-1=S.fresh by omega,bd (by omega)];have aP:{S with fresh:=S.fresh+1}.Ok:=⟨hl,by simp only;omega,by simp[eN],by simp[eN],λe he=>⟨(hs.op e he).1,(hs.op e he).2.1,by have:=(hs.op e he).2.2.1;simp only at this⊢;omega,by simp[eN]⟩,hs.bV⟩;exact af (kA x aP I)
  ·rename_i h
   rw[ak h]at I;exact af (kA x hs I)
 |some z=>
  obtain⟨a,eN⟩:=IK.1 hc;rw[hc]at I;simp only at I;have hlen:S.closed.length=a.length+1:=by rw[eN];simp
  have f:=hs.Em;have hd:S.closed.dropLast=a:=by rw[eN];simp
  rw[hd]at I;have d:IntKind.wrap .i64 ((S.closed.length:Int)-1)=(a.length:Int):=by rw[bd (by omega)];omega
  repeat' first|apply J.go|refine S2.go (λ_=>?_) λ_=>?_|done
  ·rw[d]
   apply e1 (zs:=S.closed) a.length rfl (by omega) (x:=z) (by rw[eN];simp);refine J.go (aN (ai 1 x.p S.closed.length x.c) (xJ λg i=>?_));refine bj (by omega) (J.go ?_);rw[lf];refine aN (ai 1 x.p S.closed.length x.c) (rB (m:=a.length) (by omega) ?_);rw[show((a.length:Int).toNat-0)=a.length by omega,iN,show(iv .i64 S.closed).take (a.length*1)=iv .i64 a by rw[eN];simp[iv]];exact af (kA x (hs.snoc eN) I)
  ·rename_i h _;omega
  ·rename_i h _;omega
def aV.Ok.GC(h:S.Ok):S.opened.Ok:=by
 unfold aV.opened;split
 ·rename_i b
  have hf:=h.fresh;unfold aV.pick at b⊢
  cases hc:S.closed.getLast? with
  |none=>
   rw[hc]at b;have eN:S.closed=[]:=by simpa using hc
   simp only at b⊢;split at b
   ·rename_i f
    simp only[f,dT];refine⟨h.len,by simp only;omega,by simp[eN],by simp[eN],λe he=>?_,fA h.bV⟩;rcases(oX h.bV).1 he with rfl|⟨he,_⟩
    ·exact⟨rfl,by simp only;omega,by simp only;omega,by simp[eN]⟩
    ·have:=h.op e he
     exact⟨this.1,this.2.1,by have:=this.2.2.1;simp only at this⊢;omega,by simp[eN]⟩
   ·cases b
  |some z=>
   obtain⟨a,eN⟩:=IK.1 hc;rw[hc]at b;have c:=h.snoc eN;have d:=h.h7;rw[eN,dZ]at d;have hz:=h.cl z (by rw[eN];simp);simp only[eN,List.dropLast_concat];refine⟨h.len,h.fresh,c.cl,c.h7,λe he=>?_,fA h.bV⟩;rcases(oX h.bV).1 he with rfl|⟨he,_⟩
   ·exact⟨rfl,hz.1,hz.2,λhm=>d.2.2 z hm z (by simp) rfl⟩
   ·exact c.op e he
 ·exact h
def aV.Ok.xR(h:S.Ok)(a:S.pick.2.2=true):0<=S.pick.2.1/\S.pick.2.1<(S.b6.length:Int):=by
 have hf:=h.fresh;unfold aV.pick at a⊢
 cases hc:S.closed.getLast? with
 |none=>
  rw[hc]at a;simp only at a⊢;split at a
  ·rename_i b;rw[ah b];exact⟨hf.1,b⟩
  ·cases a
 |some z=>have:=h.cl z (y3 hc);simp only;omega
def aV.Bf:S.pick.1.b6=S.b6/\S.pick.1.cP=S.cP:=by
 unfold aV.pick;split
 ·exact⟨rfl,rfl⟩
 ·split<;>exact⟨rfl,rfl⟩
instance ac9[h:Ow H (fz b) S H0]:J B H (ab P 265 #[pz b] K) (T B (fz b S.opened::H0) (K (.tuple #[D S.cM,D S.fT,.bool S.gg]))):=⟨by
 intro I;refine bh h.pl (an (Rj _) ?_);refine J.go (Zi λhs=>?_);have aP:=hs.GC;unfold aV.opened aV.fT aV.gg aV.cM at I;unfold aV.opened at aP;have c:=S.Bf;repeat' first|apply J.go|refine S2.go (λ_=>?_) λ_=>?_|done
 ·rename_i a
  rw[a]at I;simp only[fM,ej]at I
  have e:S.pick.1=S:=by
   unfold aV.pick at a⊢;split
   ·rename_i hc;rw[hc]at a;cases a
   ·rename_i hc;rw[hc]at a
    simp only at a⊢;split at a
    ·cases a
    ·rename_i d;rw[ak d]
  rw[e];exact I
 ·rename_i a
  have d:=hs.xR a;rw[ah a,ah a,ah a,a]at I;rw[ah a]at aP;refine n5 λx f=>?_;repeat apply J.go
  refine e1 (zs:=S.pick.1.b6) S.pick.2.1.toNat (by omega) (by have:=congrArg List.length c.1;omega) (x:=S.gen S.pick.2.1) ?_ ?_
  ·unfold aV.gen
   rw[c.1,List.getD,ba (by omega)];rfl
  rw[<-c.2]at aP I;exact af (kA x aP I)⟩
def aV.Ok.Hw(h:S.Ok)(d:S.b7 p=true):(S.shut p).Ok:=by
 have i:=h.lt d
 have hm:∃v,(p,v)∈S.cP:=by
  unfold aV.b7 at d
  cases f:aS S.cP p with
  |none=>rw[f]at d;cases d
  |some v=>exact⟨v,jv f⟩
 obtain⟨v,hm⟩:=hm;have U:=h.op _ hm;refine⟨by simp[aV.shut,h.len],by simp[aV.shut,h.fresh],λq b=>?_,?_,λe he=>?_,ma h.bV⟩
 ·rcases dL.1 b with b|b
  ·exact h.cl q b
  ·simp at b;subst b;exact⟨U.2.1,U.2.2.1⟩
 ·simp only[aV.shut,dZ]
  refine⟨h.h7,by simp,λa ha c hc e=>?_⟩;simp at hc;subst hc;subst e;exact U.2.2.2 ha
 ·obtain⟨he,g⟩:=sW.1 he
  have:=h.op e he;refine⟨this.1,this.2.1,this.2.2.1,λhm=>?_⟩;rcases dL.1 hm with hm|hm
  ·exact this.2.2.2 hm
  ·simp at hm;exact g hm
instance ac7[h:Ow H (fz b) S H0]:J B H (ab P 271 #[pz b,D p,D g] K) (T B (fz b (S.close p g)::H0) (K (.bool (S.right p g)))):=⟨by
 intro I;refine bh h.pl (an (Rh _ _ _) ?_);unfold aV.close at I;repeat' first|apply J.go|refine S2.go (λ_=>?_) λ_=>?_|done
 ·rename_i hr
  rw[hr]at I;exact I
 ·rename_i hr
  rw[ah hr,hr]at I;refine n5 λx hs=>?_;have a:S.b7 p=true:=by unfold aV.right at hr;simp at hr;exact hr.1
  have f:=hs.lt a;have aP:=hs.Hw a;have i:=hs.Em
  have c:S.b6[p.toNat]?=some (S.gen p):=by unfold aV.gen;rw[List.getD,ba (by omega)];rfl
  repeat apply J.go
  refine e1 p.toNat (by omega) (by omega) c (zk p.toNat (by omega) (by omega) (by omega) ?_);repeat first|apply J.go|refine Sa.go λ_=>?_
  refine e0 rfl (by omega) λd c'=>J.go ?_;have e:iv .i64 S.closed++#[D p].toList=iv .i64 (S.shut p).closed:=by simp[aV.shut,iv]
  rw[e];have:=kA ⟨x.g,x.r,d,c'⟩ aP I;simp only[vt,aV.shut,cr,hg,dd,gH,bJ]at this⊢;exact af this⟩
instance ac8[h:Ow H (fz b) S H0]:Sc B H (ab P 167 #[pz b,D p] K) (0<=p/\p<(S.b6.length:Int)) (T B (fz b S::H0) (K (D (S.gen p)))):=⟨by
 intro c I;refine bh h.pl (n5 λx hs=>an (Ri _ _) ?_)
 have a:S.b6[p.toNat]?=some (S.gen p):=by unfold aV.gen;rw[List.getD,ba (by omega)];rfl
 repeat' first|apply J.go|refine S2.go (λ_=>?_) λ_=>?_|done
 ·omega
 ·omega
 ·apply e1 p.toNat (by omega) (by omega) a
  exact af (kA x hs I)⟩
instance ac'[h:Ow H (fz b) S H0]:Sx B H (ab P 155 #[pz b] K) (S.cP.length<1000000) (λx:aw×Nat=>T B (fz b S::ai 1 x.1 S.cP.length x.2 (iv .i64 (bb S.cP))::H0) (K (.slice x.1 S.cP.length x.2))):=⟨by
 intro hl I;refine bh h.pl (n5 λx hs=>an (Rk _) ?_);repeat first|apply J.go|refine Sx.go (by omega) λ_=>?_
 rename_i y;exact af (kA x hs (I y))⟩
end
