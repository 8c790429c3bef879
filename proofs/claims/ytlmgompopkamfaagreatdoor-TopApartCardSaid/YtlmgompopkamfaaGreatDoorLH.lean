/- Lemmas that lead to TopApart (their names made short by a program); no condition. -/
import Derived.Test.YtlmgompopkamfaaGreatDoorLG
import Derived.Shelf.Sort.Plain
import Derived.Shelf.Slices.In.SortNone
import Derived.Sort.OwnSortedInts
set_option linter.all false
set_option maxRecDepth 20000
set_option synthInstance.checkSynthOrder false
namespace Go.Proofs.YtlmgompopkamfaaGreatDoor
section
open Go.XS
def abn:zc P 430=#[.int .i64 0]:=by kernel_rfl
def Tl:P.cellsOf 430=1:=by kernel_rfl
def LC:P.bytesOf 430=8:=by kernel_rfl
def gh:wz P 409 (Extern.Atomic.update (Op.intArith .add) .i64 true):=Fu vb Tryz.func409 (by kernel_rfl) (by kernel_rfl) (by kernel_rfl)
def s5:wz P 236 (Extern.Atomic.loadT (.int .i64)):=Fu vb Tryz.func236 (by kernel_rfl) (by kernel_rfl) (by kernel_rfl)
def uE(n:Nat):aw:=#[.int .i64 (n:Int),.int .u32 0,.int .i32 0,.int .u32 0,.slice none 0 0]
def q9(n rwb:Nat):aw:=#[.int .i64 (n:Int),.int .u32 1,.int .i32 0,.int .u32 0,.slice (some ⟨rwb,0,none⟩) n n]
abbrev lg:Int:=4611686018427387904
def uG(b n:Nat)(xs:aN):Option Nat->bc
 |none=>fa (xs=List.replicate n 0) (cl b (uE n))
 |some rwb=>eA [cl b (q9 n rwb),cl rwb (iv .i64 xs).toArray]
def er(b n:Nat)(xs:aN):bc:=
 fa (1<=n/\n<=64/\xs.length=n/\∀x∈xs,0<=x/\x<=lg)<|eF (uG b n xs)
section
variable {B:Heap}{H:au}{K:aK}{b n rwb:Nat}{xs:aN}
def zP{b i:Nat}{cs:aw}{n:Int}[h:bZ B H b cs](hc:cs[i]?=some (.int .i64 n))(U:T B H (K (.int .i64 n))):T B H (ad P 148 #[.pointer (some ⟨b,i,none⟩)] K):=by apply an (Se _);simp only[cR,aR,mA];refine DK s5 (JB hc ?_);simp only[gj];exact U
def Ec{b i:Nat}{cs:aw}{n y:Int}{H':aw->au}[h:fT H b cs H'](hc:cs[i]?=some (.int .i64 n))(U:T B (H' (cs.setIfInBounds i (.int .i64 (IntKind.wrap .i64 (n+y))))) (K (.int .i64 (IntKind.wrap .i64 (n+y))))):T B H (ad P 368 #[.pointer (some ⟨b,i,none⟩),.int .i64 y] K):=by apply an (Sd _ _);simp only[cR,aR,mA];refine DK gh (Jz hc ?_);simp only[gj];exact U
def z8{p:HP}(t:1<=n->n<=64->xs.length=n->(∀x∈xs,0<=x/\x<=lg)->T B (er b n xs::H) p):T B (er b n xs::H) p:=gz λh=>ic h (t h.1 h.2.1 h.2.2.1 h.2.2.2)
def ra{p:HP}(h1:1<=n)(a:n<=64)(c:xs.length=n)(d:∀x∈xs,0<=x/\x<=lg)(t:T B (er b n xs::H) p):T B (cl b (q9 n rwb)::cl rwb (iv .i64 xs).toArray::H) p:=by have t1:T B (uG b n xs (some rwb)::H) p:=gI (some rwb) (ic ⟨h1,a,c,d⟩ t);rw[uG]at t1;exact jQ t1
def w3{p:HP}(h1:1<=n)(a:n<=64)(t:T B (er b n (List.replicate n 0)::H) p):T B (cl b (uE n)::H) p:=by have t1:T B (uG b n (List.replicate n 0) none::H) p:=gI none (ic ⟨h1,a,by simp,λx c=>by rw[lI c];decide⟩ t);rw[uG]at t1;exact ic rfl t1
def ED{p:HP}(h0:1<=n->n<=64->xs=List.replicate n 0->T B (cl b (uE n)::H) p)(h1:1<=n->n<=64->xs.length=n->(∀x∈xs,0<=x/\x<=lg)->∀rwb,T B (cl b (q9 n rwb)::cl rwb (iv .i64 xs).toArray::H) p):T B (er b n xs::H) p:=
 gz λh=>gg λo=>match o with
  |none=>gz λa=>h0 h.1 h.2.1 a
  |some rwb=>lS (h1 h.1 h.2.1 h.2.2.1 h.2.2.2 rwb)
def TE{cs:aw}(a:n<=64)(h0:cs[0]?=some (.int .i64 (n:Int)))(c:4<cs.size)(U:∀rwb,T B (cl b (cs.setIfInBounds 4 (.slice (some ⟨rwb,0,none⟩) n n))::cl rwb (iv .i64 (List.replicate n 0)).toArray::H) (K (.tuple #[]))):T B (cl b cs::H) (ad P 235 #[pz b] K):=by
 apply an (Ni _);simp only[cR,aR];refine bg h0 (gy (by omega) (by omega) (by omega) (by rw[LC];omega) (by kernel_rfl) (by kernel_rfl) λrwb=>?_);rw[Tl,abn,lq,iP,aZ];have e:List.replicate n (Value.int .i64 0)=iv .i64 (List.replicate n 0):=by simp[iv]
 rw[e];exact cp (cA _ _ _) (eE (by omega) rfl (U rwb))
def EV{i:Int}(d:¬(0<=i/\i<(n:Int))->T B (er b n xs::H) (K (.pointer none)))(aM:∀(j:Nat) (rwb:Nat),i=(j:Int)->j<n->1<=n->n<=64->xs.length=n->(∀x∈xs,0<=x/\x<=lg)->T B (cl b (q9 n rwb)::cl rwb (iv .i64 xs).toArray::H) (K (.pointer (some ⟨rwb,j,none⟩)))):T B (er b n xs::H) (ad P 147 #[pz b,.int .i64 i] K):=by
 apply an (Nh _ _);simp only[cR,aR];refine ED (λh1 a e=>?_) λh1 a f g rwb=>?_
 ·subst e
  refine gf (λvs H'=>vs=[]/\cl b (uE n)::H=H'/\0<=i/\i<(n:Int)) ?_ λR k=>aI rfl (cZ (λh=>w3 h1 a (d (by simp at h;omega))) λh=>bg rfl (cZ (λc=>w3 h1 a (d (by simp at c;omega))) λc=>k _ _ ⟨rfl,rfl,by simp at h;omega,by simp at c;omega⟩));rintro vs H' ⟨rfl,rfl,l,m⟩;simp only[fk];intro _;obtain⟨j,rfl⟩:∃j:Nat,i=(j:Int):=⟨i.toNat,by omega⟩
  refine WL rfl rfl (λ_=>rfl) (λ_=>rfl)
   (λKf o=>TE a rfl (by simp[uE]) o) λrwb=>dS rfl ?_
  show T B (cl b (q9 n rwb)::cl rwb (iv .i64 (List.replicate n 0)).toArray::H) _;refine bU rfl (ba ⟨by omega,by omega⟩ ?_);rw[aZ,aR,bI];exact aM j rwb rfl (by omega) h1 a (by simp) λx e=>by rw[lI e];decide
 ·refine gf (λvs H'=>vs=[]/\cl b (q9 n rwb)::cl rwb (iv .i64 xs).toArray::H=H'/\0<=i/\i<(n:Int)) ?_ λR k=>aI rfl (cZ (λh=>ra h1 a f g (d (by simp at h;omega))) λh=>bg rfl (cZ (λc=>ra h1 a f g (d (by simp at c;omega))) λc=>k _ _ ⟨rfl,rfl,by simp at h;omega,by simp at c;omega⟩))
  rintro vs H' ⟨rfl,rfl,l,m⟩;simp only[fk];intro _;obtain⟨j,rfl⟩:∃j:Nat,i=(j:Int):=⟨i.toNat,by omega⟩;refine G4 rfl (dS rfl (bU rfl (ba ⟨by omega,by omega⟩ ?_)));rw[aZ,aR,bI];exact aM j rwb rfl (by omega) h1 a f g
def EU(h1:1<=n)(a:n<=64)(U:∀b,T B (er b n (List.replicate n 0)::H) (K (pz b))):T B H (ad P 139 #[.int .i64 (n:Int)] K):=by apply an (Nj _);exact aI (by simp;omega) (aI (by simp;omega) (eg λb=>w3 h1 a (U b)))
def hp(xs:aN)(i:Int):Int:=if 0<=i then xs.getD i.toNat 0 else 0
def TD{i:Int}(U:T B (er b n xs::H) (K (.int .i64 (hp xs i)))):T B (er b n xs::H) (ad P 82 #[pz b,.int .i64 i] K):=by
 refine z8 λg1 g2 g3 g4=>an (Ng _ _) (EV (λg=>?_) λj rwb c h h1 d e f=>?_)
 ·simp only[sw]
  refine bo rfl (dK U ?_);unfold hp;split
  ·rw[List.getD,iN (by omega)];rfl
  ·rfl
 ·subst c
  simp only[sw];obtain⟨x,a⟩:∃x,xs[j]?=some x:=⟨_,bj (by omega)⟩;refine aI rfl (zP (by rw[dE];exact mP a) ?_);simp only[gj];refine ra h1 d e f (dK U ?_);simp[hp,List.getD,a]
def iC(xs:aN)(i a:Int):Int:=if 0<=i/\i<(xs.length:Int)/\0<=a then(if a>lg-hp xs i then 6 else 0)else 2
def fB(xs:aN)(i a:Int):aN:=if iC xs i a=0 then xs.set i.toNat (hp xs i+a)else xs
def TC{i y:Int}(U:T B (er b n (fB xs i y)::H) (K (.int .i64 (iC xs i y)))):T B (er b n xs::H) (ad P 300 #[pz b,.int .i64 i,.int .i64 y] K):=by
 refine z8 λg1 g2 g3 g4=>an (Nf _ _ _) ?_;simp only[cR,aR];refine gf (λvs H'=>vs=[]/\er b n xs::H=H') ?_ λR g=>aI rfl ?_
 rotate_left
 ·refine ED (λh1 a c=>bg rfl (aI ?_ ?_)) λh1 a d f rwb=>bg rfl (aI ?_ (ra h1 a d f (g _ _ ⟨rfl,rfl⟩)))
  ·exact ub.2 (by omega)
  ·subst c
   exact w3 h1 a (g _ _ ⟨rfl,rfl⟩)
  ·exact ub.2 (by omega)
 rintro vs H' ⟨rfl,rfl⟩;simp only[fk];intro _;refine EV (λq=>?_) λj rwb m r h1 a d f=>?_
 ·have e:iC xs i y=2:=by rw[iC,aj (by omega)]
  rw[fB,e,aj (by decide)]at U;simp only[sw];exact gf (λ_ _=>False) (λ_ _ h=>h.elim) λR _=>bo rfl U
 subst m;simp only[sw];obtain⟨x,c⟩:∃x,xs[j]?=some x:=⟨_,bj (by omega)⟩;have l:hp xs (j:Int)=x:=by simp[hp,List.getD,c]
 have o:=g4 x (cr c);refine gf (λvs H'=>vs=[]/\cl b (q9 n rwb)::cl rwb (iv .i64 xs).toArray::H=H'/\0<=y) ?_ λR g=>aI rfl (cZ (λh=>?_) λh=>g _ _ ⟨rfl,rfl,by simp at h;omega⟩)
 rotate_left
 ·have h:y<0:=by simpa using h
  have e:iC xs (j:Int) y=2:=by rw[iC,aj (by omega)]
  rw[fB,e,aj (by decide)]at U;exact ra h1 a d f U
 rintro vs H' ⟨rfl,rfl,s⟩;simp only[fk];intro _;refine zP (by rw[dE];exact mP c) ?_;simp only[gj];rw[jh (by simp only[lg]at o;omega) (by omega)];have k:iC xs (j:Int) y=if y>lg-x then 6 else 0:=by rw[iC,ag (by omega),l]
 refine cZ (λh=>?_) λh=>?_
 ·have h:y>lg-x:=by simpa using h
  rw[ag h]at k;rw[fB,k,aj (by decide)]at U;exact ra h1 a d f U
 ·have h:¬y>lg-x:=by simpa using h
  rw[aj h]at k;rw[fB,k,ag rfl,l,aZ]at U;refine Ec (by rw[dE];exact mP c) ?_;simp only[gj];rw[jh (by omega) (by simp only[lg]at*;omega)]
  have e:(iv .i64 xs).toArray.setIfInBounds j (.int .i64 (x+y))=(iv .i64 (xs.set j (x+y))).toArray:=by simp[iv,jj]
  rw[e];refine ra h1 a (by simpa using d) (λz hz=>?_) U;rcases ka hz with p|rfl
  ·exact f z p
  ·exact⟨by omega,by omega⟩
end
end
section
open Go.XS
structure Wm where
 mark:Int
 low:Bool
 eO:Bool
 level:Int
 least:Int
 times:Int
def f'(m:Wm):aw:=#[.int .i64 m.mark,.bool m.low,.bool m.eO,.int .i64 m.level,.int .i64 m.least,.int .i64 m.times]
def lv(n:Int):Int:=if 0>n then 0 else n
def xd(m:Wm)(n:Int):Wm:=
 let l:=lv n
 let s:=if m.eO then m.least else l
 let low:=decide (l<m.mark)
 {mark:=m.mark,low:=low,eO:=true,level:=l,least:=if l<s then l else s,times:=if low&&!m.low then IntKind.wrap .i64 (m.times+1)else m.times}
def sP(m:Wm)(n:Int):Int:=
 let low:=decide (lv n<m.mark)
 if low&&!m.low then 1 else if m.low&&!low then 2 else 0
def aaO{B:Heap}{H:au}{K:aK}{n:Int}(h0:0<=n)(h1:n<=1048576)(U:∀b,T B (cl b (f' ⟨n,false,false,0,0,0⟩)::H) (K (pz b))):T B H (ad P 143 #[.int .i64 n] K):=by apply an (Ta n);refine aI (by simp;omega) (aI (by simp;omega) (eg λb=>U b))
def aaN{B:Heap}{H:au}{K:aK}{b:Nat}{m:Wm}(U:T B (cl b (f' m)::H) (K (.bool m.low))):T B (cl b (f' m)::H) (ad P 370 #[pz b] K):=by apply an (S9 _);simp only[cR,aR];exact bo rfl (iW rfl U)
def aaM{B:Heap}{H:au}{K:aK}{b:Nat}{m:Wm}(U:T B (cl b (f' m)::H) (K (.int .i64 (if m.low then IntKind.wrap .i64 (m.mark-m.level)else 0)))):T B (cl b (f' m)::H) (ad P 303 #[pz b] K):=by
 apply an (S8 _);simp only[cR,aR];apply aaN;simp only[fl];cases hl:m.low
 ·rw[hl]at U
  exact bo rfl U
 ·rw[hl]at U
  exact aI rfl (bg rfl (bg rfl U))
def aaL{B:Heap}{H:au}{K:aK}{b:Nat}{m:Wm}{n:Int}(U:T B (cl b (f' (xd m n))::H) (K (.int .i64 (sP m n)))):T B (cl b (f' m)::H) (ad P 301 #[pz b,.int .i64 n] K):=by
 apply an (S7 _ _);simp only[cR,aR];refine aI rfl (iV #[.bool m.low,.bool m.eO,.int .i64 m.level,.int .i64 m.least,.int .i64 m.times] rfl ?_ ?_)
 ·intro j f
  match j,f with
  |0,_=>rfl
  |1,_=>rfl
  |2,_=>rfl
  |3,_=>rfl
  |4,_=>rfl
 refine eg λa=>hj rfl rfl (by simp[Value.oneCell']) ?_
 refine gf (λvs H'=>vs=[]/\H'=cl a #[.bool m.low,.bool m.eO,.int .i64 m.level,.int .i64 m.least,.int .i64 m.times]::
  cl b (f' {m with least:=if m.eO then m.least else lv n})::H) ?_ ?_
 ·rintro vs H' ⟨rfl,rfl⟩
  refine fk.2 λ_=>bg rfl (eE (by simp[f']) rfl (eE (by simp[f']) rfl (eE (by simp[f']) rfl (bg rfl (eE (by simp[f']) rfl ?_)))))
  have e:∀t:Int,(#[.int .i64 m.mark,.bool (decide (lv n<m.mark)),.bool true,.int .i64 (lv n),.int .i64 (if lv n<(if m.eO then m.least else lv n)then lv n else(if m.eO then m.least else lv n)),.int .i64 t]:aw)=
    f' {mark:=m.mark,low:=decide (lv n<m.mark),eO:=true,level:=lv n,least:=if lv n<(if m.eO then m.least else lv n)then lv n else(if m.eO then m.least else lv n),times:=t}:=λt=>rfl
  show T B (cl a #[.bool m.low,.bool m.eO,.int .i64 m.level,.int .i64 m.least,.int .i64 m.times]::cl b #[.int .i64 m.mark,.bool (decide (lv n<m.mark)),.bool true,.int .i64 (lv n),.int .i64 (if lv n<(if m.eO then m.least else lv n)then lv n else(if m.eO then m.least else lv n)),.int .i64 m.times]::H) _;refine gf (λvs H'=>vs=[.bool (decide (lv n<m.mark)&&!m.low)]/\H'=cl a #[.bool m.low,.bool m.eO,.int .i64 m.level,.int .i64 m.least,.int .i64 m.times]::cl b #[.int .i64 m.mark,.bool (decide (lv n<m.mark)),.bool true,.int .i64 (lv n),.int .i64 (if lv n<(if m.eO then m.least else lv n)then lv n else(if m.eO then m.least else lv n)),.int .i64 m.times]::H) ?_ ?_
  ·rintro vs H' ⟨rfl,rfl⟩
   simp only[kX,fk];intro g h;obtain rfl:(decide (lv n<m.mark)&&!m.low)=g:=by simpa using h
   cases hr:(decide (lv n<m.mark)&&!m.low)
   ·refine aI rfl (iW rfl ?_)
    have fin:∀r,sP m n=r->T B (cl a #[.bool m.low,.bool m.eO,.int .i64 m.level,.int .i64 m.least,.int .i64 m.times]::cl b #[.int .i64 m.mark,.bool (decide (lv n<m.mark)),.bool true,.int .i64 (lv n),.int .i64 (if lv n<(if m.eO then m.least else lv n)then lv n else(if m.eO then m.least else lv n)),.int .i64 m.times]::H) (K (.int .i64 r)):=by intro r i;apply dY;rw[e,<-i];simpa[xd,hr]using U
    cases hl:m.low
    ·rw[hl]at fin
     exact aI rfl (fin 0 (by simp[sP,hl]at hr⊢;exact hr))
    ·rw[hl]at fin
     refine bo rfl (iW rfl ?_);cases hd:decide (lv n<m.mark)
     ·rw[hd]at fin
      exact bo rfl (fin 2 (by simp[sP,hl]at hd⊢;exact hd))
     ·rw[hd]at fin
      exact aI rfl (fin 0 (by simp[sP,hl]at hd⊢;exact hd))
   ·refine bo rfl (bg rfl (eE (by simp) rfl (dY ?_)))
    show T B (cl b #[.int .i64 m.mark,.bool (decide (lv n<m.mark)),.bool true,.int .i64 (lv n),.int .i64 (if lv n<(if m.eO then m.least else lv n)then lv n else(if m.eO then m.least else lv n)),.int .i64 (IntKind.wrap .i64 (m.times+1))]::H) _;rw[e];simpa[xd,sP,hr]using U
  ·intro R c
   apply iW rfl;cases hd:decide (lv n<m.mark)
   ·exact aI rfl (c _ _ ⟨by simp[hd],by rw[hd]⟩)
   ·exact bo rfl (iW rfl (c _ _ ⟨by simp[hd],by rw[hd]⟩))
 ·intro R c
  have k:∀{H':au},m.eO=true->H'=cl a #[.bool m.low,.bool m.eO,.int .i64 m.level,.int .i64 m.least,.int .i64 m.times]::cl b (f' m)::H->T B H' (R []):=by rintro _ hf rfl;exact c _ _ ⟨rfl,by simp[hf,f']⟩
  have hy:m.eO=false->T B (cl a #[.bool m.low,.bool m.eO,.int .i64 m.level,.int .i64 m.least,.int .i64 m.times]::cl b (f' m)::H) (st ⟨b,0+1+3,none⟩ (.int .i64 (lv n)) (R [])):=by intro hf;refine eE (by simp[f']) rfl (c _ _ ⟨rfl,?_⟩);simp[f',hf]
  refine gf (λvs H'=>vs=[.bool (!m.eO)]/\H'=cl a #[.bool m.low,.bool m.eO,.int .i64 m.level,.int .i64 m.least,.int .i64 m.times]::cl b (f' m)::H) ?_ ?_
  ·rintro vs H' ⟨rfl,rfl⟩
   simp only[kX,fk];intro l h;obtain rfl:(!m.eO)=l:=by simpa using h
   cases hf:m.eO
   ·exact bo rfl (by rw[<-hf];exact hy hf)
   ·exact aI rfl (by rw[<-hf];exact k hf rfl)
  ·intro o d
   refine bV rfl ?_;refine JU (b:=m.low==false&&(m.eO==false&&(m.level==0&&(m.least==0&&(m.times==0&&true))))) (by kernel_rfl) (by kernel_rfl) (by kernel_rfl) (by kernel_rfl) ?_;simp only[fl];cases hf:m.eO
   ·rw[hf]at d
    cases hz:(m.low==false&&(false==false&&(m.level==0&&(m.least==0&&(m.times==0&&true)))))
    ·exact aI rfl (iW rfl (d _ _ ⟨rfl,rfl⟩))
    ·exact bo rfl (d _ _ ⟨rfl,rfl⟩)
   ·rw[hf]at d
    exact aI (by simp) (iW rfl (d _ _ ⟨rfl,rfl⟩))
end
section
open Go.XS
def tk(p lack:Int):Int:=if 0>(if lack<p then lack else p)then 0 else(if lack<p then lack else p)
def spread:Int->aN->aN
 |_,[]=>[]
 |lack,p::ps=>tk p lack::spread (lack-tk p lack) ps
def rest:Int->aN->Nat->Int
 |lack,[],_=>lack
 |lack,_,0=>lack
 |lack,p::ps,i+1=>rest (lack-tk p lack) ps i
def Cq(p lack:Int):0<=tk p lack/\(0<=lack->tk p lack<=lack)/\(lack<=0->tk p lack=0):=by unfold tk;refine⟨?_,λh=>?_,λh=>?_⟩<;>split<;>split<;>omega
def oa:∀(lack:Int) (xs:aN),(spread lack xs).length=xs.length
 |_,[]=>rfl
 |lack,p::ps=>by simp[spread,oa]
def HB(lack:Int)(xs:aN):rest lack xs 0=lack:=by cases xs<;>rfl
def Ca:∀(lack:Int) (xs:aN) (i:Nat) (x:Int),xs[i]?=some x->(spread lack xs)[i]?=some (tk x (rest lack xs i))/\rest lack xs (i+1)=rest lack xs i-tk x (rest lack xs i)
 |_,[],i,x,h=>by simp at h
 |lack,p::ps,0,x,h=>by simp at h;subst h;exact⟨rfl,HB _ _⟩
 |lack,p::ps,i+1,x,h=>Ca (lack-tk p lack) ps i x (by simpa using h)
def BN:∀(lack:Int) (xs:aN) (i:Nat),rest lack xs i<=lack/\(0<=lack->0<=rest lack xs i)/\(lack<=0->rest lack xs i=lack)
 |lack,[],i=>by simp[rest]
 |lack,p::ps,0=>by simp[rest]
 |lack,p::ps,i+1=>by obtain⟨h1,a,b⟩:=Cq p lack;obtain⟨e,c,d⟩:=BN (lack-tk p lack) ps i;simp only[rest];refine⟨by omega,λh=>c (by have:=a h;omega),λh=>?_⟩;have:=b h;rw[d (by omega)];omega
def eU(b:Nat)(xs:aN):bc:=eF λw:Nat=>eA [cl b #[.slice (some ⟨w,0,none⟩) xs.length xs.length],cl w (iv .i64 xs).toArray]
section
variable {B:Heap}{H:au}{K:aK}{b:Nat}{xs ys:aN}{lack:Int}{q:av}{l c:Nat}
def wU{p:HP}(t:∀w,T B (cl b #[.slice (some ⟨w,0,none⟩) xs.length xs.length]::cl w (iv .i64 xs).toArray::H) p):T B (eU b xs::H) p:=gg λw=>lS (t w)
def sB{p:HP}(w:Nat)(t:T B (eU b xs::H) p):T B (cl b #[.slice (some ⟨w,0,none⟩) xs.length xs.length]::cl w (iv .i64 xs).toArray::H) p:=jQ (Hs:=[cl b #[.slice (some ⟨w,0,none⟩) xs.length xs.length],cl w (iv .i64 xs).toArray]) (gI (q:=λw=>eA [cl b #[.slice (some ⟨w,0,none⟩) xs.length xs.length],cl w (iv .i64 xs).toArray]) w t)
def U8(n:Nat):(List.replicate n (Value.int .i64 0))=iv .i64 (List.replicate n 0):=by simp[iv]
def aar{n:Nat}(h1:n<=64)(U:∀b,T B (eU b (List.replicate n 0)::H) (K (pz b))):T B H (ad P 141 #[.int .i64 (n:Int)] K):=by apply an (SR _);refine aI (by simp) (aI (by simp;omega) (gy (by omega) (by omega) (by omega) (by rw[kZ];omega) (by kernel_rfl) (by kernel_rfl) λw=>eg λb=>?_));rw[l5,mr,lq,iP,aZ,U8];have:=sB w (U b);rw[g']at this;exact this
def aac{k:Nat}{p:Int}(a:-9223372036854775808<=lack)(b:lack<=9223372036854775807)(U:T B (cl k #[.int .i64 (lack-tk p lack)]::H) (K (.int .i64 (tk p lack)))):T B (cl k #[.int .i64 lack]::H) (ad P 410 #[.int .i64 p,pz k] K):=by apply an (SU _ _);simp only[cR];refine bg rfl (bg rfl (eE (by simp) rfl ?_));show T B (cl k #[.int .i64 (IntKind.wrap .i64 (lack-tk p lack))]::H) (K (.int .i64 (tk p lack)));obtain⟨h1,c,d⟩:=Cq p lack;rw[br (by omega)];exact U
def aau(hr:bF B H q (iv .i64 xs))(hl:l=xs.length)(h:l<=10000)(j:-9223372036854775808<=lack)(m:lack<=9223372036854775807)(U:∀k,T B (cl k (iv .i64 (spread lack xs)).toArray::H) (K (.slice (some ⟨k,0,none⟩) l l))):T B H (ad P 369 #[.int .i64 lack,.slice q l c] K):=by
 subst hl;apply an (SS _ _ _ _);refine eg λd=>gy (by omega) (by omega) (by omega) (by rw[kZ];omega) (by kernel_rfl) (by kernel_rfl) λb=>?_;rw[l5,mr,lq,iP,aZ]
 refine sq (λvs H'=>∃i:Nat,i<=xs.length/\vs=[.int .i64 (i:Int)]/\H'=cl b ((iv .i64 (spread lack xs)).take i++List.replicate (xs.length-i) (Value.int .i64 0)).toArray::cl d #[.int .i64 (rest lack xs i)]::H)
  (λvs=>match vs with|[.int _ i]=>xs.length-i.toNat|_=>0) ⟨0,nA _,rfl,by simp[HB]⟩ ?_
 rintro vs H' R ⟨i,hi,rfl,rfl⟩ e;simp only[kX,fk];intro n heq;simp only[lH,Value.int.injEq,nB,kT]at heq;subst heq;refine cZ (λhc=>?_) (λhc=>?_)
 ·have a:i<xs.length:=by simpa using hc
  obtain⟨z,hz⟩:∃z,xs[i]?=some z:=⟨_,bj a⟩;obtain⟨f,g⟩:=Ca lack xs i z hz;obtain⟨o,p,r⟩:=BN lack xs i;refine DY hr.tail.tail rfl a (mP hz) (cp (cA _ _ _) (aac (by omega) (by omega) ?_));simp only[gj,aR,aZ];refine ba ⟨by omega,by omega⟩ (eE (by simp[oa];omega) rfl (cp (cA _ _ _) ?_));rw[yS (by omega)];refine e _ _ ⟨i+1,by omega,rfl,?_⟩ (by simp only[aZ];omega);simp only[bI,jK];rw[YQ (by simp[oa]) a (mP f),g]
 ·have:i=xs.length:=by simp at hc;omega
  subst this;rw[ke (by simp[oa]),kS,tZ,j9];exact cp (cA _ _ _) (dY (U b))
def asked(xs:aN)(lack:Int)(ys:aN):aN:=if ys.length<=xs.length then spread lack ys++List.replicate (xs.length-ys.length) 0 else xs
def aaq(hr:bF B H q (iv .i64 ys))(hl:l=ys.length)(j:xs.length<=64)(a:-9223372036854775808<=lack)(d:lack<=9223372036854775807)(U:T B (eU b (asked xs lack ys)::H) (K (.int .i64 (if ys.length<=xs.length then 0 else 2)))):T B (eU b xs::H) (ad P 302 #[pz b,.int .i64 lack,.slice q l c] K):=by
 subst hl;refine wU λw=>an (SP _ _ _ _ _) ?_;simp only[cR,aR]
 refine gf (λvs H'=>vs=[]/\cl b #[.slice (some ⟨w,0,none⟩) xs.length xs.length]::cl w (iv .i64 xs).toArray::H=H'/\ys.length<=xs.length) ?_ λR f=>gf (λvs H'=>vs=[.bool false]/\cl b #[.slice (some ⟨w,0,none⟩) xs.length xs.length]::cl w (iv .i64 xs).toArray::H=H') ?_ λm g=>aI rfl (bU rfl (g _ _ ⟨rfl,rfl⟩))
 rotate_left
 ·rintro vs H' ⟨rfl,rfl⟩
  simp only[kX,fk];intro b heq;simp only[lH,Value.bool.injEq,kT]at heq;subst heq;refine aI rfl (bU rfl (cZ (λh=>?_) λh=>f _ _ ⟨rfl,rfl,by simp at h;omega⟩));have h:¬ys.length<=xs.length:=by simp at h;omega
  rw[asked,aj h,aj h]at U;exact sB w U
 rintro vs H' ⟨rfl,rfl,hle⟩;rw[asked,ag hle,ag hle]at U;simp only[fk];intro _;refine bU rfl (zz (b:=w) (o:=0) (cs:=(iv .i64 xs).toArray) (H':=λds=>cl b #[.slice (some ⟨w,0,none⟩) xs.length xs.length]::cl w ds::H) (t0:=31) (elem:=3) (s:=1) rfl (by kernel_rfl) (by kernel_rfl) (by rw[mr];rfl) ?_ (by simp) (dS rfl (bU rfl ?_)))
 ·rw[mr,yY]
  intro v i;rw[lI i];rfl
 rw[mr,yY,kI _ _ _ (by simp),sf,kQ,om (by simp),j9];refine aau hr.tail.tail rfl (by omega) a d λk=>?_;simp only[sx]
 refine eT rfl (um (b:=w) (o:=0) (H':=λds=>cl k (iv .i64 (spread lack ys)).toArray::cl b #[.slice (some ⟨w,0,none⟩) xs.length xs.length]::cl w ds::H) (s:=1) (t0:=31) (elem:=3) (ys:=iv .i64 (spread lack ys)) rfl (by kernel_rfl) (by kernel_rfl) (by kernel_rfl)
  (XN rfl) ?_ (U7 _ _) ?_ ?_)
 ·have:Nat.min ys.length xs.length=ys.length:=qP hle
  rw[this];simp[oa]
 ·have:Nat.min ys.length xs.length=ys.length:=qP hle
  rw[this];simp;omega
 simp only[gj];rw[kI _ _ _ (by simp[oa];omega)];apply dY
 have e:List.take 0 (List.replicate xs.length (Value.int .i64 0))++(iv .i64 (spread lack ys)++List.drop (0+(iv .i64 (spread lack ys)).length) (List.replicate xs.length (Value.int .i64 0)))=
   iv .i64 (spread lack ys++List.replicate (xs.length-ys.length) 0):=by
  simp[iv,oa]
 rw[e];have:=sB w U;have hlen:(spread lack ys++List.replicate (xs.length-ys.length) (0:Int)).length=xs.length:=by simp[oa];omega
 rw[hlen]at this;exact this
def vk(x n:Int):Int:=if 0>x-n then 0 else x-n
def rK(xs:aN)(i n:Int):Prop:=0<=i/\i<(xs.length:Int)/\0<=n
instance (xs:aN)(i n:Int):Decidable (rK xs i n):=by unfold rK;exact inferInstance
def aat{i n:Int}(a:¬rK xs i n)(U:T B (eU b xs::H) (K (.int .i64 2))):T B (eU b xs::H) (ad P 293 #[pz b,.int .i64 i,.int .i64 n] K):=by refine wU λw=>?_;have U:=sB w U;apply an (EB _ _ _);simp only[cR,aR];refine gf (λ_ _=>False) (λ_ _ h=>h.elim) λR e=>gf (λvs H'=>vs=[.bool false]/\cl b #[.slice (some ⟨w,0,none⟩) xs.length xs.length]::cl w (iv .i64 xs).toArray::H=H') ?_ λf c=>aI rfl (bU rfl (c _ _ ⟨rfl,rfl⟩));rintro vs H' ⟨rfl,rfl⟩;simp only[kX,fk];intro b heq;simp only[lH,Value.bool.injEq,kT]at heq;subst heq;refine aI rfl (cZ (λ_=>U) λh1=>bU rfl (cZ (λ_=>U) λd=>bo ?_ U));simp[rK]at h1 d a⊢;exact a (by omega) (by omega)
def aas{i:Nat}{n x:Int}(a:xs[i]?=some x)(f:0<=n)(g:n<=9223372036854775807)(h0:0<=x)(h1:x<=9223372036854775807)(U:T B (eU b (xs.set i (vk x n))::H) (K (.int .i64 0))):T B (eU b xs::H) (ad P 293 #[pz b,.int .i64 (i:Int),.int .i64 n] K):=by
 have hi:i<xs.length:=(bY.1 a).1;refine wU λw=>?_;have U:=sB w U;apply an (EB _ _ _);simp only[cR,aR];refine gf (λvs H'=>vs=[]/\cl b #[.slice (some ⟨w,0,none⟩) xs.length xs.length]::cl w (iv .i64 xs).toArray::H=H') ?_ λR c=>gf (λvs H'=>vs=[.bool false]/\cl b #[.slice (some ⟨w,0,none⟩) xs.length xs.length]::cl w (iv .i64 xs).toArray::H=H') ?_ λh d=>aI rfl (bU rfl (d _ _ ⟨rfl,rfl⟩))
 ·rintro vs H' ⟨rfl,rfl⟩
  simp only[fk];intro _;refine bU rfl (bU rfl (oF rfl hi (by rw[dE,bI];exact mP a) (oG rfl hi (by simp;omega) rfl ?_)));rw[br (by omega)];simp only[bI,jK];have e:(iv .i64 xs).set i (Value.int .i64 (if 0>x-n then 0 else x-n))=iv .i64 (xs.set i (vk x n)):=by simp[iv,vk,jj]
  rw[e];simpa using U
 ·rintro vs H' ⟨rfl,rfl⟩
  simp only[kX,fk];intro b heq;simp only[lH,Value.bool.injEq,kT]at heq;subst heq;exact aI rfl (aI (by simp) (bU rfl (aI (by simp;omega) (aI (by simp;omega) (c _ _ ⟨rfl,rfl⟩)))))
def vU(xs:aN)(i:Int):Int:=if 0<=i then xs.getD i.toNat 0 else 0
def aav{i:Int}(U:T B (eU b xs::H) (K (.int .i64 (vU xs i)))):T B (eU b xs::H) (ad P 311 #[pz b,.int .i64 i] K):=by
 refine wU λw=>?_;have U:=sB w U;apply an (SQ _ _);simp only[cR,aR];refine gf (λvs H'=>vs=[]/\cl b #[.slice (some ⟨w,0,none⟩) xs.length xs.length]::cl w (iv .i64 xs).toArray::H=H'/\0<=i/\i<(xs.length:Int)) ?_ λR c=>aI rfl (cZ (λh=>dK U ?_) λh=>bU rfl (cZ (λa=>dK U ?_) λa=>c _ _ ⟨rfl,rfl,?_,?_⟩))
 ·rintro vs H' ⟨rfl,rfl,h0,h1⟩
  simp only[fk];intro _;obtain⟨j,rfl⟩:∃j:Nat,i=(j:Int):=⟨i.toNat,by omega⟩;obtain⟨z,hz⟩:∃z,xs[j]?=some z:=⟨_,bj (by omega)⟩;refine bU rfl (oF rfl (by omega) (by rw[dE,bI];exact mP hz) (dK U ?_));simp[vU,List.getD,hz]
 ·have:¬0<=i:=by simp at h;omega
  rw[vU,aj this]
 ·have:(xs.length:Int)<=i:=by simpa using a
  rw[vU,ag (by omega),List.getD,iN (by omega)];rfl
 ·simp at h;omega
 ·simp at a;omega
end
end
section
open Go.XS
structure Tk where
 id:Int
 aO:Int
 count:Int
 state:Int
 b4:Int
def fQ(t:Tk):aw:=#[.int .i64 t.id,.int .i64 t.aO,.int .i64 t.count,.int .i64 t.state,.int .i64 t.b4]
def dy:Tk:=⟨0,0,0,0,0⟩
def right(t:Tk):Bool:=decide (t.id>=1/\0<=t.aO/\t.aO<64/\1<=t.count/\t.count<=1048576/\(t.state=1\/t.state=2\/t.state=3)/\0<=t.b4)
def check(t:Tk):Int:=if right t then(if t.state=1 then 0 else 13)else 2
def c6(t:Tk)(s:Int):Tk:=if check t=0 then{t with state:=s}else dy
def j3(t:Tk):Tk:=if check t=0 then(if t.b4>=1099511627776 then dy else{t with b4:=t.b4+1})else dy
def kE(t:Tk):Int:=if check t=0 then(if t.b4>=1099511627776 then 6 else 0)else check t
def iI(a b c:Int):Tk:=⟨a,b,c,1,0⟩
def nS(a b c:Int):Tk:=if right (iI a b c)then iI a b c else dy
def o3(a b c:Int):Int:=if right (iI a b c)then 0 else 2
def nc(t:Tk)(e:Int):Value:= .tuple #[.agg (fQ t),.int .i64 e]
section
variable {B:Heap}{H:au}{K:aK}
def nV(t:Tk):∀v∈(fQ t).toList,v.oneCell'=true:=by simp[fQ,Value.oneCell']
def Co{n lo hi:Int}(U:T B H (K (.bool (decide (lo<=n/\n<=hi))))):T B H (ad P 400 #[.int .i64 n,.int .i64 lo,.int .i64 hi] K):=by
 refine an (Sz _ _ _) (cZ (λh=>dK U ?_) λh=>dK U ?_)
 ·have:lo<=n:=by simpa using h
  simp[this]
 ·have:¬lo<=n:=by simpa using h
  simp[this]
def Cm{t:Tk}(U:T B H (K (.bool (right t)))):T B H (ad P 347 #[.agg (fQ t)] K):=by
 refine an (Sv _) (eg λk=>?_);simp only[aR];have a:=dY (q:=cl k (fQ t)) U;refine bg rfl (cZ (λh1=>bg rfl (cZ (λb=>bg rfl (Co ?_)) λb=>dK a ?_)) λh1=>dK a ?_)
 ·simp only[fl]
  refine cZ (λc=>bg rfl (Co ?_)) λc=>dK a ?_
  ·simp only[fl]
   refine cZ (λd=>bg rfl (Co ?_)) λd=>dK a ?_
   ·simp only[fl]
    apply dK a;simp only[bJ]at h1 b c d;simp only[right,Value.bool.injEq,jl];omega
   ·simp only[bJ,hg]at h1 b c d
    simp only[right,Value.bool.injEq,hg];omega
  ·simp only[bJ,hg]at h1 b c
   simp only[right,Value.bool.injEq,hg];omega
 ·simp only[bJ,hg]at h1 b
  simp only[right,Value.bool.injEq,hg];omega
 ·simp only[bJ,hg]at h1
  simp only[right,Value.bool.injEq,hg];omega
def It{t:Tk}(U:T B H (K (.int .i64 (check t)))):T B H (ad P 374 #[.agg (fQ t)] K):=by
 refine an (Sw _) (eg λk=>?_);simp only[aR];have a:=dY (q:=cl k (fQ t)) U;refine bV rfl (Cm ?_);simp only[fl];cases hr:right t
 ·exact bo rfl (dK a (by simp[check,hr]))
 ·refine aI rfl (bg rfl (cZ (λh=>dK a ?_) λh=>dK a ?_))
  ·have:¬t.state=1:=by simpa using h
   simp[check,hr,this]
  ·have:t.state=1:=by simpa using h
   simp[check,hr,this]
def Iu{t:Tk}{s:Int}(U:T B H (K (nc (c6 t s) (check t)))):T B H (ad P 351 #[.agg (fQ t),.int .i64 s] K):=by
 refine an (Sy _ _) (eg λk=>eg λb=>?_);simp only[aR];refine bV rfl (It ?_);simp only[gj];refine cZ (λh=>?_) (λh=>?_)
 ·have a:¬check t=0:=by simpa using h
  refine hj rfl rfl (nV dy) (bV rfl ?_);refine dY (dY (dK U ?_));simp[c6,a,nc,fQ,dy]
 ·have a:check t=0:=by simpa using h
  refine eE (by simp[fQ]) rfl (bV rfl ?_);refine hj rfl rfl (nV {t with state:=s}) (bV rfl ?_);refine dY (dY (dK U ?_));simp[c6,a,nc,fQ]
def aaf{t:Tk}(U:T B H (K (nc (c6 t 2) (check t)))):T B H (ad P 380 #[.agg (fQ t)] K):=by refine an (Sr _) (eg λk=>eg λa=>bV rfl (Iu (ct _ (ct _ (dS rfl ?_)))));refine hj rfl rfl (nV _) (bV rfl ?_);exact dY (dY U)
def aae{t:Tk}(U:T B H (K (nc (c6 t 3) (check t)))):T B H (ad P 268 #[.agg (fQ t)] K):=by refine an (Sq _) (eg λk=>eg λa=>bV rfl (Iu (ct _ (ct _ (dS rfl ?_)))));refine hj rfl rfl (nV _) (bV rfl ?_);exact dY (dY U)
def Tv{t:Tk}(h:check t=0):0<=t.b4:=by
 unfold check at h;split at h
 ·rename_i hr
  simp only[right,bJ]at hr;omega
 ·cases h
def aah{t:Tk}(U:T B H (K (nc (j3 t) (kE t)))):T B H (ad P 307 #[.agg (fQ t)] K):=by
 refine an (Su _) (eg λk=>eg λd=>?_);simp only[aR];refine bV rfl (It ?_);simp only[gj];refine cZ (λh=>?_) (λh=>bg rfl (cZ (λb=>?_) λb=>?_))
 ·have a:¬check t=0:=by simpa using h
  refine hj rfl rfl (nV dy) (bV rfl ?_);refine dY (dY (dK U ?_));simp[j3,kE,a,nc,fQ,dy]
 ·have a:check t=0:=by simpa using h
  have c:t.b4>=1099511627776:=by simpa using b
  refine hj rfl rfl (nV dy) (bV rfl ?_);refine dY (dY (dK U ?_));simp[j3,kE,a,c,nc,fQ,dy]
 ·have a:check t=0:=by simpa using h
  have c:¬t.b4>=1099511627776:=by simpa using b
  have e:=Tv a;refine bg rfl (eE (by simp[fQ]) rfl (bV rfl ?_));rw[br (by omega)];refine hj rfl rfl (nV {t with b4:=t.b4+1}) (bV rfl ?_);refine dY (dY (dK U ?_));simp[j3,kE,a,c,nc,fQ]
def aag{a b c:Int}(U:T B H (K (nc (nS a b c) (o3 a b c)))):T B H (ad P 263 #[.int .i64 a,.int .i64 b,.int .i64 c] K):=by
 apply an (Ss _ _ _);refine eg λk=>eg λd=>?_;refine hj (cs:=fQ dy) rfl rfl (nV (iI a b c)) (bV rfl (Cm (t:=iI a b c) ?_));simp only[fl];cases hr:right (iI a b c)
 ·refine bo rfl (hj (cs:=fQ dy) rfl rfl (nV dy) (bV rfl ?_))
  refine dY (dY (dK U ?_));simp[nS,o3,hr,nc,fQ,dy]
 ·refine aI rfl (bV rfl (hj (cs:=fQ dy) rfl rfl (nV (iI a b c)) (bV rfl ?_)))
  refine dY (dY (dK U ?_));rw[nS,o3,ag hr,ag hr];rfl
end
end
section
open Go.XS
def bM(d:List UInt8)(a:Nat)(xs:List UInt8):List UInt8:=d.take a++(xs++d.drop (a+xs.length))
def tH{d xs:List UInt8}{a:Nat}(h:a+xs.length<=d.length):(bM d a xs).length=d.length:=by simp[bM];omega
def yG{d xs:List UInt8}{a:Nat}(h:a+xs.length<=d.length)(p:Nat):(bM d a xs)[p]?=if a<=p/\p<a+xs.length then xs[p-a]? else d[p]?:=by
 unfold bM;by_cases h1:p<a
 ·rw[gx (by simp;omega),aj (by omega),ny,ag h1]
 ·rw[iu (by simp;omega)]
  simp only[fv];rw[show p-min a d.length=p-a by omega];by_cases b:p<a+xs.length
  ·rw[gx (by omega),ag (by omega)]
  ·rw[iu (by omega),aj (by omega),pF]
   congr 1;omega
def aaC(d:List UInt8)(a:Nat):bM d a []=d:=by simp[bM]
def yH{d xs:List UInt8}{a:Nat}(h:a+xs.length<=d.length)(p:Nat):(bM d a xs).getD p 0=if a<=p/\p<a+xs.length then xs.getD (p-a) 0 else d.getD p 0:=by simp only[List.getD,yG h];split<;>rfl
def row(d:List UInt8)(k:Nat):List UInt8:=(List.range 64).map λj=>d.getD (64*k+j) 0
@[simp] theorem ac0 (d:List UInt8) (k:Nat):(row d k).length=64:=by simp[row]
theorem tz{d:List UInt8}{k j:Nat}(h:j<64):(row d k)[j]?=some (d.getD (64*k+j) 0):=by simp[row,h]
def Av{a b:List UInt8}(ha:a.length=64)(d:b.length=64)(h:∀j,j<64->a[j]?=b[j]?):a=b:=by
 apply ji;intro j;by_cases c:j<64
 ·exact h j c
 ·rw[iN (by omega),iN (by omega)]
def Ym{d src:List UInt8}{a i m c b:Nat}(h:a+src.length<=d.length)(hi:i+m<=src.length)(n:a+i=64*c+b)(U:b+m<=64):row (bM d a (src.take (i+m))) c=bM (row (bM d a (src.take i)) c) b ((src.drop i).take m):=by
 have k:(src.take (i+m)).length=i+m:=by simp;omega
 have l:(src.take i).length=i:=by simp;omega
 have e:((src.drop i).take m).length=m:=by simp;omega
 refine Av (by simp) (by rw[tH (by rw[e];simp;omega)];simp) λj f=>?_;rw[tz f,yG (by rw[e];simp;omega),tz f,yH (by omega),yH (by omega),k,l,e];by_cases h1:b<=j/\j<b+m
 ·rw[ag h1,ag (by omega),ny,ag (by omega),pF]
  have:i+(j-b)<src.length:=by omega
  rw[bj this];simp only[List.getD,ny];rw[ag (by omega),show 64*c+j-a=i+(j-b) by omega,bj this];rfl
 ·rw[aj h1]
  congr 1;by_cases g:a<=64*c+j/\64*c+j<a+i
  ·rw[ag g,ag (by omega)]
   simp only[List.getD,ny];rw[ag (by omega),ag (by omega)]
  ·rw[aj g,aj (by omega)]
def Yk{d src:List UInt8}{a i m c b j:Nat}(h:a+src.length<=d.length)(hi:i+m<=src.length)(n:a+i=64*c+b)(U:b+m<=64)(o:b<64)(g:j≠c):row (bM d a (src.take (i+m))) j=row (bM d a (src.take i)) j:=by
 have k:(src.take (i+m)).length=i+m:=by simp;omega
 have l:(src.take i).length=i:=by simp;omega
 refine Av (by simp) (by simp) λt e=>?_;rw[tz e,tz e,yH (by omega),yH (by omega),k,l];congr 1;by_cases f:a<=64*j+t/\64*j+t<a+i
 ·rw[ag f,ag (by omega)]
  simp only[List.getD,ny];rw[ag (by omega),ag (by omega)]
 ·rw[aj f,aj (by rcases Nat.lt_or_gt_of_ne g with h|h<;>omega)]
def Yl{d:List UInt8}{p m c b:Nat}(e:p=64*c+b)(U:b+m<=64)(hm:p+m<=d.length):(d.drop p).take m=((row d c).drop b).take m:=by
 apply ji;intro j;simp only[ny,pF];by_cases a:j<m
 ·rw[ag a,ag a,tz (by omega),bj (by omega)]
  simp only[List.getD];rw[bj (by omega)];simp only[fx];congr 2;omega
 ·rw[aj a,aj a]
def im:List UInt8:=List.replicate 64 0
def fq(d:List UInt8):Int->Option Value:=λk=>if 0<=k/\row d k.toNat≠im then some (.agg (bv (row d k.toNat)).toArray)else none
def xj(d:List UInt8)(k:Nat):fq d (k:Int)=if row d k≠im then some (.agg (bv (row d k)).toArray)else none:=by simp[fq]
def FF{d src:List UInt8}{a i m b c:Nat}(h:a+src.length<=d.length)(hi:i+m<=src.length)(f:a+i=64*b+c)(U:c+m<=64)(g:c<64){v:Option Value}(k:v=fq (bM d a (src.take (i+m))) (b:Int)):(λj=>if j=(b:Int)then v else fq (bM d a (src.take i)) j)=fq (bM d a (src.take (i+m))):=by
 funext j;by_cases e:j=(b:Int)
 ·subst e;simp[k]
 ·rw[aj e]
  unfold fq;by_cases h0:0<=j
  ·rw[Yk h hi f U g (by omega)]
  ·simp[h0]
def H9{r xs:List UInt8}{k:Nat}(h:k+xs.length<=r.length):eB (bv r).toArray k (bv xs)=(bv (bM r k xs)).toArray:=by rw[kI _ _ _ (by simpa using h)];simp[bM,bv]
def bs(d:List UInt8):Nat:=d.countP (·!=0)
def Ai(a b:List UInt8):bs (a++b)=bs a+bs b:=by simp[bs]
def ER(n:Nat):bs (List.replicate n 0)=0:=by simp[bs,I7]
def Yj(d:List UInt8)(k:Nat):∃z,row d k=(d.drop (64*k)).take 64++List.replicate z 0:=by
 refine⟨64-((d.drop (64*k)).take 64).length,?_⟩;have hl:((d.drop (64*k)).take 64).length<=64:=by simp;omega
 refine Av (by simp) (by simp only[b',g'];omega) λj a=>?_;rw[tz a];by_cases h:j<((d.drop (64*k)).take 64).length
 ·rw[gx h,ny,ag a,pF]
  simp only[fv,kN]at h;rw[bj (by omega)];simp only[List.getD];rw[bj (by omega)];rfl
 ·rw[iu (by omega),r8,ag (by omega)]
  simp only[fv,kN]at h;simp only[List.getD];rw[iN (by omega)];rfl
def Aj(d:List UInt8)(k:Nat):bs (row d k)=bs ((d.drop (64*k)).take 64):=by obtain⟨z,h⟩:=Yj d k;rw[h,Ai,ER,mA]
def EP(d:List UInt8):∀R,((List.range R).map λk=>bs (row d k)).sum=bs (d.take (64*R))
 |0=>rfl
 |R+1=>by rw[List.range_succ,eY,zm,EP d R,show 64*(R+1)=64*R+64 by omega,List.take_add,Ai];simp[Aj]
def Ak{d:List UInt8}:bs d=0↔∀x∈d,x=0:=by simp[bs,wa]
def BT{d:List UInt8}{k:Nat}:row d k=im↔bs (row d k)=0:=by
 rw[Ak];constructor
 ·intro h x a;rw[h]at a;exact lI a
 ·intro h;exact List.eq_replicate_of_mem h|>.trans (by simp[im])
def Z8{a b:List Nat}(h:a.Perm b):a.sum=b.sum:=by
 induction h with
 |nil=>rfl
 |cons x _ c=>simp[c]
 |swap x y l=>simp only[jM];omega
 |trans _ _ h1 d=>exact h1.trans d
def Im(f:Nat->Nat)(q:Nat->Bool):∀(l:List Nat),(∀x∈l,q x=false->f x=0)->((l.filter q).map f).sum=(l.map f).sum
 |[],_=>rfl
 |x::l,h=>by
  have b:=Im f q l (λy c=>h y (by simp[c]));cases a:q x
  ·rw[nu (by simp[a]),cX,jM,h x (by simp) a,b];omega
  ·rw[nw a,cX,jM,cX,jM,b]
def TA{d:List UInt8}{ks:aN}(h1:∀k v,fq d k=some v->k∈ks)(f:∀k,k∈ks->∃v,fq d k=some v)(g:ks.Nodup):(ks.map λk=>bs (row d k.toNat)).sum=bs d:=by
 let R:=d.length/64+1
 have U:∀k,k∈ks↔0<=k/\row d k.toNat≠im:=by
  intro k;constructor
  ·intro h
   obtain⟨v,b⟩:=f k h;unfold fq at b;split at b
   ·assumption
   ·cases b
  ·intro h
   exact h1 k _ (by unfold fq;rw[ag h])
 have i:∀k,row d k≠im->k<R:=by
  intro k h;rcases wt k R with c|c
  ·exact c
  ·exfalso
   apply h;rw[BT,Aj,om (by simp only[R]at c;omega)];rfl
 have j:ks.Perm (((List.range R).filter λk=>decide (row d k≠im)).map λk:Nat=>(k:Int)):=by
  refine(zl g ?_).2 λk=>?_
  ·exact kR.2 ((List.nodup_range.filter _).imp λh=>by omega)
  ·rw[U]
   simp only[bP,pG,ou,bJ];constructor
   ·rintro⟨m,a⟩
    exact⟨k.toNat,⟨i _ a,a⟩,by omega⟩
   ·rintro⟨n,⟨_,a⟩,rfl⟩
    exact⟨by omega,by simpa using a⟩
 rw[Z8 (j.map _),nz];have e:((λk:Int=>bs (row d k.toNat))∘λk:Nat=>(k:Int))=λk=>bs (row d k):=by funext k;simp
 rw[e,Im,EP,ke (by simp only[R];omega)];intro x _ l;exact BT.1 (by simpa using l)
def Ty{d:List UInt8}:(∀k,fq d k=none)↔bs d=0:=by
 constructor
 ·intro h
  have:=TA (d:=d) (ks:=[]) (λk v a=>by rw[h k]at a;cases a) (by simp) (by simp);exact this.symm
 ·intro h k
  have hz:=Ak.1 h;unfold fq;rw[aj];rintro⟨h0,h1⟩;apply h1;rw[BT,Aj,Ak];intro x b;exact hz x (tW (kP b))
end
section
open Go.XS
def yW:zc P 533=(bv im).toArray:=by kernel_rfl
def yX:zc P 5=#[.int .u8 0]:=by kernel_rfl
def Ti:P.cellsOf 5=1:=by kernel_rfl
def LA:P.bytesOf 5=1:=by kernel_rfl
def jR(r:Nat)(d:List UInt8):aw:=#[.map (some r),.int .i64 (d.length:Int)]
def ei(b:Nat)(d:List UInt8):bc:=fa (1<=d.length/\d.length<=1048576)<|eF λr:Nat=>eA [cl b (jR r d),IM r (fq d)]
section
variable {B:Heap}{H:au}{K:aK}{b r:Nat}{d src:List UInt8}
def uD{p:HP}(t:1<=d.length->d.length<=1048576->∀r,T B (cl b (jR r d)::IM r (fq d)::H) p):T B (ei b d::H) p:=gz λ⟨h1,a⟩=>gg λr=>lS (t h1 a r)
def uC{p:HP}(h1:1<=d.length)(a:d.length<=1048576)(t:T B (ei b d::H) p):T B (cl b (jR r d)::IM r (fq d)::H) p:=jQ (Hs:=[cl b (jR r d),IM r (fq d)]) (gI (q:=λr=>eA [cl b (jR r d),IM r (fq d)]) r (ic ⟨h1,a⟩ t))
def zY{p:HP}(t:1<=d.length->d.length<=1048576->T B (ei b d::H) p):T B (ei b d::H) p:=gz λh=>ic h (t h.1 h.2)
def UF(n:Nat):fq (List.replicate n 0)=λ_=>none:=by funext k;exact(Ty.2 (ER n)) k
def LH{n:Nat}(h0:1<=n)(h1:n<=1048576)(U:∀b,T B (ei b (List.replicate n 0)::H) (K (pz b))):T B H (ad P 377 #[.int .i64 (n:Int)] K):=by apply an (MY _);refine aI (by simp;omega) (aI (by simp;omega) (zH λr=>eg λb=>?_));have:=uC (r:=r) (by simpa using h0) (by simpa using h1) (U b);rw[UF]at this;simpa[jR]using this
def within(len:Nat)(a n:Int):Prop:=0<=a/\0<=n/\a+n<=(len:Int)
instance (len:Nat)(a n:Int):Decidable (within len a n):=by unfold within;exact inferInstance
def hW(len:Nat)(a n:Int):Int:=if within len a n then 0 else 15
def abI{a n:Int}(U:T B H (K (.int .i64 16))):T B H (ad P 362 #[.pointer none,.int .i64 a,.int .i64 n] K):=by refine an (Eu _ _ _) (gf (λvs H'=>vs=[.bool true]/\H=H') ?_ λR c=>bo rfl (c _ _ ⟨rfl,rfl⟩));rintro vs H' ⟨rfl,rfl⟩;simp only[kX,fk];intro b heq;simp only[lH,Value.bool.injEq,kT]at heq;subst heq;exact bo rfl U
def zZ{a n:Int}(U:T B (ei b d::H) (K (.int .i64 (hW d.length a n)))):T B (ei b d::H) (ad P 362 #[pz b,.int .i64 a,.int .i64 n] K):=by
 refine uD λh1 g r=>?_;have U:=uC (r:=r) h1 g U;apply an (Eu _ _ _);simp only[cR,aR];refine gf (λvs H'=>vs=[.bool false]/\cl b (jR r d)::IM r (fq d)::H=H') ?_ λR i=>aI rfl (pP rfl (i _ _ ⟨rfl,rfl⟩));rintro vs H' ⟨rfl,rfl⟩;simp only[kX,fk];intro b heq;simp only[lH,Value.bool.injEq,kT]at heq;subst heq;refine aI rfl (cZ (λh=>dK U ?_) λc=>cZ (λh=>dK U ?_) λe=>bg rfl (cZ (λh=>dK U ?_) λf=>bg rfl (cZ (λh=>dK U ?_) λh=>dK U ?_)))
 ·have h:a<0:=by simpa using h
  rw[hW,aj (by unfold within;omega)]
 ·have h:n<0:=by simpa using h
  rw[hW,aj (by unfold within;omega)]
 ·have c:0<=a:=by simpa using c
  have e:0<=n:=by simpa using e
  have h:a>(d.length:Int):=by simpa using h
  rw[hW,aj (by unfold within;omega)]
 ·have c:0<=a:=by simpa using c
  have f:a<=(d.length:Int):=by simpa using f
  rw[br (by omega)]at h;have h:n>(d.length:Int)-a:=by simpa using h
  rw[hW,aj (by unfold within;omega)]
 ·have c:0<=a:=by simpa using c
  have e:0<=n:=by simpa using e
  have f:a<=(d.length:Int):=by simpa using f
  rw[br (by omega)]at h;have h:n<=(d.length:Int)-a:=by simpa using h
  rw[hW,ag (by unfold within;omega)]
def abo{z:Value}(h:z.cells=zc P 533):z= .agg (bv im).toArray:=by rw[yW]at h;exact Tn h (by simp[im])
def HE{k:Nat}(U:T B (IM r (fq d)::H) (K (.agg (bv (row d k)).toArray))):T B (IM r (fq d)::H) (aH P (Instr.lookup 534 (.map (some r)) (.int .i64 (k:Int)) false) K):=by
 refine J5 (kt:=3) (et:=533) (by kernel_rfl) (by kernel_rfl) (by kernel_rfl) (λz a hz=>?_) λv a=>?_
 ·rw[xj]at a
  split at a
  ·cases a
  ·rename_i h
   have h:row d k=im:=by simpa using h
   rw[abo hz,<-h];exact U
 ·rw[xj]at a
  split at a
  ·cases a;exact U
  ·cases a
def E1{a i:Nat}(h:a+i<=2000000):IntKind.wrap .i64 ((a:Int)+(i:Int))=((a+i:Nat):Int)/\IntKind.wrap .i64 (Int.tdiv ((a+i:Nat):Int) 64)=(((a+i)/64:Nat):Int)/\Int.tmod ((a+i:Nat):Int) 64=(((a+i)%64:Nat):Int):=by
 refine⟨?_,?_,?_⟩
 ·rw[br (by omega)];omega
 ·rw[CY (by omega),br (by omega)];omega
 ·rw[y5 (by omega)];omega
def Es{a:Nat}{g3:Nat}{ca3:aw}(l:a+src.length<=d.length)(hd:d.length<=1048576)(z:∀(p1 p2:bc) (k o m c i:Nat) (cells:az) (s:aK),o+m<=cells.length->i+m<=src.length->T B (cl k (eB cells.toArray o (bv ((src.drop i).take m)))::p1::p2::H) (s (.tuple #[]))->T B (cl k cells.toArray::p1::p2::H) (kn P g3 (Array.mk ([.slice (some ⟨k,o,none⟩) m c,.int .i64 (i:Int)]++ca3.toList)) s))(U:T B (cl b (jR r d)::IM r (fq (bM d a src))::H) (K (.tuple #[]))):T B (cl b (jR r d)::IM r (fq d)::H) (ad P 363 #[pz b,.int .i64 (a:Int),.int .i64 (src.length:Int),.func (.func g3) #[] ca3] K):=by
 apply an (MX _ _ _ _ _);simp only[cR,aR]
 refine sq (λvs H'=>∃i:Nat,i<=src.length/\vs=[.int .i64 (i:Int)]/\cl b (jR r d)::IM r (fq (bM d a (src.take i)))::H=H')
  (λvs=>match vs with|[.int _ i]=>src.length-i.toNat|_=>0) ⟨0,nA _,rfl,by rw[sf,aaC]⟩ ?_
 rintro vs H' R ⟨i,hi,rfl,rfl⟩ A;simp only[kX,fk];intro O heq;simp only[lH,Value.int.injEq,nB,kT]at heq;subst heq;refine cZ (λhc=>?_) (λhc=>?_)
 rotate_left
 ·have:i=src.length:=by simp at hc;omega
  subst this;rw[ke (dQ _)]at*;exact U
 have Q:i<src.length:=by simpa using hc
 obtain⟨C,w2,D⟩:=E1 (a:=a) (i:=i) (by omega);generalize S:(a+i)/64=g at*;generalize V:(a+i)%64=f at*;have p:a+i=64*g+f:=by omega
 have t:f<64:=by omega
 have E:IntKind.wrap .i64 ((src.length:Int)-(i:Int))=((src.length-i:Nat):Int):=by rw[br (by omega)];omega
 have F:IntKind.wrap .i64 ((64:Int)-(f:Int))=((64-f:Nat):Int):=by rw[br (by omega)];omega
 let m:Nat:=if src.length-i<64-f then src.length-i else 64-f
 have G:(if((src.length-i:Nat):Int)<((64-f:Nat):Int)then((src.length-i:Nat):Int)else((64-f:Nat):Int))=(m:Int):=by simp only[m];split<;>split<;>omega
 have j:i+m<=src.length:=by simp only[m];split<;>omega
 have q:f+m<=64:=by simp only[m];split<;>omega
 have W:0<m:=by simp only[m];split<;>omega
 have I:IntKind.wrap .i64 ((f:Int)+(m:Int))=((f+m:Nat):Int):=by rw[br (by omega)];omega
 have J:IntKind.wrap .i64 ((i:Int)+(m:Int))=((i+m:Nat):Int):=by rw[br (by omega)];omega
 simp only[C,w2,D,E,F,G,I,J,aZ];refine ba (by decide) (ba (by decide) (pP rfl ?_));refine cp (cA _ _ _) (HE (cp (cA _ _ _) ?_));simp only[D9];have L:(bv (row (bM d a (src.take i)) g)).toArray.size=64:=by simp
 refine eg λk=>hj L (by rw[yW];simp[im]) (λv M=>zW _ v (by simpa using M)) (ba ⟨by omega,by omega⟩ (ba ⟨by omega,by omega⟩ ?_))
 have eu:lT ⟨k,0,none⟩ 1 f 64=⟨k,f,none⟩:=by unfold lT;rw[aj (by omega),aR];simp
 rw[eu,show f+m-f=m by omega];refine z _ _ k f m (64-f) i _ _ (by simp;omega) j (dS rfl ?_);rw[H9 (by simp;omega),<-Ym l j p q];apply bV (by simp);have hz:zc P 533=(iv .u8 (im.map λb=>(b.toNat:Int))).toArray:=by rw[yW,zV]
 rw[hz];simp only[zV];apply JV (n:=64) (e:=5) (k:= .u8) (by kernel_rfl) (by kernel_rfl) (by kernel_rfl) (by kernel_rfl) (by kernel_rfl) (by simp) (by simp[im]);simp only[fl]
 have u:((row (bM d a (src.take (i+m))) g).map λb=>(b.toNat:Int))=(im.map λb=>(b.toNat:Int))↔row (bM d a (src.take (i+m))) g=im:=by refine⟨λh=>?_,λh=>by rw[h]⟩;exact List.map_inj_right (λx y X=>UInt8.toNat_inj.1 (by omega))|>.1 h
 have w:T B (cl b (jR r d)::IM r (fq (bM d a (src.take (i+m))))::H) (R [.int .i64 ((i+m:Nat):Int)]):=A _ _ ⟨i+m,j,rfl,rfl⟩ (by simp only[aZ];omega)
 refine cZ (λh=>?_) λh=>?_
 ·have h:row (bM d a (src.take (i+m))) g=im:=u.1 (sg h)
  refine pP rfl (dY (cp (cA _ _ _) (DI (et:=533) (by kernel_rfl) (by kernel_rfl) (dS rfl ?_))));rw[FF l j p q t (by rw[xj,aj (by simpa using h)])];exact cp (cA _ _ _) w
 ·have h:¬row (bM d a (src.take (i+m))) g=im:=λN=>of_decide_eq_false h (u.2 N)
  refine pP rfl (bV (by simp) (dY (cp (cA _ _ _) (DR (kt:=3) (et:=533) (by kernel_rfl) (by kernel_rfl) ?_))));rw[FF l j p q t (by rw[xj,ag h,zV])];exact cp (cA _ _ _) w
end
end
section
open Go.XS
section
variable {B:Heap}{H:au}{K:aK}{b r:Nat}{d src:List UInt8}
def yM{len:Nat}{a n:Int}(h:within len a n):∃x y:Nat,a=(x:Int)/\n=(y:Int)/\x+y<=len:=by obtain⟨h1,b,c⟩:=h;exact⟨a.toNat,n.toNat,by omega,by omega,by omega⟩
def Eo{a:Nat}(c:a+src.length<=d.length){p:HP}(h1:1<=d.length)(e:d.length<=1048576)(t:T B (ei b (bM d a src)::H) p):T B (cl b (jR r d)::IM r (fq (bM d a src))::H) p:=by
 have:=uC (b:=b) (r:=r) (d:=bM d a src) (H:=H) (by rw[tH c];exact h1) (by rw[tH c];exact e) t
 rwa [jR,tH c]at this
def stored(d:List UInt8)(a:Int)(xs:List UInt8):List UInt8:=if within d.length a xs.length then bM d a.toNat xs else d
def Z3{a:Int}:(stored d a src).length=d.length:=by
 unfold stored;split
 ·rename_i h
  obtain⟨x,y,rfl,b,hl⟩:=yM h;exact tH (by simp only[aZ];omega)
 ·rfl
def LJ{a:Int}(U:T B (ei b (stored d a src)::H) (K (.int .i64 (hW d.length a src.length)))):T B (ei b d::H) (ad P 297 #[pz b,.int .i64 a,.string ⟨src.toArray⟩] K):=by
 refine an (MT _ _ _) (eg λs=>hS rfl (cp (cA _ _ _) (zZ ?_)));simp only[gj,te];by_cases hw:within d.length a src.length
 rotate_left
 ·rw[hW,aj hw]at*
  rw[stored,aj hw]at U;exact aI rfl (cp (cA _ _ _) (dY U))
 rw[hW,ag hw]at*;rw[stored,ag hw]at U;obtain⟨x,y,rfl,e,hl⟩:=yM hw;have e:y=src.length:=by omega
 subst e;refine bo rfl (hS rfl (uD λh1 f r=>?_));rw[te];refine Es hl f (λp1 p2 k o m c i cells j h hm t=>?_) (dS rfl (Eo hl h1 f (cp (cA _ _ _) (dY U))));refine lR (by kernel_rfl) (an (MU _ _ _ _ _) ?_);simp only[cR];refine hS rfl (ba ⟨by omega,by rw[te];omega⟩ ?_);rw[aZ,te,G1,ke (dQ _)];have g:Nat.min (src.drop i).length m=m:=Nat.min_eq_right (by simp;omega);refine JO (b:=k) (o:=o) (cs:=cells.toArray) (H':=λds=>cl k ds::p1::p2::cl s #[.string ⟨src.toArray⟩]::H) (t0:=178) (elem:=5) rfl (by kernel_rfl) (by kernel_rfl) (by kernel_rfl) ?_ ?_
 ·rw[te,g];simpa using h
 ·rw[te,g,G1,LF]
  simp only[gj];simpa using t
def yK(d:List UInt8)(a n:Int):List UInt8:=if within d.length a n then bM d a.toNat (List.replicate n.toNat 0)else d
def LK{a n:Int}(U:T B (ei b (yK d a n)::H) (K (.int .i64 (hW d.length a n)))):T B (ei b d::H) (ad P 484 #[pz b,.int .i64 a,.int .i64 n] K):=by
 refine an (MV _ _ _) (zZ ?_);simp only[gj];by_cases hw:within d.length a n
 rotate_left
 ·rw[hW,aj hw]at*
  rw[yK,aj hw]at U;exact aI rfl U
 rw[hW,ag hw]at*;rw[yK,ag hw]at U;obtain⟨x,y,rfl,rfl,hl⟩:=yM hw;have f:x+(List.replicate y (0:UInt8)).length<=d.length:=by simpa using hl
 refine bo rfl (uD λh1 g r=>?_)
 have:=Es (B:=B) (H:=H) (b:=b) (r:=r) (d:=d) (src:=List.replicate y 0) (a:=x) (g3:=500) (ca3:=#[]) (K:=λh=>λj=>(h=Value.tuple #[])/\K (.int .i64 0) j) f g (λp1 p2 k o m c i cells q l hm t=>?_)
  (dS rfl (Eo f h1 g U))
 ·rw[g']at this
  exact this
 refine lR (by kernel_rfl) (an (MW _ _ _ _) ?_);simp only[g']at hm
 have e:bv (((List.replicate y (0:UInt8)).drop i).take m)=List.replicate m (.int .u8 0):=by simp[bv,qP (show m<=y-i by omega)]
 rw[e]at t;refine zz (b:=k) (o:=o) (cs:=cells.toArray) (H':=λds=>cl k ds::p1::p2::H) (t0:=178) (elem:=5) (s:=1) rfl (by kernel_rfl) (by kernel_rfl) (by rw[yX];rfl) ?_ ?_ (dS rfl ?_)
 ·rw[yX,yY]
  intro v p;rw[lI p];rfl
 ·simpa using l
 ·rw[yX,yY];exact t
def Er(U:T B (ei b d::H) (K (.int .i64 (d.length:Int)))):T B (ei b d::H) (ad P 481 #[pz b] K):=by refine uD λh1 a r=>?_;have U:=uC (r:=r) h1 a U;apply an (MS _);simp only[cR,aR];exact aI rfl (bg rfl U)
def abP{cs:List UInt8}(hl:cs.length=64){n:Nat}(s:n<=100000000){R:az->HP}{body:az->(az->HP)->HP}(f:body=λg=>λc=>λk=>∀b,∀a,(g=[Value.int IntKind.i64 b,Value.int IntKind.i64 a])->((ae (Decidable.decide (a<64)) (aP (((0:Int)<=a)/\(a<(↑(64:Nat):Int))) (mc IntKind.u8 (bv cs).toArray (Int.toNat a) λm=>ae (m !=0) (c [Value.int IntKind.i64 (IntKind.wrap IntKind.i64 (b+1)),Value.int IntKind.i64 (IntKind.wrap IntKind.i64 (a+1))]) (c [Value.int IntKind.i64 b,Value.int IntKind.i64 (IntKind.wrap IntKind.i64 (a+1))]))) (R [Value.int IntKind.i64 b])) k))(U:T B H (R [.int .i64 ((n+bs cs:Nat):Int)])):T B H (bz body [.int .i64 (n:Int),.int .i64 0]):=by
 subst f
 refine sq (λvs H'=>∃j:Nat,j<=64/\vs=[.int .i64 ((n+bs (cs.take j):Nat):Int),.int .i64 (j:Int)]/\H=H')
  (λvs=>match vs with|[_,.int _ i]=>64-i.toNat|_=>0) ⟨0,nA _,rfl,rfl⟩ ?_
 rintro vs H' t ⟨j,u,rfl,rfl⟩ d;simp only[kX,fk];intro b a heq;simp only[lH,Value.int.injEq,nB,kT]at heq;obtain⟨rfl,rfl⟩:=heq;refine cZ (λhc=>?_) (λhc=>?_)
 ·have v:j<64:=by simp at hc;omega
  obtain⟨z,hz⟩:∃z,cs[j]?=some z:=⟨_,bj (by omega)⟩
  have w:bs (cs.take j)<=64:=by have:=r7 (p:=(·!=0)) (l:=cs.take j);simp only[fv]at this;unfold bs;omega
  have e:bs (cs.take (j+1))=bs (cs.take j)+if z !=0 then 1 else 0:=by rw[ef hz,Ai];simp[bs,r6]
  refine ba ⟨by omega,by omega⟩ (zI (by rw[aZ,dE];exact En hz) ?_)
  have o:(((z.toNat:Nat):Int)!=0)=(z !=0):=by
   by_cases h:z=0
   ·subst h;rfl
   ·have h1:z.toNat≠0:=λq=>h (UInt8.toNat_inj.1 (by simpa using q))
    have r:(z !=0)=true:=by simpa using h
    rw[r];simp;omega
  rw[o,yS (by omega),yS (by omega)];refine cZ (λh=>d _ _ ⟨j+1,by omega,?_,rfl⟩ (by simp only[aZ];omega)) λh=>d _ _ ⟨j+1,by omega,?_,rfl⟩ (by simp only[aZ];omega)
  ·rw[e,h];simp[Nat.add_assoc]
  ·rw[e,h];simp
 ·have:j=64:=by simp at hc;omega
  subst this;rw[ke (by omega)];exact U
def uY(d:List UInt8)(a n:Int):List UInt8:=if within d.length a n then(d.drop a.toNat).take n.toNat else[]
def LG{a n:Int}(U:T B (ei b d::H) (K (.tuple #[.string ⟨(uY d a n).toArray⟩,.int .i64 (hW d.length a n)]))):T B (ei b d::H) (ad P 298 #[pz b,.int .i64 a,.int .i64 n] K):=by
 refine an (MR _ _ _) (zZ ?_);simp only[gj];by_cases hw:within d.length a n
 rotate_left
 ·rw[hW,aj hw]at*
  rw[uY,aj hw]at U;exact bo rfl U
 rw[hW,ag hw]at*;rw[uY,ag hw]at U;obtain⟨x,y,rfl,rfl,hl⟩:=yM hw;simp only[aZ]at U⊢;refine aI rfl (uD λh1 u r=>gy (by omega) (by omega) (by omega) (by rw[LA];omega) (by kernel_rfl) (by kernel_rfl) λc=>?_);have U:=uC (r:=r) h1 u U;rw[Ti,yX,lq,iP,aZ];simp only[cR,aR]
 refine sq (λvs H'=>∃i:Nat,i<=y/\vs=[.int .i64 (i:Int)]/\cl c (bv ((d.drop x).take i++List.replicate (y-i) 0)).toArray::cl b (jR r d)::IM r (fq d)::H=H')
  (λvs=>match vs with|[.int _ i]=>y-i.toNat|_=>0) ⟨0,nA _,rfl,by simp[bv]⟩ ?_
 rintro vs H' R ⟨i,hi,rfl,rfl⟩ w;simp only[kX,fk];intro n heq;simp only[lH,Value.int.injEq,nB,kT]at heq;subst heq;refine cZ (λhc=>?_) (λhc=>?_)
 rotate_left
 ·have:i=y:=by simp at hc;omega
  subst this;rw[kS,tZ,j9];apply JM (e:=5) (l:=(d.drop x).take i) (by kernel_rfl) (by kernel_rfl) (by kernel_rfl) (bF.nU λj p=>by simp) rfl (by simp;omega);simp only[KT];exact dY U
 have L:i<y:=by simpa using hc
 obtain⟨z,w2,A⟩:=E1 (a:=x) (i:=i) (by omega);generalize M:(x+i)/64=g at*;generalize N:(x+i)%64=f at*;have C:x+i=64*g+f:=by omega
 have O:f<64:=by omega
 simp only[z,w2,A,aZ];refine pP rfl (ba (by decide) (cp (List.Perm.trans (mu _ (cA _ _ _)) (cA _ _ _)) (HE ?_)));simp only[D9];have D:(bv (row d g)).toArray.size=64:=by simp
 refine ba (by decide) (eg λk=>hj D (by rw[yW];simp[im]) (λv E=>zW _ v (by simpa using E)) (ba ⟨by omega,by omega⟩ (ba ⟨by omega,by omega⟩ ?_)))
 have eu:lT ⟨k,0,none⟩ 1 f 64=⟨k,f,none⟩:=by unfold lT;rw[aj (by omega),aR];simp
 have es:da (some ⟨c,0,none⟩) 1 i y=some ⟨c,i,none⟩:=by unfold da;rw[aj (by omega)];simp[aR]
 rw[eu,es];generalize hm:Nat.min (64-f) (y-i)=m;have Q:m<=64-f:=by rw[<-hm];exact Nat.min_le_left _ _
 have S:m<=y-i:=by rw[<-hm];exact Nat.min_le_right _ _
 have V:0<m:=by
  rw[<-hm];rcases Nat.le_total (64-f) (y-i)with h|h
  ·rw[show Nat.min (64-f) (y-i)=64-f from qP h];omega
  ·rw[show Nat.min (64-f) (y-i)=y-i from Nat.min_eq_right h];omega
 have q:(((row d g).drop f).take m).length=m:=by simp;omega
 have hlen:(bv ((d.drop x).take i++List.replicate (y-i) 0)).length=y:=by simp;omega
 refine um (b:=c) (o:=i) (cs:=(bv ((d.drop x).take i++List.replicate (y-i) 0)).toArray) (H':=λds=>cl k (bv (row d g)).toArray::IM r (fq d)::cl c ds::cl b (jR r d)::H) (s:=1) (t0:=178) (elem:=5)
  (ys:=bv (((row d g).drop f).take m)) rfl (by kernel_rfl) (by kernel_rfl) (by kernel_rfl) ?_ (by rw[hm];simp;omega) (zW _) (by rw[hm,hP,hlen];omega) ?_
 ·refine bF.nU λj p=>?_
  simp only[Lr,q]at p;rw[dE,bv,bv,e6,e6,ny,ag p,pF]
 simp only[gj,hm];have F:IntKind.wrap .i64 ((i:Int)+(m:Int))=((i+m:Nat):Int):=by rw[br (by omega)];omega
 rw[F];refine dY (cp (List.Perm.trans (cA _ _ _) (mu _ (cA _ _ _))) (w _ _ ⟨i+m,by omega,rfl,?_⟩ (by simp only[aZ];omega)));have t:((d.drop x).take i).length=i:=by simp;omega
 have G:((d.drop x).take i++List.replicate (y-i) (0:UInt8)).drop (i+m)=List.replicate (y-(i+m)) 0:=by rw[tS,om (by omega),t,List.drop_replicate,kQ];congr 1;omega
 have I:(d.drop x).take (i+m)=(d.drop x).take i++((row d g).drop f).take m:=by rw[List.take_add,y',Yl C (by omega) (by omega)]
 have J:bM ((d.drop x).take i++List.replicate (y-i) 0) i (((row d g).drop f).take m)=(d.drop x).take (i+m)++List.replicate (y-(i+m)) 0:=by unfold bM;rw[qO t,q,G,I,el]
 rw[H9 (by rw[q,b',t,g'];omega),J]
end
end
section
open Go.XS
section
variable {B:Heap}{H:au}{K:aK}{b r:Nat}{d src:List UInt8}
end
end
section
open Go.XS
def wS(b pl:Nat):aw:=#[pz b,.int .i64 (pl:Int)]
section
variable {B:Heap}{H:au}{K:aK}{w b pl:Nat}{d:List UInt8}
def yt{q:av}{v:Value}(U:T B (cl w #[.pointer q,v]::H) (K (.bool (!Option.isNone q)))):T B (cl w #[.pointer q,v]::H) (ad P 482 #[pz w] K):=by apply an (QM _);simp only[cR,aR];exact bo rfl (iX rfl U)
def YA(U:∀w,T B (cl w (wS b 0)::ei b d::H) (K (pz w))):T B (ei b d::H) (ad P 445 #[pz b] K):=by refine an (QH _) (zY λh1 a=>Er ?_);simp only[gj];exact aI (by simp;intro h;subst h;simp at h1) (eg λw=>U w)
def HL(U:T B (cl w (wS b pl)::H) (K (.int .i64 (pl:Int)))):T B (cl w (wS b pl)::H) (ad P 485 #[pz w] K):=by refine an (QK _) (yt ?_);simp only[fl,cR,aR];refine aI rfl (zP rfl ?_);simp only[gj];exact U
def HK(a:pl<=d.length)(U:T B (cl w (wS b pl)::ei b d::H) (K (.int .i64 ((d.length-pl:Nat):Int)))):T B (cl w (wS b pl)::ei b d::H) (ad P 483 #[pz w] K):=by refine an (QJ _) (cp (cA _ _ _) (zY λh1 c=>cp (cA _ _ _) (yt ?_)));simp only[fl,cR,aR];refine aI rfl (iX rfl (cp (cA _ _ _) (Er (cp (cA _ _ _) ?_))));simp only[gj];apply HL;simp only[gj];apply dK U;rw[br (by omega)];congr 1;omega
def YB(a:pl<=d.length)(U:T B (cl w (wS b pl)::ei b d::H) (K (.bool (decide (pl=d.length))))):T B (cl w (wS b pl)::ei b d::H) (ad P 447 #[pz w] K):=by
 refine an (QI _) (yt ?_);simp only[fl];refine bo rfl (HK a ?_);simp only[gj];apply dK U;congr 1;by_cases h:pl=d.length
 ·subst h;simp
 ·have:((d.length-pl:Nat):Int)≠0:=by omega
  rw[cP h];exact(ub.2 this).symm
def stepOf(left:Nat)(n:Int):Nat:=if(left:Int)<n then left else n.toNat
def Ic{left:Nat}{n:Int}(h:1<=n):stepOf left n<=left:=by unfold stepOf;split<;>omega
def YC{n:Int}(c:1<=n)(f:pl<=d.length)(U:T B (cl w (wS b (pl+stepOf (d.length-pl) n))::ei b (bM d pl (List.replicate (stepOf (d.length-pl) n) 0))::H) (K (.tuple #[.int .i64 (stepOf (d.length-pl) n:Int),.int .i64 0]))):T B (cl w (wS b pl)::ei b d::H) (ad P 446 #[pz w,.int .i64 n] K):=by
 refine an (QL _ _) (cp (cA _ _ _) (zY λh1 g=>cp (cA _ _ _) (yt ?_)));simp only[fl];refine aI rfl (aI (by simp;omega) (HK f ?_));simp only[gj,cR,aR];have hs:=Ic (left:=d.length-pl) c
 have e:(if((d.length-pl:Nat):Int)<n then((d.length-pl:Nat):Int)else n)=(stepOf (d.length-pl) n:Int):=by unfold stepOf;split<;>omega
 rw[e];generalize stepOf (d.length-pl) n=m at*;refine iX rfl (HL ?_);simp only[gj];have a:within d.length (pl:Int) (m:Int):=by unfold within;omega
 refine eT rfl (cp (cA _ _ _) (LK (cp (cA _ _ _) ?_)));rw[hW,ag a,yK,ag a];simp only[gj,aZ];refine aI rfl (Ec rfl ?_);simp only[gj];have hw:IntKind.wrap .i64 ((pl:Int)+(m:Int))=((pl+m:Nat):Int):=by rw[br (by omega)];omega
 rw[hw];simpa[wS]using U
end
end
end Go.Proofs.YtlmgompopkamfaaGreatDoor
namespace Go.XS
section
open Go.bm
open Go.MapKept
def Bd{es:Array MapEntry}{i:Nat}{e:MapEntry}{f g:MapEntry->MapEntry}(h:es[i]?=some e)(hf:f e=g e):es.modify i f=es.modify i g:=by
 apply Array.ext_getElem?;intro j;rw[qK,qK];split
 ·rename_i a;subst a;rw[h];simp[hf]
 ·rfl
def ug{α:Type}(enc:α->Value)(r:Nat)(k n:Int)(m:ML α):bc:=
 eF λes:Array MapEntry=>eF λbl:Nat=>eF λg:Int->Option Value=>fa (bQ m/\ec es bl g/\(∀j,j≠k->g j=(aQ m j).map enc)/\∃e∈es.toList,e.key=key k/\(e.born:Int)=n) (ob r (.map es bl))
section
variable {P:Program}{B:Heap}{H H0:au}{α:Type}{enc:α->Value}{r:Nat}{m:ML α}{k n:Int}{mt:TypeId}{z:α}{p:HP}
def Dt{es:Array MapEntry}{bl:Nat}{g:Int->Option Value}(hs:bQ m)(hr:ec es bl g)(a:∀j,j≠k->g j=(aQ m j).map enc)(he:∃e∈es.toList,e.key=key k/\(e.born:Int)=n)(t:T B (ug enc r k n m::H) p):T B (ob r (.map es bl)::H) p:=
 ic ⟨hs,hr,a,he⟩ (gI (q:=λg=>fa (bQ m/\ec es bl g/\(∀j,j≠k->g j=(aQ m j).map enc)/\∃e∈es.toList,e.key=key k/\(e.born:Int)=n) (ob r (.map es bl))) g
  (gI (q:=λbl=>eF λg=>fa (bQ m/\ec es bl g/\(∀j,j≠k->g j=(aQ m j).map enc)/\∃e∈es.toList,e.key=key k/\(e.born:Int)=n) (ob r (.map es bl))) bl
   (gI (q:=λes=>eF λbl=>eF λg=>fa (bQ m/\ec es bl g/\(∀j,j≠k->g j=(aQ m j).map enc)/\∃e∈es.toList,e.key=key k/\(e.born:Int)=n) (ob r (.map es bl))) es t)))
def T3{K:aK}(c:ia P mt α enc z)(t:∀x n,T B (ug enc r k n m::H) (K (.tuple #[x,.int .i64 n]))):T B (MP enc r m::H) (aH P (Instr.mapEntry mt (.map (some r)) (.int .i64 k)) K):=by
 obtain⟨et,hm,U,hz⟩:=c.ty;refine oz λhs=>qR λes bl hr=>?_;intro σ o;unfold Instr.mapEntry;refine aX (gV hm ?_);refine aX (lu o.gL ?_);refine aX (dD () (λw _=>run_checkKey U (by rfl) _ _) ?_);rcases hr.find k with⟨i,b,a⟩|⟨j,e,b,a,g,l⟩
 ·refine aX (dD none (λw _=>run_findKey U b) ?_)
  refine aX (HT hz (aX ?_));refine pe o.gL (cv ?_);refine Dt hs (hr.put (enc z) a) (λj f=>aj f) ⟨{key:=key k,val:=enc z,born:=bl},by simp,rfl,rfl⟩ (t _ _) _ o.pk
 ·refine aX (dD (some (j,e.val)) (λw _=>run_findKey U b) ?_)
  simp only[a,iy,fx,g];refine aX (dD (key k) (λw _=>run_keyThatStays (d:= .int .i64) (by rfl)) ?_);refine aX (pe o.gL (cv ?_));have p:(es.modify j λe=>{e with key:=key k})=es.modify j λe=>{e with key:=key k,val:=(es[j]?.getD e).val}:=Bd a (by simp[a]);have h:(es.modify j λe=>{e with key:=key k})=es.modify j λx=>{x with key:=key k,val:=e.val}:=Bd a rfl;rw[h];refine Dt hs (hr.bM e.val a g) (λj f=>aj f) ⟨{e with key:=key k,val:=e.val},?_,rfl,rfl⟩ (t _ _) _ o.pk;rw[GB a hr.st.2.1];exact .inl rfl
instance acm{K:aK}[c:ia P mt α enc z][h:Ow H (MP enc r) m H0]:Sa B H (aH P (Instr.mapEntry mt (.map (some r)) (.int .i64 k)) K) (λx:Value×Int=>T B (ug enc r k x.2 m::H0) (K (.tuple #[x.1,.int .i64 x.2]))):=⟨λt=>bf h.pl (T3 c λx n=>t (x,n))⟩
def Z2{K:Unit->HP}{v:Value}{a:α}(e:v=enc a)(t:T B (MP enc r (bC k a m)::H) (K ())):T B (ug enc r k n m::H) (aH P (Instr.entryStore mt (.map (some r)) (.int .i64 n) v) K):=by
 subst e;refine gg λes=>gg λbl=>gg λg=>gz λ⟨hs,hr,c,e,he,U,d⟩=>?_;intro σ o;unfold Instr.entryStore;refine aX (lu o.gL ?_);refine aX (cv ?_)
 cases hf:es.findIdx? (λe=>(e.born:Int)==n)with
 |none=>rw[Array.findIdx?_eq_none_iff]at hf;have:=hf e (oj.1 he);simp[d]at this
 |some i=>
  have h1:∃x,es[i]?=some x/\(x.born:Int)=n:=by rw[Array.findIdx?_eq_some_iff_getElem]at hf;obtain⟨hi,f,_⟩:=hf;exact⟨es[i],CL hi,by simpa using f⟩
  obtain⟨x,b,q⟩:=h1;have h:x=e:=hr.Cv (oj.2 (oi b)) he (by omega);subst h;apply pe o.gL;have l:(es.modify i λe=>{e with val:=enc a})=es.modify i λy=>{y with key:=key k,val:=enc a}:=Bd b (by rw[<-U]);rw[l];refine kg (hr.bM (enc a) b U) (wE (fu hs) (λj=>?_) t) _ o.pk;rw[gR hs];split
  ·rfl
  ·rename_i p;exact c j p
instance abR{K:Unit->HP}{v:Value}{a:α}[c:ia P mt α enc z][h:Ow H (ug enc r k n) m H0][e:nC enc v a]:St B H (aH P (Instr.entryStore mt (.map (some r)) (.int .i64 n) v) K) (T B (MP enc r (bC k a m)::H0) (K ())):=⟨λt=>bf h.pl (Z2 e.eq t)⟩
end
def yo{α:Type}{f:α->az}{s:Nat}(hf:∀a,(f a).length=s):∀{l:List α} {i:Nat} {a':α},i<l.length->(l.flatMap f).take (i*s)++(f a'++(l.flatMap f).drop (i*s+s))=(l.set i a').flatMap f
 |[],i,a',h=>absurd h (by simp)
 |y::l,0,a',h=>by simp only[ua,sf,kQ,bI,jL,gw];rw[za (hf y)]
 |y::l,i+1,a',h=>by have b:=hf y;simp only[iO,gw];rw[<-yo hf (by simpa using h),C',tS,ke (by rw[b,gd];omega),om (by rw[b,gd];omega),b,el,kQ];rw[show(i+1)*s-s=i*s by rw[gd];omega,show(i+1)*s+s-s=i*s+s by rw[gd];omega]
def Kl{B:Heap}{H:au}{α:Type}{f:α->az}{s k b:Nat}{l:List α}{a':α}{vs:aw}{p:HP}{H':aw->au}[h:fT H b (l.flatMap f).toArray H'](hf:∀a,(f a).length=s)(U:k<l.length)(e:vs.toList=f a')[o:kj vs](t:T B (H' ((l.set k a').flatMap f).toArray) p):T B H (gW ⟨b,k*s,none⟩ vs s p):=by
 have hm:k*s+s<=l.length*s:=by rw[<-pK];exact jk s U
 have hl:vs.toList.length=s:=by rw[e,hf]
 apply nH (by simpa using hl) (by rw[hP,dj hf];exact hm) o.one;rw[kI _ _ _ (by rw[dj hf,hl];exact hm),hl,e,yo hf U];exact t
def JZ{α:Type}{f:α->az}{B:Heap}{H H0:au}{s l c:Nat}{q:av}{rs:List α}[h:Ow H (ah s q l c) (rs.flatMap f) H0]{n:Int}{a':α}{vs:aw}{k:HP}(hf:∀a,(f a).length=s)(hs:0<s)(i:Nat)(r:n=(i:Int))(hl:i<l)(e:vs.toList=f a')[o:kj vs](t:T B (ah s q l c ((rs.set i a').flatMap f)::H0) k):T B H (jY q l n s vs s k):=by
 subst r;refine bf h.pl (qY (λh0 h1 g j=>by omega) λb rest u m v hlen=>?_);subst u;unfold jY;refine nE (ba ⟨by omega,by omega⟩ ?_);rw[aZ,aR,bI]
 have hi:i<rs.length:=by rw[dj hf]at m;have:=Nat.eq_of_mul_eq_mul_right hs m;omega
 have hm:i*s+s<=rs.length*s:=by rw[<-pK];exact jk s hi
 have p:vs.toList.length=s:=by rw[e,hf]
 have z:=dj hf rs;have w:=dj hf (rs.set i a');rw[hb]at w;apply nH (by simpa using p) (by simp only[hP,b'];omega) o.one;rw[kI _ _ _ (by rw[b'];omega),p,e]
 have x:(rs.flatMap f++rest).take (i*s)++(f a'++(rs.flatMap f++rest).drop (i*s+s))=(rs.set i a').flatMap f++rest:=by rw[<-yo hf hi,Da (by omega),I8 (by omega),el,el]
 rw[x];intro σ d;obtain⟨ch,⟨l1,l2,y,h1,g⟩,j⟩:=d.own;refine t σ ⟨d.base,d.size,ch,⟨l1,l2,y,⟨by omega,v,.inr ⟨b,rest,rfl,by rw[b']at hlen⊢;omega,h1⟩⟩,g⟩,j⟩
end
end Go.XS
namespace Go.Proofs.YtlmgompopkamfaaGreatDoor
section
open Go.XS Go.bm
def py:P.underlying 3=some (.int .i64):=by kernel_rfl
instance :ia P 350 Bool Value.bool false:=⟨4,by kernel_rfl,py,by kernel_rfl⟩
instance :ia P 225 Int J 0:=⟨3,by kernel_rfl,py,by kernel_rfl⟩
instance :ia P 215 Unit (λ_=> .agg #[]) ():=⟨219,by kernel_rfl,py,by kernel_rfl⟩
instance :ia P 149 av Value.pointer none:=⟨150,by kernel_rfl,py,by kernel_rfl⟩
instance {b:Bool}:nC Value.bool (.bool b) b:=⟨rfl⟩
instance {n:Int}:nC J (.int .i64 n) n:=⟨rfl⟩
instance {p:av}:nC Value.pointer (.pointer p) p:=⟨rfl⟩
instance :nC (λ_:Unit=>Value.agg #[]) (.agg #[]) ():=⟨rfl⟩
instance :fG P 31 1:=fG.of (e:=0) (by kernel_rfl)
end
end Go.Proofs.YtlmgompopkamfaaGreatDoor
namespace Go.Proofs
open Go.Shelf
def Tryz.Vo:Go.Shelf.Ren:=⟨λ|189=>91|125=>159|257=>158|128=>251|129=>252|294=>242|295=>243|296=>244|297=>245|298=>246|299=>247|216=>248|300=>249|301=>250|328=>335|329=>336|330=>337|331=>338|332=>339|215=>340|343=>397|n=>n,λ|28=>31|3=>3|46=>97|0=>0|51=>305|53=>450|4=>4|183=>442|182=>441|131=>327|5=>5|9=>9|218=>513|222=>175|228=>559|229=>560|n=>n,λ|n=>n⟩
def Tryz.Gg:Go.Proofs.Lays.n189 Tryz.prog Tryz.Vo:={
 mixed:=by kernel_rfl
 f125:=XS.bp func159
 f128:=XS.bp func251
 f129:=XS.bp func252
 f189:=XS.bp func91
 f215:=XS.bp func340
 f216:=XS.bp func248
 f257:=XS.bp func158
 f294:=XS.bp func242
 f295:=XS.bp func243
 f296:=XS.bp func244
 f297:=XS.bp func245
 f298:=XS.bp func246
 f299:=XS.bp func247
 f300:=XS.bp func249
 f301:=XS.bp func250
 f328:=XS.bp func335
 f329:=XS.bp func336
 f330:=XS.bp func337
 f331:=XS.bp func338
 f332:=XS.bp func339
 f343:=XS.bp func397
 t0:=Tryz.underlying0
 a0:=Tryz.isAgg0
 z0:=Tryz.sizeOf0
 v0:=Tryz.zeroValue0
 t3:=Tryz.underlying3
 a3:=Tryz.isAgg3
 z3:=Tryz.sizeOf3
 v3:=Tryz.zeroValue3
 t4:=Tryz.underlying4
 a4:=Tryz.isAgg4
 z4:=Tryz.sizeOf4
 v4:=Tryz.zeroValue4
 t5:=Tryz.underlying5
 a5:=Tryz.isAgg5
 z5:=Tryz.sizeOf5
 v5:=Tryz.zeroValue5
 t9:=Tryz.underlying9
 a9:=Tryz.isAgg9
 z9:=Tryz.sizeOf9
 v9:=Tryz.zeroValue9
 t28:=Tryz.underlying31
 a28:=Tryz.isAgg31
 z28:=Tryz.sizeOf31
 v28:=Tryz.zeroValue31
 t46:=Tryz.underlying97
 a46:=Tryz.isAgg97
 z46:=Tryz.sizeOf97
 v46:=Tryz.zeroValue97
 t51:=Tryz.underlying305
 a51:=Tryz.isAgg305
 z51:=Tryz.sizeOf305
 v51:=Tryz.zeroValue305
 t53:=Tryz.underlying450
 a53:=Tryz.isAgg450
 z53:=Tryz.sizeOf450
 v53:=Tryz.zeroValue450
 t131:=Tryz.underlying327
 a131:=Tryz.isAgg327
 z131:=Tryz.sizeOf327
 v131:=Tryz.zeroValue327
 t182:=Tryz.underlying441
 a182:=Tryz.isAgg441
 z182:=Tryz.sizeOf441
 v182:=Tryz.zeroValue441
 t183:=Tryz.underlying442
 a183:=Tryz.isAgg442
 z183:=Tryz.sizeOf442
 v183:=Tryz.zeroValue442
 t218:=Tryz.underlying513
 a218:=Tryz.isAgg513
 z218:=Tryz.sizeOf513
 v218:=Tryz.zeroValue513
 t222:=Tryz.underlying175
 a222:=Tryz.isAgg175
 z222:=Tryz.sizeOf175
 v222:=Tryz.zeroValue175
 t228:=Tryz.underlying559
 a228:=Tryz.isAgg559
 z228:=Tryz.sizeOf559
 v228:=Tryz.zeroValue559
 t229:=Tryz.underlying560
 a229:=Tryz.isAgg560
 z229:=Tryz.sizeOf560
 v229:=Tryz.zeroValue560}
open Go.Sort Go.RowKit in
def Tryz.slices_Sort_int(a off cap:Nat)(zs:List Int)(w:World)(b:Holds (Value.int .i64) w a off zs.toArray)(c:a<w.heap.size)(d:zs.length<4611686018427387904):Calls Tryz.prog 91 #[.slice (some ⟨a,off,none⟩) zs.length cap] w λe w'=>e= .returned (.tuple #[])/\∃n os,w'=grow (putRow (Value.int .i64) (Sort.ahead w n) a off (zs.mergeSort λx y=>decide (x<=y)).toArray) os:=Any.slices_Sort_int Tryz.Gg a off cap zs w b c d
end Go.Proofs
namespace Go.Proofs.YtlmgompopkamfaaGreatDoor
open Go.XS Go.bm Go.Sort
def Own.Tw{B σ eC:Heap}{H:List bc}{b:Nat}{cs cs':Array Value}(o:Own B (cl b cs::H) σ)(hs:σ.size<=eC.size)(h1:∀k,k<σ.size->k≠b->eC[k]?=σ[k]?)(j:∀t fr,σ[b]?=some (.cells cs t fr)->eC[b]?=some (.cells cs' t fr))(m:cs'.size=cs.size):Own B (cl b cs'::H) eC:=by
 obtain⟨l,⟨l1,l2,d,⟨t,fr,rfl,n⟩,h⟩,p,hc⟩:=o.own;have f:=hc (b,.cells cs t fr) (d.mem_iff.2 (by simp));have g:((b,Obj.cells cs t fr)::l2|>.map (·.1)).Nodup:=(d.map (·.1)).nodup p;have q:∀c∈l,c.1<σ.size:=λc a=>(gF.1 (hc c a).2).1;refine⟨λk U=>?_,lN o.size hs,(b,.cells cs' t fr)::l2,⟨[(b,.cells cs' t fr)],l2,.refl _,⟨t,fr,rfl,by rw[m];exact n⟩,h⟩,by simpa using g,?_⟩
 ·have:=o.size
  rw[h1 k (by omega) (by have:=f.1;simp at this;omega)];exact o.base k U
 ·intro c a
  rcases cL.1 a with rfl|a
  ·exact⟨f.1,j t fr f.2⟩
  ·have i:=hc c (d.mem_iff.2 (by simp[a]))
   refine⟨i.1,?_⟩;rw[h1 c.1 (q c (d.mem_iff.2 (by simp[a]))) ?_];exact i.2;intro e;simp only[cX,fg]at g;exact g.1 (bP.2 ⟨c,a,e⟩)
abbrev pq(zs:List Int):List Int:=zs.mergeSort λx y=>decide (x<=y)
def XB{zs ts:List Int}{rest:List Value}(h:ts.length=zs.length):putCells (Value.int .i64) 0 ts.toArray (iv .i64 zs++rest).toArray=(iv .i64 ts++rest).toArray:=by
 apply gE;apply ji;intro j;simp only[putCells,Array.toList_mapIdx,List.getElem?_mapIdx];by_cases a:j<ts.length
 ·rw[gx (by simp;omega),gx (by simp;omega)]
  simp[iv,a,show j<zs.length by omega]
 ·rw[iu (by simp;omega),iu (by simp;omega)]
  simp only[F1,h]
  cases rest[j-zs.length]? with
  |none=>rfl
  |some v=>simp;omega
section
variable {B:Heap}{H H0:List bc}{K:Value->HP}{p:Option Addr}{l c:Nat}{zs:List Int}
def Zg(g:l<4611686018427387904)(U:T B (ah 1 p l c (iv .i64 (pq zs))::H) (K (.tuple #[]))):T B (ah 1 p l c (iv .i64 zs)::H) (ad P 91 #[.slice p l c] K):=by
 refine qY ?_ ?_
 ·rintro rfl rfl rfl hz
  have hz:zs=[]:=by simpa[iv]using hz
  subst hz;intro σ o w hw;refine(Any.slices_Sort_int_none Tryz.Gg none 0 w).mono ?_;rintro e w' ⟨rfl,rfl⟩;exact⟨_,rfl,by rw[hw];exact dL 1 (by simpa[pq,iv]using U) σ o,.refl _⟩
 ·rintro b rest rfl h i hlen
  have hl:zs.length=l:=by simpa using h
  subst hl;intro σ o w hw;obtain⟨l1,⟨t,fr,rfl,m⟩,hc⟩:=o.head;have q:=(hc (b,.cells (iv .i64 zs++rest).toArray t fr) (by simp)).2;have d:w.heap[b]?=some (.cells (iv .i64 zs++rest).toArray t fr):=by rw[hw];exact q
  have r:Holds (Value.int .i64) w b 0 zs.toArray:=by
   intro j s;have u:j<zs.length:=by simpa using s
   refine⟨?_,?_⟩
   ·simp only[World.cell?,d,bI,Option.isSome_none,gb,ep]
    rw[dE,gx (by simp;omega)];simp[iv,u]
   ·have:=m j (by simp;omega)
    simp only[World.frozen?,d,bI];simpa using this
  refine(Tryz.slices_Sort_int b 0 c zs w r (gF.1 d).1 g).mono ?_;rintro e w' ⟨rfl,n,os,rfl⟩;refine⟨_,rfl,?_,⟨rfl,rfl,rfl⟩⟩;have a:(pq zs).length=zs.length:=List.length_mergeSort _
  have f:Own B (cl b (iv .i64 (pq zs)++rest).toArray::H) (grow (putRow (Value.int .i64) (Sort.ahead w n) b 0 (pq zs).toArray) os).heap:=by
   refine Own.Tw o ?_ ?_ ?_ (by simp[a])
   ·simp[grow,putRow,mapBlock,Sort.ahead,hw]
   ·intro k U v
    rw[heap_grow_old _ _ (by simpa[putRow,mapBlock,Sort.ahead,hw]using U)];simp[putRow,mapBlock,Sort.ahead,qK,Ne.symm v,hw]
   ·intro t fr x
    rw[heap_sortedI (pq zs).toArray (by rw[hw];exact x),XB a]
  apply U _;obtain⟨ch,⟨l1,l2,y,h1,z⟩,A⟩:=f.own;refine⟨f.base,f.size,ch,⟨l1,l2,y,⟨by simp[a],i,.inr ⟨b,rest,rfl,?_,h1⟩⟩,z⟩,A⟩;simpa[a]using hlen
def HZ(zs:List Int):(pq zs).Perm zs:=List.mergeSort_perm _ _
def Zk{zs ks:List Int}(e:zs.Nodup)(U:ed ks)(h:∀z,z∈zs↔z∈ks):pq zs=ks:=by
 refine vA ?_ U λz=>by rw[(HZ zs).mem_iff];exact h z
 have h1:=List.pairwise_mergeSort (le:=λx y:Int=>decide (x<=y)) (λa b c h1 d=>by simp at*;omega) (λa b=>by simp;omega) zs;have d:(pq zs).Nodup:=(HZ zs).symm.nodup e;refine(h1.and d).imp λh=>?_;have:=h.1;have:=h.2;simp at*;omega
end
end Go.Proofs.YtlmgompopkamfaaGreatDoor
namespace Go.Proofs.YtlmgompopkamfaaGreatDoor
section
open Go.XS Go.bm
section
variable {B:Heap}{H H0:au}{K:aK}
def F8(mt:Nat)(g0:Nat)(p1:av)(K:aK):HP:=cU p1 0 (λc=>aH P (Instr.range mt (Value.map c)) λd=>iA d λa=>bz (lp λb=>mY P (Value.pointer a) false 0 (ae false (k4 P (Value.pointer a) λe v28=>db .i64 e λf=>ga P g0 #[] #[] [J f] λv30=>dq v30 λg=>ae (!g) (K (Value.tuple #[])) (b [])) (K (Value.tuple #[]))) λk l=>ae true (k4 P (Value.pointer a) λh m=>db .i64 h λi=>ga P g0 #[] #[] [J i] λv37=>dq v37 λj=>ae (!j) (K (Value.tuple #[])) (b [])) (K (Value.tuple #[]))) [])
def yx{α:Type}{enc:α->Value}{z:α}{mt j r k:Nat}{m:ML α}[de:ia P mt α enc z](h:fW P j=true)(A:∀(g:Nat) (p:av) (K:aK) (σ:Heap),F8 mt g p K σ->ad P j #[.func (.yield g) #[] #[],.pointer p] K σ)(hlen:m.length<1000000)(U:∀p c,T B (MP enc r m::ah 1 p m.length c (iv .i64 (a7 m))::H) (K (.slice p m.length c))):T B (MP enc r m::cl k #[.map (some r)]::H) (ad P 43 #[.func (.func j) #[] #[pz k]] K):=by
 refine an (Rj _ _) (an (Q5 _ _) (an (QZ _ _ _ _ _) (eg λa=>pR h λro rr l C=>an (A _ _ _ _) ?_)));unfold F8;apply St.go;refine bL (q:=MP enc r m) (oz λhs=>?_);obtain⟨et,hm,L,hz⟩:=de.ty;refine Ki hm λit=>St.go (dL 1 ?_)
 let D:Nat->au->Prop:=λn H'=>∃(ks:aN) (p:av) (c:Nat),n+ks.length=m.length/\ks.Nodup/\(∀x∈ks,x∈a7 m)/\
  H'=lO r it (λk=>(aQ m k).map enc) ks::lo l ro .ready none::ah 1 p ks.length c (iv .i64 ks)::ob rr (.deferred (some []))::cl a #[.slice p ks.length c]::H
 refine af (H':=lO r it (λk=>(aQ m k).map enc) []::lo l ro .ready none::ah 1 none 0 0 []::ob rr (.deferred (some []))::cl a #[.slice none 0 0]::H) ?_;refine uq D m.length ⟨[],none,0,by simp,by simp,by simp,rfl⟩ ?_;rintro n H' R ⟨ks,p,c,M,i,o,rfl⟩ E;refine Kc (λh1 s N=>?_) (λx v f t=>?_)
 ·
  apply aI rfl
  have u:∀z,z∈ks↔z∈a7 m:=λz=>⟨o z,λhz=>by have:aQ m z≠none:=λhc=>kC.1 hc hz;obtain⟨v,f⟩:=Jl.1 this;exact h1 z (enc v) (by rw[f];rfl)⟩
  have hl:ks.length=m.length:=by have:=((zl i (mg hs)).2 u).length_eq;simpa using this
  refine bL (q:=lo l ro .ready none) (qU (by simp) ?_);refine St.go (bL (q:=ob rr (.deferred (some []))) (oK ?_));repeat apply St.go
  refine aL (ah 1 p ks.length c) (Zg (by omega) ?_);rw[Zk i hs u,hl];refine St.go (bL (q:=lO r it (λk=>(aQ m k).map enc) ks) (Jr (qS hs ?_)));exact af (U p c)
 ·refine bo rfl (JT f (St.go ?_))
  have w:x∈a7 m:=by refine r4.1 λhc=>?_;rw[kC.2 hc]at f;cases f
  have O:ks.length<m.length:=by
   have h1:(x::ks).Nodup:=by simp[t,i]
   have s:(x::ks)⊆a7 m:=λy d=>by
    rcases cL.1 d with rfl|d
    ·exact w
    ·exact o y d
   have:=vg h1 s;simp at this;omega
  refine bL (q:=lo l ro .ready none) (oL C ?_);refine St.go (oC ?_);repeat first|apply St.go|refine Sa.go λ_=>?_
  refine eZ rfl (by omega) λF c'=>St.go (bL (q:=lo l ro .busy none) (oD ?_));repeat apply St.go
  have e:iv .i64 ks++#[J x].toList=iv .i64 (ks++[x]):=by simp[iv]
  have G:ks.length+1=(ks++[x]).length:=by simp
  rw[e,G];refine af (E (n-1) _ (by omega) ⟨ks++[x],F,c',by simp;omega,?_,λy d=>?_,rfl⟩)
  ·rw[dP];exact⟨i,by simp,λa ha b h I=>by simp at h;subst h;subst I;exact t ha⟩
  ·rcases dO.1 d with d|d
   ·exact o y d
   ·simp at d;subst d;exact w
instance {r:Nat}{m:ML Bool}[h:Ow H (MP Value.bool r) m H0]:Sx B H (ad P 241 #[.map (some r)] λv=>ad P 43 #[v] K) (m.length<1000000) (λx:av×Nat=>T B (MP Value.bool r m::ah 1 x.1 m.length x.2 (iv .i64 (a7 m))::H0) (K (.slice x.1 m.length x.2))):=⟨λhl U=>by refine bf h.pl (an (OH _) ?_);refine eg λk=>cp (cA _ _ _) ?_;exact yx (by kernel_rfl) (λg p K σ h=>OI g p h) hl λp c=>U (p,c)⟩
instance {r:Nat}{m:ML Int}[h:Ow H (MP J r) m H0]:Sx B H (ad P 572 #[.map (some r)] λv=>ad P 43 #[v] K) (m.length<1000000) (λx:av×Nat=>T B (MP J r m::ah 1 x.1 m.length x.2 (iv .i64 (a7 m))::H0) (K (.slice x.1 m.length x.2))):=⟨λhl U=>by refine bf h.pl (an (OJ _) ?_);refine eg λk=>cp (cA _ _ _) ?_;exact yx (by kernel_rfl) (λg p K σ h=>OK g p h) hl λp c=>U (p,c)⟩
instance {r:Nat}{m:ML Unit}[h:Ow H (MP (λ_:Unit=>Value.agg #[]) r) m H0]:Sx B H (ad P 89 #[.map (some r)] λv=>ad P 43 #[v] K) (m.length<1000000) (λx:av×Nat=>T B (MP (λ_:Unit=>Value.agg #[]) r m::ah 1 x.1 m.length x.2 (iv .i64 (a7 m))::H0) (K (.slice x.1 m.length x.2))):=⟨λhl U=>by refine bf h.pl (an (ON _) ?_);refine eg λk=>cp (cA _ _ _) ?_;exact yx (by kernel_rfl) (λg p K σ h=>OO g p h) hl λp c=>U (p,c)⟩
instance {r:Nat}{m:ML av}[h:Ow H (MP Value.pointer r) m H0]:Sx B H (ad P 44 #[.map (some r)] λv=>ad P 43 #[v] K) (m.length<1000000) (λx:av×Nat=>T B (MP Value.pointer r m::ah 1 x.1 m.length x.2 (iv .i64 (a7 m))::H0) (K (.slice x.1 m.length x.2))):=⟨λhl U=>by refine bf h.pl (an (OL _) ?_);refine eg λk=>cp (cA _ _ _) ?_;exact yx (by kernel_rfl) (λg p K σ h=>OM g p h) hl λp c=>U (p,c)⟩
end
end
open Go.XS Go.bm
structure aT where
 b7:aN
 cN:ML Bool
 closed:aN
 fresh:Int
namespace aT
structure Ok(S:aT):Prop where
 len:S.b7.length<=1048576
 fresh:0<=S.fresh/\S.fresh<=(S.b7.length:Int)
 cl:∀p∈S.closed,0<=p/\p<S.fresh
 ie:S.closed.Nodup
 op:∀e∈S.cN,e.2=true/\0<=e.1/\e.1<S.fresh/\e.1∉S.closed
 bX:bQ S.cN
def new(n:Nat):aT:=⟨List.replicate n 0,[],[],0⟩
def b8(S:aT)(p:Int):Bool:=(aQ S.cN p).getD false
def gen(S:aT)(p:Int):Int:=S.b7.getD p.toNat 0
def right(S:aT)(p g:Int):Bool:=S.b8 p&&(S.gen p==g)
def pick(S:aT):aT×Int×Bool:=
 match S.closed.getLast? with
 |some p=>({S with closed:=S.closed.dropLast},p,true)
 |none=>if S.fresh<(S.b7.length:Int)then({S with fresh:=S.fresh+1},S.fresh,true)else(S,0,false)
def opened(S:aT):aT:=if S.pick.2.2 then{S.pick.1 with cN:=bC S.pick.2.1 true S.cN}else S
def cG(S:aT):Int:=if S.pick.2.2 then S.pick.2.1 else 0
def fM(S:aT):Int:=if S.pick.2.2 then S.gen S.pick.2.1 else 0
def fZ(S:aT):Bool:=S.pick.2.2
def shut(S:aT)(p:Int):aT:={S with cN:=bN p S.cN,b7:=S.b7.set p.toNat (IntKind.wrap .i64 (S.gen p+1)),closed:=S.closed++[p]}
def close(S:aT)(p g:Int):aT:=if S.right p g then S.shut p else S
end aT
structure Dx where
 g:Nat
 r:Nat
 p:av
 c:Nat
abbrev vJ(b:Nat)(S:aT)(x:Dx)(H:au):au:=
 cl b #[.slice (some ⟨x.g,0,none⟩) S.b7.length S.b7.length,.map (some x.r),.slice x.p S.closed.length x.c,J S.fresh]::cl x.g (iv .i64 S.b7).toArray::MP Value.bool x.r S.cN::ah 1 x.p S.closed.length x.c (iv .i64 S.closed)::H
def ft(b:Nat)(S:aT):bc:=BX S.Ok (vJ b S)
section
variable {B:Heap}{H H0:au}{K:aK}{b n:Nat}{S:aT}{p g:Int}
def n'{q:HP}(t:∀x,S.Ok->T B (vJ b S x H) q):T B (ft b S::H) q:=pM (λ_ _=>rfl) t
def kJ{q:HP}(x:Dx)(h:S.Ok)(t:T B (ft b S::H) q):T B (vJ b S x H) q:=pL x h (λ_ _=>rfl) t
def aT.Ok.lt(h:S.Ok)(a:S.b8 p=true):0<=p/\p<(S.b7.length:Int):=by
 unfold aT.b8 at a
 cases b:aQ S.cN p with
 |none=>rw[b]at a;cases a
 |some v=>have:=h.op _ (jA b);have:=h.fresh;simp only at*;omega
instance adj[h:Ow H (ft b) S H0]:St B H (ad P 344 #[pz b,J p,J g] K) (T B (ft b S::H0) (K (.bool (S.right p g)))):=⟨by
 intro U;refine bf h.pl (n' λx hs=>an (Rp _ _ _) ?_);repeat' first|apply St.go|refine S2.go (λ_=>?_) λ_=>?_|done
 ·rename_i h1
  have c:=hs.lt h1
  have a:S.b7[p.toNat]?=some (S.gen p):=by unfold aT.gen;rw[List.getD,bj (by omega)];rfl
  refine fA p.toNat (by omega) (by omega) a (af (kJ x hs (dT U ?_)));unfold aT.right aT.b8;rw[h1,ff]
 ·rename_i h1
  refine af (kJ x hs (dT U ?_));unfold aT.right aT.b8;rw[h1,v7]⟩
def aT.u9(h:n<=1048576):(aT.new n).Ok:=⟨by simpa[aT.new]using h,by simp[aT.new],by simp[aT.new],by simp[aT.new],by simp[aT.new],by simp[aT.new,bQ,a7,ed]⟩
def B8(a:n<=1048576)(U:∀b,T B (ft b (aT.new n)::H) (K (pz b))):T B H (ad P 146 #[J n] K):=by
 apply an (Rk _);refine aI (by simp) (aI (by simp;omega) (gy (by omega) (by omega) (by omega) (by rw[kZ];omega) (by kernel_rfl) (by kernel_rfl) λg=>?_));rw[l5,mr,lq,iP,aZ,show List.replicate n (J 0)=iv .i64 (List.replicate n 0) by simp[iv]];repeat refine Sa.go λ_=>?_
 rename_i r b;refine bL (q:=IM r λ_=>none) (iT Value.bool (dL 1 ?_));have:=kJ ⟨g,r,none,0⟩ (aT.u9 a) (U b);simp only[aT.new,vJ,g',iv,ot,gH]at this⊢;exact af this
def aT.Ok.EN(h:S.Ok):S.closed.length<=1048576:=by
 have h1:(S.closed.map Int.toNat).Nodup:=by refine tQ _ (λa b c=>?_) (y6.1 h.ie);have:=h.cl a c.1;have:=h.cl b c.2.1;have:=c.2.2;omega
 have d:=nT S.fresh.toNat h1 λp e=>by obtain⟨q,f,rfl⟩:=bP.1 e;have:=h.cl q f;omega
 have:=h.fresh;have:=h.len;simp only[eX]at d;omega
def aT.Ok.snoc(h:S.Ok){a:aN}{z:Int}(e:S.closed=a++[z]):{S with closed:=a}.Ok:=by have c:=h.ie;rw[e,dP]at c;exact⟨h.len,h.fresh,λp d=>h.cl p (by rw[e];simp[d]),c.1,λx b=>⟨(h.op x b).1,(h.op x b).2.1,(h.op x b).2.2.1,λhm=>(h.op x b).2.2.2 (by rw[e];simp[hm])⟩,h.bX⟩
def Zh(U:S.Ok->T B (ft b S.pick.1::H) (K (.tuple #[J S.pick.2.1,.bool S.pick.2.2]))):T B (ft b S::H) (ad P 348 #[pz b] K):=by
 refine n' λx hs=>an (Rq _) ?_
 replace U:=U hs
 unfold aT.pick at U;have hl:=hs.len;have hf:=hs.fresh
 cases hc:S.closed.getLast? with
 |none=>
  have e':S.closed=[]:=by simpa using hc
  rw[hc]at U;simp only at U;repeat' first|apply St.go|refine S2.go (λ_=>?_) λ_=>?_|done
  ·rename_i h;simp[e']at h
  ·rename_i h
   rw[ag h]at U;rw[br (by omega),show S.fresh+1-1=S.fresh by omega,br (by omega)];have aM:{S with fresh:=S.fresh+1}.Ok:=⟨hl,by simp only;omega,by simp[e'],by simp[e'],λe he=>⟨(hs.op e he).1,(hs.op e he).2.1,by have:=(hs.op e he).2.2.1;simp only at this⊢;omega,by simp[e']⟩,hs.bX⟩;exact af (kJ x aM U)
  ·rename_i h
   rw[aj h]at U;exact af (kJ x hs U)
 |some z=>
  obtain⟨a,e'⟩:=Jb.1 hc;rw[hc]at U;simp only at U;have hlen:S.closed.length=a.length+1:=by rw[e'];simp
  have f:=hs.EN;have hd:S.closed.dropLast=a:=by rw[e'];simp
  rw[hd]at U;have d:IntKind.wrap .i64 ((S.closed.length:Int)-1)=(a.length:Int):=by rw[br (by omega)];omega
  repeat' first|apply St.go|refine S2.go (λ_=>?_) λ_=>?_|done
  ·rw[d]
   apply fA (zs:=S.closed) a.length rfl (by omega) (x:=z) (by rw[e'];simp);refine St.go (aL (ah 1 x.p S.closed.length x.c) (xU λg i=>?_));refine ba (by omega) (St.go ?_);rw[lx];refine aL (ah 1 x.p S.closed.length x.c) (rG (m:=a.length) (by omega) ?_);rw[show((a.length:Int).toNat-0)=a.length by omega,iQ,show(iv .i64 S.closed).take (a.length*1)=iv .i64 a by rw[e'];simp[iv]];exact af (kJ x (hs.snoc e') U)
  ·rename_i h _;omega
  ·rename_i h _;omega
def aT.Ok.G6(h:S.Ok):S.opened.Ok:=by
 unfold aT.opened;split
 ·rename_i b
  have hf:=h.fresh;unfold aT.pick at b⊢
  cases hc:S.closed.getLast? with
  |none=>
   rw[hc]at b;have e':S.closed=[]:=by simpa using hc
   simp only at b⊢;split at b
   ·rename_i f
    simp only[f,eb];refine⟨h.len,by simp only;omega,by simp[e'],by simp[e'],λe he=>?_,fu h.bX⟩;rcases(o2 h.bX).1 he with rfl|⟨he,_⟩
    ·exact⟨rfl,by simp only;omega,by simp only;omega,by simp[e']⟩
    ·have:=h.op e he
     exact⟨this.1,this.2.1,by have:=this.2.2.1;simp only at this⊢;omega,by simp[e']⟩
   ·cases b
  |some z=>
   obtain⟨a,e'⟩:=Jb.1 hc;rw[hc]at b;have c:=h.snoc e';have d:=h.ie;rw[e',dP]at d;have hz:=h.cl z (by rw[e'];simp);simp only[e',List.dropLast_concat];refine⟨h.len,h.fresh,c.cl,c.ie,λe he=>?_,fu h.bX⟩;rcases(o2 h.bX).1 he with rfl|⟨he,_⟩
   ·exact⟨rfl,hz.1,hz.2,λhm=>d.2.2 z hm z (by simp) rfl⟩
   ·exact c.op e he
 ·exact h
def aT.Ok.x8(h:S.Ok)(a:S.pick.2.2=true):0<=S.pick.2.1/\S.pick.2.1<(S.b7.length:Int):=by
 have hf:=h.fresh;unfold aT.pick at a⊢
 cases hc:S.closed.getLast? with
 |none=>
  rw[hc]at a;simp only at a⊢;split at a
  ·rename_i b;rw[ag b];exact⟨hf.1,b⟩
  ·cases a
 |some z=>have:=h.cl z (zj hc);simp only;omega
def aT.Bx:S.pick.1.b7=S.b7/\S.pick.1.cN=S.cN:=by
 unfold aT.pick;split
 ·exact⟨rfl,rfl⟩
 ·split<;>exact⟨rfl,rfl⟩
instance adh[h:Ow H (ft b) S H0]:St B H (ad P 265 #[pz b] K) (T B (ft b S.opened::H0) (K (.tuple #[J S.cG,J S.fM,.bool S.fZ]))):=⟨by
 intro U;refine bf h.pl (an (Rn _) ?_);refine St.go (Zh λhs=>?_);have aM:=hs.G6;unfold aT.opened aT.fM aT.fZ aT.cG at U;unfold aT.opened at aM;have c:=S.Bx;repeat' first|apply St.go|refine S2.go (λ_=>?_) λ_=>?_|done
 ·rename_i a
  rw[a]at U;simp only[gb,ep]at U
  have e:S.pick.1=S:=by
   unfold aT.pick at a⊢;split
   ·rename_i hc;rw[hc]at a;cases a
   ·rename_i hc;rw[hc]at a
    simp only at a⊢;split at a
    ·cases a
    ·rename_i d;rw[aj d]
  rw[e];exact U
 ·rename_i a
  have d:=hs.x8 a;rw[ag a,ag a,ag a,a]at U;rw[ag a]at aM;refine n' λx f=>?_;repeat apply St.go
  refine fA (zs:=S.pick.1.b7) S.pick.2.1.toNat (by omega) (by have:=congrArg List.length c.1;omega) (x:=S.gen S.pick.2.1) ?_ ?_
  ·unfold aT.gen
   rw[c.1,List.getD,bj (by omega)];rfl
  rw[<-c.2]at aM U;exact af (kJ x aM U)⟩
def aT.Ok.HW(h:S.Ok)(d:S.b8 p=true):(S.shut p).Ok:=by
 have i:=h.lt d
 have hm:∃v,(p,v)∈S.cN:=by
  unfold aT.b8 at d
  cases f:aQ S.cN p with
  |none=>rw[f]at d;cases d
  |some v=>exact⟨v,jA f⟩
 obtain⟨v,hm⟩:=hm;have h1:=h.op _ hm;refine⟨by simp[aT.shut,h.len],by simp[aT.shut,h.fresh],λq b=>?_,?_,λe he=>?_,ml h.bX⟩
 ·rcases dO.1 b with b|b
  ·exact h.cl q b
  ·simp at b;subst b;exact⟨h1.2.1,h1.2.2.1⟩
 ·simp only[aT.shut,dP]
  refine⟨h.ie,by simp,λa ha c hc e=>?_⟩;simp at hc;subst hc;subst e;exact h1.2.2.2 ha
 ·obtain⟨he,g⟩:=ta.1 he
  have:=h.op e he;refine⟨this.1,this.2.1,this.2.2.1,λhm=>?_⟩;rcases dO.1 hm with hm|hm
  ·exact this.2.2.2 hm
  ·simp at hm;exact g hm
instance adf[h:Ow H (ft b) S H0]:St B H (ad P 271 #[pz b,J p,J g] K) (T B (ft b (S.close p g)::H0) (K (.bool (S.right p g)))):=⟨by
 intro U;refine bf h.pl (an (Rl _ _ _) ?_);unfold aT.close at U;repeat' first|apply St.go|refine S2.go (λ_=>?_) λ_=>?_|done
 ·rename_i hr
  rw[hr]at U;exact U
 ·rename_i hr
  rw[ag hr,hr]at U;refine n' λx hs=>?_;have a:S.b8 p=true:=by unfold aT.right at hr;simp at hr;exact hr.1
  have f:=hs.lt a;have aM:=hs.HW a;have i:=hs.EN
  have c:S.b7[p.toNat]?=some (S.gen p):=by unfold aT.gen;rw[List.getD,bj (by omega)];rfl
  repeat apply St.go
  refine fA p.toNat (by omega) (by omega) c (zD p.toNat (by omega) (by omega) (by omega) ?_);repeat first|apply St.go|refine Sa.go λ_=>?_
  refine eZ rfl (by omega) λd c'=>St.go ?_;have e:iv .i64 S.closed++#[J p].toList=iv .i64 (S.shut p).closed:=by simp[aT.shut,iv]
  rw[e];have:=kJ ⟨x.g,x.r,d,c'⟩ aM U;simp only[vJ,aT.shut,b',hb,c8,gH,bI]at this⊢;exact af this⟩
instance adg[h:Ow H (ft b) S H0]:Sc B H (ad P 167 #[pz b,J p] K) (0<=p/\p<(S.b7.length:Int)) (T B (ft b S::H0) (K (J (S.gen p)))):=⟨by
 intro c U;refine bf h.pl (n' λx hs=>an (Rm _ _) ?_)
 have a:S.b7[p.toNat]?=some (S.gen p):=by unfold aT.gen;rw[List.getD,bj (by omega)];rfl
 repeat' first|apply St.go|refine S2.go (λ_=>?_) λ_=>?_|done
 ·omega
 ·omega
 ·apply fA p.toNat (by omega) (by omega) a
  exact af (kJ x hs U)⟩
instance adi[h:Ow H (ft b) S H0]:Sx B H (ad P 155 #[pz b] K) (S.cN.length<1000000) (λx:av×Nat=>T B (ft b S::ah 1 x.1 S.cN.length x.2 (iv .i64 (a7 S.cN))::H0) (K (.slice x.1 S.cN.length x.2))):=⟨by
 intro hl U;refine bf h.pl (n' λx hs=>an (Ro _) ?_);repeat first|apply St.go|refine Sx.go (by omega) λ_=>?_
 rename_i y;exact af (kJ x hs (U y))⟩
end
