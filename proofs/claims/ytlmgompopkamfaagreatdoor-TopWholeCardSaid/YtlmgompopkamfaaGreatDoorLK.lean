/- Lemmas that lead to TopWhole (their names made short by a program); no condition. -/
import Derived.Test.YtlmgompopkamfaaGreatDoorLJ
set_option linter.all false
set_option maxRecDepth 20000
set_option synthInstance.checkSynthOrder false
namespace Go.Proofs.YtlmgompopkamfaaGreatDoor
open Go.XS Go.bn
section
def hP(m:Mem):Int:=if bZ m.2 then m.2.dG-m.2.held else 0
def fJ(f:Int)(d:List Bool)(ms:List Mem):Int:=cJ (λx:Bool×Mem=>!x.1&&decide (hP x.2<=f)) (d.zip ms)
def kV(ms:List Mem):Nat->Int->List Bool->aO
 |0,_,_=>[]
 |k+1,f,d=>if fJ f d ms<0 then[]else fJ f d ms::kV ms k (f+(ms.getD (fJ f d ms).toNat (0,eJ)).2.held) (d.set (fJ f d ms).toNat true)
def iC(f:Int)(ms:List Mem):aO:=kV ms ms.length f (List.replicate ms.length false)
def jA(f:Int)(ms:List Mem):Bool:=decide (0<=f/\f<=1048576)&&ms.all (λm=>bZ m.2)&&decide (ms.length<=(iC f ms).length)
def ki(d:List Bool):aB:=d.map Value.bool
section
variable {B:Heap}{H H0:au}{K:aK}{f n:Int}{q:aw}{l c:Nat}{ms:List Mem}{d:List Bool}
def ru{α:Type}{p:α->Bool}{l:List α}(h:¬cJ p l<0):∃(i:Nat) (a:α),cJ p l=i/\l[i]?=some a/\p a=true:=by
 unfold cJ at h⊢
 cases hf:l.findIdx? p with
 |none=>rw[hf]at h;exact absurd (by decide) h
 |some i=>rw[yY]at hf;obtain⟨hi,b,_⟩:=hf;exact⟨i,l[i],rfl,ba hi,b⟩
def A3(h:¬fJ f d ms<0):∃(i:Nat) (m:Mem),fJ f d ms=i/\d[i]?=some false/\ms[i]?=some m/\hP m<=f:=by obtain⟨i,⟨b,m⟩,U,a,c⟩:=ru h;rw[vS]at a;simp only[b9,ml,bz]at c;exact⟨i,m,U,by rw[a.1,c.1],a.2,c.2⟩
instance ac4{ca:ax}{g:Nat}:J B H (ab P 520 #[.slice q l c,.func (.func g) #[] ca] K) (T B H (ab P 353 #[.slice q l c,.func (.func g) #[] ca] λv=>di .i64 v λn=>K (.bool (decide (n>=0))))):=⟨λt=>by apply an (D7 _ _ _ _ _);exact t⟩
def wv{k:Nat}{m:Mem}{g:ax->HP}[h:bY B H k (fj m).toArray](t:T B H (g #[D m.2.dG,D m.2.held,D m.2.cf])):T B H (eY ⟨k,1,none⟩ 3 g):=by
 refine iS #[D m.2.dG,D m.2.held,D m.2.cf] rfl (λj a=>?_) t;obtain rfl|rfl|rfl:j=0\/j=1\/j=2:=by omega
 all_goals rfl
def wA{a:Acc}(h:bZ a=true):jl a:=by simp only[bZ,bz]at h;unfold jl aF;omega
def WQ(a:∀m∈ms,bZ m.2=true)(hl:l=ms.length)(hlen:l<1000000)(I:T B (ai 4 q l c (aW ms)::H) (K (.bool (decide (0<=f/\f<=1048576))))):T B (ai 4 q l c (aW ms)::H) (ab P 517 #[D f,.slice q l c] K):=by
 apply an (OR _ _ _ _);repeat' first|apply J.go|refine S2.go (λ_=>?_) λ_=>?_|done
 ·refine tm (ms:=ms) (f:=λ_=>false) (by kernel_rfl) hl hlen (λm hm b t=>?_) ?_
  ·show T B _ (ab P 519 #[.agg (fj m).toArray] b)
   refine an (OS _) (Sa.go λ_=>wv ?_);have hr:=a m hm;apply sh (wA hr);rw[hr];exact J.go (af t)
  ·have:cJ (λ_:Mem=>false) ms<0:=by rw[uG];intro _ _;rfl
   repeat apply J.go
   rw[cD (by omega)];rw[cB (by omega)]at I;exact I
 ·rename_i U d
  rw[cD (by omega)]at I;exact I
 ·rename_i U
  rw[cD (by omega)]at I;exact I
def KZ{k:Nat}{x:Bool}(h:d[k]?=some x):(ki d).toArray[k]?=some (.bool x):=by rw[dY,ki,fo,h];rfl
def JC{b:Nat}{cs:ax}[h:bY B H b cs]{x:Bool}{g:Bool->HP}(i:Nat)(a:n=(i:Int))(hl:i<l)(hc:cs[i]?=some (.bool x))(t:T B H (g x)):T B H (Ay (some ⟨b,0,none⟩) l n g):=by subst a;unfold Ay;rw[cT];refine bj ⟨by omega,by omega⟩ ?_;rw[a7,aQ,bJ];exact iT hc t
def GI{p1 p2 p3 b:Nat}(s:∀m∈ms,bZ m.2=true)(hl:l=ms.length)(hd:d.length=ms.length)(hlen:l<1000000)(I:T B (ai 4 q l c (aW ms)::cl p1 #[.slice q l c]::cl p2 #[.slice (some ⟨b,0,none⟩) l l]::cl b (ki d).toArray::cl p3 #[D f]::H) (K (D (fJ f d ms)))):T B (ai 4 q l c (aW ms)::cl p1 #[.slice q l c]::cl p2 #[.slice (some ⟨b,0,none⟩) l l]::cl b (ki d).toArray::cl p3 #[D f]::H) (ab P 522 #[pz p1,pz p2,pz p3] K):=by
 refine an (OV _ _ _) (J.go ?_);subst hl;refine cF ms.length (by omega) (λk H'=>H'=ai 4 q ms.length c (aW ms)::cl p1 #[.slice q ms.length c]::cl p2 #[.slice (some ⟨b,0,none⟩) ms.length ms.length]::cl b (ki d).toArray::cl p3 #[D f]::H/\∀j x,j<k->(d.zip ms)[j]?=some x->(!x.1&&decide (hP x.2<=f))=false) ⟨rfl,by simp⟩ ?_;rintro k H' R w ⟨rfl,h⟩ n;refine S2.go (λa=>?_) λy=>?_
 ·have a:k<ms.length:=by omega
  have o:ms[k]?=some ms[k]:=ba a;have p:d[k]?=some d[k]:=ba (by omega);have hz:(d.zip ms)[k]?=some (d[k],ms[k]):=by rw[vS];exact⟨p,o⟩
  have r:(!d[k]&&decide (hP ms[k]<=f))=false->∀j x,j<k+1->(d.zip ms)[j]?=some x->(!x.1&&decide (hP x.2<=f))=false:=λt j x z g=>by
   by_cases e:j=k
   ·subst e;rw[hz]at g;cases g;exact t
   ·exact h j x (by omega) g
  apply dO eP (by omega) k rfl a o;repeat first|apply J.go|refine Sa.go λ_=>?_|refine Sc.go ⟨rfl,rfl⟩ ?_
  apply JC k rfl a (KZ p);repeat' first|apply J.go|refine S2.go (λ_=>?_) λ_=>?_|done
  ·rename_i u
   apply wv;repeat apply J.go
   have hr:=s _ (dz a);apply Kb (wA hr);repeat' first|apply J.go|refine S2.go (λ_=>?_) λ_=>?_|done
   ·rename_i hle
    have i:hP ms[k]<=f:=hle
    have:fJ f d ms=(k:Int):=by unfold fJ cJ;rw[nD h hz (by simp[u,i])]
    rw[this]at I;exact af I
   ·rename_i hle
    have i:¬hP ms[k]<=f:=hle;exact af (n a _ ⟨rfl,r (by simp[i])⟩)
  ·rename_i v
   exact af (n a _ ⟨rfl,r (by simp[v])⟩)
 ·have:fJ f d ms=-1:=by unfold fJ cJ;rw[mI λj x g=>h j x (by have:=(b0.1 g).1;simp at this;omega) g]
  rw[this]at I;exact I
def xb{k:Nat}(h:¬fJ f d ms<0):kV ms (k+1) f d=fJ f d ms::kV ms k (f+(ms.getD (fJ f d ms).toNat (0,eJ)).2.held) (d.set (fJ f d ms).toNat true):=by rw[kV,ak h]
def xc{k:Nat}(h:fJ f d ms<0):kV ms k f d=[]:=by
 cases k with
 |zero=>rfl
 |succ k=>rw[kV,ah h]
def count_set{d:List Bool}{i:Nat}(h:d[i]?=some false):(d.set i true).count false+1=d.count false:=by
 induction d generalizing i with
 |nil=>simp at h
 |cons x d a=>
  cases i with
  |zero=>simp at h;subst h;simp[List.count_cons]
  |succ i=>have:=a (by simpa using h);simp only[iK,List.count_cons];omega
def zc4:zc P 4=#[.bool false]:=by kernel_rfl
def S7:P.cellsOf 4=1:=by kernel_rfl
def K2:P.bytesOf 4=1:=by kernel_rfl
abbrev A4(q:aw)(c:Nat)(ms:List Mem)(p1 p2 p3 a b:Nat)(d:List Bool)(f:Int)(ro:Loop)(rr lp:Nat)(H0:au)(outs:aO)(p:aw)(c':Nat):au:=
 ai 4 q ms.length c (aW ms)::cl p1 #[.slice q ms.length c]::cl p2 #[.slice (some ⟨a,0,none⟩) ms.length ms.length]::cl a (ki d).toArray::cl p3 #[D f]::
  ai 1 p outs.length c' (iv .i64 outs)::cl b #[.slice p outs.length c']::lo lp ro .ready none::ob rr (.deferred (some []))::H0
def WR{p1 p3 b:Nat}{ro:Loop}{rr lp:Nat}{E:HP}{p0:aw}{c0:Nat}(j:∀m∈ms,bZ m.2=true)(hlen:ms.length<=1000)(hf:0<=f/\f<=1048576)(v:mB P ro (ta λl w V z=>iY l (aT (ag b 0) λA C F=>al #[D w] 3 λG=>cI P #[31,31] A C F (some (ag G 0)) 1 1 λH I K=>st (ag b 0) (Value.slice H I K) (fx l none (z (Value.bool true))))))(fin:∀p c',T B (ai 4 q ms.length c (aW ms)::ai 1 p (iC f ms).length c' (iv .i64 (iC f ms))::cl b #[.slice p (iC f ms).length c']::lo lp ro .ready none::ob rr (.deferred (some []))::H0) E):T B (ai 4 q ms.length c (aW ms)::cl p1 #[.slice q ms.length c]::cl p3 #[D f]::ai 1 p0 0 c0 []::cl b #[.slice p0 0 c0]::lo lp ro .ready none::ob rr (.deferred (some []))::H0) (ab P 521 #[.func (.yield lp) #[] #[],pz p1,pz p3] λ_=>E):=by
 refine an (OU _ _ _) (J.go ?_);refine gC (by omega) (by omega) (by omega) (by rw[K2];omega) (by kernel_rfl) (by kernel_rfl) λe=>?_;rw[S7,zc4,k7,iM,a7];refine Sa.go λp2=>J.go ?_;have L:(List.replicate ms.length (Value.bool false)).toArray=(ki (List.replicate ms.length false)).toArray:=by simp[ki]
 rw[L]
 refine af (H':=ai 4 q ms.length c (aW ms)::cl p1 #[.slice q ms.length c]::cl p2 #[.slice (some ⟨e,0,none⟩) ms.length ms.length]::cl e (ki (List.replicate ms.length false)).toArray::cl p3 #[D f]::
  ai 1 p0 0 c0 []::cl b #[.slice p0 0 c0]::lo lp ro .ready none::ob rr (.deferred (some []))::H0) ?_
 change T B (A4 q c ms p1 p2 p3 e b (List.replicate ms.length false) f ro rr lp H0 [] p0 c0) _;refine GI j rfl (by simp) (by omega) (J.go ?_);have M:(List.replicate ms.length false).count false=ms.length:=by simp
 refine wu (λm n H'=>∃a d outs p c',n=fJ a d ms/\m=d.count false/\d.length=ms.length/\outs++kV ms m a d=iC f ms/\outs.length+m=ms.length/\0<=a/\a<=1048576*(1+(ms.length-m:Nat))/\
  H'=A4 q c ms p1 p2 p3 e b d a ro rr lp H0 outs p c') ms.length ⟨f,_,[],p0,c0,rfl,M.symm,by simp,rfl,by simp,hf.1,by simp;omega,rfl⟩ ?_
 rintro m n H' R ⟨a,d,outs,p,c',rfl,hm,o,g,W,X,Y,rfl⟩ N;refine S2.go (λZ=>?_) λaa=>?_
 ·obtain⟨i,y,hi,hd,h,ac⟩:=A3 (f:=a) (d:=d) (ms:=ms) (by omega)
  have ad:=count_set hd;obtain⟨k,rfl⟩:∃k,m=k+1:=⟨m-1,by omega⟩;rw[xb (by omega),hi,a7]at g;have O:ms.getD i (0,eJ)=y:=by rw[List.getD,h];rfl
  rw[O]at g;have hr:=j y (cz h);have Q:=hr;simp only[bZ,bz]at Q;have r:i<ms.length:=(b0.1 h).1;rw[hi];apply J.go;have S:(ki d).toArray.setIfInBounds (0+i) (.bool true)=(ki (d.set i true)).toArray:=by simp[ki,jh]
  refine bL (q:=cl e (ki d).toArray) (zj i rfl r (by simp[ki];omega) ?_);rw[S];repeat apply J.go
  refine aN (ai 4 q ms.length c) (eA (x:=y.2.held) i rfl r ?_ ?_)
  ·unfold aW
   rw[dW eP ms i y h 2 (by omega)];rfl
  rw[bd (by omega)];repeat apply J.go
  refine bL (q:=lo lp ro .ready none) (oI v ?_);refine J.go (oz ?_);repeat first|apply J.go|refine Sa.go λ_=>?_
  refine aN (ai 1 p outs.length c') (e0 (s:=1) (c:=c') rfl (by omega) λt u=>?_);apply J.go;refine bL (q:=lo lp ro .busy none) (oA ?_);repeat apply J.go
  have U:iv .i64 outs++#[D (i:Int)].toList=iv .i64 (outs++[(i:Int)]):=by simp[iv]
  rw[U,show outs.length+1=(outs++[(i:Int)]).length by simp];refine af (H':=A4 q c ms p1 p2 p3 e b (d.set i true) (a+y.2.held) ro rr lp H0 (outs++[(i:Int)]) t u) (GI j rfl (by simpa using o) (by omega) (J.go ?_));exact N k _ _ (by omega) ⟨a+y.2.held,d.set i true,outs++[(i:Int)],t,u,rfl,by omega,by simpa using o,by rw[er];exact g,by simp;omega,by omega,by omega,rfl⟩
 ·rw[xc (by omega),je]at g
  subst g;exact af (fin p c')
instance acx:Sa B H (ab P 518 #[D f,.slice q l c] K) (λx:Nat×Nat=>T B (cl x.2 #[.slice q l c]::cl x.1 #[D f]::H) (K (.func (.func 521) #[] #[pz x.2,pz x.1]))):=⟨by intro I;apply an (OT _ _ _ _);refine Sa.go λa=>?_;refine Sa.go λb=>?_;exact I (a,b)⟩
def WO(a:∀m∈ms,bZ m.2=true)(hlen:ms.length<=1000)(h0:jA f ms=false->T B (ai 4 q ms.length c (aW ms)::H) (K (.tuple #[.slice none 0 0,.bool false])))(U:jA f ms=true->∀p c',T B (ai 4 q ms.length c (aW ms)::ai 1 p (iC f ms).length c' (iv .i64 (iC f ms))::H) (K (.tuple #[.slice p (iC f ms).length c',.bool true]))):T B (ai 4 q ms.length c (aW ms)::H) (ab P 516 #[D f,.slice q ms.length c] K):=by
 refine an (OP _ _ _ _) (WQ a rfl (by omega) ?_);have b:ms.all (λm=>bZ m.2)=true:=by rw[ig];exact a
 apply J.go;by_cases hf:0<=f/\f<=1048576
 ·rw[cB hf]
  apply aD rfl;have hs:jA f ms=decide (ms.length<=(iC f ms).length):=by unfold jA;rw[cB hf,b];rfl
  refine gC (by omega) (by omega) (by omega) (by rw[kO];omega) (by kernel_rfl) (by kernel_rfl) λg=>?_;rw[lR,mj,k7,iM,a7];refine kf (l:=ms.length) 1 (by simp) (rB (m:=0) (by omega) ?_);rw[tR,r5];refine Sa.go λd=>J.go (Sa.go λx=>?_);obtain⟨p3,p1⟩:=x;refine pK (by kernel_rfl) λro rr lp e=>?_;refine af (H':=ai 4 q ms.length c (aW ms)::cl p1 #[.slice q ms.length c]::cl p3 #[D f]::ai 1 (some ⟨g,0,none⟩) 0 ms.length []::cl d #[.slice (some ⟨g,0,none⟩) 0 ms.length]::lo lp ro .ready none::ob rr (.deferred (some []))::H) ?_;refine WR a hlen hf e λp c'=>?_;refine bL (q:=lo lp ro .ready none) (qQ (by simp) ?_);repeat' first|apply J.go|refine S2.go (λ_=>?_) λ_=>?_|done
  ·rename_i h
   refine bL (q:=ob rr (.deferred (some []))) (oG ?_);exact af (h0 (by rw[hs];exact cD (by omega)))
  ·rename_i h
   refine bL (q:=ob rr (.deferred (some []))) (oG ?_);exact af (U (by rw[hs];exact cB (by omega)) p c')
 ·rw[cD hf]
  apply bk rfl;exact h0 (by unfold jA;rw[cD hf];rfl)
def GH(a:∀m∈ms,bZ m.2=true)(hlen:ms.length<=1000)(I:T B (ai 4 q ms.length c (aW ms)::H) (K (.bool (jA f ms)))):T B (ai 4 q ms.length c (aW ms)::H) (ab P 515 #[D f,.slice q ms.length c] K):=by
 refine an (OQ _ _ _ _) (WO a hlen (λhs=>?_) λhs p c'=>?_)
 ·rw[hs]at I
  exact J.go I
 ·rw[hs]at I
  exact J.go (af I)
def qZ(f w:Int):Bool:=decide (0<=f/\0<=w/\f<=1048576/\w<=1048576-f)
instance abp{w:Int}:J B H (ab P 512 #[D f,D w] K) (T B H (K (.tuple #[D (if qZ f w then f+w else 0),.bool (qZ f w)]))):=⟨by
 intro I;apply an (LU _ _);unfold qZ at I;repeat' first|refine S2.go (λ_=>?_) λ_=>?_|done
 ·rw[cD (by omega)]at I;exact I
 ·rw[cD (by omega)]at I;exact I
 ·rw[cD (by omega)]at I;exact I
 ·rename_i U b c a
  rw[bd (by omega)]at a;rw[cD (by omega)]at I;exact I
 ·rename_i U b c a
  rw[bd (by omega)]at a;rw[cB (by omega),ah rfl]at I;rw[bd (by omega)];exact I⟩
def KB{w:Int}(b:∀m∈ms,bZ m.2=true)(hlen:ms.length<=1000)(I:T B (ai 4 q ms.length c (aW ms)::H) (K (.bool (qZ f w&&jA (f+w) ms)))):T B (ai 4 q ms.length c (aW ms)::H) (ab P 514 #[D f,D w,.slice q ms.length c] K):=by
 apply an (LS _ _ _ _ _);repeat' first|apply J.go|refine S2.go (λ_=>?_) λ_=>?_|done
 ·rename_i a
  rw[ah a];rw[a]at I;exact GH b hlen (J.go I)
 ·rename_i a
  rw[a]at I;exact I
def Ai(m:Mem)(n:Int):Mem:=(m.1,Ac.ct.ez m.2 n)
def lN(ms:List Mem)(at' n:Int):Bool:=decide (0<=at'/\at'<(ms.length:Int))&&decide (Ac.ct.err (ms.getD at'.toNat (0,eJ)).2 n=0)
def after(ms:List Mem)(at' n:Int):List Mem:=ms.set at'.toNat (Ai (ms.getD at'.toNat (0,eJ)) n)
def ua{g:ax->HP}[h:Rd B H q (aW ms)]{y:Mem}(i:Nat)(b:n=(i:Int))(hl:i<l)(a:ms[i]?=some y)(t:T B H (g #[D y.2.dG,D y.2.held,D y.2.cf])):T B H (rv q l n 4 1 3 g):=by
 subst b;have hi:i<ms.length:=(b0.1 a).1;have d:=dr eP ms;unfold rv;refine nw h.rd (by unfold aW;omega) λx c=>bj ⟨by omega,by omega⟩ ?_;subst c;rw[a7,add_add];refine Dx h.rd #[D y.2.dG,D y.2.held,D y.2.cf] rfl (by unfold aW;omega) (λj e=>?_) t;rw[show i*4+1+j=i*4+(1+j) by omega];unfold aW;rw[dW eP ms i y a (1+j) (by omega)];obtain rfl|rfl|rfl:j=0\/j=1\/j=2:=by omega
 all_goals rfl
def Iw:zc P 57=(fj (0,eJ)).toArray:=by kernel_rfl
def Ek:P.cellsOf 57=4:=by kernel_rfl
def DZ:P.bytesOf 57=32:=by kernel_rfl
def Dl{b:Nat}{cs:ax}{K:aK}[h:Rd B H0 q (aW ms)](hs:cs.size=ms.length*4)(t:T B (cl b (aW ms).toArray::H0) (K (D ms.length))):T B (cl b cs::H0) (aI P (Builtin.copy_ #[32,32] 3 #[.slice (some ⟨b,0,none⟩) ms.length ms.length,.slice q ms.length c]) K):=by
 have d:=dr eP ms;refine t' (o:=0) (s:=4) (elem:=57) rfl (by kernel_rfl) (by kernel_rfl) (by kernel_rfl) (ys:=aW ms) (Rd.rd) (by simpa[aW]using d) (λv a=>?_) (by simp;omega) ?_
 ·obtain⟨m,hm,a⟩:=lC.1 a
  simp only[fj,cR,jH,ji]at a;rcases a with rfl|rfl|rfl|rfl<;>rfl
 ·have e:eH cs 0 (aW ms)=(aW ms).toArray:=by obtain⟨cl⟩:=cs;rw[kz _ _ _ (by simp at hs;simp[aW,d,hs])];have:cl.drop (0+(aW ms).length)=[]:=oe (by simp at hs;simp[aW,d,hs]);rw[this];simp
  rw[e];simpa using t
def F8{i:Nat}{y:Mem}{a:Acc}(b:ms[i]?=some y):eH (aW ms).toArray (i*4+1) [D a.dG,D a.held,D a.cf]=(aW (ms.set i (y.1,a))).toArray:=by
 have hi:i<ms.length:=(b0.1 b).1;have c:=dr eP ms;rw[kz _ _ _ (by simp only[aW,c,dd,gH];omega)];congr 1;unfold aW;rw[<-yd eP hi]
 have h0:(ms.flatMap fj)[i*4]?=some (D y.1):=by have:=dW eP ms i y b 0 (by omega);simpa using this
 rw[dQ h0,er];rfl
def Kz{a m:Int}(e:∀x∈ms,bZ x.2=true)(hlen:ms.length<=1000)(h0:lN ms a m=false->T B (ai 4 q ms.length c (aW ms)::H) (K (.tuple #[.slice none 0 0,.bool false])))(U:lN ms a m=true->∀k,T B (ai 4 q ms.length c (aW ms)::ai 4 (some ⟨k,0,none⟩) ms.length ms.length (aW (after ms a m))::H) (K (.tuple #[.slice (some ⟨k,0,none⟩) ms.length ms.length,.bool true]))):T B (ai 4 q ms.length c (aW ms)::H) (ab P 513 #[.slice q ms.length c,D a,D m] K):=by
 apply an (LQ _ _ _ _ _);repeat' first|apply J.go|refine S2.go (λ_=>?_) λ_=>?_|done
 ·exact h0 (by unfold lN;rw[cD (by omega)];rfl)
 ·exact h0 (by unfold lN;rw[cD (by omega)];rfl)
 ·rename_i n o
  obtain⟨i,rfl⟩:∃i:Nat,a=i:=⟨a.toNat,by omega⟩;have hi:i<ms.length:=by omega
  have b:ms[i]?=some ms[i]:=ba hi;have d:ms.getD (i:Int).toNat (0,eJ)=ms[i]:=by rw[a7,List.getD,b];rfl
  have hr:=e _ (dz hi);refine ua i rfl hi b (zq (wA hr) ?_);repeat' first|apply J.go|refine Sa.go λ_=>?_|refine S2.go (λ_=>?_) λ_=>?_|refine Sc.go ⟨rfl,rfl⟩ ?_|done
  ·rename_i he
   refine af (h0 ?_);unfold lN;rw[d,cD he,Cz]
  ·rename_i k he
   have h:lN ms i m=true:=by unfold lN;rw[d,cB he,cB (by omega)];rfl
   have U:=U h;refine gC (by omega) (by omega) (by omega) (by rw[DZ];omega) (by kernel_rfl) (by kernel_rfl) λg=>?_;rw[Ek,Iw,a7,qo (f:=fj) (s:=4) (0,eJ) rfl (by omega)];apply Dl (by simp[dr eP]);repeat first|apply J.go|refine Sc.go (by first|omega|rfl) ?_
   rw[aQ,aQ,a7,bJ];have j:Ac.ct.val ms[i].2 m=Ac.ct.ez ms[i].2 m:=by unfold Ac.val;rw[ah he]
   rw[j];refine bL (q:=cl g (aW ms).toArray) (ny rfl (by simp[aW,dr eP];omega) (by simp[fP,Value.oneCell']) ?_);show T B (cl g (eH (aW ms).toArray (i*4+1) [D _,D _,D _])::_) _;rw[F8 b];have ha:after ms i m=ms.set i (ms[i].1,Ac.ct.ez ms[i].2 m):=by unfold after;rw[d,a7];rfl
   have U:=U g;rw[ha]at U;exact kf (l:=ms.length) 4 (by simp[aW,dr eP]) (af U)
def DE{a m:Int}(c:∀x∈ms,bZ x.2=true)(h:lN ms a m=true):(∀x∈after ms a m,bZ x.2=true)/\1<=m/\m<=1048576:=by
 unfold lN at h;simp only[b9,bz]at h;obtain⟨ha,he⟩:=h;unfold Ac.err at he;split at he
 ·rename_i U
  split at he
  ·rename_i b
   refine⟨λx d=>?_,U.2,b.1⟩;rcases j5 d with h|rfl
   ·exact c x h
   ·exact b.2
  ·cases he
 ·cases he
def qg(f w:Int)(ms:List Mem)(a m:Int):Bool:=qZ f w&&decide (m<=f)&&lN ms a m&&(qZ (f-m) w&&jA (f-m+w) (after ms a m))
def KA{w a m:Int}(e:∀x∈ms,bZ x.2=true)(hlen:ms.length<=1000)(I:T B (ai 4 q ms.length c (aW ms)::H) (K (.bool (qg f w ms a m)))):T B (ai 4 q ms.length c (aW ms)::H) (ab P 508 #[D f,D w,.slice q ms.length c,D a,D m] K):=by
 apply an (LR _ _ _ _ _ _ _);unfold qg at I;repeat' first|apply J.go|refine S2.go (λ_=>?_) λ_=>?_|done
 ·rename_i b
  rw[b]at I;exact I
 ·rename_i b hm
  rw[cD (by omega)]at I;simpa using I
 ·rename_i b hm
  refine Kz e hlen (λd=>?_) λd k=>?_
  ·rw[d]at I
   repeat apply J.go
   simpa using I
  ·obtain⟨g,U,h⟩:=DE e d
   have i:0<=f/\0<=w/\f<=1048576/\w<=1048576-f:=by unfold qZ at b;exact r8 b
   rw[b,d,cB (by omega)]at I;have hl:(after ms a m).length=ms.length:=by simp[after]
   repeat apply J.go
   rw[bd (by omega)];rw[<-hl];refine cq (cy _ _ _) (KB g (by omega) (J.go ?_));rw[hl];exact af I
end
end
section
abbrev lO(p0:aw)(c0:Nat)(p3:aw)(c3:Nat)(f w:Int)(ts:List Tk)(ms:List Mem):ax:=#[.slice p0 ts.length c0,.slice p3 ms.length c3,D f,D w]
def gQ(ms:List Mem)(t:Tk):Int:=cJ (λm:Mem=>m.1==t.aM) ms
section
variable {B:Heap}{H H0:au}{K:aK}{f w n:Int}{p0 p3:aw}{c0 c3 i:Nat}{ts:List Tk}{ms:List Mem}{t:Tk}
def BO(a:ts[i]?=some t)(hlen:ms.length<1000000)(I:T B (ai 5 p0 ts.length c0 (ts.flatMap aE)::ai 4 p3 ms.length c3 (aW ms)::H) (K (D (gQ ms t)))):T B (ai 5 p0 ts.length c0 (ts.flatMap aE)::ai 4 p3 ms.length c3 (aW ms)::H) (ab P 503 #[.agg (lO p0 c0 p3 c3 f w ts ms),D i] K):=by
 apply an (QM _ _);have hi:i<ts.length:=(b0.1 a).1;repeat first|apply J.go|refine Sa.go λ_=>?_
 refine tm (ms:=ms) (f:=λm=>m.1==t.aM) (by kernel_rfl) rfl hlen (λm hm b t2=>?_) ?_
 ·rename_i aa aj
  show T B _ (ab P 510 #[.agg (fj m).toArray,.pointer _,.pointer _] b);apply an (QN _ _ _);repeat first|apply J.go|refine Sa.go λ_=>?_
  refine aN (ai 5 p0 ts.length c0) (eA (x:=t.aM) i rfl hi ?_ ?_)
  ·rw[dW ep ts i t a 1 (by omega)];rfl
  ·exact af t2
 ·exact J.go (af I)
def Zb{q:aw}{l c:Nat}{ts:List Tk}{g:Nat}{ca:ax}{p:Tk->Bool}(o:gb P g=true)[hr:Rd B H q (ts.flatMap aE)](hl:l<=ts.length)(hlen:l<1000000)(hf:∀m∈ts,∀h:aK,T B H (h (.bool (p m)))->T B H (ab P g (Array.mk (Array.toList #[]++[Value.agg (aE m).toArray]++Array.toList ca)) h))(I:T B H (K (D (cJ p (ts.take l))))):T B H (ab P 511 #[.slice q l c,.func (.func g) #[] ca] K):=by
 refine an (D8 _ _ _ _ _) (cF l (by omega) (λk H'=>H'=H/\∀j x,j<k->(ts.take l)[j]?=some x->p x=false) ⟨rfl,by simp⟩ ?_);rintro k H' R s ⟨rfl,b⟩ r;refine S2.go (λ_=>?_) λ_=>?_
 ·have d:k<l:=by omega
  have i:ts[k]?=some ts[k]:=ba (by omega);have n:(ts.take l)[k]?=some ts[k]:=by rw[List.getElem?_take_of_lt d];exact i
  refine dO ep (by omega) k rfl d i (lI o (hf _ (dz (by omega)) _ ?_));repeat' first|apply J.go|refine S2.go (λ_=>?_) λ_=>?_|done
  ·rename_i f
   unfold cJ at I;rw[nD b n f]at I;exact I
  ·rename_i f
   refine r d _ ⟨rfl,λj x t a=>?_⟩;by_cases e:j=k
   ·subst e;rw[n]at a;cases a;exact f
   ·exact b j x (by omega) a
 ·unfold cJ at I
  rw[mI λj x a=>b j x (by have:=(b0.1 a).1;simp at this;omega) a]at I;exact I
def l9(f w:Int)(ts:List Tk)(ms:List Mem)(i:Nat)(t:Tk):Nat->Bool
 |0=>false
 |1=>decide (gQ ms t<0)
 |2=>decide (0<=cJ (λx:Tk=>x.aM==t.aM) (ts.take i))
 |3=>!qg f w ms (gQ ms t) t.count
 |_=>decide (0<i)&&((ms.getD (gQ ms t).toNat (0,eJ)).2.held==0)&&decide (8<=(ts.getD 0 dD).b1)
def Y0(a:ts[i]?=some t)(I:T B H (K (.bool false))):T B H (ab P 501 #[.agg (lO p0 c0 p3 c3 f w ts ms),D i] K):=by
 apply an (QP _ _);have hi:i<ts.length:=(b0.1 a).1;repeat' first|apply J.go|refine Sa.go λ_=>?_|refine S2.go (λ_=>?_) λ_=>?_|done
 ·omega
 ·rw[cD (by omega)];exact af I
def Y1(a:ts[i]?=some t)(hlen:ms.length<1000000)(I:T B (ai 5 p0 ts.length c0 (ts.flatMap aE)::ai 4 p3 ms.length c3 (aW ms)::H) (K (.bool (decide (gQ ms t<0))))):T B (ai 5 p0 ts.length c0 (ts.flatMap aE)::ai 4 p3 ms.length c3 (aW ms)::H) (ab P 502 #[.agg (lO p0 c0 p3 c3 f w ts ms),D i] K):=by
 apply an (QQ _ _);repeat first|refine Sa.go λ_=>?_|refine Sc.go rfl ?_
 rename_i k;refine af (H':=ai 5 p0 ts.length c0 (ts.flatMap aE)::ai 4 p3 ms.length c3 (aW ms)::cl k (lO p0 c0 p3 c3 f w ts ms)::H) (BO a hlen ?_);exact J.go (af I)
def Y2(a:ts[i]?=some t)(hlen:ts.length<1000000)(c:ts.length<=c0)(I:T B (ai 5 p0 ts.length c0 (ts.flatMap aE)::ai 4 p3 ms.length c3 (aW ms)::H) (K (.bool (decide (0<=cJ (λx:Tk=>x.aM==t.aM) (ts.take i)))))):T B (ai 5 p0 ts.length c0 (ts.flatMap aE)::ai 4 p3 ms.length c3 (aW ms)::H) (ab P 504 #[.agg (lO p0 c0 p3 c3 f w ts ms),D i] K):=by
 apply an (QR _ _);have hi:i<ts.length:=(b0.1 a).1;repeat first|apply J.go|refine Sa.go λ_=>?_|refine Sc.go (by omega) ?_
 rename_i aa aj;rw[lf,a7,iN];apply an (Q4 _ _ _ _ _);refine Zb (ts:=ts) (p:=λx=>x.aM==t.aM) (by kernel_rfl) (by omega) (by omega) (λm hm b t2=>?_) ?_
 ·show T B _ (ab P 505 #[.agg (aE m).toArray,.pointer _,.pointer _] b)
  apply an (QS _ _ _);repeat first|apply J.go|refine Sa.go λ_=>?_
  refine aN (ai 5 p0 ts.length c0) (eA (x:=t.aM) i rfl hi ?_ ?_)
  ·rw[dW ep ts i t a 1 (by omega)];rfl
  ·exact af t2
 ·repeat apply J.go
  exact af I
def Je{a:Addr}{ys:aB}{j:Nat}{v:Value}{p:HP}(h:bF B H (some a) ys)(hc:ys[j]?=some v)(t:T B H p):T B H (dA (λσ=>cA σ (a.add j)=some v) p):=by
 refine fF (λσ o=>?_) t;rcases h σ o with⟨h,_⟩|⟨a',h,b⟩
 ·cases h
 ·cases h
  exact(b j (b0.1 hc).1).trans hc
def Y3(b:ts[i]?=some t)(d:∀m∈ms,bZ m.2=true)(hlen:ms.length<=1000)(I:T B (ai 5 p0 ts.length c0 (ts.flatMap aE)::ai 4 p3 ms.length c3 (aW ms)::H) (K (.bool (!qg f w ms (gQ ms t) t.count)))):T B (ai 5 p0 ts.length c0 (ts.flatMap aE)::ai 4 p3 ms.length c3 (aW ms)::H) (ab P 507 #[.agg (lO p0 c0 p3 c3 f w ts ms),D i] K):=by
 apply an (QT _ _);have hi:i<ts.length:=(b0.1 b).1;have e:=dr ep ts;have c:(ts.flatMap aE)[i*5+2]?=some (D t.count):=by rw[dW ep ts i t b 2 (by omega)];rfl
 refine Sa.go λk=>J.go (J.go (J.go (Sc.go rfl (J.go ?_))));refine af (H':=ai 5 p0 ts.length c0 (ts.flatMap aE)::ai 4 p3 ms.length c3 (aW ms)::cl k (lO p0 c0 p3 c3 f w ts ms)::H) ?_;refine nw (q:=p0) (ys:=ts.flatMap aE) bF.iB (by omega) λa ha=>bj ⟨by omega,by omega⟩ ?_;subst ha;rw[a7,add_add];refine sf bF.iB c (BO b (by omega) (J.go (Je bF.iB c ?_)));iterate 4 (apply J.go)
 refine cq (cy _ _ _) (KA d hlen ?_);exact J.go (af I)
def Y4(d:ts[i]?=some t)(hm:¬gQ ms t<0)(I:T B (ai 5 p0 ts.length c0 (ts.flatMap aE)::ai 4 p3 ms.length c3 (aW ms)::H) (K (.bool (l9 f w ts ms i t 4))))(hlen:ms.length<=1000):T B (ai 5 p0 ts.length c0 (ts.flatMap aE)::ai 4 p3 ms.length c3 (aW ms)::H) (ab P 509 #[.agg (lO p0 c0 p3 c3 f w ts ms),D i] K):=by
 apply an (QU _ _);unfold l9 at I;have hi:i<ts.length:=(b0.1 d).1;have o:=dr ep ts;have h0:ts[0]?=some ts[0]:=ba (by omega);have g:(ts.flatMap aE)[0*5+4]?=some (D ts[0].b1):=by rw[dW ep ts 0 ts[0] h0 4 (by omega)];rfl
 have h:ts.getD 0 dD=ts[0]:=by rw[List.getD,h0];rfl
 obtain⟨j,y,l,b,hyp⟩:=ru hm;have e:gQ ms t=j:=l;have m:ms.getD (gQ ms t).toNat (0,eJ)=y:=by rw[e,a7,List.getD,b];rfl
 rw[m,h]at I
 replace I:T B (ai 5 p0 ts.length c0 (ts.flatMap aE)::ai 4 p3 ms.length c3 (aW ms)::H) (K (.bool (decide (0<i)&&(y.2.held==0)&&decide (8<=ts[0].b1)))):=I
 repeat' first|apply J.go|refine Sa.go λ_=>?_|refine S2.go (λ_=>?_) λ_=>?_|refine Sc.go rfl ?_|done
 ·rename_i k n
  refine af (H':=ai 5 p0 ts.length c0 (ts.flatMap aE)::ai 4 p3 ms.length c3 (aW ms)::cl k (lO p0 c0 p3 c3 f w ts ms)::H) ?_;apply BO d (by omega);rw[e];repeat apply J.go
  refine aN (ai 4 p3 ms.length c3) (eA (x:=y.2.held) j rfl (b0.1 b).1 ?_ ?_)
  ·unfold aW;rw[dW eP ms j y b 2 (by omega)];rfl
  repeat' first|apply J.go|refine S2.go (λ_=>?_) λ_=>?_|done
  ·rename_i c
   refine aN (ai 5 p0 ts.length c0) (nw (q:=p0) (ys:=ts.flatMap aE) bF.iB (by omega) λa ha=>bj ⟨by omega,by omega⟩ ?_);subst ha;rw[add_add];refine sf bF.iB g (af (eb I ?_));simp[c,show 0<i by omega]
  ·rename_i c
   refine af (eb I ?_);simp[c]
 ·rename_i k n
  refine af (eb I ?_);simp[show¬0<i by omega]
abbrev ye:ax:=#[D 1,.func (.func 501) #[] #[],D 2,.func (.func 502) #[] #[],D 3,.func (.func 504) #[] #[],D 4,.func (.func 507) #[] #[],D 5,.func (.func 509) #[] #[]]
instance acV:Sa B H (ab P 486 #[] K) (λk=>T B (cl k ye::H) (K (.slice (some ⟨k,0,none⟩) 5 5))):=⟨by
 intro I;apply an (QO);iterate 5 (refine bj rfl ?_)
 exact Sa.go λk=>I k⟩
def rT(f w:Int)(ts:List Tk)(ms:List Mem)(i:Nat)(t:Tk):Int:=if l9 f w ts ms i t 0 then 1 else if l9 f w ts ms i t 1 then 2 else if l9 f w ts ms i t 2 then 3 else if l9 f w ts ms i t 3 then 4 else if l9 f w ts ms i t 4 then 5 else 0
def yf(k:Nat):Nat:=match k with|0=>501|1=>502|2=>504|3=>507|_=>509
def Yp:∀k,k<5->gb P (yf k)=true:=by
 intro k I;obtain rfl|rfl|rfl|rfl|rfl:k=0\/k=1\/k=2\/k=3\/k=4:=by omega
 all_goals kernel_rfl
def YZ{k:Nat}(e:k<5)(a:ts[i]?=some t)(b:∀m∈ms,bZ m.2=true)(hlen:ms.length<=1000)(g:ts.length<=1000000-1)(c:ts.length<=c0)(d:∀j,j<k->l9 f w ts ms i t j=false)(I:T B (ai 5 p0 ts.length c0 (ts.flatMap aE)::ai 4 p3 ms.length c3 (aW ms)::H) (K (.bool (l9 f w ts ms i t k)))):T B (ai 5 p0 ts.length c0 (ts.flatMap aE)::ai 4 p3 ms.length c3 (aW ms)::H) (ab P (yf k) #[.agg (lO p0 c0 p3 c3 f w ts ms),D i] K):=by
 obtain rfl|rfl|rfl|rfl|rfl:k=0\/k=1\/k=2\/k=3\/k=4:=by omega
 ·exact Y0 a I
 ·exact Y1 a (by omega) I
 ·exact Y2 a (by omega) c I
 ·exact Y3 a b hlen I
 ·exact Y4 a (by have:=d 1 (by omega);simpa[l9]using this) I hlen
def YY(g:ts[i]?=some t)(h:∀m∈ms,bZ m.2=true)(hlen:ms.length<=1000)(l:ts.length<=1000000-1)(I:T B (ai 5 p0 ts.length c0 (ts.flatMap aE)::ai 4 p3 ms.length c3 (aW ms)::H) (K (D (rT f w ts ms i t)))):T B (ai 5 p0 ts.length c0 (ts.flatMap aE)::ai 4 p3 ms.length c3 (aW ms)::H) (ab P 450 #[.slice p0 ts.length c0,D i,D f,D w,.slice p3 ms.length c3] K):=by
 refine xJ λ_ n=>an (QL _ _ _ _ _ _ _ _ _) (Sa.go λaa=>Sc.go ⟨rfl,rfl⟩ (Sa.go λc=>J.go (af (cF 5 (by omega) (λk H'=>H'=ai 5 p0 ts.length c0 (ts.flatMap aE)::ai 4 p3 ms.length c3 (aW ms)::cl c ye::cl aa (lO p0 c0 p3 c3 f w ts ms)::H/\∀j,j<k->l9 f w ts ms i t j=false) ⟨rfl,λj d=>by omega⟩ ?_))));rintro k H' R r ⟨rfl,a⟩ o;refine S2.go (λhl=>?_) λs=>?_
 ·have b:k<5:=by omega
  have p:∀j,j<2->ye.toList[k*2+j]?=(#[D ((k:Int)+1),.func (.func (yf k)) #[] #[]]:ax)[j]?:=λj d=>by
   obtain rfl|rfl|rfl|rfl|rfl:k=0\/k=1\/k=2\/k=3\/k=4:=by omega
   all_goals (obtain rfl|rfl:j=0\/j=1:=by omega)
   all_goals rfl
  refine Dq k rfl b (by omega) rfl (by simp;omega) p ?_;repeat first|apply J.go|refine Sa.go λ_=>?_|refine Sc.go (by first|rfl|exact⟨rfl,rfl⟩) ?_
  apply nz (Yp k b);rename_i q;refine af (H':=ai 5 p0 ts.length c0 (ts.flatMap aE)::ai 4 p3 ms.length c3 (aW ms)::cl q #[D ((k:Int)+1),.func (.func (yf k)) #[] #[]]::cl c ye::cl aa (lO p0 c0 p3 c3 f w ts ms)::H) ?_;apply YZ b g h hlen l n a;repeat' first|apply J.go|refine S2.go (λ_=>?_) λ_=>?_|done
  ·rename_i hr
   have hw:rT f w ts ms i t=(k:Int)+1:=by
    unfold rT;obtain rfl|rfl|rfl|rfl|rfl:k=0\/k=1\/k=2\/k=3\/k=4:=by omega
    ·simp[hr]
    ·simp[hr,a 0]
    ·simp[hr,a 0,a 1]
    ·simp[hr,a 0,a 1,a 2]
    ·simp[hr,a 0,a 1,a 2,a 3]
   rw[hw]at I;exact af I
  ·rename_i hr
   refine af (o b _ ⟨rfl,λj d=>?_⟩);by_cases e:j=k
   ·subst e;exact hr
   ·exact a j (by omega)
 ·have hw:rT f w ts ms i t=0:=by unfold rT;simp[a 0 (by omega),a 1 (by omega),a 2 (by omega),a 3 (by omega),a 4 (by omega)]
  rw[hw]at I;exact af I
def goes(f w:Int)(ts:List Tk)(ms:List Mem)(i:Nat):Bool:=rT f w ts ms i (ts.getD i dD)==0
def h9(f w:Int)(ts:List Tk)(ms:List Mem):Int:=cJ (goes f w ts ms) (List.range ts.length)
def BN(n:∀m∈ms,bZ m.2=true)(hlen:ms.length<=1000)(o:ts.length<=1000000-1)(I:T B (ai 5 p0 ts.length c0 (ts.flatMap aE)::ai 4 p3 ms.length c3 (aW ms)::H) (K (D (h9 f w ts ms)))):T B (ai 5 p0 ts.length c0 (ts.flatMap aE)::ai 4 p3 ms.length c3 (aW ms)::H) (ab P 372 #[.slice p0 ts.length c0,D f,D w,.slice p3 ms.length c3] K):=by
 refine an (QK _ _ _ _ _ _ _ _) (cF ts.length (by omega) (λk H'=>H'=ai 5 p0 ts.length c0 (ts.flatMap aE)::ai 4 p3 ms.length c3 (aW ms)::H/\∀j,j<k->goes f w ts ms j=false) ⟨rfl,λj b=>by omega⟩ ?_);rintro k H' R q ⟨rfl,g⟩ p
 have h:∀(j:Nat) (x:Nat),j<k->(List.range ts.length)[j]?=some x->goes f w ts ms x=false:=λj x b a=>by rw[tJ (by omega)]at a;cases a;exact g j b
 refine S2.go (λhl=>?_) λr=>?_
 ·have c:k<ts.length:=by omega
  have i:ts[k]?=some ts[k]:=ba c;have l:ts.getD k dD=ts[k]:=by rw[List.getD,i];rfl
  refine an (QJ _ _ _ _ _ _ _ _ _) (YY i n hlen o ?_);repeat' first|apply J.go|refine S2.go (λ_=>?_) λ_=>?_|done
  all_goals (rename_i hw)
  ·have d:goes f w ts ms k=true:=by unfold goes;rw[l];simpa using hw
   have:h9 f w ts ms=k:=by unfold h9 cJ;rw[nD h (tJ c) d]
   rw[this]at I;exact I
  ·have d:goes f w ts ms k=false:=by unfold goes;rw[l];simpa using hw
   refine p c _ ⟨rfl,λj b=>?_⟩;by_cases e:j=k
   ·subst e;exact d
   ·exact g j (by omega)
 ·have:h9 f w ts ms=-1:=by unfold h9 cJ;rw[mI λj x a=>h j x (by have:=(b0.1 a).1;simp at this;omega) a]
  rw[this]at I;exact I
end
end
section
section
variable {B:Heap}{H H0:au}{K:aK}{p:aw}{l c i:Nat}{ts:List Tk}
def Dv{s b l c:Nat}{xs rest:aB}{q:HP}(a:xs.length=l*s)(d:l<=c)(e:(xs++rest).length=c*s)(t:T B (ai s (some ⟨b,0,none⟩) l c xs::H) q):T B (cl b (xs++rest).toArray::H) q:=by intro σ o;obtain⟨ch,⟨l1,l2,f,U,g⟩,h⟩:=o.own;exact t σ ⟨o.base,o.size,ch,⟨l1,l2,f,⟨a,d,.inr ⟨b,rest,rfl,e,U⟩⟩,g⟩,h⟩
def Ui{k:Nat}(I:k<=ts.length):(ts.flatMap aE).drop (k*5)=(ts.drop k).flatMap aE:=by
 have:ts.flatMap aE=(ts.take k).flatMap aE++(ts.drop k).flatMap aE:=by rw[<-og,j6]
 rw[this,yX (by rw[dr ep];simp;omega)]
def Uk{k:Nat}(I:k<=ts.length):(ts.flatMap aE).take (k*5)=(ts.take k).flatMap aE:=by
 have:ts.flatMap aE=(ts.take k).flatMap aE++(ts.drop k).flatMap aE:=by rw[<-og,j6]
 rw[this,qI (by rw[dr ep];simp;omega)]
def Y9(hi:i<ts.length)(hlen:ts.length<100000)(I:T B (ai 5 p (ts.length-1) c ((ts.eraseIdx i).flatMap aE)::H) (K (.slice p (ts.length-1) c))):T B (ai 5 p ts.length c (ts.flatMap aE)::H) (ab P 412 #[.slice p ts.length c,D i,D ((i:Int)+1)] K):=by
 refine an (Q7 _ _ _ _ _) (qT (λh0 U z A=>by omega) λb rest n C E q=>?_);subst n;refine bj (by omega) (bj (by omega) (bj (by omega) ?_));apply aD (by simp;omega);refine bj (by omega) (bj (by omega) ?_);rw[a7,show((i:Int)+1).toNat=i+1 by omega,lf,iN,iN];have a:((ts.drop (i+1)).flatMap aE).length=(ts.length-(i+1))*5:=by rw[dr ep];simp
 have r:bF B (cl b (ts.flatMap aE++rest).toArray::H) (dh (some ⟨b,0,none⟩) 5 (i+1) c) ((ts.drop (i+1)).flatMap aE):=by
  unfold dh;by_cases hc:c=i+1
  ·rw[ah hc]
   refine bF.nP λj f=>?_;rw[a]at f;omega
  ·rw[ak hc]
   simp only[ih,aQ];refine bF.nP λj f=>?_;rw[a]at f;rw[dY,bJ,hb (by omega),<-Ui (by omega),qG]
 have t:∀(us:List Tk),∀v∈us.flatMap aE,v.oneCell'=true:=λus v e=>by obtain⟨m,hm,e⟩:=lC.1 e;simp only[aE,cR,jH,ji]at e;rcases e with rfl|rfl|rfl|rfl|rfl<;>rfl
 have g:(ts.flatMap aE++rest).length=c*5:=q;apply zt (o:=0) (s:=5) (elem:=160) rfl rfl (by kernel_rfl) (by kernel_rfl) (by kernel_rfl) (by kernel_rfl) r a (t _) (by omega) (by simp only[iL,g];omega);rw[kz _ _ _ (by rw[g,a];omega),bJ,a];have u:(ts.flatMap aE++rest).take (i*5)=(ts.take i).flatMap aE:=by rw[CR (by omega),Uk (by omega)]
 have w:ts.eraseIdx i=ts.take i++ts.drop (i+1):=List.eraseIdx_eq_take_drop_succ ..;rw[u,<-er,<-og,<-w];have d:((ts.eraseIdx i).flatMap aE).length=(ts.length-1)*5:=by rw[dr ep,vT hi]
 generalize x:(ts.flatMap aE++rest).drop (i*5+(ts.length-(i+1))*5)=R1;have h:R1.length=c*5-(ts.length-1)*5:=by rw[<-x,lB,g];omega
 refine bj (by omega) (bj (by omega) ?_);rw[show i+(ts.length-(i+1))=ts.length-1 by omega];simp only[a7]
 have y:dh (some ⟨b,0,none⟩) 5 (ts.length-1) c=some ⟨b,(ts.length-1)*5,none⟩:=by unfold dh;rw[ak (by omega)];simp[aQ]
 rw[y,show ts.length-(ts.length-1)=1 by omega];have k:(Builtin.zeroCells (zc P 160) 1).toList=aE dD:=by kernel_rfl
 apply zg (s:=5) (elem:=160) rfl (by kernel_rfl) (by kernel_rfl) (by kernel_rfl) (by rw[k];simp[Value.oneCell']) (by simp only[iL,cr,d,h];omega);rw[k,kz _ _ _ (by simp only[cr,d,h,dd,gH];omega)];rw[qI d];refine Dv (s:=5) (l:=ts.length-1) (c:=c) d (by omega) (by simp only[cr,d,lB,h,dd,gH];omega) ?_;exact J.go I
def Jr{b:Nat}{cs:ax}{K:aK}{q:aw}[h:Rd B H0 q (ts.flatMap aE)](hs:cs.size=ts.length*5)(t:T B (cl b (ts.flatMap aE).toArray::H0) (K (D ts.length))):T B (cl b cs::H0) (aI P (Builtin.copy_ #[33,33] 3 #[.slice (some ⟨b,0,none⟩) ts.length ts.length,.slice q ts.length c]) K):=by
 have d:=dr ep ts;refine t' (o:=0) (s:=5) (elem:=160) rfl (by kernel_rfl) (by kernel_rfl) (by kernel_rfl) (ys:=ts.flatMap aE) (Rd.rd) (by simpa using d) (λv a=>?_) (by simp;omega) ?_
 ·obtain⟨m,hm,a⟩:=lC.1 a
  simp only[aE,cR,jH,ji]at a;rcases a with rfl|rfl|rfl|rfl|rfl<;>rfl
 ·have e:eH cs 0 (ts.flatMap aE)=(ts.flatMap aE).toArray:=by obtain⟨cl⟩:=cs;rw[kz _ _ _ (by simp at hs;simp[d,hs])];have:cl.drop (0+(ts.flatMap aE).length)=[]:=oe (by simp at hs;simp[d,hs]);rw[this];simp
  rw[e];simpa using t
instance acj{n:Nat}{f:Nat->HP}:Sx B H (c7 P 160 n n f) (n<=1000000) (λq=>T B (cl q ((List.replicate n dD).flatMap aE).toArray::H) (f q)):=⟨λh t=>by refine gC (by omega) (by omega) (by omega) (by rw[wL];omega) (by kernel_rfl) (by kernel_rfl) λq=>?_;rw[Ej,Cs,a7,show fa dD=(aE dD).toArray from rfl,qo (f:=aE) (s:=5) _ rfl (by omega)];exact t q⟩
instance aci{n:Nat}{f:Nat->HP}:Sx B H (c7 P 57 n n f) (n<=1000000) (λq=>T B (cl q ((List.replicate n ((0,eJ):Mem)).flatMap fj).toArray::H) (f q)):=⟨λh t=>by refine gC (by omega) (by omega) (by omega) (by rw[DZ];omega) (by kernel_rfl) (by kernel_rfl) λq=>?_;rw[Ek,Iw,a7,qo (f:=fj) (s:=4) _ rfl (by omega)];exact t q⟩
def Fg{p0 p1:aw}{c0 c1:Nat}{ms:List Mem}{f:Int}(U:ts.length<=1000000)(d:ms.length<=1000000)(I:∀a b,T B (ai 5 (some ⟨a,0,none⟩) ts.length ts.length (ts.flatMap aE)::ai 4 (some ⟨b,0,none⟩) ms.length ms.length (aW ms)::ai 5 p0 ts.length c0 (ts.flatMap aE)::ai 4 p1 ms.length c1 (aW ms)::H) (K (.agg #[.slice none 0 0,.slice (some ⟨a,0,none⟩) ts.length ts.length,.slice (some ⟨b,0,none⟩) ms.length ms.length,D f]))):T B (ai 5 p0 ts.length c0 (ts.flatMap aE)::ai 4 p1 ms.length c1 (aW ms)::H) (ab P 304 #[.slice p0 ts.length c0,.slice p1 ms.length c1,D f] K):=by
 refine an (Ng _ _ _ _ _ _ _) (Sa.go λaa=>J.go ?_)
 have fin:∀c kb k,T B (cl k #[.slice none 0 0,.slice (some ⟨c,0,none⟩) ts.length ts.length,.slice (some ⟨kb,0,none⟩) ms.length ms.length,D f]::cl c ((List.replicate ts.length dD).flatMap aE).toArray::cl kb ((List.replicate ms.length ((0,eJ):Mem)).flatMap fj).toArray::
   cl aa #[.slice none 0 0,.slice none 0 0,.slice none 0 0,D 0]::ai 5 p0 ts.length c0 (ts.flatMap aE)::ai 4 p1 ms.length c1 (aW ms)::H)
   (nJ (λg=>b5 g 1 λn o p=>aI P (Builtin.copy_ #[33,33] 3 #[Value.slice n o p,Value.slice p0 ts.length c0]) λv28=>di .i64 v28 λN=>b5 g 2 λr s t=>aI P (Builtin.copy_ #[32,32] 3 #[Value.slice r s t,Value.slice p1 ms.length c1]) λu=>di .i64 u λO=>jX g 0 4 λv=>gW (ag aa 0) v 4 (eY (ag aa 0) 4 λw=>K (Value.agg w)))
   [pz k]):=λc kb k=>by
  refine J.go (J.go ?_);refine bL (q:=cl c ((List.replicate ts.length dD).flatMap aE).toArray) (Jr (by simp[dr ep]) ?_);refine J.go (J.go ?_);refine bL (q:=cl kb ((List.replicate ms.length ((0,eJ):Mem)).flatMap fj).toArray) (Dl (by simp[dr eP]) ?_);apply J.go;unfold jX;rw[cT,aQ];refine bI rfl ?_;repeat refine Sc.go (by first|rfl|exact⟨rfl,rfl⟩) ?_
  refine kf (l:=ms.length) 4 (by simp[aW,dr eP]) ?_;refine bL (q:=cl c (ts.flatMap aE).toArray) (kf (l:=ts.length) 5 (by simp[dr ep]) ?_);exact af (I c kb)
 simp only[a7];refine fO ?_ (fO ?_ ?_)
 ·refine Sx.go U λh=>fO ?_ ?_
  ·exact Sx.go d λx=>Sa.go λy=>Sc.go ⟨rfl,rfl⟩ (af (fin h x y))
  ·refine Sa.go λi=>Sx.go d λz=>?_
   refine bL (q:=cl i #[.slice none 0 0,.slice none 0 0,.slice none 0 0,D 0]) (Sc.go ⟨rfl,rfl⟩ ?_);exact af (fin h z i)
 ·refine Sx.go d λj=>fO ?_ ?_
  ·exact Sx.go U λA=>Sa.go λC=>Sc.go ⟨rfl,rfl⟩ (af (fin A j C))
  ·refine Sa.go λm=>Sx.go U λE=>?_
   refine bL (q:=cl m #[.slice none 0 0,.slice none 0 0,.slice none 0 0,D 0]) (Sc.go ⟨rfl,rfl⟩ ?_);exact af (fin E j m)
 ·refine Sa.go λe=>fO ?_ ?_
  ·refine Sx.go U λF=>Sx.go d λG=>?_
   refine bL (q:=cl e #[.slice none 0 0,.slice none 0 0,.slice none 0 0,D 0]) (Sc.go ⟨rfl,rfl⟩ ?_);exact af (fin F G e)
  ·refine Sx.go d λL=>Sx.go U λM=>?_
   refine bL (q:=cl e #[.slice none 0 0,.slice none 0 0,.slice none 0 0,D 0]) (Sc.go ⟨rfl,rfl⟩ ?_);exact af (fin M L e)
end
end
section
structure b4 where
 gs:List Tk
 ls:List Tk
 ms:List Mem
 free:Int
structure qO where
 pg:aw
 cv:Nat
 pl:aw
 cl:Nat
 pm:aw
 cm:Nat
abbrev l8(b:Nat)(R:b4)(x:qO)(H:au):au:=
 cl b #[.slice x.pg R.gs.length x.cv,.slice x.pl R.ls.length x.cl,.slice x.pm R.ms.length x.cm,D R.free]::ai 5 x.pg R.gs.length x.cv (R.gs.flatMap aE)::ai 5 x.pl R.ls.length x.cl (R.ls.flatMap aE)::ai 4 x.pm R.ms.length x.cm (aW R.ms)::H
def gS(t:Tk):Tk:=if t.b1<1099511627776 then{t with b1:=t.b1+1}else t
def b4.at'(R:b4)(i:Nat):Tk:=R.ls.getD i dD
def b4.mP(R:b4)(i:Nat):Nat:=(gQ R.ms (R.at' i)).toNat
def b4.mem(R:b4)(i:Nat):Mem:=R.ms.getD (R.mP i) (0,eJ)
def b4.ct(R:b4)(i:Nat):b4:=
 ⟨R.gs++[{R.at' i with state:=2}],((R.ls.take i).map gS++R.ls.drop i).eraseIdx i,R.ms.set (R.mP i) ((R.mem i).1,Ac.ct.val (R.mem i).2 (R.at' i).count),R.free-(R.at' i).count⟩
section
variable {B:Heap}{H H0:au}{K:aK}{b i:Nat}{R:b4}
def YP{xs rest vs:aB}{o:Nat}(h:o+vs.length<=xs.length):eH (xs++rest).toArray o vs=((eH xs.toArray o vs).toList++rest).toArray:=by rw[kz _ _ _ (by rw[cr];omega),kz _ _ _ h];simp only[CR (show o<=xs.length by omega),IG h,er]
def JE{ms:List Mem}{q:aw}{l c:Nat}{n:Int}{a:Acc}{y:Mem}{k:HP}[h:Ow H (ai 4 q l c) (aW ms) H0](i:Nat)(g:n=(i:Int))(hl:i<l)(d:ms[i]?=some y)(t:T B (ai 4 q l c (aW (ms.set i (y.1,a)))::H0) k):T B H (Az q l n 4 1 #[D a.dG,D a.held,D a.cf] 3 k):=by
 subst g;refine bh h.pl (qT (λh0 U r s=>by omega) λb rest j m o e=>?_);subst j;have hi:i<ms.length:=(b0.1 d).1;have p:=dr eP ms;have hm:(aW ms).length=ms.length*4:=p;unfold Az;refine nq (bj ⟨by omega,by omega⟩ ?_);rw[a7,aQ,aQ,bJ];refine ny rfl (by simp only[iL,cr];omega) (by simp[Value.oneCell']) ?_;rw[YP (by simp;omega)];show T B (cl b ((eH (aW ms).toArray (i*4+1) [D a.dG,D a.held,D a.cf]).toList++rest).toArray::H0) k;rw[F8 d];have f:(aW (ms.set i (y.1,a))).length=(aW ms).length:=by unfold aW;rw[dr eP,dr eP,hg]
 refine Dv (by simp only[f];exact m) o (by simp only[cr,f]at e⊢;exact e) ?_;exact t
def Fh{x:qO}(hi:i<R.ls.length)(A:∀m∈R.ms,bZ m.2=true)(hm:¬gQ R.ms (R.at' i)<0)(hl:R.ls.length<10000)(S:R.gs.length<10000)(U:R.ms.length<=1000)(C:∀t∈R.ls,0<=t.b1)(hf:-1000000000<R.free-(R.at' i).count/\R.free-(R.at' i).count<1000000000)(I:∀p c,T B (l8 b (R.ct i) {x with pg:=p,cv:=c} H) (K (.agg (aE {R.at' i with state:=2}).toArray))):T B (l8 b R x H) (ab P 373 #[pz b,D i] K):=by
 apply an (Na _ _);have E:R.ls[i]?=some (R.at' i):=by unfold b4.at';rw[List.getD,ba hi];rfl
 refine Sa.go λaa=>J.go (aN (ai 5 x.pl R.ls.length x.cl) (xJ λ_ V=>?_));refine dO ep (by omega) i rfl hi E (Sa.go λr=>Sc.go ⟨rfl,rfl⟩ (J.go (bj (by omega) ?_)));rw[a7,iN];refine af (H':=ai 5 x.pl R.ls.length x.cl (R.ls.flatMap aE)::cl b #[.slice x.pg R.gs.length x.cv,.slice x.pl R.ls.length x.cl,.slice x.pm R.ms.length x.cm,D R.free]::ai 5 x.pg R.gs.length x.cv (R.gs.flatMap aE)::ai 4 x.pm R.ms.length x.cm (aW R.ms)::cl r (aE (R.at' i)).toArray::cl aa #[D 0,D 0,D 0,D 0,D 0]::H) ?_;refine cF i (by omega) (λk H'=>H'=ai 5 x.pl R.ls.length x.cl (((R.ls.take k).map gS++R.ls.drop k).flatMap aE)::cl b #[.slice x.pg R.gs.length x.cv,.slice x.pl R.ls.length x.cl,.slice x.pm R.ms.length x.cm,D R.free]::ai 5 x.pg R.gs.length x.cv (R.gs.flatMap aE)::ai 4 x.pm R.ms.length x.cm (aW R.ms)::cl r (aE (R.at' i)).toArray::cl aa #[D 0,D 0,D 0,D 0,D 0]::H) (by simp) ?_;rintro k H' W X rfl u;refine S2.go (λl=>?_) λY=>?_
 ·have l:k<i:=by omega
  have n:R.ls[k]?=some R.ls[k]:=ba (by omega)
  have g:((R.ls.take k).map gS++R.ls.drop k)[k]?=some R.ls[k]:=by rw[iI (by simp;omega)];simp only[fe,ff,qJ (show k<=R.ls.length by omega),lF,qG,mx];exact n
  have eW:((R.ls.take k).map gS++R.ls.drop k).set k (gS R.ls[k])=(R.ls.take (k+1)).map gS++R.ls.drop (k+1):=by rw[pD _ _ (by simp;omega)];simp only[fe,ff,qJ (show k<=R.ls.length by omega),lF];rw[tI (show k<R.ls.length by omega),jJ,dQ n,e6,er];rfl
  have Z:=C _ (cz n)
  have v:(((R.ls.take k).map gS++R.ls.drop k).flatMap aE)[k*5+4]?=some (D R.ls[k].b1):=by rw[dW ep _ k _ g 4 (by omega)];rfl
  have ac:(((R.ls.take k).map gS++R.ls.drop k).flatMap aE).length=R.ls.length*5:=by rw[dr ep];simp;omega
  refine J.go (eA k rfl (by omega) v (S2.go (λF=>?_) λG=>?_))
  ·refine J.go (eA k rfl (by omega) v ?_)
   unfold qa;apply JS rfl (by omega) (by omega) rfl;rw[bd (by omega)];have o:gS R.ls[k]={R.ls[k]with b1:=R.ls[k].b1+1}:=by unfold gS;rw[ah F]
   rw[BB (a':=gS R.ls[k]) ep g (by omega) (by rw[o];rfl),eW];exact u l _ rfl
  ·have o:gS R.ls[k]=R.ls[k]:=by unfold gS;rw[ak G]
   apply u l _;rw[<-eW,o];congr 3;apply jf;intro j;rw[kE];split
   ·rename_i e;subst e;rw[g,ah (b0.1 g).1]
   ·rfl
 ·obtain rfl:k=i:=by omega
  apply J.go;rw[bd (by omega)];have h:((R.ls.take k).map gS++R.ls.drop k).length=R.ls.length:=by simp;omega
  have ad:∀{q:HP},T B (ai 5 x.pl R.ls.length x.cl (((R.ls.take k).map gS++R.ls.drop k).flatMap aE)::H) q->True:=λ_=>trivial;generalize hL:(R.ls.take k).map gS++R.ls.drop k=L at h⊢;rw[<-h];apply Y9 (by omega) (by omega);rw[h];repeat apply J.go
  refine tm (ms:=R.ms) (f:=λm=>m.1==(R.at' k).aM) (by kernel_rfl) rfl (by omega) (λm hm M t2=>?_) ?_
  ·show T B _ (ab P 413 #[.agg (fj m).toArray,.pointer _] M)
   apply an (Nb _ _);repeat first|apply J.go|refine Sa.go λ_=>?_
   exact af t2
  ·obtain⟨j,y,N,d,hyp⟩:=ru hm
   have w:gQ R.ms (R.at' k)=j:=N;have z:R.mP k=j:=by unfold b4.mP;rw[w];simp
   have O:R.mem k=y:=by unfold b4.mem;rw[z,List.getD,d];rfl
   have hr:=A y (cz d);change T B _ (di .i64 (D (gQ R.ms (R.at' k))) _);rw[w];repeat apply J.go
   refine aN (ai 4 x.pm R.ms.length x.cm) (ua j rfl (b0.1 d).1 d ?_);refine J.go (zq (wA hr) ?_);repeat apply J.go
   refine JE (c:=x.cm) (a:=Ac.ct.val y.2 (R.at' k).count) j rfl (b0.1 d).1 d ?_;repeat first|apply J.go|refine Sa.go λ_=>?_|refine Sc.go rfl ?_
   rw[bd (by omega)];rename_i ae;refine jP (ds:=(aE {R.at' k with state:=2}).toArray) rfl ?_;refine aN (ai 5 x.pg R.gs.length x.cv) (e0 (s:=5) (c:=x.cv) rfl (by omega) λQ c'=>?_);repeat first|apply J.go|refine Sc.go (by first|rfl|exact⟨rfl,rfl⟩) ?_
   have I:=I Q c';simp only[l8,b4.ct,hL,O,z,cr,dd,gH,bJ,og,gz,CK,je,hg,vT (show k<L.length by omega),h]at I;exact af I
end
end
section
def b4.run(w:Int):Nat->b4->b4
 |0,R=>R
 |k+1,R=>if h9 R.free w R.ls R.ms<0 then R else b4.run w k (R.ct (h9 R.free w R.ls R.ms).toNat)
structure b4.Fit(R:b4)(n:Nat):Prop where
 right:∀m∈R.ms,bZ m.2=true
 u6:∀t∈R.ls,0<=t.b1
 free:0<=R.free/\R.free<=1048576
 ms:R.ms.length<=1000
 many:R.gs.length+R.ls.length<=n
 n2:n<10000
def xa{f w:Int}{ts:List Tk}{ms:List Mem}{i:Nat}(h:goes f w ts ms i=true):¬gQ ms (ts.getD i dD)<0/\qg f w ms (gQ ms (ts.getD i dD)) (ts.getD i dD).count=true:=by
 unfold goes rT at h;simp only[l9]at h;split at h
 ·cases h
 ·split at h
  ·cases h
  ·split at h
   ·cases h
   ·split at h
    ·cases h
    ·rename_i U a c b
     exact⟨by simpa using a,by simpa using b⟩
def sX{R:b4}{w:Int}(h:¬h9 R.free w R.ls R.ms<0):∃i:Nat,h9 R.free w R.ls R.ms=i/\i<R.ls.length/\goes R.free w R.ls R.ms i=true:=by
 obtain⟨j,a,U,b,d⟩:=ru h;have c:j<R.ls.length:=by have:=(b0.1 b).1;simpa using this
 rw[tJ c]at b;cases b;exact⟨j,U,c,d⟩
def F7{R:b4}{i:Nat}(h:¬gQ R.ms (R.at' i)<0):gQ R.ms (R.at' i)=(R.mP i:Int)/\R.mP i<R.ms.length:=by
 obtain⟨j,y,U,a,b⟩:=ru h;have U:gQ R.ms (R.at' i)=j:=U;have:R.mP i=j:=by unfold b4.mP;rw[U];simp
 rw[this,U];exact⟨rfl,(b0.1 a).1⟩
def b4.Fit.ct{R:b4}{n i:Nat}{w:Int}(h:R.Fit n)(hi:i<R.ls.length)(d:goes R.free w R.ls R.ms i=true):(R.ct i).Fit n:=by
 obtain⟨U,b⟩:=xa d;have U:¬gQ R.ms (R.at' i)<0:=U;have b:qg R.free w R.ms (gQ R.ms (R.at' i)) (R.at' i).count=true:=b;obtain⟨m1,m2⟩:=F7 U;unfold qg at b;simp only[b9,bz]at b;obtain⟨⟨⟨j,dJ⟩,c⟩,h5⟩:=b;obtain⟨e,a2,a3⟩:=DE h.right c;have hf:=h.free;refine⟨λm hm=>?_,λt a=>?_,⟨by simp only[b4.ct];omega,by simp only[b4.ct];omega⟩,by simpa[b4.ct]using h.ms,?_,h.n2⟩
 ·rcases j5 hm with hm|rfl
  ·exact h.right m hm
  ·apply e _
   unfold after Ai;rw[m1,a7]
   have f:Ac.ct.val (R.mem i).2 (R.at' i).count=Ac.ct.ez (R.mem i).2 (R.at' i).count:=by unfold lN at c;simp only[b9,bz]at c;have he:=c.2;rw[m1,a7]at he;unfold Ac.val;exact ah he
   rw[f];exact y2.2 ⟨R.mP i,by rw[tK m2];rfl⟩
 ·have a:=IN a
  rcases dL.1 a with a|a
  ·obtain⟨y,g,rfl⟩:=bQ.1 a
   have:=h.u6 y (kH g);unfold gS;split
   ·show 0<=y.b1+1;omega
   ·exact this
  ·exact h.u6 t (tM a)
 ·have:=h.many
  simp only[b4.ct,cr,dd,gH];rw[vT (by simp;omega)];simp;omega
section
variable {B:Heap}{H H0:au}{K:aK}{b:Nat}{R:b4}{w:Int}
def UD{E:HP}{ro:Loop}{rr lp e f n:Nat}{x:qO}(s:R.Fit n)(t:mB P ro (x6 λh A u=>iY h (fx h none (u (Value.bool true)))))(fin:∀a,T B (l8 b (b4.run w R.ls.length R) a (lo lp ro .ready none::ob rr (.deferred (some []))::H0)) E):T B (l8 b R x (lo lp ro .ready none::ob rr (.deferred (some []))::cl e #[pz b]::cl f #[D w]::H0)) (ab P 371 #[.func (.yield lp) #[] #[],pz e,pz f] λ_=>E):=by
 refine an (D4 _ _ _) (uc (λm H'=>∃R' a,R'.Fit n/\m=R'.ls.length/\b4.run w m R'=b4.run w R.ls.length R/\H'=l8 b R' a (lo lp ro .ready none::ob rr (.deferred (some []))::cl e #[pz b]::cl f #[D w]::H0)) R.ls.length ⟨R,x,s,rfl,rfl,rfl⟩ ?_);rintro m H' C ⟨R',a,d,rfl,g,rfl⟩ v;repeat apply J.go
 refine af (H':=ai 5 a.pl R'.ls.length a.cl (R'.ls.flatMap aE)::ai 4 a.pm R'.ms.length a.cm (aW R'.ms)::cl b #[.slice a.pg R'.gs.length a.cv,.slice a.pl R'.ls.length a.cl,.slice a.pm R'.ms.length a.cm,D R'.free]::ai 5 a.pg R'.gs.length a.cv (R'.gs.flatMap aE)::lo lp ro .ready none::ob rr (.deferred (some []))::cl e #[pz b]::cl f #[D w]::H0) ?_;have F:=d.many;have G:=d.n2;refine BN d.right d.ms (by omega) (J.go (S2.go (λy=>?_) λj=>?_))
 ·have:b4.run w R'.ls.length R'=R':=by
   cases H:R'.ls.length with
   |zero=>rfl
   |succ k=>rw[b4.run,ah y]
  rw[this]at g;rw[<-g]at fin;exact af (fin a)
 ·obtain⟨i,hi,l,o⟩:=sX j
  rw[hi];obtain⟨g1,g2⟩:=xa o;obtain⟨k,I⟩:∃k,R'.ls.length=k+1:=⟨R'.ls.length-1,by omega⟩;have r:=d.ct l o;have z:=r.free;simp only[b4.ct]at z;apply J.go;refine af (H':=l8 b R' a (lo lp ro .ready none::ob rr (.deferred (some []))::cl e #[pz b]::cl f #[D w]::H0)) ?_;refine Fh l d.right g1 (by omega) (by omega) d.ms d.u6 (by omega) λp c=>?_;apply J.go;refine bL (q:=lo lp ro .ready none) (oI t ?_);refine J.go (oz (oA ?_));repeat apply J.go
  have hlen:(R'.ct i).ls.length=k:=by simp only[b4.ct];rw[vT (by simp;omega)];simp;omega
  refine af (v k (l8 b (R'.ct i) {a with pg:=p,cv:=c} (lo lp ro .ready none::ob rr (.deferred (some []))::cl e #[pz b]::cl f #[D w]::H0)) (by omega) ⟨R'.ct i,_,r,hlen.symm,?_,rfl⟩);rw[<-g,I,b4.run,ak j,hi,a7]
instance abN:Sa B H (ab P 305 #[pz b,D w] K) (λx:Nat×Nat=>T B (cl x.2 #[D w]::cl x.1 #[pz b]::H) (K (.func (.func 371) #[] #[pz x.1,pz x.2]))):=⟨by intro I;apply an (Nc _ _);refine Sa.go λa=>?_;refine Sa.go λc=>?_;exact I (a,c)⟩
def roundOf(ts:List Tk)(f w:Int)(ms:List Mem):b4:=b4.run w ts.length ⟨[],ts,ms,f⟩
def uE{ts:List Tk}{ms:List Mem}{f:Int}{p0 p1:aw}{c0 c1 n:Nat}(b:b4.Fit ⟨[],ts,ms,f⟩ n)(I:∀x:qO,T B (ai 5 x.pg (roundOf ts f w ms).gs.length x.cv ((roundOf ts f w ms).gs.flatMap aE)::ai 5 x.pl (roundOf ts f w ms).ls.length x.cl ((roundOf ts f w ms).ls.flatMap aE)::ai 4 x.pm (roundOf ts f w ms).ms.length x.cm (aW (roundOf ts f w ms).ms)::ai 5 p0 ts.length c0 (ts.flatMap aE)::ai 4 p1 ms.length c1 (aW ms)::H) (K (.agg #[.slice x.pg (roundOf ts f w ms).gs.length x.cv,.slice x.pl (roundOf ts f w ms).ls.length x.cl,.slice x.pm (roundOf ts f w ms).ms.length x.cm,D (roundOf ts f w ms).free]))):T B (ai 5 p0 ts.length c0 (ts.flatMap aE)::ai 4 p1 ms.length c1 (aW ms)::H) (ab P 203 #[.slice p0 ts.length c0,D f,D w,.slice p1 ms.length c1] K):=by
 have U:=b.many;have j:=b.n2;have h:=b.ms;simp only[gH]at U h;apply an (Nd _ _ _ _ _ _ _ _);refine Sa.go λaa=>?_;refine af (H':=ai 5 p0 ts.length c0 (ts.flatMap aE)::ai 4 p1 ms.length c1 (aW ms)::cl aa #[.slice none 0 0,.slice none 0 0,.slice none 0 0,D 0]::H) ?_;refine Fg (by omega) (by omega) λa c=>?_;apply J.go;refine Sa.go λd=>?_;refine Sc.go ⟨rfl,rfl⟩ ?_;refine Sa.go λy=>?_;obtain⟨e,g⟩:=y;refine pK (by kernel_rfl) λro rr lp i=>dR 5 (af (H':=cl d #[.slice none 0 0,.slice (some ⟨a,0,none⟩) ts.length ts.length,.slice (some ⟨c,0,none⟩) ms.length ms.length,D f]::ai 5 none 0 0 []::ai 5 (some ⟨a,0,none⟩) ts.length ts.length (ts.flatMap aE)::ai 4 (some ⟨c,0,none⟩) ms.length ms.length (aW ms)::(lo lp ro .ready none::ob rr (.deferred (some []))::cl e #[pz d]::cl g #[D w]::ai 5 p0 ts.length c0 (ts.flatMap aE)::ai 4 p1 ms.length c1 (aW ms)::cl aa #[.slice none 0 0,.slice none 0 0,.slice none 0 0,D 0]::H)) ?_);change T B (l8 d ⟨[],ts,ms,f⟩ ⟨none,0,some ⟨a,0,none⟩,ts.length,some ⟨c,0,none⟩,ms.length⟩ (lo lp ro .ready none::ob rr (.deferred (some []))::cl e #[pz d]::cl g #[D w]::ai 5 p0 ts.length c0 (ts.flatMap aE)::ai 4 p1 ms.length c1 (aW ms)::cl aa #[.slice none 0 0,.slice none 0 0,.slice none 0 0,D 0]::H)) _;refine UD (w:=w) b i λx=>?_;refine bL (q:=lo lp ro .ready none) (qQ (by simp) ?_);repeat refine Sc.go (by first|rfl|exact⟨rfl,rfl⟩) ?_
 refine bL (q:=ob rr (.deferred (some []))) (oG ?_);refine Sc.go rfl ?_;have I:=I x;unfold roundOf at I;exact af I
end
end
section
section
variable {B:Heap}{H H0:au}{K:aK}{q:aw}{l c:Nat}{xs:aO}{n:Int}
instance ac6[hr:Rd B H q (iv .i64 xs)]:Sc B H (ab P 290 #[.slice q l c,D n] K) (l=xs.length/\l<1000000) (T B H (K (D (cJ (λx=>n==x) xs)))):=⟨by
 rintro⟨rfl,hlen⟩ I;refine an (Re _ _ _ _) (cF xs.length (by omega) (λk H'=>H'=H/\∀j x,j<k->xs[j]?=some x->(n==x)=false) ⟨rfl,by simp⟩ ?_);rintro k H' R i ⟨rfl,b⟩ h;refine S2.go (λ_=>?_) λ_=>?_
 ·have d:k<xs.length:=by omega
  have f:xs[k]?=some xs[k]:=ba d;refine e1 k rfl d f (S2.go (λ_=>?_) λ_=>?_)
  ·rename_i g
   unfold cJ at I;rw[nD b f (by simpa using g)]at I;exact I
  ·rename_i g
   refine h d _ ⟨rfl,λj x m a=>?_⟩;by_cases e:j=k
   ·subst e;rw[f]at a;cases a;simpa using g
   ·exact b j x (by omega) a
 ·unfold cJ at I
  rw[mI λj x a=>b j x (by have:=(b0.1 a).1;omega) a]at I;exact I⟩
def US:decide (cJ (λx=>n==x) xs>=0)=xs.contains n:=by
 unfold cJ
 cases h:xs.findIdx? (λx=>n==x)with
 |none=>
  rw[vO]at h
  have:xs.contains n=false:=by rw[IE,List.any_eq_false];intro x b a;have:=h x b;rw[this]at a;cases a
  rw[this];rfl
 |some i=>
  obtain⟨hi,c,_⟩:=yY.1 h
  have:xs.contains n=true:=by rw[IE,List.any_eq_true];exact⟨_,dz hi,c⟩
  rw[this];simp
instance ac5[hr:Rd B H q (iv .i64 xs)]:Sc B H (ab P 193 #[.slice q l c,D n] K) (l=xs.length/\l<1000000) (T B H (K (.bool (xs.contains n)))):=⟨by intro h I;refine an (Q6 _ _ _ _) (Sc.go h ?_);rw[<-US]at I;apply J.go;exact I⟩
end
section
variable {B:Heap}{H:au}{K:aK}{k:Nat}{p0 p1:aw}{c0 c1:Nat}{gs ls:List Tk}
def dV{B:Heap}{H:au}{α:Type}{b:aB->HP}{F:(aB->HP)->HP}(G:α->au)(v:α->aB)(U:∀c,(∀a,T B (G a) (c (v a)))->T B H (F c))(d:∀a,T B (G a) (b (v a))):T B H (bq b F):=U b d
def Ea{P:Program}{B:Heap}{H:au}{t e rt:TypeId}{p:aw}{l c:Nat}{K:aK}(hu:P.underlying t=some (.slice e))(a:T B H (K (D c))):T B H (aI P (Builtin.cap_ #[t] rt #[.slice p l c]) K):=by intro σ o;unfold Builtin.cap_;simp only[dY,jF,mu];refine aY (gV hu ?_);exact cu (a σ o)
def B':P.underlying 33=some (.slice 160):=by kernel_rfl
def abk{n:Nat}:(Builtin.zeroCells (zc P 160) n).toList=(List.replicate n dD).flatMap aE:=by rw[Cs];have:Builtin.zeroCells (fa dD) n=gx (aE dD).toArray (n*5):=rfl;rw[this,qo (f:=aE) (s:=5) dD rfl (by omega)]
def Y'{n:Nat}(d:n<1000000)(I:∀p c,T B (ai 5 p 0 c []::H) (K (.slice p 0 c))):T B H (ab P 306 #[.slice none 0 0,D n] K):=by
 refine an (Q8 _ _ _ _) (J.go (aD (by simp) (J.go (Ea B' (J.go ?_)))))
 have e:IntKind.wrap .i64 ((n:Int)-IntKind.wrap .i64 (((0:Nat):Int)-((0:Nat):Int)))=(n:Int):=by rw[show IntKind.wrap .i64 (((0:Nat):Int)-((0:Nat):Int))=0 by decide,bd (by omega)];simp
 rw[e];by_cases h0:n=0
 ·subst h0
  exact aD (by simp) (dR 5 (I _ _))
 ·apply bk (by simp;omega)
  refine Ea B' (J.go ?_);apply bj (by omega);rw[lf];refine dR 5 ?_;refine Kn rfl rfl B' pq (by kernel_rfl) (by kernel_rfl) (by kernel_rfl) (by rw[wL];omega) (by rw[wL];omega) (by kernel_rfl) abk ?_ rfl (by omega) ?_
  ·intro v a
   obtain⟨m,hm,a⟩:=lC.1 a;simp only[aE,cR,jH,ji]at a;rcases a with rfl|rfl|rfl|rfl|rfl<;>rfl
  ·intro b c'
   refine J.go (bj (by omega) ?_);rw[lf];refine rB (m:=0) (by omega) ?_;simp only[tR,r5];exact I b c'
instance acw{ts:List Tk}:ka (ts.flatMap aE).toArray:=⟨by intro v a;obtain⟨m,hm,a⟩:=lC.1 a;simp only[aE,cR,jH,ji]at a;rcases a with rfl|rfl|rfl|rfl|rfl<;>rfl⟩
abbrev q5(k:Nat)(p0 p1:aw)(c0 c1:Nat)(gs ls:List Tk)(H:au):au:=cl k #[.slice p0 gs.length c0,.slice p1 ls.length c1]::ai 5 p0 gs.length c0 (gs.flatMap aE)::ai 5 p1 ls.length c1 (ls.flatMap aE)::H
def Y8(h0:gs.length<100000)(U:ls.length<100000)(I:∀p c,T B (ai 5 p (gs.length+ls.length) c ((gs++ls).flatMap aE)::q5 k p0 p1 c0 c1 gs ls H) (K (.slice p (gs.length+ls.length) c))):T B (q5 k p0 p1 c0 c1 gs ls H) (ab P 205 #[.slice (some ⟨k,0,none⟩) 2 2] K):=by
 refine an (Q2 _ _ _) (mC (λm x y H'=>H'=q5 k p0 p1 c0 c1 gs ls H/\((m=2/\x=0/\y=0)\/(m=1/\x=gs.length/\y=1)\/(m=0/\x=gs.length+ls.length/\y=2))) 2 ⟨rfl,.inl ⟨rfl,rfl,rfl⟩⟩ ?_);rintro m x y H' R ⟨rfl,h⟩ d;have e:∀{a b:Nat},a<100000->b<100000->IntKind.wrap .i64 ((a:Int)+(b:Int))=(a:Int)+(b:Int):=λU i=>bd (by omega);rcases h with⟨rfl,rfl,rfl⟩|⟨rfl,rfl,rfl⟩|⟨rfl,rfl,rfl⟩
 ·apply bk (by simp)
  unfold sN;refine nq (bj (by omega) ?_);refine bW rfl (S2.go (λ_=>?_) λ_=>?_)
  ·rename_i f
   have:=e (a:=0) (b:=gs.length) (by omega) h0;simp only[Int.natCast_zero]at this;omega
  ·have:=e (a:=0) (b:=gs.length) (by omega) h0
   simp only[Int.natCast_zero,Int.zero_add]at this;rw[Int.zero_add,this];exact d 1 _ _ _ (by omega) ⟨rfl,.inr (.inl ⟨rfl,rfl,rfl⟩)⟩
 ·apply bk (by simp)
  unfold sN;refine nq (bj (by omega) ?_);refine bW rfl (S2.go (λ_=>?_) λ_=>?_)
  ·rename_i f
   have:=e h0 U;omega
  ·rw[e h0 U]
   exact d 0 _ _ _ (by omega) ⟨rfl,.inr (.inr ⟨rfl,rfl,rfl⟩)⟩
 ·apply aD (by simp)
  rw[show(gs.length:Int)+(ls.length:Int)=((gs.length+ls.length:Nat):Int) by omega];unfold bX;refine Y' (by omega) λp c=>J.go (ud (λm p l c y H'=>(m=2/\l=0/\y=0/\H'=ai 5 p 0 c []::q5 k p0 p1 c0 c1 gs ls H)\/(m=1/\l=gs.length/\y=1/\H'=ai 5 p gs.length c (gs.flatMap aE)::q5 k p0 p1 c0 c1 gs ls H)\/(m=0/\l=gs.length+ls.length/\y=2/\H'=ai 5 p (gs.length+ls.length) c ((gs++ls).flatMap aE)::q5 k p0 p1 c0 c1 gs ls H)) 2 (.inl ⟨rfl,rfl,rfl,rfl⟩) ?_);rintro m p l c y H' R h d;rcases h with⟨rfl,rfl,rfl,rfl⟩|⟨rfl,rfl,rfl,rfl⟩|⟨rfl,rfl,rfl,rfl⟩
  ·apply bk (by simp)
   unfold sN;refine nq (bj (by omega) ?_);refine bW rfl (oy (by omega) (dr ep gs) λg c'=>?_);rw[bJ,kI];exact d 1 _ _ _ _ _ (by omega) (.inr (.inl ⟨rfl,rfl,rfl,rfl⟩))
  ·apply bk (by simp)
   unfold sN;refine nq (bj (by omega) ?_);refine bW rfl (oy (by omega) (dr ep ls) λg c'=>?_);rw[<-og];exact d 0 _ _ _ _ _ (by omega) (.inr (.inr ⟨rfl,rfl,rfl,rfl⟩))
  ·exact aD (by simp) (I _ _)
instance ach{n:Nat}{f:Nat->HP}:Sx B H (c7 P 3 n n f) (n<=1000000) (λq=>T B (cl q (iv .i64 (List.replicate n 0)).toArray::H) (f q)):=⟨λh t=>by
 refine gC (by omega) (by omega) (by omega) (by rw[kO];omega) (by kernel_rfl) (by kernel_rfl) λq=>?_;rw[lR,mj,a7,iM,k7];have:(List.replicate n (D 0))=iv .i64 (List.replicate n 0):=by simp[iv]
 rw[this];exact t q⟩
end
end
section
def DG{B:Heap}{H:au}{e:Array TypeId}{t0 t1 elem:TypeId}{s:Nat}{p:aw}{l c:Nat}{xs:aB}{q:aw}{m d:Nat}{ys:aB}{f:aw->Nat->Nat->HP}(h0:e[0]?=some t0)(U:e[1]?=some t1)(hu:P.underlying t0=some (.slice elem))(g:nf P t1=true)(hi:(P.info? elem).isSome=true)(hz:hI P elem=true)(hs:P.cellsOf elem=s)(i:(2*(l+m)+1024)*P.bytesOf elem<=281474976710656)(L:1<=P.bytesOf elem)(j:(zc P elem).size=s)(k:bF B H p xs)(r:xs.length=l*s)(u:bF B H q ys)(x:ys.length=m*s)(M:∀v∈ys,v.oneCell'=true)(y:¬l+m<=c)(t:∀b rest cap,l+m<=cap->(xs++ys++rest).length=cap*s->T B (cl b (xs++ys++rest).toArray::H) (f (some ⟨b,0,none⟩) (l+m) cap)):T B H (cI P e p l c q m d f):=by
 obtain⟨info,a⟩:=hY.1 hi;have A:P.bytesOf elem=info.bytes:=by simp[Program.bytesOf,a]
 obtain⟨N,g⟩:=rP g;intro σ o;have C:=u σ o;have D:=k σ o;unfold cI;unfold Builtin.append_;simp only[h0,U,dY,jF,mu];refine aY (gV hu ?_);refine aY (o8 hi ?_);refine aY (gV g ?_);refine aY (cu ?_);simp only[fM,ej];refine aY (cu ?_);simp only[y,ej];have E:=A1 (n:=l+m) (c:=c) (by omega);refine aY (nY a ?_)
 have F:¬(((l+m:Nat):Int)>IntKind.i64.max/\(False\/info.bytes=0)):=by
  rintro⟨_,h|h⟩
  ·exact h
  ·omega
 rw[ak (by simpa using F)];refine aY (nY a ?_)
 have G:¬(Builtin.nextslicecap (l+m) c*info.bytes>2^48):=by rw[A]at i;have:=jM info.bytes E;omega
 rw[ak G];refine aY (BI λcap I=>?_);refine aY (nY a ?_);refine aY (dK () (λw _=>run_askRoom P w _) ?_);refine aY (qt D (by rw[hs];exact r) ?_);refine aY (qt C (by rw[hs];exact x) ?_);refine aY (qv hz λz J=>?_);unfold newRow;refine aY (aY (vp (cu (cu ?_))));simp only[sk]
 have K:(Builtin.zeroCells z.cells (cap-(l+m))).size=(cap-(l+m))*s:=by simp[Builtin.zeroCells,J,j]
 have hmul:(l+m)*s+(cap-(l+m))*s=cap*s:=by rw[<-gk];congr 1;omega
 have O:(l+m)*s=l*s+m*s:=gk _ _ _;refine t σ.size (Builtin.zeroCells z.cells (cap-(l+m))).toList cap I (by simp only[cr,kD,K];omega) _ (o.push ?_);refine⟨elem,(0,0),?_,by simp⟩;congr 3;apply g';simp
def b2{α:Type}(f:Int->α)(p:Int)(v:α):Int->α:=λk=>if k=p then v else f k
structure Pz where
 p:Option (Nat×Nat)
 c:Nat
 gK:aO
 xs:aO
abbrev ed:Pz:=⟨none,0,[],[]⟩
abbrev Pz.ptr(z:Pz):aw:=z.p.map λx=>⟨x.1,x.2,none⟩
abbrev fV(z:Pz):Value:= .slice z.ptr z.xs.length z.c
def hR(z:Pz):bg:=match z.p with
 |none=>fk (z.c=0/\z.xs=[]) (λ_=>True)
 |some (b,o)=>eK λrest:aB=>fk (z.xs.length+rest.length=z.c/\(z.c≠0->o=z.gK.length)) (cl b (iv .i64 z.gK++(iv .i64 z.xs++rest)).toArray)
instance :h2 P 137 Pz fV ed:=⟨31,by kernel_rfl,pq,by kernel_rfl⟩
def dS(m:ML Pz):bg:=eG (m.map λe=>hR e.2)
section
variable {B:Heap}{H H0:au}{q:HP}{m:ML Pz}{z:Pz}{k:Int}
def Xp(t:T B (hR ed::H) q):T B H q:=by intro σ o;obtain⟨l,U,a⟩:=o.own;exact t σ ⟨o.base,o.size,l,⟨[],l,.refl _,⟨⟨rfl,rfl⟩,trivial⟩,U⟩,a⟩
def sU{α β:Type}{f:α->β}{m:ML α}{a:α}(hs:bS m)(h:aS m k=some a):(m.map λe=>f e.2).Perm (f a::(bO k m).map λe=>f e.2):=by
 induction m with
 |nil=>simp[aS]at h
 |cons e m d=>
  have g:bS m:=IB ((List.sublist_cons_self e m).map _) hs;by_cases I:e.1=k
  ·have i:∀x∈m,x.1≠k:=by intro x b he;have U:=l7 hs;simp only[bb,c4,fp]at U;exact U.1 (bQ.2 ⟨x,b,by rw[he,I]⟩)
   have c:bO k (e::m)=m:=by unfold bO;rw[mq (by simp[I])];exact qF.2 λx b=>by simpa using i x b
   rw[c]
   have:e.2=a:=by unfold aS at h;simpa[I]using h
   rw[c4,this]
  ·have c:bO k (e::m)=e::bO k m:=by unfold bO;rw[mr (by simp[I])]
   have j:aS m k=some a:=by unfold aS at h;rw[ak I]at h;exact h
   rw[c,c4,c4];exact((d g j).cons _).trans (cy _ _ _)
def xW(hs:bS m)(t:T B (hR ((aS m k).getD ed)::dS (bO k m)::H) q):T B (dS m::H) q:=by
 cases h:aS m k with
 |none=>rw[h]at t;rw[uT h]at t;exact Xp t
 |some a=>rw[h]at t;exact wx (sU hs h) t
def AP{α:Type}{m:ML α}{a:α}(hs:bS m):aS (bE k a m) k=some a:=by rw[gR hs,ah rfl]
def F6{α:Type}{m:ML α}{a:α}(hs:bS m):bO k (bE k a m)=bO k m:=by refine AT (ma (fA hs)) (ma hs) λj=>?_;rw[mR,mR,gR hs];split<;>rfl
def Bm(hs:bS m)(t:T B (dS (bE k z m)::H) q):T B (hR z::dS (bO k m)::H) q:=by have:=sU (k:=k) (f:=hR) (fA (k:=k) (v:=z) hs) (AP hs);rw[F6 hs]at this;exact wy this t
end
end
section
structure aL where
 L:bG
 S:aH
 R:Rec
 T:a6
 Q:Qu
 pu:Int->aO
structure mA where
 lb:Nat
 sb:Nat
 rb:Nat
 tb:Nat
 qb:Nat
 r:Nat
 m:ML Pz
abbrev hn(x:mA):ax:=#[pz x.lb,pz x.sb,pz x.rb,pz x.tb,pz x.qb,.map (some x.r)]
abbrev ew(b:Nat)(X:aL)(x:mA)(H:au):au:=
 cl b (hn x)::bx x.lb X.L::cj x.sb X.S::dC x.rb x.sb X.R::dE x.tb X.T::eR x.qb X.Q::MP fV x.r x.m::dS x.m::H
structure aL.Ok(X:aL)(x:mA):Prop where
 bV:bS x.m
 pu:∀k,X.pu k=((aS x.m k).getD ed).xs
 len:∀k,(X.pu k).length<=X.S.br
def bR(b:Nat)(X:aL):bg:=BD X.Ok (ew b X)
namespace aL
def fi(X:aL)(c:Int):Int:=if X.L.bo c=0 then(if 0<X.Q.head (X.L.place c)then 8 else 0)else X.L.bo c
def p9(X:aL)(c:Int):Int:=if X.fi c=0 then X.L.place c else 0
def bT(X:aL)(c:Int):aL:={X with L:=X.L.bT c}
def rL(X:aL)(c:Int):Int:=if X.fi c=0 then X.L.rL c else X.fi c
def ret(X:aL)(c:Int):aL:=if X.fi c=0 then{X with L:=X.L.ret c}else X
def qX(X:aL)(c n:Int):Int:=if X.L.bo c=0 then(if X.L.cN .ee c n=0 then X.T.jr (X.L.place c) n else X.L.cN .ee c n)else X.L.bo c
def so(X:aL)(c n:Int):Int:=if X.qX c n=0 then X.T.next else 0
def ask(X:aL)(c n:Int):aL:=
 if X.L.bo c=0 then
  (if X.L.cN .ee c n=0 then
   (if X.T.jr (X.L.place c) n=0 then{X with L:=X.L.bM .ee c n,T:=X.T.i7 (X.L.place c) n,Q:=⟨X.Q.L++[(X.T.next,X.L.place c)],X.Q.f'+1⟩}
    else{X with L:=(X.L.bM .ee c n).bM .cancel c n,T:=X.T.i7 (X.L.place c) n})
   else{X with L:=X.L.bM .ee c n})
 else X
def wM(X:aL)(c i:Int):Int:=
 if X.L.bo c=0 then
  (if X.T.e8 i=0/\(X.T.get i).aM=X.L.place c then
   (if X.T.cN (c8 · 3) check i=0 then X.L.cN .cancel c (X.T.get i).count else X.T.cN (c8 · 3) check i)
   else 12)
 else X.L.bo c
def can(X:aL)(c i:Int):aL:=
 if X.L.bo c=0 then
  (if X.T.e8 i=0/\(X.T.get i).aM=X.L.place c then
   (if X.T.cN (c8 · 3) check i=0 then{X with T:=X.T.bM (c8 · 3) check i,Q:=X.Q.drop i,L:=X.L.bM .cancel c (X.T.get i).count}else{X with T:=X.T.bM (c8 · 3) check i})
   else X)
 else X
end aL
section
variable {B:Heap}{H H0:au}{K:aK}{b:Nat}{X:aL}{c n i:Int}
def fg{q:HP}(t:∀x,X.Ok x->T B (ew b X x H) q):T B (bR b X::H) q:=mz (λ_ _=>rfl) t
def dB{q:HP}(x:mA)(h:X.Ok x)(t:T B (bR b X::H) q):T B (ew b X x H) q:=my x h (λ_ _=>rfl) t
instance abz[h:Ow H (bR b) X H0]:J B H (ab P 36 #[pz b] K) (T B (bR b X::H0) (K (.bool true))):=⟨by
 intro I;refine bh h.pl (fg λx ok=>an (Mi _) ?_);repeat apply J.go
 exact af (dB x ok I)⟩
instance abx[h:Ow H (bR b) X H0]:Sc B H (ab P 170 #[pz b,D c] K) (aF c) (T B (bR b X::H0) (K (.tuple #[D (X.L.place c),D (X.L.bo c)]))):=⟨by
 intro hc I;refine bh h.pl (an (Mf _ _) ?_);repeat apply J.go
 refine aN (bR b) (fg λx ok=>?_);repeat first|apply J.go|refine Sc.go (by omega) ?_
 exact af (dB x ok I)⟩
instance aby[h:Ow H (bR b) X H0]:Sc B H (ab P 168 #[pz b,D c] K) (aF c) (T B (bR b X::H0) (K (.tuple #[D (X.p9 c),D (X.fi c)]))):=⟨by
 intro hc I;refine bh h.pl (an (Mh _ _) ?_);unfold aL.p9 aL.fi at I;repeat' first|apply J.go|refine S2.go (λ_=>?_) λ_=>?_|refine Sc.go (by omega) ?_|done
 ·rename_i he
  refine aN (bR b) (fg λx ok=>?_);rw[ah he]at I;repeat' first|apply J.go|refine S2.go (λ_=>?_) λ_=>?_|done
  ·rename_i a
   rw[ah a,ak (by decide)]at I;exact af (dB x ok I)
  ·rename_i a
   rw[ak a,ah rfl]at I;rw[he];exact af (dB x ok I)
 ·rename_i he
  rw[ak he,ak he]at I;have:X.L.place c=0:=by unfold bG.place;rw[ak he]
  rw[this];exact af I⟩
instance abv[h:Ow H (bR b) X H0]:Sc B H (ab P 162 #[pz b,D c] K) (aF c) (T B (bR b X::H0) (K (.tuple #[.bool (decide (X.L.bo c=0/\0<X.Q.head (X.L.place c))),D (X.L.bo c)]))):=⟨by
 intro hc I;refine bh h.pl (an (Mb _ _) ?_);repeat' first|apply J.go|refine S2.go (λ_=>?_) λ_=>?_|refine Sc.go (by omega) ?_|done
 ·rename_i he
  refine aN (bR b) (fg λx ok=>?_);repeat apply J.go
  have e:decide (X.Q.head (X.L.place c)>0)=decide (X.L.bo c=0/\0<X.Q.head (X.L.place c)):=hZ.2 ⟨λh=>⟨he,h⟩,λh=>h.2⟩;rw[e];exact af (dB x ok I)
 ·rename_i he
  rw[cD λh=>he h.1]at I;exact af I⟩
instance abq[h:Ow H (bR b) X H0]:Sc B H (ab P 98 #[pz b,D c] K) (aF c) (T B (bR b (X.bT c)::H0) (K (.tuple #[D (X.L.tc c),D (X.L.rK c)]))):=⟨by
 intro hc I;refine bh h.pl (an (L5 _ _) ?_);repeat apply J.go
 refine aN (bR b) (fg λx ok=>?_);repeat first|apply J.go|refine Sc.go (by omega) ?_
 exact af (dB (X:={X with L:=X.L.bT c}) x ⟨ok.bV,ok.pu,ok.len⟩ I)⟩
instance abr[h:Ow H (bR b) X H0]:Sc B H (ab P 102 #[pz b,D c] K) (aF c) (T B (bR b (X.ret c)::H0) (K (D (X.rL c)))):=⟨by
 intro hc I;refine bh h.pl (an (L6 _ _) ?_);unfold aL.ret aL.rL at I;repeat' first|apply J.go|refine S2.go (λ_=>?_) λ_=>?_|refine Sc.go (by omega) ?_|done
 ·rename_i he
  rw[ak he,ak he]at I;exact af I
 ·rename_i he
  rw[ah he,ah he]at I;refine aN (bR b) (fg λx ok=>?_);repeat first|apply J.go|refine Sc.go (by omega) ?_
  exact af (dB (X:={X with L:=X.L.ret c}) x ⟨ok.bV,ok.pu,ok.len⟩ I)⟩
instance abw[h:Ow H (bR b) X H0]:Sc B H (ab P 122 #[pz b,D c] K) (aF c) (∀w:Int,0<=w/\w<=9223372036854775807->T B (bR b X::H0) (K (.tuple #[D (if X.L.bo c=0 then w else 0),D (X.L.bo c)]))):=⟨by
 intro hc I;refine bh h.pl (an (Mc _ _) ?_);repeat' first|apply J.go|refine S2.go (λ_=>?_) λ_=>?_|refine Sc.go (by omega) ?_|done
 ·rename_i he
  have:=I 0 ⟨by omega,by omega⟩;rw[ak he]at this;exact af this
 ·rename_i he
  refine aN (bR b) (fg λx ok=>?_);repeat first|apply J.go|refine Sa.go λ_=>?_
  rename_i w;intro hw;have:=I w hw;apply J.go;rw[ah he,he]at this;exact af (dB x ok this)⟩
instance abu[h:Ow H (bR b) X H0]:Sc B H (ab P 121 #[pz b,D i] K) (aF i) (T B (bR b X::H0) (K (.tuple #[.agg (aE (X.T.get i)).toArray,D (X.T.e8 i)]))):=⟨by
 intro hc I;refine bh h.pl (an (Ma _ _) ?_);repeat first|apply J.go|refine Sa.go λ_=>?_
 refine aN (bR b) (fg λx ok=>?_);repeat first|apply J.go|refine Sc.go (by first|omega|rfl|exact⟨rfl,rfl⟩) ?_
 exact af (dB x ok I)⟩
def KM[h:Ow H (bR b) X H0](hc:aF c)(i:aF n)(g:X.L.bo c=0->0<=X.L.place c/\X.L.place c<64)(f:X.qX c n=0->X.Q.f'<256/\∀e∈X.Q.L,e.1≠X.T.next)(I:T B (bR b (X.ask c n)::H0) (K (.tuple #[D (X.so c n),D (X.qX c n)]))):T B H (ab P 103 #[pz b,D c,D n] K):=by
 refine bh h.pl (an (L0 _ _ _) ?_);unfold aL.ask aL.so at I;generalize a:X.qX c n=e at I f;unfold aL.qX at a;repeat' first|apply J.go|refine S2.go (λ_=>?_) λ_=>?_|refine Sc.go (by omega) ?_|done
 ·rename_i he
  rw[ak he]at a I;subst a;rw[ak he]at I;exact af I
 ·rename_i he
  rw[ah he]at a I;have g:=g he;refine aN (bR b) (fg λx ok=>?_);repeat' first|apply J.go|refine S2.go (λ_=>?_) λ_=>?_|refine Sc.go (by omega) ?_|done
  ·rename_i U
   rw[ak U]at a I;subst a;rw[ak U]at I;exact af (dB (X:={X with L:=X.L.bM .ee c n}) x ⟨ok.bV,ok.pu,ok.len⟩ I)
  ·rename_i U
   rw[ah U]at a I;subst a;refine Sc.go ⟨by unfold aF;omega,i⟩ ?_;repeat' first|apply J.go|refine S2.go (λ_=>?_) λ_=>?_|refine Sc.go (by omega) ?_|done
   ·rename_i d
    rw[ak d,ak d]at I;exact af (dB (X:={X with L:=(X.L.bM .ee c n).bM .cancel c n,T:=X.T.i7 (X.L.place c) n}) x ⟨ok.bV,ok.pu,ok.len⟩ I)
   ·rename_i d
    have f:=f d;rw[ah d,ah d]at I;rw[ah d];rw[d]at I;refine Sc.go ⟨by unfold a6.next;omega,g,f.2,f.1⟩ ?_;apply J.go;exact af (dB (X:={X with L:=X.L.bM .ee c n,T:=X.T.i7 (X.L.place c) n,Q:=⟨X.Q.L++[(X.T.next,X.L.place c)],X.Q.f'+1⟩}) x ⟨ok.bV,ok.pu,ok.len⟩ I)
def KN[h:Ow H (bR b) X H0](hc:aF c)(hi:aF i)(g:X.T.cN (c8 · 3) check i=0->∃e∈X.Q.L,e.1=i)(I:T B (bR b (X.can c i)::H0) (K (D (X.wM c i)))):T B H (ab P 104 #[pz b,D c,D i] K):=by
 refine bh h.pl (an (L1 _ _ _) ?_);unfold aL.can at I;generalize a:X.wM c i=e at I;unfold aL.wM at a;repeat' first|apply J.go|refine S2.go (λ_=>?_) λ_=>?_|refine Sc.go (by omega) ?_|done
 ·rename_i he
  rw[ak he]at a I;subst a;exact af I
 ·rename_i he
  rw[ah he]at a I;refine aN (bR b) (fg λx ok=>?_);repeat' first|apply J.go|refine Sa.go λ_=>?_|refine S2.go (λ_=>?_) λ_=>?_|refine Sc.go (by first|omega|exact⟨rfl,rfl⟩) ?_|done
  ·rename_i U
   rw[ak λh=>U h.1]at a I;subst a;exact af (dB x ok I)
  ·rename_i U d
   rw[ak λh=>d h.2]at a I;subst a;exact af (dB x ok I)
  ·rename_i U d f
   rw[ah ⟨U,d⟩]at a I;rw[ak f]at a I;subst a;exact af (dB (X:={X with T:=X.T.bM (c8 · 3) check i}) x ⟨ok.bV,ok.pu,ok.len⟩ I)
  ·rename_i U d f
   rw[ah ⟨U,d⟩]at a I;rw[ah f]at a I;subst a;refine Sc.go (g f) ?_;repeat first|apply J.go|refine Sc.go (by omega) ?_
   exact af (dB (X:={X with T:=X.T.bM (c8 · 3) check i,Q:=X.Q.drop i,L:=X.L.bM .cancel c (X.T.get i).count}) x ⟨ok.bV,ok.pu,ok.len⟩ I)
end
end
section
def Xk{B:Heap}{H:au}{m:ML Pz}{z:Pz}{k:Int}{a b:Nat}{ys:aB}(hs:bS m)(h:aS m k=some z){o:Nat}(d:z.p=some (a,o))(e:∀rest,z.xs.length+rest.length=z.c->(z.c≠0->o=z.gK.length)->∀i,i<ys.length->(iv .i64 z.gK++(iv .i64 z.xs++rest))[b+i]?=ys[i]?):bF B (dS m::H) (some ⟨a,b,none⟩) ys:=by show T B (dS m::H) _;refine xW (k:=k) hs ?_;rw[h];simp only[fC];unfold hR;rw[d];refine gn λrest=>gD λhr=>?_;exact bF.nP λi hi=>by rw[dY];exact e rest hr.1 hr.2 i hi
def Xl{B:Heap}{H:au}{m:ML Pz}{k:Int}(hs:bS m):bF B (dS m::H) ((aS m k).getD ed).ptr (iv .i64 ((aS m k).getD ed).xs):=by
 show T B (dS m::H) _;refine xW (k:=k) hs ?_;generalize(aS m k).getD ed=z;unfold hR Pz.ptr
 cases b:z.p with
 |none=>simp only[y8];refine gD λh=>?_;rw[h.2];exact λσ o=> .inl ⟨trivial,rfl⟩
 |some x=>
  obtain⟨c,o⟩:=x;simp only[ih];refine gn λrest=>gD λhr=>bF.nP λi hi=>?_;have hl:i<z.xs.length:=by simpa using hi
  have a:=hr.2 (by omega);rw[dY,a,iI (by simp),hb (by simp;omega)];simp
namespace aL
abbrev cE(X:aL)(i:Int):bA:=if X.S.ok i then X.S.at' i else bA.zero
def ql(X:aL)(c:Int):Int:=if X.fi c=0 then(if X.pu (X.L.place c)=[]then 9 else 0)else X.fi c
def mY(X:aL)(c:Int):Int:=if X.ql c=0 then(X.pu (X.L.place c)).headD 0 else 0
abbrev cut(X:aL)(p:Int)(k:Nat):aL:={X with pu:=b2 X.pu p ((X.pu p).drop k)}
def nS(X:aL)(c:Int):aL:=if X.ql c=0 then X.cut (X.L.place c) 1 else X
def hW(c p i:Int)(X:aL):aL×Int:=
 if X.R.gh X.S i (p+1)=0 then({X with R:=X.R.put X.S i (p+1),S:=X.S.defer i (p+1),L:=X.L.bM .eL c 1},X.L.cN .eL c 1)
 else({X with R:=X.R.put X.S i (p+1),S:=X.S.defer i (p+1)},X.R.gh X.S i (p+1))
def dH(c p:Int):aO->aL->aL×Int
 |[],X=>(X,0)
 |i::l,X=>if(hW c p i X).2=0 then dH c p l (hW c p i X).1 else hW c p i X
def xe(X:aL)(c n:Int):Int:=
 if X.fi c=0 then(if n<1 then 2 else if(X.pu (X.L.place c)).length<n then 9 else(dH c (X.L.place c) ((X.pu (X.L.place c)).take n.toNat) (X.cut (X.L.place c) n.toNat)).2)else X.fi c
def xd(X:aL)(c n:Int):aL:=
 if X.fi c=0 then(if n<1 then X else if(X.pu (X.L.place c)).length<n then X else(dH c (X.L.place c) ((X.pu (X.L.place c)).take n.toNat) (X.cut (X.L.place c) n.toNat)).1)else X
def j1(X:aL)(p:Int)(l:aO):Bool:=decide l.Nodup&&l.all λi=>(X.cE i).own==p+1&&!(X.pu p).contains i
def uQ(X:aL)(c:Int)(l:aO):Int:=
 if X.fi c=0 then(if X.j1 (X.L.place c) l then(dH c (X.L.place c) l X).2 else 18)else X.fi c
def lv(X:aL)(c:Int)(l:aO):aL:=
 if X.fi c=0 then(if X.j1 (X.L.place c) l then(dH c (X.L.place c) l X).1 else X)else X
def vD(c p i:Int)(l:aO)(X:aL):dH c p (i::l) X=if(hW c p i X).2=0 then dH c p l (hW c p i X).1 else hW c p i X:=rfl
def aax(c p i:Int)(X:aL):dH c p [i] X=hW c p i X:=by
 rw[vD];split
 ·rename_i h
  generalize hW c p i X=y at*;obtain⟨a,b⟩:=y;simp only at h;subst h;rfl
 ·rfl
def H7(c p:Int)(l a:aO)(X:aL):dH c p (l++a) X=if(dH c p l X).2=0 then dH c p a (dH c p l X).1 else dH c p l X:=by
 induction l generalizing X with
 |nil=>simp[dH]
 |cons i l b=>
  rw[qE,vD,vD];split
  ·exact b _
  ·rfl
def aav(c p i:Int)(X:aL):(hW c p i X).1.S.br<=X.S.br+1/\X.S.br<=(hW c p i X).1.S.br/\(hW c p i X).1.R.line.next<=X.R.line.next+1/\(hW c p i X).1.T=X.T/\(hW c p i X).1.Q=X.Q/\(hW c p i X).1.pu=X.pu:=by
 have U:(X.S.defer i (p+1)).br<=X.S.br+1/\X.S.br<=(X.S.defer i (p+1)).br:=by unfold aH.defer;split<;>(try simp only)<;>omega
 have a:(X.R.put X.S i (p+1)).line.next<=X.R.line.next+1:=by
  unfold Rec.put;split
  ·simp only;unfold ea.put;split<;>(try simp only[ea.xX])<;>omega
  ·omega
 unfold hW;split<;>exact⟨U.1,U.2,a,rfl,rfl,rfl⟩
def yu(c p:Int)(l:aO)(X:aL):(dH c p l X).1.S.br<=X.S.br+l.length/\X.S.br<=(dH c p l X).1.S.br/\(dH c p l X).1.R.line.next<=X.R.line.next+l.length/\(dH c p l X).1.T=X.T/\(dH c p l X).1.Q=X.Q/\(dH c p l X).1.pu=X.pu:=by
 induction l generalizing X with
 |nil=>simp[dH]
 |cons i l b=>
  have U:=aav c p i X;rw[vD];simp only[dd];split
  ·have d:=b (hW c p i X).1
   obtain⟨e,a2,a3,a4,a5,a⟩:=U;obtain⟨h,dJ,j,h5,f,g⟩:=d;exact⟨by omega,by omega,by omega,h5.trans a4,f.trans a5,g.trans a⟩
  ·obtain⟨e,a2,a3,a4,a5,a⟩:=U
   exact⟨by omega,a2,by omega,a4,a5,a⟩
end aL
def Pz.cut(z:Pz)(n:Nat):Pz:=⟨z.p.map λx=>(x.1,if z.c=n then x.2 else x.2+n),z.c-n,z.gK++z.xs.take n,z.xs.drop n⟩
section
variable {B:Heap}{H H0:au}{K:aK}{b:Nat}{X:aL}{c n i:Int}
def DV{x:mA}{p:Int}{k:Nat}(hs:bS x.m)(A:1<=k)(d:k<=((aS x.m p).getD ed).xs.length)(I:∀q,(∀H,bF B (dS (bE p (((aS x.m p).getD ed).cut k) x.m)::H) q (iv .i64 (((aS x.m p).getD ed).xs.take k)))->T B (cl b (hn x)::MP fV x.r (bE p (((aS x.m p).getD ed).cut k) x.m)::dS (bE p (((aS x.m p).getD ed).cut k) x.m)::H) (K (.slice q k k))):T B (cl b (hn x)::MP fV x.r x.m::dS x.m::H) (ab P 186 #[pz b,D p,D k] K):=by
 apply an (Mj _ _ _)
 obtain⟨z,hz⟩:∃z,aS x.m p=some z:=by
  cases h:aS x.m p with
  |none=>rw[h]at d;simp at d;omega
  |some z=>exact⟨z,rfl⟩
 rw[hz]at d I;simp only[fC]at d I;refine J.go (J.go ?_);rw[hz];simp only[fC];refine J.go (J.go ?_);refine bj (by omega) (J.go ?_);rw[a7];refine aN dS (xW (k:=p) hs ?_);rw[hz];simp only[fC]
 have l:∀{a o:Nat},z.p=some (a,o)->z.c≠0->(z.c≠0->o=z.gK.length)->∀H,bF B (dS (bE p (z.cut k) x.m)::H) (some ⟨a,o,none⟩) (iv .i64 (z.xs.take k)):=by
  intro a o f hc j H;apply Xk (fA hs) (AP hs) (by unfold Pz.cut;rw[f];rfl);intro rest U C i hi;have E:i<k:=by simp at hi;omega
  rw[j hc];unfold Pz.cut;simp only[iv,e6,er];rw[iI (by simp),hb (by simp;omega)];simp
 have g:hR z=hR z:=rfl
 conv at g=>rhs;unfold hR
 rw[g];clear g
 cases f:z.p with
 |none=>simp only;refine gD λh=>?_;rw[h.2]at d;simp at d;omega
 |some y=>
  obtain⟨a,o⟩:=y;simp only;refine gn λrest=>gD λhr=>?_;have hc:z.c≠0:=by omega
  have j:=hr.2 hc;have n:z.ptr=some ⟨a,o,none⟩:=by unfold Pz.ptr;rw[f];rfl
  rw[n]
  have s:dh (some ⟨a,o,none⟩) 1 k z.c=(z.cut k).ptr:=by unfold dh Pz.ptr Pz.cut;rw[f];simp only[ih,aQ,iM];split<;>simp[*]
  have u:Value.slice (dh (some ⟨a,o,none⟩) 1 k z.c) (z.xs.length-k) (z.c-k)=fV (z.cut k):=by rw[s];unfold fV;simp only[Pz.cut,lB]
  refine AV u (bj (by omega) (bj (by omega) ?_));rw[lf,iN]
  have v:∀{H:au} {q:HP},T B (dS (bE p (z.cut k) x.m)::H) q->T B (cl a (iv .i64 z.gK++(iv .i64 z.xs++rest)).toArray::dS (bO p x.m)::H) q:=by
   intro H q t
   have e:hR (z.cut k)=eK λrest:aB=>fk ((z.cut k).xs.length+rest.length=(z.cut k).c/\((z.cut k).c≠0->(if z.c=k then o else o+k)=(z.cut k).gK.length)) (cl a (iv .i64 (z.cut k).gK++(iv .i64 (z.cut k).xs++rest)).toArray):=by
    conv=>lhs;unfold hR
    have:(z.cut k).p=some (a,if z.c=k then o else o+k):=by unfold Pz.cut;rw[f];rfl
    rw[this]
   have t2:=Bm hs t;rw[e]at t2
   have w:(iv .i64 z.gK++(iv .i64 z.xs++rest))=(iv .i64 (z.cut k).gK++(iv .i64 (z.cut k).xs++rest)):=by unfold Pz.cut;simp only[iv,e6,er];rw[<-er (List.map _ (z.xs.take k)),<-e6,j6]
   rw[w];refine h4 ⟨?_,?_⟩ (gI rest t2)
   ·simp only[Pz.cut,lB];omega
   ·simp only[Pz.cut,cr,ff]
    intro h;rw[ak (by omega)];omega
  have:=I (some ⟨a,o,none⟩) (l f hc hr.2);refine af (H':=cl a (iv .i64 z.gK++(iv .i64 z.xs++rest)).toArray::dS (bO p x.m)::cl b (hn x)::MP fV x.r (bE p (z.cut k) x.m)::H) (v ?_);exact af this
abbrev rS(b:Nat)(x:mA)(X:aL)(G:au):au:=cl b (hn x)::bx x.lb X.L::cj x.sb X.S::dC x.rb x.sb X.R::G
def DW{x:mA}{p:Int}{q:aw}{c' k':Nat}{l:aO}{G:au}(m:k'=l.length)(n:bF B G q (iv .i64 l))(hc:aF c)(t:0<=p/\p<64)(u:X.S.br+l.length<1000000)(v:X.R.line.next<4000000000)(I:T B (rS b x (aL.dH c p l X).1 G) (K (D (aL.dH c p l X).2))):T B (rS b x X G) (ab P 194 #[pz b,D c,D p,.slice q k' c'] K):=by
 subst m;refine an (Mk _ _ _ _ _ _) (cF l.length (by omega) (λk H'=>(aL.dH c p (l.take k) X).2=0/\H'=rS b x (aL.dH c p (l.take k) X).1 G) ⟨rfl,rfl⟩ ?_);rintro k H' R o ⟨he,rfl⟩ r;have hf:=aL.yu c p (l.take k) X;rw[ff,qJ o]at hf;refine S2.go (λ_=>?_) λ_=>?_
 ·have d:k<l.length:=by omega
  have f:l[k]?=some l[k]:=ba d;generalize l[k]=i at f;have s:bF B (rS b x (aL.dH c p (l.take k) X).1 G) q (iv .i64 l):=n.tail.tail.tail.tail;have:Rd B (rS b x (aL.dH c p (l.take k) X).1 G) q (iv .i64 l):=⟨s⟩;apply e1 k rfl d f
  have hs:aL.dH c p (l.take (k+1)) X=aL.hW c p i (aL.dH c p (l.take k) X).1:=by rw[dQ f,aL.H7,ah he,aL.aax]
  have j:(aL.dH c p (l.take (k+1)) X).2≠0->aL.dH c p l X=aL.dH c p (l.take (k+1)) X:=by
   intro h;have:l=l.take (k+1)++l.drop (k+1):=(j6 ..).symm
   conv=>lhs;rw[this]
   rw[aL.H7,ak h]
  generalize(aL.dH c p (l.take k) X).1=Y at*;have hw:IntKind.wrap .i64 (p+1)=p+1:=bd (by omega);rw[hw];have a:=hs;unfold aL.hW at a;refine J.go (Sc.go ⟨by omega,by omega⟩ ?_);repeat' first|apply J.go|refine S2.go (λ_=>?_) λ_=>?_|refine Sc.go (by omega) ?_|done
  ·rename_i U
   rw[ak U]at a;have e:=j (by rw[a];exact U);rw[e,a]at I;exact af I
  ·rename_i U g
   rw[ah U]at a;have e:=j (by rw[a];exact g);rw[e,a]at I;exact af I
  ·rename_i U g
   rw[ah U]at a;have:=r d _ ⟨by rw[a];exact g,rfl⟩;rw[a]at this;exact af this
 ·have hl:k=l.length:=by omega
  subst hl;rw[gA]at he⊢;rw[he]at I;exact I
def aL.Ok.with{x:mA}(ok:X.Ok x){Y:aL}(U:Y.pu=X.pu)(a:X.S.br<=Y.S.br):Y.Ok x:=⟨ok.bV,λk=>by rw[U];exact ok.pu k,λk=>by rw[U];exact jL (ok.len k) a⟩
def aL.Ok.cut{x:mA}(ok:X.Ok x)(p:Int)(k:Nat):(X.cut p k).Ok {x with m:=bE p (((aS x.m p).getD ed).cut k) x.m}:=by
 refine⟨fA ok.bV,λj=>?_,λj=>?_⟩
 ·simp only[aL.cut,b2]
  rw[gR ok.bV];split
  ·rename_i e;subst e;rw[ok.pu];rfl
  ·exact ok.pu j
 ·have:=ok.len j
  simp only[aL.cut,b2];split
  ·rename_i e;subst e;rw[lB];omega
  ·exact this
def KR[h:Ow H (bR b) X H0](hc:aF c)(I:T B (bR b (X.nS c)::H0) (K (.tuple #[D (X.mY c),D (X.ql c)]))):T B H (ab P 109 #[pz b,D c] K):=by
 refine bh h.pl (an (L4 _ _) ?_);unfold aL.nS aL.mY at I;generalize d:X.ql c=e at I;unfold aL.ql at d;repeat' first|apply J.go|refine S2.go (λ_=>?_) λ_=>?_|refine Sc.go (by omega) ?_|done
 ·rename_i he
  rw[ak he]at d;subst d;rw[ak he,ak he]at I;exact af I
 ·rename_i he
  rw[ah he]at d;have n:X.p9 c=X.L.place c:=by unfold aL.p9;rw[ah he]
  rw[n];refine aN (bR b) (fg λx ok=>?_);have f:=ok.pu (X.L.place c);repeat' first|apply J.go|refine S2.go (λ_=>?_) λ_=>?_|done
  ·rename_i U
   have:X.pu (X.L.place c)=[]:=by rw[f];exact kF.1 (by simpa using U)
   rw[ah this]at d;subst d;exact af (dB x ok I)
  ·rename_i U
   have g:X.pu (X.L.place c)≠[]:=by rw[f];intro e;rw[e]at U;exact U rfl
   rw[ak g]at d;subst d;rw[ah rfl,ah rfl]at I
   have hl:1<=((aS x.m (X.L.place c)).getD ed).xs.length:=by rw[<-f];exact r1.2 g
   refine af (H':=cl b (hn x)::MP fV x.r x.m::dS x.m::bx x.lb X.L::cj x.sb X.S::dC x.rb x.sb X.R::dE x.tb X.T::eR x.qb X.Q::H0) ?_;refine DV (k:=1) ok.bV (d' _) hl λq i=>?_;apply J.go
   have o:((aS x.m (X.L.place c)).getD ed).xs.take 1=[(X.pu (X.L.place c)).headD 0]:=by
    rw[<-f]
    cases p:X.pu (X.L.place c)with
    |nil=>exact absurd p g
    |cons a l=>rfl
   rw[o]at i;have j:=(i (cl b (hn x)::MP fV x.r (bE (X.L.place c) (((aS x.m (X.L.place c)).getD ed).cut 1) x.m)::bx x.lb X.L::cj x.sb X.S::dC x.rb x.sb X.R::dE x.tb X.T::eR x.qb X.Q::H0));refine af (H':=dS (bE (X.L.place c) (((aS x.m (X.L.place c)).getD ed).cut 1) x.m)::cl b (hn x)::MP fV x.r (bE (X.L.place c) (((aS x.m (X.L.place c)).getD ed).cut 1) x.m)::bx x.lb X.L::cj x.sb X.S::dC x.rb x.sb X.R::dE x.tb X.T::eR x.qb X.Q::H0) (nw j (by simp) λa ha=>?_);subst ha;exact bj (by omega) (sf j rfl (af (dB _ (ok.cut (X.L.place c) 1) I)))
def KO[h:Ow H (bR b) X H0](hc:aF c)(w:aF n)(d:X.L.bo c=0->0<=X.L.place c/\X.L.place c<64)(y:2*X.S.br<900000)(s:X.R.line.next<4000000000)(I:T B (bR b (X.xd c n)::H0) (K (D (X.xe c n)))):T B H (ab P 116 #[pz b,D c,D n] K):=by
 refine bh h.pl (an (L2 _ _ _) ?_);unfold aL.xd at I;generalize a:X.xe c n=e at I;unfold aL.xe at a;repeat' first|apply J.go|refine S2.go (λ_=>?_) λ_=>?_|refine Sc.go (by omega) ?_|done
 ·rename_i he
  rw[ak he]at a I;subst a;exact af I
 ·rename_i he U
  rw[ah he,ah U]at a I;subst a;exact af I
 ·rename_i he U
  rw[ah he,ak U]at a I
  have t:X.L.bo c=0:=by
   unfold aL.fi at he;split at he
   ·assumption
   ·exact he
  have d:=d t;have u:X.p9 c=X.L.place c:=by unfold aL.p9;rw[ah he]
  rw[u];refine aN (bR b) (fg λx ok=>?_);have f:=ok.pu (X.L.place c);have hlen:=ok.len (X.L.place c);repeat' first|apply J.go|refine S2.go (λ_=>?_) λ_=>?_|done
  ·rename_i g
   have:((X.pu (X.L.place c)).length:Int)<n:=by rw[f];exact g
   rw[ah this]at a I;subst a;exact af (dB x ok I)
  ·rename_i g
   have v:¬((X.pu (X.L.place c)).length:Int)<n:=by rw[f];exact g
   rw[ak v]at a I;obtain⟨k,rfl⟩:∃k:Nat,n=k:=⟨n.toNat,by omega⟩;rw[a7]at a I;refine af (H':=cl b (hn x)::MP fV x.r x.m::dS x.m::bx x.lb X.L::cj x.sb X.S::dC x.rb x.sb X.R::dE x.tb X.T::eR x.qb X.Q::H0) ?_;refine DV (k:=k) ok.bV (by omega) (by omega) λq i=>?_;apply J.go;rw[<-f]at i;refine af (H':=rS b x (X.cut (X.L.place c) k) (dS (bE (X.L.place c) (((aS x.m (X.L.place c)).getD ed).cut k) x.m)::MP fV x.r (bE (X.L.place c) (((aS x.m (X.L.place c)).getD ed).cut k) x.m)::dE x.tb X.T::eR x.qb X.Q::H0)) ?_;have j:((X.pu (X.L.place c)).take k).length=k:=by rw[ff];omega
   refine DW j.symm (i _) hc d (by rw[j];simp only;omega) s ?_;have hf:=aL.yu c (X.L.place c) ((X.pu (X.L.place c)).take k) (X.cut (X.L.place c) k);generalize aL.dH c (X.L.place c) ((X.pu (X.L.place c)).take k) (X.cut (X.L.place c) k)=Y at*;have aP:Y.1.Ok {x with m:=bE (X.L.place c) (((aS x.m (X.L.place c)).getD ed).cut k) x.m}:=(ok.cut (X.L.place c) k).with hf.2.2.2.2.2 hf.2.1;have l:=hf.2.2.2.1;have o:=hf.2.2.2.2.1;simp only at l o;rw[<-l,<-o];repeat' first|apply J.go|refine S2.go (λ_=>?_) λ_=>?_|refine Sc.go (by omega) ?_|done
   ·rename_i p
    subst a;exact af (dB {x with m:=bE (X.L.place c) (((aS x.m (X.L.place c)).getD ed).cut k) x.m} aP I)
   ·rename_i p
    rw[p]at a;subst a;rw[ah ⟨d.1,d.2,by omega⟩];exact af (dB {x with m:=bE (X.L.place c) (((aS x.m (X.L.place c)).getD ed).cut k) x.m} aP I)
end
end
section
variable {B:Heap}{H H0:au}{K:aK}{b:Nat}{X:aL}{c n i:Int}
def B9:P.underlying 31=some (.slice 3):=by kernel_rfl
def GY{m:ML Pz}{p v:Int}{k:Nat}{f:aw->Nat->Nat->HP}(hs:bS m)[J:bY B H k #[D v]](hl:((aS m p).getD ed).xs.length<1000000)(t:∀b:Pz,b.xs=((aS m p).getD ed).xs++[v]->T B (hR b::dS (bO p m)::H) (f b.ptr b.xs.length b.c)):T B (dS m::H) (cI P #[31,31] ((aS m p).getD ed).ptr ((aS m p).getD ed).xs.length ((aS m p).getD ed).c (some (ag k 0)) 1 1 f):=by
 refine xW (k:=p) hs ?_;generalize(aS m p).getD ed=z at*;have j:∀w∈([D v]:aB),w.oneCell'=true:=by intro w hw;simp at hw;subst hw;rfl
 have s:∀{H2:au} {a cap:Nat} {rest:aB},H2=dS (bO p m)::H->z.xs.length+1<=cap->(iv .i64 z.xs++[D v]++rest).length=cap*1->
   T B (cl a (iv .i64 z.xs++[D v]++rest).toArray::H2) (f (some ⟨a,0,none⟩) (z.xs.length+1) cap):=by
  rintro H2 a cap rest rfl g d;have:=t ⟨some (a,0),cap,[],z.xs++[v]⟩ rfl;unfold hR at this;simp only[Pz.ptr,ih,cr,dd,gH,bJ]at this;refine h4 (c:=z.xs.length+1+rest.length=cap/\(cap≠0->(0:Nat)=0)) ⟨by simp at d;omega,λ_=>rfl⟩ (gI (q:=λrest:aB=>fk (z.xs.length+1+rest.length=cap/\(cap≠0->(0:Nat)=0)) (cl a (iv .i64 z.xs++[D v]++rest).toArray)) rest ?_);simpa[iv]using this
 have l:hR z=hR z:=rfl
 conv at l=>rhs;unfold hR
 rw[l];clear l
 cases n:z.p with
 |none=>
  simp only;refine gD λh=>?_;have r:z.ptr=none:=by unfold Pz.ptr;rw[n];rfl
  rw[r,h.1];have x:=h.2;refine pN (.drop .refl) ?_;refine DG rfl rfl B9 (by kernel_rfl) (by kernel_rfl) (by kernel_rfl) lR (by rw[kO];omega) (by rw[kO];omega) (by kernel_rfl) (by rw[x];exact bF.nil) (by simp) (Rd.rd) rfl j (by omega) λa rest cap g d=>s rfl g d
 |some y=>
  obtain⟨a,o⟩:=y;simp only;refine gn λrest=>gD λhr=>?_;have r:z.ptr=some ⟨a,o,none⟩:=by unfold Pz.ptr;rw[n];rfl
  rw[r];by_cases A:z.xs.length+1<=z.c
  ·have u:=hr.2 (by omega)
   apply zt rfl rfl B9 (by kernel_rfl) (by kernel_rfl) lR (Rd.rd) rfl j A (by simp[iv];omega)
   have e:eH (iv .i64 z.gK++(iv .i64 z.xs++rest)).toArray (o+z.xs.length*1) [D v]=(iv .i64 z.gK++(iv .i64 (z.xs++[v])++rest.drop 1)).toArray:=by
    have C:o+z.xs.length*1=(iv .i64 z.gK++iv .i64 z.xs).length:=by simp[iv];omega
    have K:1<=rest.length:=by omega
    rw[<-er,C];have E:iv .i64 z.gK++(iv .i64 (z.xs++[v])++List.drop 1 rest)=(iv .i64 z.gK++iv .i64 z.xs)++([D v]++List.drop 1 rest):=by simp[iv]
    rw[kz _ _ _ (by simp;omega),qI rfl,<-yW,yX rfl,E];rfl
   rw[e];have:=t ⟨z.p,z.c,z.gK,z.xs++[v]⟩ rfl;unfold hR at this;rw[n]at this;simp only[Pz.ptr,ih,cr,dd,gH,bJ]at this;exact h4 (c:=z.xs.length+1+(rest.drop 1).length=z.c/\(z.c≠0->o=z.gK.length)) ⟨by simp;omega,hr.2⟩ (gI (q:=λrest:aB=>fk (z.xs.length+1+rest.length=z.c/\(z.c≠0->o=z.gK.length)) (cl a (iv .i64 z.gK++(iv .i64 (z.xs++[v])++rest)).toArray)) (rest.drop 1) this)
  ·have F:bF B (cl a (iv .i64 z.gK++(iv .i64 z.xs++rest)).toArray::dS (bO p m)::H) (some ⟨a,o,none⟩) (iv .i64 z.xs):=by
    refine bF.nP λi hi=>?_;have hl:i<z.xs.length:=by simpa using hi
    have u:=hr.2 (by omega);rw[dY,u,iI (by simp),hb (by simp;omega)];simp
   refine DG rfl rfl B9 (by kernel_rfl) (by kernel_rfl) (by kernel_rfl) lR (by rw[kO];omega) (by rw[kO];omega) (by kernel_rfl) F (by simp) (Rd.rd) rfl j (by omega) λG I cap g d=>?_;exact af (H':=cl G (iv .i64 z.xs++[D v]++I).toArray::dS (bO p m)::H) (s rfl g d)
def V2{L:bG}(a:L.av.aX.Ok)(b:L.av.Ok):(L.av.members.map (·.1)).Pairwise (·<·)/\∀m∈L.av.members,0<=m.1/\m.1<64:=by
 have e:L.av.members.map (·.1)=bb L.av.aX.cP:=by simp[bK.members,CD]
 refine⟨by rw[e];exact a.bV,λm hm=>?_⟩;obtain⟨q,c,rfl⟩:=bQ.1 hm;obtain⟨e,he,rfl⟩:=bQ.1 c;have:=a.op e he;have:=a.fresh;have:=b.n;simp only;omega
def KU{x:mA}(ok:X.Ok x)(I:∀q l c' (ys:aO),l=ys.length->l<=64->T B (ai 1 q l c' (iv .i64 ys)::ew b X x H) (K (.slice q l c'))):T B (ew b X x H) (ab P 202 #[pz b] K):=by
 refine an (Me _) (J.go (aN (bx x.lb) (uJ λg h=>?_)));obtain⟨hr,hm⟩:=V2 h g;refine Sa.go λy=>?_;have hlen:X.L.av.members.length<=64:=by rw[bK.uU];exact bK.uM g h
 generalize r:X.L.av.members=ms at*;repeat' first|apply J.go|refine S2.go (λ_=>?_) λ_=>?_|done
 ·rename_i h0
  exact dR 1 (af (H':=ai 1 none 0 0 []::ew b X x H) (I none 0 0 [] rfl (by omega)))
 ·rename_i h0
  have s:0<ms.length:=by omega
  obtain⟨w,hw⟩:∃w,ms[ms.length-1]?=some w:=⟨_,ba (by omega)⟩;have t:=hm w (cz hw)
  have hle:∀z∈ms,z.1<=w.1:=by
   intro z hz;obtain⟨j,o,rfl⟩:=qH hz;have i:ms[ms.length-1]'(by omega)=w:=by rw[ba (by omega)]at hw;exact qL hw
   by_cases e:j=ms.length-1
   ·subst e
    rw[i];exact fY _
   ·have U:=kJ.1 hr j (ms.length-1) (by simpa using o) (by simp;omega) (by omega)
    simp only[tL,i]at U;omega
  refine eA (ys:=aW ms) (ms.length-1) (by rw[bd (by omega)];omega) (by omega) (x:=w.1) ?_ ?_
  ·exact dW eP ms (ms.length-1) w hw 0 (by omega)
  obtain⟨N,n⟩:∃N:Nat,IntKind.wrap .i64 (w.1+1)=(N:Int):=⟨(w.1+1).toNat,by rw[bd (by omega)];omega⟩;have u:(N:Int)=w.1+1:=by rw[<-n,bd (by omega)]
  rw[n];refine Sx.go (by omega) λa=>af (H':=cl a (iv .i64 (List.replicate N 0)).toArray::ai 4 y.1 ms.length y.2 (aW ms)::ew b X x H) (cF ms.length (by omega) (λk H'=>∃ys:aO,ys.length=N/\H'=cl a (iv .i64 ys).toArray::ai 4 y.1 ms.length y.2 (aW ms)::ew b X x H) ⟨_,by simp,rfl⟩ ?_);rintro k H' R v ⟨ys,d,rfl⟩ p;refine S2.go (λ_=>?_) λ_=>?_
  ·have f:k<ms.length:=by omega
   have c:ms[k]?=some ms[k]:=ba f;generalize ms[k]=z at c;have hz:=hm z (cz c);have A:=hle z (cz c);apply dO eP (by omega) k rfl f c;repeat first|apply J.go|refine Sa.go λ_=>?_|refine Sc.go (by first|omega|exact⟨rfl,rfl⟩) ?_
   rw[aQ,bJ];apply eB (by simp;omega) rfl
   have e:(iv .i64 ys).toArray.setIfInBounds z.1.toNat (D (((aS x.m z.1).getD ed).xs.length:Int))=(iv .i64 (ys.set z.1.toNat (((aS x.m z.1).getD ed).xs.length:Int))).toArray:=by simp[iv,jh]
   rw[e];exact af (H':=cl a (iv .i64 (ys.set z.1.toNat (((aS x.m z.1).getD ed).xs.length:Int))).toArray::ai 4 y.1 ms.length y.2 (aW ms)::ew b X x H) (p f _ ⟨_,by simpa using d,rfl⟩)
  ·rw[a7]
   refine kf (l:=N) 1 (by simp[d]) ?_;have:=I (some ⟨a,0,none⟩) N N ys d.symm (by omega);exact af this
def KP{q:aw}{c':Nat}{l:aO}{G:au}(C:bF B G q (iv .i64 l))(hc:aF c)(u:X.L.bo c=0->0<=X.L.place c/\X.L.place c<64)(ag:X.S.br+l.length<900000)(N:X.R.line.next<4000000000)(I:T B (bR b (X.lv c l)::G) (K (D (X.uQ c l)))):T B (bR b X::G) (ab P 115 #[pz b,D c,.slice q l.length c'] K):=by
 apply an (L3 _ _ _ _ _);unfold aL.lv at I;generalize d:X.uQ c l=e at I;unfold aL.uQ at d;repeat' first|apply J.go|refine Sa.go λ_=>?_|refine S2.go (λ_=>?_) λ_=>?_|refine Sc.go (by omega) ?_|done
 ·rename_i he
  rw[ak he]at d I;subst d;exact af I
 ·rename_i he o
  rw[ah he]at d I
  have O:X.L.bo c=0:=by
   unfold aL.fi at he;split at he
   ·assumption
   ·exact he
  have u:=u O;have U:X.p9 c=X.L.place c:=by unfold aL.p9;rw[ah he]
  rw[U];generalize X.L.place c=p at*;refine iQ Value.bool (cF l.length (by omega) (λk H'=>∃f:ML Bool,bS f/\(∀j,(aS f j).getD false=(l.take k).contains j)/\X.j1 p (l.take k)=true/\H'=MP Value.bool o f::bR b X::G) ⟨[],by simp[bS,bb,eu],λj=>by simp[aS],by simp[aL.j1],rfl⟩ ?_);rintro k H' R ai ⟨f,E,v,g,rfl⟩ V;refine S2.go (λ_=>?_) λ_=>?_
  ·have w:k<l.length:=by omega
   have s:l[k]?=some l[k]:=ba w;generalize l[k]=i at s;have:Rd B (MP Value.bool o f::bR b X::G) q (iv .i64 l):=⟨C.tail.tail⟩;apply e1 k rfl w s;have hw:IntKind.wrap .i64 (p+1)=p+1:=bd (by omega);rw[hw]
   have W:∀{k':Nat},X.j1 p (l.take k')=false->X.j1 p l=false:=by
    intro k' h;unfold aL.j1 at h⊢;simp only[Cy,fN,List.all_eq_false]at h⊢;rcases h with h|⟨z,hz,h⟩
    ·exact .inl λZ=>h (Z.sublist (CU _ _))
    ·exact .inr ⟨z,kH hz,h⟩
   have n:X.j1 p (l.take (k+1))=(((X.cE i).own==p+1&&!(X.pu p).contains i)&&!(l.take k).contains i):=by
    rw[dQ s];unfold aL.j1 at g⊢;simp only[b9,bz]at g
    have aa:(l.take k++[i]).Nodup↔i∉l.take k:=by rw[dZ];exact⟨λh hi=>h.2.2 i hi i (by simp) rfl,λh=>⟨g.1,by simp,λa ha b F e=>h (by simp at F;subst F;subst e;exact ha)⟩⟩
    have ac:decide ((l.take k++[i]).Nodup)=!(l.take k).contains i:=by rw[yQ,bz,aa];simp
    rw[ac,List.all_append,g.2];simp only[yU,List.all_nil,yP,e5];exact Bool.and_comm _ _
   have y:X.j1 p (l.take (k+1))=false->T B (bR b X::G) (K (D 18)):=by intro h;rw[W h]at I d;subst d;exact I
   refine aN (bR b) (fg λx ok=>?_);have M:=ok.pu p;have hlen:=ok.len p;repeat' first|apply J.go|refine Sa.go λ_=>?_|refine S2.go (λ_=>?_) λ_=>?_|refine Sc.go ⟨rfl,rfl⟩ ?_|done
   ·rename_i t
    have:X.j1 p (l.take (k+1))=false:=by
     rw[n];have:((X.cE i).own==p+1)=false:=by unfold aL.cE;simpa using t
     rw[this];rfl
    exact af (dB x ok (y this))
   ·rename_i t hs
    have:X.j1 p (l.take (k+1))=false:=by rw[n,<-v i,hs];simp
    exact af (dB x ok (y this))
   ·rename_i t hs
    have ad:((X.cE i).own==p+1)=true:=by unfold aL.cE;simpa using t
    rw[ad,<-v i,hs]at n;have aj:∀H,Rd B (dS x.m::H) ((aS x.m p).getD ed).ptr (iv .i64 ((aS x.m p).getD ed).xs):=λH=>⟨Xl ok.bV⟩;refine af (H':=dS x.m::MP fV x.r x.m::MP Value.bool o f::cj x.sb X.S::cl b (hn x)::bx x.lb X.L::dC x.rb x.sb X.R::dE x.tb X.T::eR x.qb X.Q::G) ?_;refine Sc.go ⟨rfl,by rw[<-M];omega⟩ ?_;rw[<-M];repeat' first|apply J.go|refine S2.go (λ_=>?_) λ_=>?_|done
    ·rename_i A
     have:X.j1 p (l.take (k+1))=false:=by rw[n,A];rfl
     exact af (dB x ok (y this))
    ·rename_i A
     rw[A]at n;have ae:=V w (MP Value.bool o (bE i true f)::bR b X::G) ⟨_,fA E,λj=>?_,n,rfl⟩
     ·refine af (H':=ew b X x (MP Value.bool o (bE i true f)::G)) (dB x ok ?_)
      exact af ae
     ·rw[gR E,dQ s]
      by_cases e:j=i
      ·subst e;simp
      ·rw[ak e,v];simp[e]
  ·have hl:k=l.length:=by omega
   subst hl;rw[gA]at g;rw[g,ah rfl]at I d;refine aN (bR b) (fg λx ok=>?_);refine af (H':=rS b x X (MP fV x.r x.m::dS x.m::dE x.tb X.T::eR x.qb X.Q::G)) (DW rfl C.tail.tail.tail.tail hc u (by omega) N ?_);have hf:=aL.yu c p l X;generalize aL.dH c p l X=Y at*;subst d;have aP:Y.1.Ok x:=ok.with hf.2.2.2.2.2 hf.2.1;rw[<-hf.2.2.2.1,<-hf.2.2.2.2.1];exact J.go (af (dB x aP I))
end
