/- Lemmas that lead to TopApart (their names made short by a program); no condition. -/
import Derived.Test.YtlmgompopkamfaaGreatDoorLJ
set_option linter.all false
set_option maxRecDepth 20000
set_option synthInstance.checkSynthOrder false
namespace Go.Proofs.YtlmgompopkamfaaGreatDoor
open Go.XS Go.bm
section
def j1(m:Mem):Int:=if cq m.2 then m.2.dZ-m.2.held else 0
def hF(f:Int)(d:List Bool)(ms:List Mem):Int:=cS (λx:Bool×Mem=>!x.1&&decide (j1 x.2<=f)) (d.zip ms)
def l7(ms:List Mem):Nat->Int->List Bool->aN
 |0,_,_=>[]
 |k+1,f,d=>if hF f d ms<0 then[]else hF f d ms::l7 ms k (f+(ms.getD (hF f d ms).toNat (0,eM)).2.held) (d.set (hF f d ms).toNat true)
def mZ(f:Int)(ms:List Mem):aN:=l7 ms ms.length f (List.replicate ms.length false)
def kH(f:Int)(ms:List Mem):Bool:=decide (0<=f/\f<=1048576)&&ms.all (λm=>cq m.2)&&decide (ms.length<=(mZ f ms).length)
def km(d:List Bool):az:=d.map Value.bool
section
variable {B:Heap}{H H0:au}{K:aK}{f n:Int}{q:av}{l c:Nat}{ms:List Mem}{d:List Bool}
def rB{α:Type}{p:α->Bool}{l:List α}(h:¬cS p l<0):∃(i:Nat) (a:α),cS p l=i/\l[i]?=some a/\p a=true:=by
 unfold cS at h⊢
 cases hf:l.findIdx? p with
 |none=>rw[hf]at h;exact absurd (by decide) h
 |some i=>rw[zb]at hf;obtain⟨hi,b,_⟩:=hf;exact⟨i,l[i],rfl,bj hi,b⟩
def Bk(h:¬hF f d ms<0):∃(i:Nat) (m:Mem),hF f d ms=i/\d[i]?=some false/\ms[i]?=some m/\j1 m<=f:=by obtain⟨i,⟨b,m⟩,h1,a,c⟩:=rB h;rw[ze]at a;simp only[cg,ns,bJ]at c;exact⟨i,m,h1,by rw[a.1,c.1],a.2,c.2⟩
instance ada{ca:aw}{g:Nat}:St B H (ad P 520 #[.slice q l c,.func (.func g) #[] ca] K) (T B H (ad P 353 #[.slice q l c,.func (.func g) #[] ca] λv=>db .i64 v λn=>K (.bool (decide (n>=0))))):=⟨λt=>by apply an (Ey _ _ _ _ _);exact t⟩
def zG{k:Nat}{m:Mem}{g:aw->HP}[h:bZ B H k (fL m).toArray](t:T B H (g #[J m.2.dZ,J m.2.held,J m.2.cB])):T B H (eQ ⟨k,1,none⟩ 3 g):=by
 refine iV #[J m.2.dZ,J m.2.held,J m.2.cB] rfl (λj a=>?_) t;obtain rfl|rfl|rfl:j=0\/j=1\/j=2:=by omega
 all_goals rfl
def wO{a:Acc}(h:cq a=true):js a:=by simp only[cq,bJ]at h;unfold js aF;omega
def W5(a:∀m∈ms,cq m.2=true)(hl:l=ms.length)(hlen:l<1000000)(U:T B (ah 4 q l c (aW ms)::H) (K (.bool (decide (0<=f/\f<=1048576))))):T B (ah 4 q l c (aW ms)::H) (ad P 517 #[J f,.slice q l c] K):=by
 apply an (Pm _ _ _ _);repeat' first|apply St.go|refine S2.go (λ_=>?_) λ_=>?_|done
 ·refine tB (ms:=ms) (f:=λ_=>false) (by kernel_rfl) hl hlen (λm hm b t=>?_) ?_
  ·show T B _ (ad P 519 #[.agg (fL m).toArray] b)
   refine an (Pn _) (Sa.go λ_=>zG ?_);have hr:=a m hm;apply su (wO hr);rw[hr];exact St.go (af t)
  ·have:cS (λ_:Mem=>false) ms<0:=by rw[uR];intro _ _;rfl
   repeat apply St.go
   rw[cP (by omega)];rw[cM (by omega)]at U;exact U
 ·rename_i h1 d
  rw[cP (by omega)]at U;exact U
 ·rename_i h1
  rw[cP (by omega)]at U;exact U
def Ls{k:Nat}{x:Bool}(h:d[k]?=some x):(km d).toArray[k]?=some (.bool x):=by rw[dE,km,e6,h];rfl
def J0{b:Nat}{cs:aw}[h:bZ B H b cs]{x:Bool}{g:Bool->HP}(i:Nat)(a:n=(i:Int))(hl:i<l)(hc:cs[i]?=some (.bool x))(t:T B H (g x)):T B H (AW (some ⟨b,0,none⟩) l n g):=by subst a;unfold AW;rw[cR];refine ba ⟨by omega,by omega⟩ ?_;rw[aZ,aR,bI];exact iW hc t
def Hb{p1 p2 p3 b:Nat}(s:∀m∈ms,cq m.2=true)(hl:l=ms.length)(hd:d.length=ms.length)(hlen:l<1000000)(U:T B (ah 4 q l c (aW ms)::cl p1 #[.slice q l c]::cl p2 #[.slice (some ⟨b,0,none⟩) l l]::cl b (km d).toArray::cl p3 #[J f]::H) (K (J (hF f d ms)))):T B (ah 4 q l c (aW ms)::cl p1 #[.slice q l c]::cl p2 #[.slice (some ⟨b,0,none⟩) l l]::cl b (km d).toArray::cl p3 #[J f]::H) (ad P 522 #[pz p1,pz p2,pz p3] K):=by
 refine an (Pq _ _ _) (St.go ?_);subst hl;refine dh ms.length (by omega) (λk H'=>H'=ah 4 q ms.length c (aW ms)::cl p1 #[.slice q ms.length c]::cl p2 #[.slice (some ⟨b,0,none⟩) ms.length ms.length]::cl b (km d).toArray::cl p3 #[J f]::H/\∀j x,j<k->(d.zip ms)[j]?=some x->(!x.1&&decide (j1 x.2<=f))=false) ⟨rfl,by simp⟩ ?_;rintro k H' R w ⟨rfl,h⟩ n;refine S2.go (λa=>?_) λy=>?_
 ·have a:k<ms.length:=by omega
  have o:ms[k]?=some ms[k]:=bj a;have p:d[k]?=some d[k]:=bj (by omega);have hz:(d.zip ms)[k]?=some (d[k],ms[k]):=by rw[ze];exact⟨p,o⟩
  have r:(!d[k]&&decide (j1 ms[k]<=f))=false->∀j x,j<k+1->(d.zip ms)[j]?=some x->(!x.1&&decide (j1 x.2<=f))=false:=λt j x z g=>by
   by_cases e:j=k
   ·subst e;rw[hz]at g;cases g;exact t
   ·exact h j x (by omega) g
  apply eD gp (by omega) k rfl a o;repeat first|apply St.go|refine Sa.go λ_=>?_|refine Sc.go ⟨rfl,rfl⟩ ?_
  apply J0 k rfl a (Ls p);repeat' first|apply St.go|refine S2.go (λ_=>?_) λ_=>?_|done
  ·rename_i u
   apply zG;repeat apply St.go
   have hr:=s _ (eK a);apply KC (wO hr);repeat' first|apply St.go|refine S2.go (λ_=>?_) λ_=>?_|done
   ·rename_i hle
    have i:j1 ms[k]<=f:=hle
    have:hF f d ms=(k:Int):=by unfold hF cS;rw[qc h hz (by simp[u,i])]
    rw[this]at U;exact af U
   ·rename_i hle
    have i:¬j1 ms[k]<=f:=hle;exact af (n a _ ⟨rfl,r (by simp[i])⟩)
  ·rename_i v
   exact af (n a _ ⟨rfl,r (by simp[v])⟩)
 ·have:hF f d ms=-1:=by unfold hF cS;rw[oV λj x g=>h j x (by have:=(bY.1 g).1;simp at this;omega) g]
  rw[this]at U;exact U
def AE{k:Nat}(h:¬hF f d ms<0):l7 ms (k+1) f d=hF f d ms::l7 ms k (f+(ms.getD (hF f d ms).toNat (0,eM)).2.held) (d.set (hF f d ms).toNat true):=by rw[l7,aj h]
def AF{k:Nat}(h:hF f d ms<0):l7 ms k f d=[]:=by
 cases k with
 |zero=>rfl
 |succ k=>rw[l7,ag h]
def count_set{d:List Bool}{i:Nat}(h:d[i]?=some false):(d.set i true).count false+1=d.count false:=by
 induction d generalizing i with
 |nil=>simp at h
 |cons x d a=>
  cases i with
  |zero=>simp at h;subst h;simp[List.count_cons]
  |succ i=>have:=a (by simpa using h);simp only[iO,List.count_cons];omega
def zc4:zc P 4=#[.bool false]:=by kernel_rfl
def Te:P.cellsOf 4=1:=by kernel_rfl
def Lw:P.bytesOf 4=1:=by kernel_rfl
abbrev Bl(q:av)(c:Nat)(ms:List Mem)(p1 p2 p3 a b:Nat)(d:List Bool)(f:Int)(ro:Loop)(rr lp:Nat)(H0:au)(outs:aN)(p:av)(c':Nat):au:=
 ah 4 q ms.length c (aW ms)::cl p1 #[.slice q ms.length c]::cl p2 #[.slice (some ⟨a,0,none⟩) ms.length ms.length]::cl a (km d).toArray::cl p3 #[J f]::
  ah 1 p outs.length c' (iv .i64 outs)::cl b #[.slice p outs.length c']::lo lp ro .ready none::ob rr (.deferred (some []))::H0
def W6{p1 p3 b:Nat}{ro:Loop}{rr lp:Nat}{E:HP}{p0:av}{c0:Nat}(j:∀m∈ms,cq m.2=true)(hlen:ms.length<=1000)(hf:0<=f/\f<=1048576)(v:mE P ro (tq λl w U z=>i7 l (a8 (ai b 0) λA C D=>al #[J w] 3 λF=>cC P #[31,31] A C D (some (ai F 0)) 1 1 λG H I=>st (ai b 0) (Value.slice G H I) (fp l none (z (Value.bool true))))))(fin:∀p c',T B (ah 4 q ms.length c (aW ms)::ah 1 p (mZ f ms).length c' (iv .i64 (mZ f ms))::cl b #[.slice p (mZ f ms).length c']::lo lp ro .ready none::ob rr (.deferred (some []))::H0) E):T B (ah 4 q ms.length c (aW ms)::cl p1 #[.slice q ms.length c]::cl p3 #[J f]::ah 1 p0 0 c0 []::cl b #[.slice p0 0 c0]::lo lp ro .ready none::ob rr (.deferred (some []))::H0) (ad P 521 #[.func (.yield lp) #[] #[],pz p1,pz p3] λ_=>E):=by
 refine an (Pp _ _ _) (St.go ?_);refine gy (by omega) (by omega) (by omega) (by rw[Lw];omega) (by kernel_rfl) (by kernel_rfl) λe=>?_;rw[Te,zc4,lq,iP,aZ];refine Sa.go λp2=>St.go ?_;have K:(List.replicate ms.length (Value.bool false)).toArray=(km (List.replicate ms.length false)).toArray:=by simp[km]
 rw[K]
 refine af (H':=ah 4 q ms.length c (aW ms)::cl p1 #[.slice q ms.length c]::cl p2 #[.slice (some ⟨e,0,none⟩) ms.length ms.length]::cl e (km (List.replicate ms.length false)).toArray::cl p3 #[J f]::
  ah 1 p0 0 c0 []::cl b #[.slice p0 0 c0]::lo lp ro .ready none::ob rr (.deferred (some []))::H0) ?_
 change T B (Bl q c ms p1 p2 p3 e b (List.replicate ms.length false) f ro rr lp H0 [] p0 c0) _;refine Hb j rfl (by simp) (by omega) (St.go ?_);have L:(List.replicate ms.length false).count false=ms.length:=by simp
 refine wK (λm n H'=>∃a d outs p c',n=hF a d ms/\m=d.count false/\d.length=ms.length/\outs++l7 ms m a d=mZ f ms/\outs.length+m=ms.length/\0<=a/\a<=1048576*(1+(ms.length-m:Nat))/\
  H'=Bl q c ms p1 p2 p3 e b d a ro rr lp H0 outs p c') ms.length ⟨f,_,[],p0,c0,rfl,L.symm,by simp,rfl,by simp,hf.1,by simp;omega,rfl⟩ ?_
 rintro m n H' R ⟨a,d,outs,p,c',rfl,hm,o,g,V,W,X,rfl⟩ M;refine S2.go (λY=>?_) λZ=>?_
 ·obtain⟨i,y,hi,hd,h,aa⟩:=Bk (f:=a) (d:=d) (ms:=ms) (by omega)
  have ab:=count_set hd;obtain⟨k,rfl⟩:∃k,m=k+1:=⟨m-1,by omega⟩;rw[AE (by omega),hi,aZ]at g;have N:ms.getD i (0,eM)=y:=by rw[List.getD,h];rfl
  rw[N]at g;have hr:=j y (cr h);have O:=hr;simp only[cq,bJ]at O;have r:i<ms.length:=(bY.1 h).1;rw[hi];apply St.go;have Q:(km d).toArray.setIfInBounds (0+i) (.bool true)=(km (d.set i true)).toArray:=by simp[km,jj]
  refine bL (q:=cl e (km d).toArray) (zC i rfl r (by simp[km];omega) ?_);rw[Q];repeat apply St.go
  refine aL (ah 4 q ms.length c) (mF (x:=y.2.held) i rfl r ?_ ?_)
  ·unfold aW
   rw[ht gp ms i y h 2 (by omega)];rfl
  rw[br (by omega)];repeat apply St.go
  refine bL (q:=lo lp ro .ready none) (oL v ?_);refine St.go (oC ?_);repeat first|apply St.go|refine Sa.go λ_=>?_
  refine aL (ah 1 p outs.length c') (eZ (s:=1) (c:=c') rfl (by omega) λt u=>?_);apply St.go;refine bL (q:=lo lp ro .busy none) (oD ?_);repeat apply St.go
  have S:iv .i64 outs++#[J (i:Int)].toList=iv .i64 (outs++[(i:Int)]):=by simp[iv]
  rw[S,show outs.length+1=(outs++[(i:Int)]).length by simp];refine af (H':=Bl q c ms p1 p2 p3 e b (d.set i true) (a+y.2.held) ro rr lp H0 (outs++[(i:Int)]) t u) (Hb j rfl (by simpa using o) (by omega) (St.go ?_));exact M k _ _ (by omega) ⟨a+y.2.held,d.set i true,outs++[(i:Int)],t,u,rfl,by omega,by simpa using o,by rw[el];exact g,by simp;omega,by omega,by omega,rfl⟩
 ·rw[AF (by omega),j9]at g
  subst g;exact af (fin p c')
instance acD:Sa B H (ad P 518 #[J f,.slice q l c] K) (λx:Nat×Nat=>T B (cl x.2 #[.slice q l c]::cl x.1 #[J f]::H) (K (.func (.func 521) #[] #[pz x.2,pz x.1]))):=⟨by intro U;apply an (Po _ _ _ _);refine Sa.go λa=>?_;refine Sa.go λb=>?_;exact U (a,b)⟩
def W4(a:∀m∈ms,cq m.2=true)(hlen:ms.length<=1000)(h0:kH f ms=false->T B (ah 4 q ms.length c (aW ms)::H) (K (.tuple #[.slice none 0 0,.bool false])))(h1:kH f ms=true->∀p c',T B (ah 4 q ms.length c (aW ms)::ah 1 p (mZ f ms).length c' (iv .i64 (mZ f ms))::H) (K (.tuple #[.slice p (mZ f ms).length c',.bool true]))):T B (ah 4 q ms.length c (aW ms)::H) (ad P 516 #[J f,.slice q ms.length c] K):=by
 refine an (Pj _ _ _ _) (W5 a rfl (by omega) ?_);have b:ms.all (λm=>cq m.2)=true:=by rw[iq];exact a
 apply St.go;by_cases hf:0<=f/\f<=1048576
 ·rw[cM hf]
  apply aI rfl;have hs:kH f ms=decide (ms.length<=(mZ f ms).length):=by unfold kH;rw[cM hf,b];rfl
  refine gy (by omega) (by omega) (by omega) (by rw[kZ];omega) (by kernel_rfl) (by kernel_rfl) λg=>?_;rw[l5,mr,lq,iP,aZ];refine kk (l:=ms.length) 1 (by simp) (rG (m:=0) (by omega) ?_);rw[ua,sf];refine Sa.go λd=>St.go (Sa.go λx=>?_);obtain⟨p3,p1⟩:=x;refine pR (by kernel_rfl) λro rr lp e=>?_;refine af (H':=ah 4 q ms.length c (aW ms)::cl p1 #[.slice q ms.length c]::cl p3 #[J f]::ah 1 (some ⟨g,0,none⟩) 0 ms.length []::cl d #[.slice (some ⟨g,0,none⟩) 0 ms.length]::lo lp ro .ready none::ob rr (.deferred (some []))::H) ?_;refine W6 a hlen hf e λp c'=>?_;refine bL (q:=lo lp ro .ready none) (qU (by simp) ?_);repeat' first|apply St.go|refine S2.go (λ_=>?_) λ_=>?_|done
  ·rename_i h
   refine bL (q:=ob rr (.deferred (some []))) (oK ?_);exact af (h0 (by rw[hs];exact cP (by omega)))
  ·rename_i h
   refine bL (q:=ob rr (.deferred (some []))) (oK ?_);exact af (h1 (by rw[hs];exact cM (by omega)) p c')
 ·rw[cP hf]
  apply bo rfl;exact h0 (by unfold kH;rw[cP hf];rfl)
def G'(a:∀m∈ms,cq m.2=true)(hlen:ms.length<=1000)(U:T B (ah 4 q ms.length c (aW ms)::H) (K (.bool (kH f ms)))):T B (ah 4 q ms.length c (aW ms)::H) (ad P 515 #[J f,.slice q ms.length c] K):=by
 refine an (Pk _ _ _ _) (W4 a hlen (λhs=>?_) λhs p c'=>?_)
 ·rw[hs]at U
  exact St.go U
 ·rw[hs]at U
  exact St.go (af U)
def q8(f w:Int):Bool:=decide (0<=f/\0<=w/\f<=1048576/\w<=1048576-f)
instance abw{w:Int}:St B H (ad P 512 #[J f,J w] K) (T B H (K (.tuple #[J (if q8 f w then f+w else 0),.bool (q8 f w)]))):=⟨by
 intro U;apply an (Mn _ _);unfold q8 at U;repeat' first|refine S2.go (λ_=>?_) λ_=>?_|done
 ·rw[cP (by omega)]at U;exact U
 ·rw[cP (by omega)]at U;exact U
 ·rw[cP (by omega)]at U;exact U
 ·rename_i h1 b c a
  rw[br (by omega)]at a;rw[cP (by omega)]at U;exact U
 ·rename_i h1 b c a
  rw[br (by omega)]at a;rw[cM (by omega),ag rfl]at U;rw[br (by omega)];exact U⟩
def K3{w:Int}(b:∀m∈ms,cq m.2=true)(hlen:ms.length<=1000)(U:T B (ah 4 q ms.length c (aW ms)::H) (K (.bool (q8 f w&&kH (f+w) ms)))):T B (ah 4 q ms.length c (aW ms)::H) (ad P 514 #[J f,J w,.slice q ms.length c] K):=by
 apply an (Mm _ _ _ _ _);repeat' first|apply St.go|refine S2.go (λ_=>?_) λ_=>?_|done
 ·rename_i a
  rw[ag a];rw[a]at U;exact G' b hlen (St.go U)
 ·rename_i a
  rw[a]at U;exact U
def AG(m:Mem)(n:Int):Mem:=(m.1,Ac.cu.ej m.2 n)
def lW(ms:List Mem)(at' n:Int):Bool:=decide (0<=at'/\at'<(ms.length:Int))&&decide (Ac.cu.err (ms.getD at'.toNat (0,eM)).2 n=0)
def after(ms:List Mem)(at' n:Int):List Mem:=ms.set at'.toNat (AG (ms.getD at'.toNat (0,eM)) n)
def DM{g:aw->HP}[h:Rd B H q (aW ms)]{y:Mem}(i:Nat)(b:n=(i:Int))(hl:i<l)(a:ms[i]?=some y)(t:T B H (g #[J y.2.dZ,J y.2.held,J y.2.cB])):T B H (xw q l n 4 1 3 g):=by
 subst b;have hi:i<ms.length:=(bY.1 a).1;have d:=dj gp ms;unfold xw;refine oI h.rd (by unfold aW;omega) λx c=>ba ⟨by omega,by omega⟩ ?_;subst c;rw[aZ,add_add];refine DW h.rd #[J y.2.dZ,J y.2.held,J y.2.cB] rfl (by unfold aW;omega) (λj e=>?_) t;rw[show i*4+1+j=i*4+(1+j) by omega];unfold aW;rw[ht gp ms i y a (1+j) (by omega)];obtain rfl|rfl|rfl:j=0\/j=1\/j=2:=by omega
 all_goals rfl
def IY:zc P 57=(fL (0,eM)).toArray:=by kernel_rfl
def EL:P.cellsOf 57=4:=by kernel_rfl
def Ep:P.bytesOf 57=32:=by kernel_rfl
def DH{b:Nat}{cs:aw}{K:aK}[h:Rd B H0 q (aW ms)](hs:cs.size=ms.length*4)(t:T B (cl b (aW ms).toArray::H0) (K (J ms.length))):T B (cl b cs::H0) (aH P (Builtin.copy_ #[32,32] 3 #[.slice (some ⟨b,0,none⟩) ms.length ms.length,.slice q ms.length c]) K):=by
 have d:=dj gp ms;refine um (o:=0) (s:=4) (elem:=57) rfl (by kernel_rfl) (by kernel_rfl) (by kernel_rfl) (ys:=aW ms) (Rd.rd) (by simpa[aW]using d) (λv a=>?_) (by simp;omega) ?_
 ·obtain⟨m,hm,a⟩:=lL.1 a
  simp only[fL,cL,jJ,jm]at a;rcases a with rfl|rfl|rfl|rfl<;>rfl
 ·have e:eB cs 0 (aW ms)=(aW ms).toArray:=by obtain⟨cl⟩:=cs;rw[kI _ _ _ (by simp at hs;simp[aW,d,hs])];have:cl.drop (0+(aW ms).length)=[]:=om (by simp at hs;simp[aW,d,hs]);rw[this];simp
  rw[e];simpa using t
def GA{i:Nat}{y:Mem}{a:Acc}(b:ms[i]?=some y):eB (aW ms).toArray (i*4+1) [J a.dZ,J a.held,J a.cB]=(aW (ms.set i (y.1,a))).toArray:=by
 have hi:i<ms.length:=(bY.1 b).1;have c:=dj gp ms;rw[kI _ _ _ (by simp only[aW,c,c8,gH];omega)];congr 1;unfold aW;rw[<-yo gp hi]
 have h0:(ms.flatMap fL)[i*4]?=some (J y.1):=by have:=ht gp ms i y b 0 (by omega);simpa using this
 rw[ef h0,el];rfl
def K1{a m:Int}(e:∀x∈ms,cq x.2=true)(hlen:ms.length<=1000)(h0:lW ms a m=false->T B (ah 4 q ms.length c (aW ms)::H) (K (.tuple #[.slice none 0 0,.bool false])))(h1:lW ms a m=true->∀k,T B (ah 4 q ms.length c (aW ms)::ah 4 (some ⟨k,0,none⟩) ms.length ms.length (aW (after ms a m))::H) (K (.tuple #[.slice (some ⟨k,0,none⟩) ms.length ms.length,.bool true]))):T B (ah 4 q ms.length c (aW ms)::H) (ad P 513 #[.slice q ms.length c,J a,J m] K):=by
 apply an (Mk _ _ _ _ _);repeat' first|apply St.go|refine S2.go (λ_=>?_) λ_=>?_|done
 ·exact h0 (by unfold lW;rw[cP (by omega)];rfl)
 ·exact h0 (by unfold lW;rw[cP (by omega)];rfl)
 ·rename_i n o
  obtain⟨i,rfl⟩:∃i:Nat,a=i:=⟨a.toNat,by omega⟩;have hi:i<ms.length:=by omega
  have b:ms[i]?=some ms[i]:=bj hi;have d:ms.getD (i:Int).toNat (0,eM)=ms[i]:=by rw[aZ,List.getD,b];rfl
  have hr:=e _ (eK hi);refine DM i rfl hi b (zL (wO hr) ?_);repeat' first|apply St.go|refine Sa.go λ_=>?_|refine S2.go (λ_=>?_) λ_=>?_|refine Sc.go ⟨rfl,rfl⟩ ?_|done
  ·rename_i he
   refine af (h0 ?_);unfold lW;rw[d,cP he,CP]
  ·rename_i k he
   have h:lW ms i m=true:=by unfold lW;rw[d,cM he,cM (by omega)];rfl
   have h1:=h1 h;refine gy (by omega) (by omega) (by omega) (by rw[Ep];omega) (by kernel_rfl) (by kernel_rfl) λg=>?_;rw[EL,IY,aZ,qx (f:=fL) (s:=4) (0,eM) rfl (by omega)];apply DH (by simp[dj gp]);repeat first|apply St.go|refine Sc.go (by first|omega|rfl) ?_
   rw[aR,aR,aZ,bI];have j:Ac.cu.val ms[i].2 m=Ac.cu.ej ms[i].2 m:=by unfold Ac.val;rw[ag he]
   rw[j];refine bL (q:=cl g (aW ms).toArray) (nH rfl (by simp[aW,dj gp];omega) (by simp[fH,Value.oneCell']) ?_);show T B (cl g (eB (aW ms).toArray (i*4+1) [J _,J _,J _])::_) _;rw[GA b];have ha:after ms i m=ms.set i (ms[i].1,Ac.cu.ej ms[i].2 m):=by unfold after;rw[d,aZ];rfl
   have h1:=h1 g;rw[ha]at h1;exact kk (l:=ms.length) 4 (by simp[aW,dj gp]) (af h1)
def D5{a m:Int}(c:∀x∈ms,cq x.2=true)(h:lW ms a m=true):(∀x∈after ms a m,cq x.2=true)/\1<=m/\m<=1048576:=by
 unfold lW at h;simp only[cg,bJ]at h;obtain⟨ha,he⟩:=h;unfold Ac.err at he;split at he
 ·rename_i h1
  split at he
  ·rename_i b
   refine⟨λx d=>?_,h1.2,b.1⟩;rcases ka d with h|rfl
   ·exact c x h
   ·exact b.2
  ·cases he
 ·cases he
def qn(f w:Int)(ms:List Mem)(a m:Int):Bool:=q8 f w&&decide (m<=f)&&lW ms a m&&(q8 (f-m) w&&kH (f-m+w) (after ms a m))
def K2{w a m:Int}(e:∀x∈ms,cq x.2=true)(hlen:ms.length<=1000)(U:T B (ah 4 q ms.length c (aW ms)::H) (K (.bool (qn f w ms a m)))):T B (ah 4 q ms.length c (aW ms)::H) (ad P 508 #[J f,J w,.slice q ms.length c,J a,J m] K):=by
 apply an (Ml _ _ _ _ _ _ _);unfold qn at U;repeat' first|apply St.go|refine S2.go (λ_=>?_) λ_=>?_|done
 ·rename_i b
  rw[b]at U;exact U
 ·rename_i b hm
  rw[cP (by omega)]at U;simpa using U
 ·rename_i b hm
  refine K1 e hlen (λd=>?_) λd k=>?_
  ·rw[d]at U
   repeat apply St.go
   simpa using U
  ·obtain⟨g,h1,h⟩:=D5 e d
   have i:0<=f/\0<=w/\f<=1048576/\w<=1048576-f:=by unfold q8 at b;exact sg b
   rw[b,d,cM (by omega)]at U;have hl:(after ms a m).length=ms.length:=by simp[after]
   repeat apply St.go
   rw[br (by omega)];rw[<-hl];refine cp (cA _ _ _) (K3 g (by omega) (St.go ?_));rw[hl];exact af U
end
end
section
abbrev lY(p0:av)(c0:Nat)(p3:av)(c3:Nat)(f w:Int)(ts:List Tk)(ms:List Mem):aw:=#[.slice p0 ts.length c0,.slice p3 ms.length c3,J f,J w]
def gQ(ms:List Mem)(t:Tk):Int:=cS (λm:Mem=>m.1==t.aO) ms
section
variable {B:Heap}{H H0:au}{K:aK}{f w n:Int}{p0 p3:av}{c0 c3 i:Nat}{ts:List Tk}{ms:List Mem}{t:Tk}
def B7(a:ts[i]?=some t)(hlen:ms.length<1000000)(U:T B (ah 5 p0 ts.length c0 (ts.flatMap aD)::ah 4 p3 ms.length c3 (aW ms)::H) (K (J (gQ ms t)))):T B (ah 5 p0 ts.length c0 (ts.flatMap aD)::ah 4 p3 ms.length c3 (aW ms)::H) (ad P 503 #[.agg (lY p0 c0 p3 c3 f w ts ms),J i] K):=by
 apply an (QQ _ _);have hi:i<ts.length:=(bY.1 a).1;repeat first|apply St.go|refine Sa.go λ_=>?_
 refine tB (ms:=ms) (f:=λm=>m.1==t.aO) (by kernel_rfl) rfl hlen (λm hm b t2=>?_) ?_
 ·rename_i aa ak
  show T B _ (ad P 510 #[.agg (fL m).toArray,.pointer _,.pointer _] b);apply an (QR _ _ _);repeat first|apply St.go|refine Sa.go λ_=>?_
  refine aL (ah 5 p0 ts.length c0) (mF (x:=t.aO) i rfl hi ?_ ?_)
  ·rw[ht eS ts i t a 1 (by omega)];rfl
  ·exact af t2
 ·exact St.go (af U)
def Za{q:av}{l c:Nat}{ts:List Tk}{g:Nat}{ca:aw}{p:Tk->Bool}(o:fW P g=true)[hr:Rd B H q (ts.flatMap aD)](hl:l<=ts.length)(hlen:l<1000000)(hf:∀m∈ts,∀h:aK,T B H (h (.bool (p m)))->T B H (ad P g (Array.mk (Array.toList #[]++[Value.agg (aD m).toArray]++Array.toList ca)) h))(U:T B H (K (J (cS p (ts.take l))))):T B H (ad P 511 #[.slice q l c,.func (.func g) #[] ca] K):=by
 refine an (Ez _ _ _ _ _) (dh l (by omega) (λk H'=>H'=H/\∀j x,j<k->(ts.take l)[j]?=some x->p x=false) ⟨rfl,by simp⟩ ?_);rintro k H' R s ⟨rfl,b⟩ r;refine S2.go (λ_=>?_) λ_=>?_
 ·have d:k<l:=by omega
  have i:ts[k]?=some ts[k]:=bj (by omega);have n:(ts.take l)[k]?=some ts[k]:=by rw[List.getElem?_take_of_lt d];exact i
  refine eD eS (by omega) k rfl d i (lR o (hf _ (eK (by omega)) _ ?_));repeat' first|apply St.go|refine S2.go (λ_=>?_) λ_=>?_|done
  ·rename_i f
   unfold cS at U;rw[qc b n f]at U;exact U
  ·rename_i f
   refine r d _ ⟨rfl,λj x t a=>?_⟩;by_cases e:j=k
   ·subst e;rw[n]at a;cases a;exact f
   ·exact b j x (by omega) a
 ·unfold cS at U
  rw[oV λj x a=>b j x (by have:=(bY.1 a).1;simp at this;omega) a]at U;exact U
def mi(f w:Int)(ts:List Tk)(ms:List Mem)(i:Nat)(t:Tk):Nat->Bool
 |0=>false
 |1=>decide (gQ ms t<0)
 |2=>decide (0<=cS (λx:Tk=>x.aO==t.aO) (ts.take i))
 |3=>!qn f w ms (gQ ms t) t.count
 |_=>decide (0<i)&&((ms.getD (gQ ms t).toNat (0,eM)).2.held==0)&&decide (8<=(ts.getD 0 dy).b4)
def YZ(a:ts[i]?=some t)(U:T B H (K (.bool false))):T B H (ad P 501 #[.agg (lY p0 c0 p3 c3 f w ts ms),J i] K):=by
 apply an (QT _ _);have hi:i<ts.length:=(bY.1 a).1;repeat' first|apply St.go|refine Sa.go λ_=>?_|refine S2.go (λ_=>?_) λ_=>?_|done
 ·omega
 ·rw[cP (by omega)];exact af U
def Y0(a:ts[i]?=some t)(hlen:ms.length<1000000)(U:T B (ah 5 p0 ts.length c0 (ts.flatMap aD)::ah 4 p3 ms.length c3 (aW ms)::H) (K (.bool (decide (gQ ms t<0))))):T B (ah 5 p0 ts.length c0 (ts.flatMap aD)::ah 4 p3 ms.length c3 (aW ms)::H) (ad P 502 #[.agg (lY p0 c0 p3 c3 f w ts ms),J i] K):=by
 apply an (QU _ _);repeat first|refine Sa.go λ_=>?_|refine Sc.go rfl ?_
 rename_i k;refine af (H':=ah 5 p0 ts.length c0 (ts.flatMap aD)::ah 4 p3 ms.length c3 (aW ms)::cl k (lY p0 c0 p3 c3 f w ts ms)::H) (B7 a hlen ?_);exact St.go (af U)
def Y1(a:ts[i]?=some t)(hlen:ts.length<1000000)(c:ts.length<=c0)(U:T B (ah 5 p0 ts.length c0 (ts.flatMap aD)::ah 4 p3 ms.length c3 (aW ms)::H) (K (.bool (decide (0<=cS (λx:Tk=>x.aO==t.aO) (ts.take i)))))):T B (ah 5 p0 ts.length c0 (ts.flatMap aD)::ah 4 p3 ms.length c3 (aW ms)::H) (ad P 504 #[.agg (lY p0 c0 p3 c3 f w ts ms),J i] K):=by
 apply an (QV _ _);have hi:i<ts.length:=(bY.1 a).1;repeat first|apply St.go|refine Sa.go λ_=>?_|refine Sc.go (by omega) ?_
 rename_i aa ak;rw[lx,aZ,iQ];apply an (Q8 _ _ _ _ _);refine Za (ts:=ts) (p:=λx=>x.aO==t.aO) (by kernel_rfl) (by omega) (by omega) (λm hm b t2=>?_) ?_
 ·show T B _ (ad P 505 #[.agg (aD m).toArray,.pointer _,.pointer _] b)
  apply an (QW _ _ _);repeat first|apply St.go|refine Sa.go λ_=>?_
  refine aL (ah 5 p0 ts.length c0) (mF (x:=t.aO) i rfl hi ?_ ?_)
  ·rw[ht eS ts i t a 1 (by omega)];rfl
  ·exact af t2
 ·repeat apply St.go
  exact af U
def JC{a:Addr}{ys:az}{j:Nat}{v:Value}{p:HP}(h:bF B H (some a) ys)(hc:ys[j]?=some v)(t:T B H p):T B H (c7 (λσ=>b0 σ (a.add j)=some v) p):=by
 refine e7 (λσ o=>?_) t;rcases h σ o with⟨h,_⟩|⟨a',h,b⟩
 ·cases h
 ·cases h
  exact(b j (bY.1 hc).1).trans hc
def Y2(b:ts[i]?=some t)(d:∀m∈ms,cq m.2=true)(hlen:ms.length<=1000)(U:T B (ah 5 p0 ts.length c0 (ts.flatMap aD)::ah 4 p3 ms.length c3 (aW ms)::H) (K (.bool (!qn f w ms (gQ ms t) t.count)))):T B (ah 5 p0 ts.length c0 (ts.flatMap aD)::ah 4 p3 ms.length c3 (aW ms)::H) (ad P 507 #[.agg (lY p0 c0 p3 c3 f w ts ms),J i] K):=by
 apply an (QX _ _);have hi:i<ts.length:=(bY.1 b).1;have e:=dj eS ts;have c:(ts.flatMap aD)[i*5+2]?=some (J t.count):=by rw[ht eS ts i t b 2 (by omega)];rfl
 refine Sa.go λk=>St.go (St.go (St.go (Sc.go rfl (St.go ?_))));refine af (H':=ah 5 p0 ts.length c0 (ts.flatMap aD)::ah 4 p3 ms.length c3 (aW ms)::cl k (lY p0 c0 p3 c3 f w ts ms)::H) ?_;refine oI (q:=p0) (ys:=ts.flatMap aD) bF.j2 (by omega) λa ha=>ba ⟨by omega,by omega⟩ ?_;subst ha;rw[aZ,add_add];refine uu bF.j2 c (B7 b (by omega) (St.go (JC bF.j2 c ?_)));iterate 4 (apply St.go)
 refine cp (cA _ _ _) (K2 d hlen ?_);exact St.go (af U)
def Y3(d:ts[i]?=some t)(hm:¬gQ ms t<0)(U:T B (ah 5 p0 ts.length c0 (ts.flatMap aD)::ah 4 p3 ms.length c3 (aW ms)::H) (K (.bool (mi f w ts ms i t 4))))(hlen:ms.length<=1000):T B (ah 5 p0 ts.length c0 (ts.flatMap aD)::ah 4 p3 ms.length c3 (aW ms)::H) (ad P 509 #[.agg (lY p0 c0 p3 c3 f w ts ms),J i] K):=by
 apply an (QY _ _);unfold mi at U;have hi:i<ts.length:=(bY.1 d).1;have o:=dj eS ts;have h0:ts[0]?=some ts[0]:=bj (by omega);have g:(ts.flatMap aD)[0*5+4]?=some (J ts[0].b4):=by rw[ht eS ts 0 ts[0] h0 4 (by omega)];rfl
 have h:ts.getD 0 dy=ts[0]:=by rw[List.getD,h0];rfl
 obtain⟨j,y,l,b,hyp⟩:=rB hm;have e:gQ ms t=j:=l;have m:ms.getD (gQ ms t).toNat (0,eM)=y:=by rw[e,aZ,List.getD,b];rfl
 rw[m,h]at U
 replace U:T B (ah 5 p0 ts.length c0 (ts.flatMap aD)::ah 4 p3 ms.length c3 (aW ms)::H) (K (.bool (decide (0<i)&&(y.2.held==0)&&decide (8<=ts[0].b4)))):=U
 repeat' first|apply St.go|refine Sa.go λ_=>?_|refine S2.go (λ_=>?_) λ_=>?_|refine Sc.go rfl ?_|done
 ·rename_i k n
  refine af (H':=ah 5 p0 ts.length c0 (ts.flatMap aD)::ah 4 p3 ms.length c3 (aW ms)::cl k (lY p0 c0 p3 c3 f w ts ms)::H) ?_;apply B7 d (by omega);rw[e];repeat apply St.go
  refine aL (ah 4 p3 ms.length c3) (mF (x:=y.2.held) j rfl (bY.1 b).1 ?_ ?_)
  ·unfold aW;rw[ht gp ms j y b 2 (by omega)];rfl
  repeat' first|apply St.go|refine S2.go (λ_=>?_) λ_=>?_|done
  ·rename_i c
   refine aL (ah 5 p0 ts.length c0) (oI (q:=p0) (ys:=ts.flatMap aD) bF.j2 (by omega) λa ha=>ba ⟨by omega,by omega⟩ ?_);subst ha;rw[add_add];refine uu bF.j2 g (af (dT U ?_));simp[c,show 0<i by omega]
  ·rename_i c
   refine af (dT U ?_);simp[c]
 ·rename_i k n
  refine af (dT U ?_);simp[show¬0<i by omega]
abbrev yp:aw:=#[J 1,.func (.func 501) #[] #[],J 2,.func (.func 502) #[] #[],J 3,.func (.func 504) #[] #[],J 4,.func (.func 507) #[] #[],J 5,.func (.func 509) #[] #[]]
instance ac1:Sa B H (ad P 486 #[] K) (λk=>T B (cl k yp::H) (K (.slice (some ⟨k,0,none⟩) 5 5))):=⟨by
 intro U;apply an (QS);iterate 5 (refine ba rfl ?_)
 exact Sa.go λk=>U k⟩
def r1(f w:Int)(ts:List Tk)(ms:List Mem)(i:Nat)(t:Tk):Int:=if mi f w ts ms i t 0 then 1 else if mi f w ts ms i t 1 then 2 else if mi f w ts ms i t 2 then 3 else if mi f w ts ms i t 3 then 4 else if mi f w ts ms i t 4 then 5 else 0
def yq(k:Nat):Nat:=match k with|0=>501|1=>502|2=>504|3=>507|_=>509
def Yo:∀k,k<5->fW P (yq k)=true:=by
 intro k U;obtain rfl|rfl|rfl|rfl|rfl:k=0\/k=1\/k=2\/k=3\/k=4:=by omega
 all_goals kernel_rfl
def YY{k:Nat}(e:k<5)(a:ts[i]?=some t)(b:∀m∈ms,cq m.2=true)(hlen:ms.length<=1000)(g:ts.length<=1000000-1)(c:ts.length<=c0)(d:∀j,j<k->mi f w ts ms i t j=false)(U:T B (ah 5 p0 ts.length c0 (ts.flatMap aD)::ah 4 p3 ms.length c3 (aW ms)::H) (K (.bool (mi f w ts ms i t k)))):T B (ah 5 p0 ts.length c0 (ts.flatMap aD)::ah 4 p3 ms.length c3 (aW ms)::H) (ad P (yq k) #[.agg (lY p0 c0 p3 c3 f w ts ms),J i] K):=by
 obtain rfl|rfl|rfl|rfl|rfl:k=0\/k=1\/k=2\/k=3\/k=4:=by omega
 ·exact YZ a U
 ·exact Y0 a (by omega) U
 ·exact Y1 a (by omega) c U
 ·exact Y2 a b hlen U
 ·exact Y3 a (by have:=d 1 (by omega);simpa[mi]using this) U hlen
def YX(g:ts[i]?=some t)(h:∀m∈ms,cq m.2=true)(hlen:ms.length<=1000)(l:ts.length<=1000000-1)(U:T B (ah 5 p0 ts.length c0 (ts.flatMap aD)::ah 4 p3 ms.length c3 (aW ms)::H) (K (J (r1 f w ts ms i t)))):T B (ah 5 p0 ts.length c0 (ts.flatMap aD)::ah 4 p3 ms.length c3 (aW ms)::H) (ad P 450 #[.slice p0 ts.length c0,J i,J f,J w,.slice p3 ms.length c3] K):=by
 refine xU λ_ n=>an (QP _ _ _ _ _ _ _ _ _) (Sa.go λaa=>Sc.go ⟨rfl,rfl⟩ (Sa.go λc=>St.go (af (dh 5 (by omega) (λk H'=>H'=ah 5 p0 ts.length c0 (ts.flatMap aD)::ah 4 p3 ms.length c3 (aW ms)::cl c yp::cl aa (lY p0 c0 p3 c3 f w ts ms)::H/\∀j,j<k->mi f w ts ms i t j=false) ⟨rfl,λj d=>by omega⟩ ?_))));rintro k H' R r ⟨rfl,a⟩ o;refine S2.go (λhl=>?_) λs=>?_
 ·have b:k<5:=by omega
  have p:∀j,j<2->yp.toList[k*2+j]?=(#[J ((k:Int)+1),.func (.func (yq k)) #[] #[]]:aw)[j]?:=λj d=>by
   obtain rfl|rfl|rfl|rfl|rfl:k=0\/k=1\/k=2\/k=3\/k=4:=by omega
   all_goals (obtain rfl|rfl:j=0\/j=1:=by omega)
   all_goals rfl
  refine DL k rfl b (by omega) rfl (by simp;omega) p ?_;repeat first|apply St.go|refine Sa.go λ_=>?_|refine Sc.go (by first|rfl|exact⟨rfl,rfl⟩) ?_
  apply nJ (Yo k b);rename_i q;refine af (H':=ah 5 p0 ts.length c0 (ts.flatMap aD)::ah 4 p3 ms.length c3 (aW ms)::cl q #[J ((k:Int)+1),.func (.func (yq k)) #[] #[]]::cl c yp::cl aa (lY p0 c0 p3 c3 f w ts ms)::H) ?_;apply YY b g h hlen l n a;repeat' first|apply St.go|refine S2.go (λ_=>?_) λ_=>?_|done
  ·rename_i hr
   have hw:r1 f w ts ms i t=(k:Int)+1:=by
    unfold r1;obtain rfl|rfl|rfl|rfl|rfl:k=0\/k=1\/k=2\/k=3\/k=4:=by omega
    ·simp[hr]
    ·simp[hr,a 0]
    ·simp[hr,a 0,a 1]
    ·simp[hr,a 0,a 1,a 2]
    ·simp[hr,a 0,a 1,a 2,a 3]
   rw[hw]at U;exact af U
  ·rename_i hr
   refine af (o b _ ⟨rfl,λj d=>?_⟩);by_cases e:j=k
   ·subst e;exact hr
   ·exact a j (by omega)
 ·have hw:r1 f w ts ms i t=0:=by unfold r1;simp[a 0 (by omega),a 1 (by omega),a 2 (by omega),a 3 (by omega),a 4 (by omega)]
  rw[hw]at U;exact af U
def goes(f w:Int)(ts:List Tk)(ms:List Mem)(i:Nat):Bool:=r1 f w ts ms i (ts.getD i dy)==0
def ih(f w:Int)(ts:List Tk)(ms:List Mem):Int:=cS (goes f w ts ms) (List.range ts.length)
def B6(n:∀m∈ms,cq m.2=true)(hlen:ms.length<=1000)(o:ts.length<=1000000-1)(U:T B (ah 5 p0 ts.length c0 (ts.flatMap aD)::ah 4 p3 ms.length c3 (aW ms)::H) (K (J (ih f w ts ms)))):T B (ah 5 p0 ts.length c0 (ts.flatMap aD)::ah 4 p3 ms.length c3 (aW ms)::H) (ad P 372 #[.slice p0 ts.length c0,J f,J w,.slice p3 ms.length c3] K):=by
 refine an (QO _ _ _ _ _ _ _ _) (dh ts.length (by omega) (λk H'=>H'=ah 5 p0 ts.length c0 (ts.flatMap aD)::ah 4 p3 ms.length c3 (aW ms)::H/\∀j,j<k->goes f w ts ms j=false) ⟨rfl,λj b=>by omega⟩ ?_);rintro k H' R q ⟨rfl,g⟩ p
 have h:∀(j:Nat) (x:Nat),j<k->(List.range ts.length)[j]?=some x->goes f w ts ms x=false:=λj x b a=>by rw[tU (by omega)]at a;cases a;exact g j b
 refine S2.go (λhl=>?_) λr=>?_
 ·have c:k<ts.length:=by omega
  have i:ts[k]?=some ts[k]:=bj c;have l:ts.getD k dy=ts[k]:=by rw[List.getD,i];rfl
  refine an (QN _ _ _ _ _ _ _ _ _) (YX i n hlen o ?_);repeat' first|apply St.go|refine S2.go (λ_=>?_) λ_=>?_|done
  all_goals (rename_i hw)
  ·have d:goes f w ts ms k=true:=by unfold goes;rw[l];simpa using hw
   have:ih f w ts ms=k:=by unfold ih cS;rw[qc h (tU c) d]
   rw[this]at U;exact U
  ·have d:goes f w ts ms k=false:=by unfold goes;rw[l];simpa using hw
   refine p c _ ⟨rfl,λj b=>?_⟩;by_cases e:j=k
   ·subst e;exact d
   ·exact g j (by omega)
 ·have:ih f w ts ms=-1:=by unfold ih cS;rw[oV λj x a=>h j x (by have:=(bY.1 a).1;simp at this;omega) a]
  rw[this]at U;exact U
end
end
section
section
variable {B:Heap}{H H0:au}{K:aK}{p:av}{l c i:Nat}{ts:List Tk}
def DU{s b l c:Nat}{xs rest:az}{q:HP}(a:xs.length=l*s)(d:l<=c)(e:(xs++rest).length=c*s)(t:T B (ah s (some ⟨b,0,none⟩) l c xs::H) q):T B (cl b (xs++rest).toArray::H) q:=by intro σ o;obtain⟨ch,⟨l1,l2,f,h1,g⟩,h⟩:=o.own;exact t σ ⟨o.base,o.size,ch,⟨l1,l2,f,⟨a,d,.inr ⟨b,rest,rfl,e,h1⟩⟩,g⟩,h⟩
def Uq{k:Nat}(U:k<=ts.length):(ts.flatMap aD).drop (k*5)=(ts.drop k).flatMap aD:=by
 have:ts.flatMap aD=(ts.take k).flatMap aD++(ts.drop k).flatMap aD:=by rw[<-oo,kd]
 rw[this,za (by rw[dj eS];simp;omega)]
def Ur{k:Nat}(U:k<=ts.length):(ts.flatMap aD).take (k*5)=(ts.take k).flatMap aD:=by
 have:ts.flatMap aD=(ts.take k).flatMap aD++(ts.drop k).flatMap aD:=by rw[<-oo,kd]
 rw[this,qO (by rw[dj eS];simp;omega)]
def Y8(hi:i<ts.length)(hlen:ts.length<100000)(U:T B (ah 5 p (ts.length-1) c ((ts.eraseIdx i).flatMap aD)::H) (K (.slice p (ts.length-1) c))):T B (ah 5 p ts.length c (ts.flatMap aD)::H) (ad P 412 #[.slice p ts.length c,J i,J ((i:Int)+1)] K):=by
 refine an (Ra _ _ _ _ _) (qY (λh0 h1 z A=>by omega) λb rest n C D q=>?_);subst n;refine ba (by omega) (ba (by omega) (ba (by omega) ?_));apply aI (by simp;omega);refine ba (by omega) (ba (by omega) ?_);rw[aZ,show((i:Int)+1).toNat=i+1 by omega,lx,iQ,iQ];have a:((ts.drop (i+1)).flatMap aD).length=(ts.length-(i+1))*5:=by rw[dj eS];simp
 have r:bF B (cl b (ts.flatMap aD++rest).toArray::H) (da (some ⟨b,0,none⟩) 5 (i+1) c) ((ts.drop (i+1)).flatMap aD):=by
  unfold da;by_cases hc:c=i+1
  ·rw[ag hc]
   refine bF.nU λj f=>?_;rw[a]at f;omega
  ·rw[aj hc]
   simp only[iy,aR];refine bF.nU λj f=>?_;rw[a]at f;rw[dE,bI,gx (by omega),<-Uq (by omega),pF]
 have t:∀(us:List Tk),∀v∈us.flatMap aD,v.oneCell'=true:=λus v e=>by obtain⟨m,hm,e⟩:=lL.1 e;simp only[aD,cL,jJ,jm]at e;rcases e with rfl|rfl|rfl|rfl|rfl<;>rfl
 have g:(ts.flatMap aD++rest).length=c*5:=q;apply zN (o:=0) (s:=5) (elem:=160) rfl rfl (by kernel_rfl) (by kernel_rfl) (by kernel_rfl) (by kernel_rfl) r a (t _) (by omega) (by simp only[hP,g];omega);rw[kI _ _ _ (by rw[g,a];omega),bI,a];have u:(ts.flatMap aD++rest).take (i*5)=(ts.take i).flatMap aD:=by rw[Da (by omega),Ur (by omega)]
 have w:ts.eraseIdx i=ts.take i++ts.drop (i+1):=List.eraseIdx_eq_take_drop_succ ..;rw[u,<-el,<-oo,<-w];have d:((ts.eraseIdx i).flatMap aD).length=(ts.length-1)*5:=by rw[dj eS,wj hi]
 generalize x:(ts.flatMap aD++rest).drop (i*5+(ts.length-(i+1))*5)=R1;have h:R1.length=c*5-(ts.length-1)*5:=by rw[<-x,kN,g];omega
 refine ba (by omega) (ba (by omega) ?_);rw[show i+(ts.length-(i+1))=ts.length-1 by omega];simp only[aZ]
 have y:da (some ⟨b,0,none⟩) 5 (ts.length-1) c=some ⟨b,(ts.length-1)*5,none⟩:=by unfold da;rw[aj (by omega)];simp[aR]
 rw[y,show ts.length-(ts.length-1)=1 by omega];have k:(Builtin.zeroCells (zc P 160) 1).toList=aD dy:=by kernel_rfl
 apply zz (s:=5) (elem:=160) rfl (by kernel_rfl) (by kernel_rfl) (by kernel_rfl) (by rw[k];simp[Value.oneCell']) (by simp only[hP,b',d,h];omega);rw[k,kI _ _ _ (by simp only[b',d,h,c8,gH];omega)];rw[qO d];refine DU (s:=5) (l:=ts.length-1) (c:=c) d (by omega) (by simp only[b',d,kN,h,c8,gH];omega) ?_;exact St.go U
def JP{b:Nat}{cs:aw}{K:aK}{q:av}[h:Rd B H0 q (ts.flatMap aD)](hs:cs.size=ts.length*5)(t:T B (cl b (ts.flatMap aD).toArray::H0) (K (J ts.length))):T B (cl b cs::H0) (aH P (Builtin.copy_ #[33,33] 3 #[.slice (some ⟨b,0,none⟩) ts.length ts.length,.slice q ts.length c]) K):=by
 have d:=dj eS ts;refine um (o:=0) (s:=5) (elem:=160) rfl (by kernel_rfl) (by kernel_rfl) (by kernel_rfl) (ys:=ts.flatMap aD) (Rd.rd) (by simpa using d) (λv a=>?_) (by simp;omega) ?_
 ·obtain⟨m,hm,a⟩:=lL.1 a
  simp only[aD,cL,jJ,jm]at a;rcases a with rfl|rfl|rfl|rfl|rfl<;>rfl
 ·have e:eB cs 0 (ts.flatMap aD)=(ts.flatMap aD).toArray:=by obtain⟨cl⟩:=cs;rw[kI _ _ _ (by simp at hs;simp[d,hs])];have:cl.drop (0+(ts.flatMap aD).length)=[]:=om (by simp at hs;simp[d,hs]);rw[this];simp
  rw[e];simpa using t
instance acq{n:Nat}{f:Nat->HP}:Sx B H (c5 P 160 n n f) (n<=1000000) (λq=>T B (cl q ((List.replicate n dy).flatMap aD).toArray::H) (f q)):=⟨λh t=>by refine gy (by omega) (by omega) (by omega) (by rw[wZ];omega) (by kernel_rfl) (by kernel_rfl) λq=>?_;rw[EK,CJ,aZ,show fQ dy=(aD dy).toArray from rfl,qx (f:=aD) (s:=5) _ rfl (by omega)];exact t q⟩
instance acp{n:Nat}{f:Nat->HP}:Sx B H (c5 P 57 n n f) (n<=1000000) (λq=>T B (cl q ((List.replicate n ((0,eM):Mem)).flatMap fL).toArray::H) (f q)):=⟨λh t=>by refine gy (by omega) (by omega) (by omega) (by rw[Ep];omega) (by kernel_rfl) (by kernel_rfl) λq=>?_;rw[EL,IY,aZ,qx (f:=fL) (s:=4) _ rfl (by omega)];exact t q⟩
def FJ{p0 p1:av}{c0 c1:Nat}{ms:List Mem}{f:Int}(h1:ts.length<=1000000)(d:ms.length<=1000000)(U:∀a b,T B (ah 5 (some ⟨a,0,none⟩) ts.length ts.length (ts.flatMap aD)::ah 4 (some ⟨b,0,none⟩) ms.length ms.length (aW ms)::ah 5 p0 ts.length c0 (ts.flatMap aD)::ah 4 p1 ms.length c1 (aW ms)::H) (K (.agg #[.slice none 0 0,.slice (some ⟨a,0,none⟩) ts.length ts.length,.slice (some ⟨b,0,none⟩) ms.length ms.length,J f]))):T B (ah 5 p0 ts.length c0 (ts.flatMap aD)::ah 4 p1 ms.length c1 (aW ms)::H) (ad P 304 #[.slice p0 ts.length c0,.slice p1 ms.length c1,J f] K):=by
 refine an (NL _ _ _ _ _ _ _) (Sa.go λaa=>St.go ?_)
 have fin:∀c kb k,T B (cl k #[.slice none 0 0,.slice (some ⟨c,0,none⟩) ts.length ts.length,.slice (some ⟨kb,0,none⟩) ms.length ms.length,J f]::cl c ((List.replicate ts.length dy).flatMap aD).toArray::cl kb ((List.replicate ms.length ((0,eM):Mem)).flatMap fL).toArray::
   cl aa #[.slice none 0 0,.slice none 0 0,.slice none 0 0,J 0]::ah 5 p0 ts.length c0 (ts.flatMap aD)::ah 4 p1 ms.length c1 (aW ms)::H)
   (nP (λg=>b6 g 1 λn o p=>aH P (Builtin.copy_ #[33,33] 3 #[Value.slice n o p,Value.slice p0 ts.length c0]) λv28=>db .i64 v28 λL=>b6 g 2 λr s t=>aH P (Builtin.copy_ #[32,32] 3 #[Value.slice r s t,Value.slice p1 ms.length c1]) λu=>db .i64 u λM=>jW g 0 4 λv=>gW (ai aa 0) v 4 (eQ (ai aa 0) 4 λw=>K (Value.agg w)))
   [pz k]):=λc kb k=>by
  refine St.go (St.go ?_);refine bL (q:=cl c ((List.replicate ts.length dy).flatMap aD).toArray) (JP (by simp[dj eS]) ?_);refine St.go (St.go ?_);refine bL (q:=cl kb ((List.replicate ms.length ((0,eM):Mem)).flatMap fL).toArray) (DH (by simp[dj gp]) ?_);apply St.go;unfold jW;rw[cR,aR];refine bV rfl ?_;repeat refine Sc.go (by first|rfl|exact⟨rfl,rfl⟩) ?_
  refine kk (l:=ms.length) 4 (by simp[aW,dj gp]) ?_;refine bL (q:=cl c (ts.flatMap aD).toArray) (kk (l:=ts.length) 5 (by simp[dj eS]) ?_);exact af (U c kb)
 simp only[aZ];refine e0 ?_ (e0 ?_ ?_)
 ·refine Sx.go h1 λh=>e0 ?_ ?_
  ·exact Sx.go d λx=>Sa.go λy=>Sc.go ⟨rfl,rfl⟩ (af (fin h x y))
  ·refine Sa.go λi=>Sx.go d λz=>?_
   refine bL (q:=cl i #[.slice none 0 0,.slice none 0 0,.slice none 0 0,J 0]) (Sc.go ⟨rfl,rfl⟩ ?_);exact af (fin h z i)
 ·refine Sx.go d λj=>e0 ?_ ?_
  ·exact Sx.go h1 λA=>Sa.go λC=>Sc.go ⟨rfl,rfl⟩ (af (fin A j C))
  ·refine Sa.go λm=>Sx.go h1 λD=>?_
   refine bL (q:=cl m #[.slice none 0 0,.slice none 0 0,.slice none 0 0,J 0]) (Sc.go ⟨rfl,rfl⟩ ?_);exact af (fin D j m)
 ·refine Sa.go λe=>e0 ?_ ?_
  ·refine Sx.go h1 λE=>Sx.go d λF=>?_
   refine bL (q:=cl e #[.slice none 0 0,.slice none 0 0,.slice none 0 0,J 0]) (Sc.go ⟨rfl,rfl⟩ ?_);exact af (fin E F e)
  ·refine Sx.go d λG=>Sx.go h1 λI=>?_
   refine bL (q:=cl e #[.slice none 0 0,.slice none 0 0,.slice none 0 0,J 0]) (Sc.go ⟨rfl,rfl⟩ ?_);exact af (fin I G e)
end
end
section
structure b5 where
 gs:List Tk
 ls:List Tk
 ms:List Mem
 free:Int
structure qT where
 pg:av
 cw:Nat
 pl:av
 cl:Nat
 pm:av
 cm:Nat
abbrev mh(b:Nat)(R:b5)(x:qT)(H:au):au:=
 cl b #[.slice x.pg R.gs.length x.cw,.slice x.pl R.ls.length x.cl,.slice x.pm R.ms.length x.cm,J R.free]::ah 5 x.pg R.gs.length x.cw (R.gs.flatMap aD)::ah 5 x.pl R.ls.length x.cl (R.ls.flatMap aD)::ah 4 x.pm R.ms.length x.cm (aW R.ms)::H
def gS(t:Tk):Tk:=if t.b4<1099511627776 then{t with b4:=t.b4+1}else t
def b5.at'(R:b5)(i:Nat):Tk:=R.ls.getD i dy
def b5.mT(R:b5)(i:Nat):Nat:=(gQ R.ms (R.at' i)).toNat
def b5.mem(R:b5)(i:Nat):Mem:=R.ms.getD (R.mT i) (0,eM)
def b5.cu(R:b5)(i:Nat):b5:=
 ⟨R.gs++[{R.at' i with state:=2}],((R.ls.take i).map gS++R.ls.drop i).eraseIdx i,R.ms.set (R.mT i) ((R.mem i).1,Ac.cu.val (R.mem i).2 (R.at' i).count),R.free-(R.at' i).count⟩
section
variable {B:Heap}{H H0:au}{K:aK}{b i:Nat}{R:b5}
def YO{xs rest vs:az}{o:Nat}(h:o+vs.length<=xs.length):eB (xs++rest).toArray o vs=((eB xs.toArray o vs).toList++rest).toArray:=by rw[kI _ _ _ (by rw[b'];omega),kI _ _ _ h];simp only[Da (show o<=xs.length by omega),I8 h,el]
def J2{ms:List Mem}{q:av}{l c:Nat}{n:Int}{a:Acc}{y:Mem}{k:HP}[h:Ow H (ah 4 q l c) (aW ms) H0](i:Nat)(g:n=(i:Int))(hl:i<l)(d:ms[i]?=some y)(t:T B (ah 4 q l c (aW (ms.set i (y.1,a)))::H0) k):T B H (AX q l n 4 1 #[J a.dZ,J a.held,J a.cB] 3 k):=by
 subst g;refine bf h.pl (qY (λh0 h1 r s=>by omega) λb rest j m o e=>?_);subst j;have hi:i<ms.length:=(bY.1 d).1;have p:=dj gp ms;have hm:(aW ms).length=ms.length*4:=p;unfold AX;refine nE (ba ⟨by omega,by omega⟩ ?_);rw[aZ,aR,aR,bI];refine nH rfl (by simp only[hP,b'];omega) (by simp[Value.oneCell']) ?_;rw[YO (by simp;omega)];show T B (cl b ((eB (aW ms).toArray (i*4+1) [J a.dZ,J a.held,J a.cB]).toList++rest).toArray::H0) k;rw[GA d];have f:(aW (ms.set i (y.1,a))).length=(aW ms).length:=by unfold aW;rw[dj gp,dj gp,hb]
 refine DU (by simp only[f];exact m) o (by simp only[b',f]at e⊢;exact e) ?_;exact t
def FK{x:qT}(hi:i<R.ls.length)(A:∀m∈R.ms,cq m.2=true)(hm:¬gQ R.ms (R.at' i)<0)(hl:R.ls.length<10000)(O:R.gs.length<10000)(Q:R.ms.length<=1000)(C:∀t∈R.ls,0<=t.b4)(hf:-1000000000<R.free-(R.at' i).count/\R.free-(R.at' i).count<1000000000)(U:∀p c,T B (mh b (R.cu i) {x with pg:=p,cw:=c} H) (K (.agg (aD {R.at' i with state:=2}).toArray))):T B (mh b R x H) (ad P 373 #[pz b,J i] K):=by
 apply an (NF _ _);have D:R.ls[i]?=some (R.at' i):=by unfold b5.at';rw[List.getD,bj hi];rfl
 refine Sa.go λaa=>St.go (aL (ah 5 x.pl R.ls.length x.cl) (xU λ_ S=>?_));refine eD eS (by omega) i rfl hi D (Sa.go λr=>Sc.go ⟨rfl,rfl⟩ (St.go (ba (by omega) ?_)));rw[aZ,iQ];refine af (H':=ah 5 x.pl R.ls.length x.cl (R.ls.flatMap aD)::cl b #[.slice x.pg R.gs.length x.cw,.slice x.pl R.ls.length x.cl,.slice x.pm R.ms.length x.cm,J R.free]::ah 5 x.pg R.gs.length x.cw (R.gs.flatMap aD)::ah 4 x.pm R.ms.length x.cm (aW R.ms)::cl r (aD (R.at' i)).toArray::cl aa #[J 0,J 0,J 0,J 0,J 0]::H) ?_;refine dh i (by omega) (λk H'=>H'=ah 5 x.pl R.ls.length x.cl (((R.ls.take k).map gS++R.ls.drop k).flatMap aD)::cl b #[.slice x.pg R.gs.length x.cw,.slice x.pl R.ls.length x.cl,.slice x.pm R.ms.length x.cm,J R.free]::ah 5 x.pg R.gs.length x.cw (R.gs.flatMap aD)::ah 4 x.pm R.ms.length x.cm (aW R.ms)::cl r (aD (R.at' i)).toArray::cl aa #[J 0,J 0,J 0,J 0,J 0]::H) (by simp) ?_;rintro k H' V W rfl u;refine S2.go (λl=>?_) λX=>?_
 ·have l:k<i:=by omega
  have n:R.ls[k]?=some R.ls[k]:=bj (by omega)
  have g:((R.ls.take k).map gS++R.ls.drop k)[k]?=some R.ls[k]:=by rw[iu (by simp;omega)];simp only[eX,fv,qP (show k<=R.ls.length by omega),kS,pF,mA];exact n
  have eP:((R.ls.take k).map gS++R.ls.drop k).set k (gS R.ls[k])=(R.ls.take (k+1)).map gS++R.ls.drop (k+1):=by rw[pI _ _ (by simp;omega)];simp only[eX,fv,qP (show k<=R.ls.length by omega),kS];rw[tT (show k<R.ls.length by omega),jL,ef n,eY,el];rfl
  have Y:=C _ (cr n)
  have v:(((R.ls.take k).map gS++R.ls.drop k).flatMap aD)[k*5+4]?=some (J R.ls[k].b4):=by rw[ht eS _ k _ g 4 (by omega)];rfl
  have Z:(((R.ls.take k).map gS++R.ls.drop k).flatMap aD).length=R.ls.length*5:=by rw[dj eS];simp;omega
  refine St.go (mF k rfl (by omega) v (S2.go (λE=>?_) λF=>?_))
  ·refine St.go (mF k rfl (by omega) v ?_)
   unfold qi;apply Ke rfl (by omega) (by omega) rfl;rw[br (by omega)];have o:gS R.ls[k]={R.ls[k]with b4:=R.ls[k].b4+1}:=by unfold gS;rw[ag E]
   rw[BU (a':=gS R.ls[k]) eS g (by omega) (by rw[o];rfl),eP];exact u l _ rfl
  ·have o:gS R.ls[k]=R.ls[k]:=by unfold gS;rw[aj F]
   apply u l _;rw[<-eP,o];congr 3;apply ji;intro j;rw[lK];split
   ·rename_i e;subst e;rw[g,ag (bY.1 g).1]
   ·rfl
 ·obtain rfl:k=i:=by omega
  apply St.go;rw[br (by omega)];have h:((R.ls.take k).map gS++R.ls.drop k).length=R.ls.length:=by simp;omega
  have ab:∀{q:HP},T B (ah 5 x.pl R.ls.length x.cl (((R.ls.take k).map gS++R.ls.drop k).flatMap aD)::H) q->True:=λ_=>trivial;generalize hL:(R.ls.take k).map gS++R.ls.drop k=L at h⊢;rw[<-h];apply Y8 (by omega) (by omega);rw[h];repeat apply St.go
  refine tB (ms:=R.ms) (f:=λm=>m.1==(R.at' k).aO) (by kernel_rfl) rfl (by omega) (λm hm G t2=>?_) ?_
  ·show T B _ (ad P 413 #[.agg (fL m).toArray,.pointer _] G)
   apply an (NG _ _);repeat first|apply St.go|refine Sa.go λ_=>?_
   exact af t2
  ·obtain⟨j,y,I,d,hyp⟩:=rB hm
   have w:gQ R.ms (R.at' k)=j:=I;have z:R.mT k=j:=by unfold b5.mT;rw[w];simp
   have M:R.mem k=y:=by unfold b5.mem;rw[z,List.getD,d];rfl
   have hr:=A y (cr d);change T B _ (db .i64 (J (gQ R.ms (R.at' k))) _);rw[w];repeat apply St.go
   refine aL (ah 4 x.pm R.ms.length x.cm) (DM j rfl (bY.1 d).1 d ?_);refine St.go (zL (wO hr) ?_);repeat apply St.go
   refine J2 (c:=x.cm) (a:=Ac.cu.val y.2 (R.at' k).count) j rfl (bY.1 d).1 d ?_;repeat first|apply St.go|refine Sa.go λ_=>?_|refine Sc.go rfl ?_
   rw[br (by omega)];rename_i ac;refine jP (ds:=(aD {R.at' k with state:=2}).toArray) rfl ?_;refine aL (ah 5 x.pg R.gs.length x.cw) (eZ (s:=5) (c:=x.cw) rfl (by omega) λN c'=>?_);repeat first|apply St.go|refine Sc.go (by first|rfl|exact⟨rfl,rfl⟩) ?_
   have U:=U N c';simp only[mh,b5.cu,hL,M,z,b',c8,gH,bI,oo,gw,C3,j9,hb,wj (show k<L.length by omega),h]at U;exact af U
end
end
section
def b5.run(w:Int):Nat->b5->b5
 |0,R=>R
 |k+1,R=>if ih R.free w R.ls R.ms<0 then R else b5.run w k (R.cu (ih R.free w R.ls R.ms).toNat)
structure b5.Fit(R:b5)(n:Nat):Prop where
 right:∀m∈R.ms,cq m.2=true
 vm:∀t∈R.ls,0<=t.b4
 free:0<=R.free/\R.free<=1048576
 ms:R.ms.length<=1000
 many:R.gs.length+R.ls.length<=n
 n2:n<10000
def xm{f w:Int}{ts:List Tk}{ms:List Mem}{i:Nat}(h:goes f w ts ms i=true):¬gQ ms (ts.getD i dy)<0/\qn f w ms (gQ ms (ts.getD i dy)) (ts.getD i dy).count=true:=by
 unfold goes r1 at h;simp only[mi]at h;split at h
 ·cases h
 ·split at h
  ·cases h
  ·split at h
   ·cases h
   ·split at h
    ·cases h
    ·rename_i h1 a c b
     exact⟨by simpa using a,by simpa using b⟩
def tc{R:b5}{w:Int}(h:¬ih R.free w R.ls R.ms<0):∃i:Nat,ih R.free w R.ls R.ms=i/\i<R.ls.length/\goes R.free w R.ls R.ms i=true:=by
 obtain⟨j,a,h1,b,d⟩:=rB h;have c:j<R.ls.length:=by have:=(bY.1 b).1;simpa using this
 rw[tU c]at b;cases b;exact⟨j,h1,c,d⟩
def Gz{R:b5}{i:Nat}(h:¬gQ R.ms (R.at' i)<0):gQ R.ms (R.at' i)=(R.mT i:Int)/\R.mT i<R.ms.length:=by
 obtain⟨j,y,h1,a,b⟩:=rB h;have h1:gQ R.ms (R.at' i)=j:=h1;have:R.mT i=j:=by unfold b5.mT;rw[h1];simp
 rw[this,h1];exact⟨rfl,(bY.1 a).1⟩
def b5.Fit.cu{R:b5}{n i:Nat}{w:Int}(h:R.Fit n)(hi:i<R.ls.length)(d:goes R.free w R.ls R.ms i=true):(R.cu i).Fit n:=by
 obtain⟨h1,b⟩:=xm d;have h1:¬gQ R.ms (R.at' i)<0:=h1;have b:qn R.free w R.ms (gQ R.ms (R.at' i)) (R.at' i).count=true:=b;obtain⟨m1,m2⟩:=Gz h1;unfold qn at b;simp only[cg,bJ]at b;obtain⟨⟨⟨j,dG⟩,c⟩,iB⟩:=b;obtain⟨e,a2,a3⟩:=D5 h.right c;have hf:=h.free;refine⟨λm hm=>?_,λt a=>?_,⟨by simp only[b5.cu];omega,by simp only[b5.cu];omega⟩,by simpa[b5.cu]using h.ms,?_,h.n2⟩
 ·rcases ka hm with hm|rfl
  ·exact h.right m hm
  ·apply e _
   unfold after AG;rw[m1,aZ]
   have f:Ac.cu.val (R.mem i).2 (R.at' i).count=Ac.cu.ej (R.mem i).2 (R.at' i).count:=by unfold lW at c;simp only[cg,bJ]at c;have he:=c.2;rw[m1,aZ]at he;unfold Ac.val;exact ag he
   rw[f];exact zi.2 ⟨R.mT i,by rw[tV m2];rfl⟩
 ·have a:=Jd a
  rcases dO.1 a with a|a
  ·obtain⟨y,g,rfl⟩:=bP.1 a
   have:=h.vm y (kP g);unfold gS;split
   ·show 0<=y.b4+1;omega
   ·exact this
  ·exact h.vm t (tW a)
 ·have:=h.many
  simp only[b5.cu,b',c8,gH];rw[wj (by simp;omega)];simp;omega
section
variable {B:Heap}{H H0:au}{K:aK}{b:Nat}{R:b5}{w:Int}
def UK{E:HP}{ro:Loop}{rr lp e f n:Nat}{x:qT}(s:R.Fit n)(t:mE P ro (yh λh A u=>i7 h (fp h none (u (Value.bool true)))))(fin:∀a,T B (mh b (b5.run w R.ls.length R) a (lo lp ro .ready none::ob rr (.deferred (some []))::H0)) E):T B (mh b R x (lo lp ro .ready none::ob rr (.deferred (some []))::cl e #[pz b]::cl f #[J w]::H0)) (ad P 371 #[.func (.yield lp) #[] #[],pz e,pz f] λ_=>E):=by
 refine an (Ev _ _ _) (uq (λm H'=>∃R' a,R'.Fit n/\m=R'.ls.length/\b5.run w m R'=b5.run w R.ls.length R/\H'=mh b R' a (lo lp ro .ready none::ob rr (.deferred (some []))::cl e #[pz b]::cl f #[J w]::H0)) R.ls.length ⟨R,x,s,rfl,rfl,rfl⟩ ?_);rintro m H' C ⟨R',a,d,rfl,g,rfl⟩ v;repeat apply St.go
 refine af (H':=ah 5 a.pl R'.ls.length a.cl (R'.ls.flatMap aD)::ah 4 a.pm R'.ms.length a.cm (aW R'.ms)::cl b #[.slice a.pg R'.gs.length a.cw,.slice a.pl R'.ls.length a.cl,.slice a.pm R'.ms.length a.cm,J R'.free]::ah 5 a.pg R'.gs.length a.cw (R'.gs.flatMap aD)::lo lp ro .ready none::ob rr (.deferred (some []))::cl e #[pz b]::cl f #[J w]::H0) ?_;have D:=d.many;have F:=d.n2;refine B6 d.right d.ms (by omega) (St.go (S2.go (λy=>?_) λj=>?_))
 ·have:b5.run w R'.ls.length R'=R':=by
   cases G:R'.ls.length with
   |zero=>rfl
   |succ k=>rw[b5.run,ag y]
  rw[this]at g;rw[<-g]at fin;exact af (fin a)
 ·obtain⟨i,hi,l,o⟩:=tc j
  rw[hi];obtain⟨g1,g2⟩:=xm o;obtain⟨k,U⟩:∃k,R'.ls.length=k+1:=⟨R'.ls.length-1,by omega⟩;have r:=d.cu l o;have z:=r.free;simp only[b5.cu]at z;apply St.go;refine af (H':=mh b R' a (lo lp ro .ready none::ob rr (.deferred (some []))::cl e #[pz b]::cl f #[J w]::H0)) ?_;refine FK l d.right g1 (by omega) (by omega) d.ms d.vm (by omega) λp c=>?_;apply St.go;refine bL (q:=lo lp ro .ready none) (oL t ?_);refine St.go (oC (oD ?_));repeat apply St.go
  have hlen:(R'.cu i).ls.length=k:=by simp only[b5.cu];rw[wj (by simp;omega)];simp;omega
  refine af (v k (mh b (R'.cu i) {a with pg:=p,cw:=c} (lo lp ro .ready none::ob rr (.deferred (some []))::cl e #[pz b]::cl f #[J w]::H0)) (by omega) ⟨R'.cu i,_,r,hlen.symm,?_,rfl⟩);rw[<-g,U,b5.run,aj j,hi,aZ]
instance abT:Sa B H (ad P 305 #[pz b,J w] K) (λx:Nat×Nat=>T B (cl x.2 #[J w]::cl x.1 #[pz b]::H) (K (.func (.func 371) #[] #[pz x.1,pz x.2]))):=⟨by intro U;apply an (NI _ _);refine Sa.go λa=>?_;refine Sa.go λc=>?_;exact U (a,c)⟩
def roundOf(ts:List Tk)(f w:Int)(ms:List Mem):b5:=b5.run w ts.length ⟨[],ts,ms,f⟩
def uP{ts:List Tk}{ms:List Mem}{f:Int}{p0 p1:av}{c0 c1 n:Nat}(b:b5.Fit ⟨[],ts,ms,f⟩ n)(U:∀x:qT,T B (ah 5 x.pg (roundOf ts f w ms).gs.length x.cw ((roundOf ts f w ms).gs.flatMap aD)::ah 5 x.pl (roundOf ts f w ms).ls.length x.cl ((roundOf ts f w ms).ls.flatMap aD)::ah 4 x.pm (roundOf ts f w ms).ms.length x.cm (aW (roundOf ts f w ms).ms)::ah 5 p0 ts.length c0 (ts.flatMap aD)::ah 4 p1 ms.length c1 (aW ms)::H) (K (.agg #[.slice x.pg (roundOf ts f w ms).gs.length x.cw,.slice x.pl (roundOf ts f w ms).ls.length x.cl,.slice x.pm (roundOf ts f w ms).ms.length x.cm,J (roundOf ts f w ms).free]))):T B (ah 5 p0 ts.length c0 (ts.flatMap aD)::ah 4 p1 ms.length c1 (aW ms)::H) (ad P 203 #[.slice p0 ts.length c0,J f,J w,.slice p1 ms.length c1] K):=by
 have h1:=b.many;have j:=b.n2;have h:=b.ms;simp only[gH]at h1 h;apply an (NJ _ _ _ _ _ _ _ _);refine Sa.go λaa=>?_;refine af (H':=ah 5 p0 ts.length c0 (ts.flatMap aD)::ah 4 p1 ms.length c1 (aW ms)::cl aa #[.slice none 0 0,.slice none 0 0,.slice none 0 0,J 0]::H) ?_;refine FJ (by omega) (by omega) λa c=>?_;apply St.go;refine Sa.go λd=>?_;refine Sc.go ⟨rfl,rfl⟩ ?_;refine Sa.go λy=>?_;obtain⟨e,g⟩:=y;refine pR (by kernel_rfl) λro rr lp i=>dL 5 (af (H':=cl d #[.slice none 0 0,.slice (some ⟨a,0,none⟩) ts.length ts.length,.slice (some ⟨c,0,none⟩) ms.length ms.length,J f]::ah 5 none 0 0 []::ah 5 (some ⟨a,0,none⟩) ts.length ts.length (ts.flatMap aD)::ah 4 (some ⟨c,0,none⟩) ms.length ms.length (aW ms)::(lo lp ro .ready none::ob rr (.deferred (some []))::cl e #[pz d]::cl g #[J w]::ah 5 p0 ts.length c0 (ts.flatMap aD)::ah 4 p1 ms.length c1 (aW ms)::cl aa #[.slice none 0 0,.slice none 0 0,.slice none 0 0,J 0]::H)) ?_);change T B (mh d ⟨[],ts,ms,f⟩ ⟨none,0,some ⟨a,0,none⟩,ts.length,some ⟨c,0,none⟩,ms.length⟩ (lo lp ro .ready none::ob rr (.deferred (some []))::cl e #[pz d]::cl g #[J w]::ah 5 p0 ts.length c0 (ts.flatMap aD)::ah 4 p1 ms.length c1 (aW ms)::cl aa #[.slice none 0 0,.slice none 0 0,.slice none 0 0,J 0]::H)) _;refine UK (w:=w) b i λx=>?_;refine bL (q:=lo lp ro .ready none) (qU (by simp) ?_);repeat refine Sc.go (by first|rfl|exact⟨rfl,rfl⟩) ?_
 refine bL (q:=ob rr (.deferred (some []))) (oK ?_);refine Sc.go rfl ?_;have U:=U x;unfold roundOf at U;exact af U
end
end
section
section
variable {B:Heap}{H H0:au}{K:aK}{q:av}{l c:Nat}{xs:aN}{n:Int}
instance ade[hr:Rd B H q (iv .i64 xs)]:Sc B H (ad P 290 #[.slice q l c,J n] K) (l=xs.length/\l<1000000) (T B H (K (J (cS (λx=>n==x) xs)))):=⟨by
 rintro⟨rfl,hlen⟩ U;refine an (Ri _ _ _ _) (dh xs.length (by omega) (λk H'=>H'=H/\∀j x,j<k->xs[j]?=some x->(n==x)=false) ⟨rfl,by simp⟩ ?_);rintro k H' R i ⟨rfl,b⟩ h;refine S2.go (λ_=>?_) λ_=>?_
 ·have d:k<xs.length:=by omega
  have f:xs[k]?=some xs[k]:=bj d;refine fA k rfl d f (S2.go (λ_=>?_) λ_=>?_)
  ·rename_i g
   unfold cS at U;rw[qc b f (by simpa using g)]at U;exact U
  ·rename_i g
   refine h d _ ⟨rfl,λj x m a=>?_⟩;by_cases e:j=k
   ·subst e;rw[f]at a;cases a;simpa using g
   ·exact b j x (by omega) a
 ·unfold cS at U
  rw[oV λj x a=>b j x (by have:=(bY.1 a).1;omega) a]at U;exact U⟩
def UZ:decide (cS (λx=>n==x) xs>=0)=xs.contains n:=by
 unfold cS
 cases h:xs.findIdx? (λx=>n==x)with
 |none=>
  rw[we]at h
  have:xs.contains n=false:=by rw[I6,List.any_eq_false];intro x b a;have:=h x b;rw[this]at a;cases a
  rw[this];rfl
 |some i=>
  obtain⟨hi,c,_⟩:=zb.1 h
  have:xs.contains n=true:=by rw[I6,List.any_eq_true];exact⟨_,eK hi,c⟩
  rw[this];simp
instance adb[hr:Rd B H q (iv .i64 xs)]:Sc B H (ad P 193 #[.slice q l c,J n] K) (l=xs.length/\l<1000000) (T B H (K (.bool (xs.contains n)))):=⟨by intro h U;refine an (Q' _ _ _ _) (Sc.go h ?_);rw[<-UZ]at U;apply St.go;exact U⟩
end
section
variable {B:Heap}{H:au}{K:aK}{k:Nat}{p0 p1:av}{c0 c1:Nat}{gs ls:List Tk}
def dU{B:Heap}{H:au}{α:Type}{b:az->HP}{F:(az->HP)->HP}(G:α->au)(v:α->az)(h1:∀c,(∀a,T B (G a) (c (v a)))->T B H (F c))(d:∀a,T B (G a) (b (v a))):T B H (bu b F):=h1 b d
def EC{P:Program}{B:Heap}{H:au}{t e rt:TypeId}{p:av}{l c:Nat}{K:aK}(hu:P.underlying t=some (.slice e))(a:T B H (K (J c))):T B H (aH P (Builtin.cap_ #[t] rt #[.slice p l c]) K):=by intro σ o;unfold Builtin.cap_;simp only[dE,jI,mw];refine aX (gV hu ?_);exact cv (a σ o)
def Ct:P.underlying 33=some (.slice 160):=by kernel_rfl
def abq{n:Nat}:(Builtin.zeroCells (zc P 160) n).toList=(List.replicate n dy).flatMap aD:=by rw[CJ];have:Builtin.zeroCells (fQ dy) n=gr (aD dy).toArray (n*5):=rfl;rw[this,qx (f:=aD) (s:=5) dy rfl (by omega)]
def Y9{n:Nat}(d:n<1000000)(U:∀p c,T B (ah 5 p 0 c []::H) (K (.slice p 0 c))):T B H (ad P 306 #[.slice none 0 0,J n] K):=by
 refine an (Rb _ _ _ _) (St.go (aI (by simp) (St.go (EC Ct (St.go ?_)))))
 have e:IntKind.wrap .i64 ((n:Int)-IntKind.wrap .i64 (((0:Nat):Int)-((0:Nat):Int)))=(n:Int):=by rw[show IntKind.wrap .i64 (((0:Nat):Int)-((0:Nat):Int))=0 by decide,br (by omega)];simp
 rw[e];by_cases h0:n=0
 ·subst h0
  exact aI (by simp) (dL 5 (U _ _))
 ·apply bo (by simp;omega)
  refine EC Ct (St.go ?_);apply ba (by omega);rw[lx];refine dL 5 ?_;refine KP rfl rfl Ct py (by kernel_rfl) (by kernel_rfl) (by kernel_rfl) (by rw[wZ];omega) (by rw[wZ];omega) (by kernel_rfl) abq ?_ rfl (by omega) ?_
  ·intro v a
   obtain⟨m,hm,a⟩:=lL.1 a;simp only[aD,cL,jJ,jm]at a;rcases a with rfl|rfl|rfl|rfl|rfl<;>rfl
  ·intro b c'
   refine St.go (ba (by omega) ?_);rw[lx];refine rG (m:=0) (by omega) ?_;simp only[ua,sf];exact U b c'
instance acC{ts:List Tk}:kj (ts.flatMap aD).toArray:=⟨by intro v a;obtain⟨m,hm,a⟩:=lL.1 a;simp only[aD,cL,jJ,jm]at a;rcases a with rfl|rfl|rfl|rfl|rfl<;>rfl⟩
abbrev re(k:Nat)(p0 p1:av)(c0 c1:Nat)(gs ls:List Tk)(H:au):au:=cl k #[.slice p0 gs.length c0,.slice p1 ls.length c1]::ah 5 p0 gs.length c0 (gs.flatMap aD)::ah 5 p1 ls.length c1 (ls.flatMap aD)::H
def Y7(h0:gs.length<100000)(h1:ls.length<100000)(U:∀p c,T B (ah 5 p (gs.length+ls.length) c ((gs++ls).flatMap aD)::re k p0 p1 c0 c1 gs ls H) (K (.slice p (gs.length+ls.length) c))):T B (re k p0 p1 c0 c1 gs ls H) (ad P 205 #[.slice (some ⟨k,0,none⟩) 2 2] K):=by
 refine an (Q6 _ _ _) (qX (λm x y H'=>H'=re k p0 p1 c0 c1 gs ls H/\((m=2/\x=0/\y=0)\/(m=1/\x=gs.length/\y=1)\/(m=0/\x=gs.length+ls.length/\y=2))) 2 ⟨rfl,.inl ⟨rfl,rfl,rfl⟩⟩ ?_);rintro m x y H' R ⟨rfl,h⟩ d;have e:∀{a b:Nat},a<100000->b<100000->IntKind.wrap .i64 ((a:Int)+(b:Int))=(a:Int)+(b:Int):=λh1 i=>br (by omega);rcases h with⟨rfl,rfl,rfl⟩|⟨rfl,rfl,rfl⟩|⟨rfl,rfl,rfl⟩
 ·apply bo (by simp)
  unfold sX;refine nE (ba (by omega) ?_);refine bU rfl (S2.go (λ_=>?_) λ_=>?_)
  ·rename_i f
   have:=e (a:=0) (b:=gs.length) (by omega) h0;simp only[Int.natCast_zero]at this;omega
  ·have:=e (a:=0) (b:=gs.length) (by omega) h0
   simp only[Int.natCast_zero,Int.zero_add]at this;rw[Int.zero_add,this];exact d 1 _ _ _ (by omega) ⟨rfl,.inr (.inl ⟨rfl,rfl,rfl⟩)⟩
 ·apply bo (by simp)
  unfold sX;refine nE (ba (by omega) ?_);refine bU rfl (S2.go (λ_=>?_) λ_=>?_)
  ·rename_i f
   have:=e h0 h1;omega
  ·rw[e h0 h1]
   exact d 0 _ _ _ (by omega) ⟨rfl,.inr (.inr ⟨rfl,rfl,rfl⟩)⟩
 ·apply aI (by simp)
  rw[show(gs.length:Int)+(ls.length:Int)=((gs.length+ls.length:Nat):Int) by omega];unfold b2;refine Y9 (by omega) λp c=>St.go (ur (λm p l c y H'=>(m=2/\l=0/\y=0/\H'=ah 5 p 0 c []::re k p0 p1 c0 c1 gs ls H)\/(m=1/\l=gs.length/\y=1/\H'=ah 5 p gs.length c (gs.flatMap aD)::re k p0 p1 c0 c1 gs ls H)\/(m=0/\l=gs.length+ls.length/\y=2/\H'=ah 5 p (gs.length+ls.length) c ((gs++ls).flatMap aD)::re k p0 p1 c0 c1 gs ls H)) 2 (.inl ⟨rfl,rfl,rfl,rfl⟩) ?_);rintro m p l c y H' R h d;rcases h with⟨rfl,rfl,rfl,rfl⟩|⟨rfl,rfl,rfl,rfl⟩|⟨rfl,rfl,rfl,rfl⟩
  ·apply bo (by simp)
   unfold sX;refine nE (ba (by omega) ?_);refine bU rfl (oB (by omega) (dj eS gs) λg c'=>?_);rw[bI,kQ];exact d 1 _ _ _ _ _ (by omega) (.inr (.inl ⟨rfl,rfl,rfl,rfl⟩))
  ·apply bo (by simp)
   unfold sX;refine nE (ba (by omega) ?_);refine bU rfl (oB (by omega) (dj eS ls) λg c'=>?_);rw[<-oo];exact d 0 _ _ _ _ _ (by omega) (.inr (.inr ⟨rfl,rfl,rfl,rfl⟩))
  ·exact aI (by simp) (U _ _)
instance aco{n:Nat}{f:Nat->HP}:Sx B H (c5 P 3 n n f) (n<=1000000) (λq=>T B (cl q (iv .i64 (List.replicate n 0)).toArray::H) (f q)):=⟨λh t=>by
 refine gy (by omega) (by omega) (by omega) (by rw[kZ];omega) (by kernel_rfl) (by kernel_rfl) λq=>?_;rw[l5,mr,aZ,iP,lq];have:(List.replicate n (J 0))=iv .i64 (List.replicate n 0):=by simp[iv]
 rw[this];exact t q⟩
end
end
section
def D7{B:Heap}{H:au}{e:Array TypeId}{t0 t1 elem:TypeId}{s:Nat}{p:av}{l c:Nat}{xs:az}{q:av}{m d:Nat}{ys:az}{f:av->Nat->Nat->HP}(h0:e[0]?=some t0)(h1:e[1]?=some t1)(hu:P.underlying t0=some (.slice elem))(g:nm P t1=true)(hi:(P.info? elem).isSome=true)(hz:hO P elem=true)(hs:P.cellsOf elem=s)(i:(2*(l+m)+1024)*P.bytesOf elem<=281474976710656)(L:1<=P.bytesOf elem)(j:(zc P elem).size=s)(k:bF B H p xs)(r:xs.length=l*s)(u:bF B H q ys)(x:ys.length=m*s)(M:∀v∈ys,v.oneCell'=true)(y:¬l+m<=c)(t:∀b rest cap,l+m<=cap->(xs++ys++rest).length=cap*s->T B (cl b (xs++ys++rest).toArray::H) (f (some ⟨b,0,none⟩) (l+m) cap)):T B H (cC P e p l c q m d f):=by
 obtain⟨info,a⟩:=h9.1 hi;have A:P.bytesOf elem=info.bytes:=by simp[Program.bytesOf,a]
 obtain⟨N,g⟩:=rW g;intro σ o;have C:=u σ o;have D:=k σ o;unfold cC;unfold Builtin.append_;simp only[h0,h1,dE,jI,mw];refine aX (gV hu ?_);refine aX (pf hi ?_);refine aX (gV g ?_);refine aX (cv ?_);simp only[gb,ep];refine aX (cv ?_);simp only[y,ep];have E:=Bi (n:=l+m) (c:=c) (by omega);refine aX (n8 a ?_)
 have F:¬(((l+m:Nat):Int)>IntKind.i64.max/\(False\/info.bytes=0)):=by
  rintro⟨_,h|h⟩
  ·exact h
  ·omega
 rw[aj (by simpa using F)];refine aX (n8 a ?_)
 have G:¬(Builtin.nextslicecap (l+m) c*info.bytes>2^48):=by rw[A]at i;have:=jk info.bytes E;omega
 rw[aj G];refine aX (B1 λcap I=>?_);refine aX (n8 a ?_);refine aX (dD () (λw _=>run_askRoom P w _) ?_);refine aX (qB D (by rw[hs];exact r) ?_);refine aX (qB C (by rw[hs];exact x) ?_);refine aX (qD hz λz J=>?_);unfold newRow;refine aX (aX (vG (cv (cv ?_))));simp only[sx]
 have K:(Builtin.zeroCells z.cells (cap-(l+m))).size=(cap-(l+m))*s:=by simp[Builtin.zeroCells,J,j]
 have hmul:(l+m)*s+(cap-(l+m))*s=cap*s:=by rw[<-gd];congr 1;omega
 have O:(l+m)*s=l*s+m*s:=gd _ _ _;refine t σ.size (Builtin.zeroCells z.cells (cap-(l+m))).toList cap I (by simp only[b',kM,K];omega) _ (o.push ?_);refine⟨elem,(0,0),?_,by simp⟩;congr 3;apply gE;simp
def b1{α:Type}(f:Int->α)(p:Int)(v:α):Int->α:=λk=>if k=p then v else f k
structure Pz where
 p:Option (Nat×Nat)
 c:Nat
 gK:aN
 xs:aN
abbrev dV:Pz:=⟨none,0,[],[]⟩
abbrev Pz.ptr(z:Pz):av:=z.p.map λx=>⟨x.1,x.2,none⟩
abbrev fP(z:Pz):Value:= .slice z.ptr z.xs.length z.c
def hZ(z:Pz):bc:=match z.p with
 |none=>fa (z.c=0/\z.xs=[]) (λ_=>True)
 |some (b,o)=>eF λrest:az=>fa (z.xs.length+rest.length=z.c/\(z.c≠0->o=z.gK.length)) (cl b (iv .i64 z.gK++(iv .i64 z.xs++rest)).toArray)
instance :ia P 137 Pz fP dV:=⟨31,by kernel_rfl,py,by kernel_rfl⟩
def dJ(m:ML Pz):bc:=eA (m.map λe=>hZ e.2)
section
variable {B:Heap}{H H0:au}{q:HP}{m:ML Pz}{z:Pz}{k:Int}
def XE(t:T B (hZ dV::H) q):T B H q:=by intro σ o;obtain⟨l,h1,a⟩:=o.own;exact t σ ⟨o.base,o.size,l,⟨[],l,.refl _,⟨⟨rfl,rfl⟩,trivial⟩,h1⟩,a⟩
def s9{α β:Type}{f:α->β}{m:ML α}{a:α}(hs:bQ m)(h:aQ m k=some a):(m.map λe=>f e.2).Perm (f a::(bN k m).map λe=>f e.2):=by
 induction m with
 |nil=>simp[aQ]at h
 |cons e m d=>
  have g:bQ m:=I3 ((List.sublist_cons_self e m).map _) hs;by_cases U:e.1=k
  ·have i:∀x∈m,x.1≠k:=by intro x b he;have h1:=mg hs;simp only[a7,cX,fg]at h1;exact h1.1 (bP.2 ⟨x,b,by rw[he,U]⟩)
   have c:bN k (e::m)=m:=by unfold bN;rw[nu (by simp[U])];exact qM.2 λx b=>by simpa using i x b
   rw[c]
   have:e.2=a:=by unfold aQ at h;simpa[U]using h
   rw[cX,this]
  ·have c:bN k (e::m)=e::bN k m:=by unfold bN;rw[nw (by simp[U])]
   have j:aQ m k=some a:=by unfold aQ at h;rw[aj U]at h;exact h
   rw[c,cX,cX];exact((d g j).cons _).trans (cA _ _ _)
def yc(hs:bQ m)(t:T B (hZ ((aQ m k).getD dV)::dJ (bN k m)::H) q):T B (dJ m::H) q:=by
 cases h:aQ m k with
 |none=>rw[h]at t;rw[u3 h]at t;exact XE t
 |some a=>rw[h]at t;exact wL (s9 hs h) t
def A'{α:Type}{m:ML α}{a:α}(hs:bQ m):aQ (bC k a m) k=some a:=by rw[gR hs,ag rfl]
def Gy{α:Type}{m:ML α}{a:α}(hs:bQ m):bN k (bC k a m)=bN k m:=by refine Bc (ml (fu hs)) (ml hs) λj=>?_;rw[mV,mV,gR hs];split<;>rfl
def BF(hs:bQ m)(t:T B (dJ (bC k z m)::H) q):T B (hZ z::dJ (bN k m)::H) q:=by have:=s9 (k:=k) (f:=hZ) (fu (k:=k) (v:=z) hs) (A' hs);rw[Gy hs]at this;exact wM this t
end
end
section
structure aJ where
 L:bE
 S:aE
 R:Rec
 T:a1
 Q:Qu
 pu:Int->aN
structure mD where
 lb:Nat
 sb:Nat
 rb:Nat
 tb:Nat
 qb:Nat
 r:Nat
 m:ML Pz
abbrev hk(x:mD):aw:=#[pz x.lb,pz x.sb,pz x.rb,pz x.tb,pz x.qb,.map (some x.r)]
abbrev eh(b:Nat)(X:aJ)(x:mD)(H:au):au:=
 cl b (hk x)::bq x.lb X.L::cf x.sb X.S::dx x.rb x.sb X.R::dz x.tb X.T::eH x.qb X.Q::MP fP x.r x.m::dJ x.m::H
structure aJ.Ok(X:aJ)(x:mD):Prop where
 bX:bQ x.m
 pu:∀k,X.pu k=((aQ x.m k).getD dV).xs
 len:∀k,(X.pu k).length<=X.S.bl
def bS(b:Nat)(X:aJ):bc:=BD X.Ok (eh b X)
namespace aJ
def e2(X:aJ)(c:Int):Int:=if X.L.bk c=0 then(if 0<X.Q.head (X.L.place c)then 8 else 0)else X.L.bk c
def qg(X:aJ)(c:Int):Int:=if X.e2 c=0 then X.L.place c else 0
def bR(X:aJ)(c:Int):aJ:={X with L:=X.L.bR c}
def rR(X:aJ)(c:Int):Int:=if X.e2 c=0 then X.L.rR c else X.e2 c
def ret(X:aJ)(c:Int):aJ:=if X.e2 c=0 then{X with L:=X.L.ret c}else X
def q6(X:aJ)(c n:Int):Int:=if X.L.bk c=0 then(if X.L.cI .dW c n=0 then X.T.jx (X.L.place c) n else X.L.cI .dW c n)else X.L.bk c
def sA(X:aJ)(c n:Int):Int:=if X.q6 c n=0 then X.T.next else 0
def ask(X:aJ)(c n:Int):aJ:=
 if X.L.bk c=0 then
  (if X.L.cI .dW c n=0 then
   (if X.T.jx (X.L.place c) n=0 then{X with L:=X.L.bK .dW c n,T:=X.T.jc (X.L.place c) n,Q:=⟨X.Q.L++[(X.T.next,X.L.place c)],X.Q.fU+1⟩}
    else{X with L:=(X.L.bK .dW c n).bK .cancel c n,T:=X.T.jc (X.L.place c) n})
   else{X with L:=X.L.bK .dW c n})
 else X
def w1(X:aJ)(c i:Int):Int:=
 if X.L.bk c=0 then
  (if X.T.e1 i=0/\(X.T.get i).aO=X.L.place c then
   (if X.T.cI (c6 · 3) check i=0 then X.L.cI .cancel c (X.T.get i).count else X.T.cI (c6 · 3) check i)
   else 12)
 else X.L.bk c
def can(X:aJ)(c i:Int):aJ:=
 if X.L.bk c=0 then
  (if X.T.e1 i=0/\(X.T.get i).aO=X.L.place c then
   (if X.T.cI (c6 · 3) check i=0 then{X with T:=X.T.bK (c6 · 3) check i,Q:=X.Q.drop i,L:=X.L.bK .cancel c (X.T.get i).count}else{X with T:=X.T.bK (c6 · 3) check i})
   else X)
 else X
end aJ
section
variable {B:Heap}{H H0:au}{K:aK}{b:Nat}{X:aJ}{c n i:Int}
def e8{q:HP}(t:∀x,X.Ok x->T B (eh b X x H) q):T B (bS b X::H) q:=mC (λ_ _=>rfl) t
def dw{q:HP}(x:mD)(h:X.Ok x)(t:T B (bS b X::H) q):T B (eh b X x H) q:=mB x h (λ_ _=>rfl) t
instance abF[h:Ow H (bS b) X H0]:St B H (ad P 36 #[pz b] K) (T B (bS b X::H0) (K (.bool true))):=⟨by
 intro U;refine bf h.pl (e8 λx ok=>an (MK _) ?_);repeat apply St.go
 exact af (dw x ok U)⟩
instance abD[h:Ow H (bS b) X H0]:Sc B H (ad P 170 #[pz b,J c] K) (aF c) (T B (bS b X::H0) (K (.tuple #[J (X.L.place c),J (X.L.bk c)]))):=⟨by
 intro hc U;refine bf h.pl (an (MH _ _) ?_);repeat apply St.go
 refine aL (bS b) (e8 λx ok=>?_);repeat first|apply St.go|refine Sc.go (by omega) ?_
 exact af (dw x ok U)⟩
instance abE[h:Ow H (bS b) X H0]:Sc B H (ad P 168 #[pz b,J c] K) (aF c) (T B (bS b X::H0) (K (.tuple #[J (X.qg c),J (X.e2 c)]))):=⟨by
 intro hc U;refine bf h.pl (an (MJ _ _) ?_);unfold aJ.qg aJ.e2 at U;repeat' first|apply St.go|refine S2.go (λ_=>?_) λ_=>?_|refine Sc.go (by omega) ?_|done
 ·rename_i he
  refine aL (bS b) (e8 λx ok=>?_);rw[ag he]at U;repeat' first|apply St.go|refine S2.go (λ_=>?_) λ_=>?_|done
  ·rename_i a
   rw[ag a,aj (by decide)]at U;exact af (dw x ok U)
  ·rename_i a
   rw[aj a,ag rfl]at U;rw[he];exact af (dw x ok U)
 ·rename_i he
  rw[aj he,aj he]at U;have:X.L.place c=0:=by unfold bE.place;rw[aj he]
  rw[this];exact af U⟩
instance abB[h:Ow H (bS b) X H0]:Sc B H (ad P 162 #[pz b,J c] K) (aF c) (T B (bS b X::H0) (K (.tuple #[.bool (decide (X.L.bk c=0/\0<X.Q.head (X.L.place c))),J (X.L.bk c)]))):=⟨by
 intro hc U;refine bf h.pl (an (ME _ _) ?_);repeat' first|apply St.go|refine S2.go (λ_=>?_) λ_=>?_|refine Sc.go (by omega) ?_|done
 ·rename_i he
  refine aL (bS b) (e8 λx ok=>?_);repeat apply St.go
  have e:decide (X.Q.head (X.L.place c)>0)=decide (X.L.bk c=0/\0<X.Q.head (X.L.place c)):=jl.2 ⟨λh=>⟨he,h⟩,λh=>h.2⟩;rw[e];exact af (dw x ok U)
 ·rename_i he
  rw[cP λh=>he h.1]at U;exact af U⟩
instance abx[h:Ow H (bS b) X H0]:Sc B H (ad P 98 #[pz b,J c] K) (aF c) (T B (bS b (X.bR c)::H0) (K (.tuple #[J (X.L.tt c),J (X.L.rP c)]))):=⟨by
 intro hc U;refine bf h.pl (an (My _ _) ?_);repeat apply St.go
 refine aL (bS b) (e8 λx ok=>?_);repeat first|apply St.go|refine Sc.go (by omega) ?_
 exact af (dw (X:={X with L:=X.L.bR c}) x ⟨ok.bX,ok.pu,ok.len⟩ U)⟩
instance aby[h:Ow H (bS b) X H0]:Sc B H (ad P 102 #[pz b,J c] K) (aF c) (T B (bS b (X.ret c)::H0) (K (J (X.rR c)))):=⟨by
 intro hc U;refine bf h.pl (an (Mz _ _) ?_);unfold aJ.ret aJ.rR at U;repeat' first|apply St.go|refine S2.go (λ_=>?_) λ_=>?_|refine Sc.go (by omega) ?_|done
 ·rename_i he
  rw[aj he,aj he]at U;exact af U
 ·rename_i he
  rw[ag he,ag he]at U;refine aL (bS b) (e8 λx ok=>?_);repeat first|apply St.go|refine Sc.go (by omega) ?_
  exact af (dw (X:={X with L:=X.L.ret c}) x ⟨ok.bX,ok.pu,ok.len⟩ U)⟩
instance abC[h:Ow H (bS b) X H0]:Sc B H (ad P 122 #[pz b,J c] K) (aF c) (∀w:Int,0<=w/\w<=9223372036854775807->T B (bS b X::H0) (K (.tuple #[J (if X.L.bk c=0 then w else 0),J (X.L.bk c)]))):=⟨by
 intro hc U;refine bf h.pl (an (MF _ _) ?_);repeat' first|apply St.go|refine S2.go (λ_=>?_) λ_=>?_|refine Sc.go (by omega) ?_|done
 ·rename_i he
  have:=U 0 ⟨by omega,by omega⟩;rw[aj he]at this;exact af this
 ·rename_i he
  refine aL (bS b) (e8 λx ok=>?_);repeat first|apply St.go|refine Sa.go λ_=>?_
  rename_i w;intro hw;have:=U w hw;apply St.go;rw[ag he,he]at this;exact af (dw x ok this)⟩
instance abA[h:Ow H (bS b) X H0]:Sc B H (ad P 121 #[pz b,J i] K) (aF i) (T B (bS b X::H0) (K (.tuple #[.agg (aD (X.T.get i)).toArray,J (X.T.e1 i)]))):=⟨by
 intro hc U;refine bf h.pl (an (MD _ _) ?_);repeat first|apply St.go|refine Sa.go λ_=>?_
 refine aL (bS b) (e8 λx ok=>?_);repeat first|apply St.go|refine Sc.go (by first|omega|rfl|exact⟨rfl,rfl⟩) ?_
 exact af (dw x ok U)⟩
def Le[h:Ow H (bS b) X H0](hc:aF c)(i:aF n)(g:X.L.bk c=0->0<=X.L.place c/\X.L.place c<64)(f:X.q6 c n=0->X.Q.fU<256/\∀e∈X.Q.L,e.1≠X.T.next)(U:T B (bS b (X.ask c n)::H0) (K (.tuple #[J (X.sA c n),J (X.q6 c n)]))):T B H (ad P 103 #[pz b,J c,J n] K):=by
 refine bf h.pl (an (Mt _ _ _) ?_);unfold aJ.ask aJ.sA at U;generalize a:X.q6 c n=e at U f;unfold aJ.q6 at a;repeat' first|apply St.go|refine S2.go (λ_=>?_) λ_=>?_|refine Sc.go (by omega) ?_|done
 ·rename_i he
  rw[aj he]at a U;subst a;rw[aj he]at U;exact af U
 ·rename_i he
  rw[ag he]at a U;have g:=g he;refine aL (bS b) (e8 λx ok=>?_);repeat' first|apply St.go|refine S2.go (λ_=>?_) λ_=>?_|refine Sc.go (by omega) ?_|done
  ·rename_i h1
   rw[aj h1]at a U;subst a;rw[aj h1]at U;exact af (dw (X:={X with L:=X.L.bK .dW c n}) x ⟨ok.bX,ok.pu,ok.len⟩ U)
  ·rename_i h1
   rw[ag h1]at a U;subst a;refine Sc.go ⟨by unfold aF;omega,i⟩ ?_;repeat' first|apply St.go|refine S2.go (λ_=>?_) λ_=>?_|refine Sc.go (by omega) ?_|done
   ·rename_i d
    rw[aj d,aj d]at U;exact af (dw (X:={X with L:=(X.L.bK .dW c n).bK .cancel c n,T:=X.T.jc (X.L.place c) n}) x ⟨ok.bX,ok.pu,ok.len⟩ U)
   ·rename_i d
    have f:=f d;rw[ag d,ag d]at U;rw[ag d];rw[d]at U;refine Sc.go ⟨by unfold a1.next;omega,g,f.2,f.1⟩ ?_;apply St.go;exact af (dw (X:={X with L:=X.L.bK .dW c n,T:=X.T.jc (X.L.place c) n,Q:=⟨X.Q.L++[(X.T.next,X.L.place c)],X.Q.fU+1⟩}) x ⟨ok.bX,ok.pu,ok.len⟩ U)
def Lf[h:Ow H (bS b) X H0](hc:aF c)(hi:aF i)(g:X.T.cI (c6 · 3) check i=0->∃e∈X.Q.L,e.1=i)(U:T B (bS b (X.can c i)::H0) (K (J (X.w1 c i)))):T B H (ad P 104 #[pz b,J c,J i] K):=by
 refine bf h.pl (an (Mu _ _ _) ?_);unfold aJ.can at U;generalize a:X.w1 c i=e at U;unfold aJ.w1 at a;repeat' first|apply St.go|refine S2.go (λ_=>?_) λ_=>?_|refine Sc.go (by omega) ?_|done
 ·rename_i he
  rw[aj he]at a U;subst a;exact af U
 ·rename_i he
  rw[ag he]at a U;refine aL (bS b) (e8 λx ok=>?_);repeat' first|apply St.go|refine Sa.go λ_=>?_|refine S2.go (λ_=>?_) λ_=>?_|refine Sc.go (by first|omega|exact⟨rfl,rfl⟩) ?_|done
  ·rename_i h1
   rw[aj λh=>h1 h.1]at a U;subst a;exact af (dw x ok U)
  ·rename_i h1 d
   rw[aj λh=>d h.2]at a U;subst a;exact af (dw x ok U)
  ·rename_i h1 d f
   rw[ag ⟨h1,d⟩]at a U;rw[aj f]at a U;subst a;exact af (dw (X:={X with T:=X.T.bK (c6 · 3) check i}) x ⟨ok.bX,ok.pu,ok.len⟩ U)
  ·rename_i h1 d f
   rw[ag ⟨h1,d⟩]at a U;rw[ag f]at a U;subst a;refine Sc.go (g f) ?_;repeat first|apply St.go|refine Sc.go (by omega) ?_
   exact af (dw (X:={X with T:=X.T.bK (c6 · 3) check i,Q:=X.Q.drop i,L:=X.L.bK .cancel c (X.T.get i).count}) x ⟨ok.bX,ok.pu,ok.len⟩ U)
end
end
section
def Xy{B:Heap}{H:au}{m:ML Pz}{z:Pz}{k:Int}{a b:Nat}{ys:az}(hs:bQ m)(h:aQ m k=some z){o:Nat}(d:z.p=some (a,o))(e:∀rest,z.xs.length+rest.length=z.c->(z.c≠0->o=z.gK.length)->∀i,i<ys.length->(iv .i64 z.gK++(iv .i64 z.xs++rest))[b+i]?=ys[i]?):bF B (dJ m::H) (some ⟨a,b,none⟩) ys:=by show T B (dJ m::H) _;refine yc (k:=k) hs ?_;rw[h];simp only[fx];unfold hZ;rw[d];refine gg λrest=>gz λhr=>?_;exact bF.nU λi hi=>by rw[dE];exact e rest hr.1 hr.2 i hi
def Xz{B:Heap}{H:au}{m:ML Pz}{k:Int}(hs:bQ m):bF B (dJ m::H) ((aQ m k).getD dV).ptr (iv .i64 ((aQ m k).getD dV).xs):=by
 show T B (dJ m::H) _;refine yc (k:=k) hs ?_;generalize(aQ m k).getD dV=z;unfold hZ Pz.ptr
 cases b:z.p with
 |none=>simp only[zq];refine gz λh=>?_;rw[h.2];exact λσ o=> .inl ⟨trivial,rfl⟩
 |some x=>
  obtain⟨c,o⟩:=x;simp only[iy];refine gg λrest=>gz λhr=>bF.nU λi hi=>?_;have hl:i<z.xs.length:=by simpa using hi
  have a:=hr.2 (by omega);rw[dE,a,iu (by simp),gx (by simp;omega)];simp
namespace aJ
abbrev ck(X:aJ)(i:Int):bD:=if X.S.ok i then X.S.at' i else bD.zero
def qu(X:aJ)(c:Int):Int:=if X.e2 c=0 then(if X.pu (X.L.place c)=[]then 9 else 0)else X.e2 c
def nf(X:aJ)(c:Int):Int:=if X.qu c=0 then(X.pu (X.L.place c)).headD 0 else 0
abbrev cut(X:aJ)(p:Int)(k:Nat):aJ:={X with pu:=b1 X.pu p ((X.pu p).drop k)}
def nX(X:aJ)(c:Int):aJ:=if X.qu c=0 then X.cut (X.L.place c) 1 else X
def h7(c p i:Int)(X:aJ):aJ×Int:=
 if X.R.fO X.S i (p+1)=0 then({X with R:=X.R.put X.S i (p+1),S:=X.S.defer i (p+1),L:=X.L.bK .eG c 1},X.L.cI .eG c 1)
 else({X with R:=X.R.put X.S i (p+1),S:=X.S.defer i (p+1)},X.R.fO X.S i (p+1))
def dB(c p:Int):aN->aJ->aJ×Int
 |[],X=>(X,0)
 |i::l,X=>if(h7 c p i X).2=0 then dB c p l (h7 c p i X).1 else h7 c p i X
def xp(X:aJ)(c n:Int):Int:=
 if X.e2 c=0 then(if n<1 then 2 else if(X.pu (X.L.place c)).length<n then 9 else(dB c (X.L.place c) ((X.pu (X.L.place c)).take n.toNat) (X.cut (X.L.place c) n.toNat)).2)else X.e2 c
def xo(X:aJ)(c n:Int):aJ:=
 if X.e2 c=0 then(if n<1 then X else if(X.pu (X.L.place c)).length<n then X else(dB c (X.L.place c) ((X.pu (X.L.place c)).take n.toNat) (X.cut (X.L.place c) n.toNat)).1)else X
def j0(X:aJ)(p:Int)(l:aN):Bool:=decide l.Nodup&&l.all λi=>(X.ck i).own==p+1&&!(X.pu p).contains i
def u0(X:aJ)(c:Int)(l:aN):Int:=
 if X.e2 c=0 then(if X.j0 (X.L.place c) l then(dB c (X.L.place c) l X).2 else 18)else X.e2 c
def lv(X:aJ)(c:Int)(l:aN):aJ:=
 if X.e2 c=0 then(if X.j0 (X.L.place c) l then(dB c (X.L.place c) l X).1 else X)else X
def vT(c p i:Int)(l:aN)(X:aJ):dB c p (i::l) X=if(h7 c p i X).2=0 then dB c p l (h7 c p i X).1 else h7 c p i X:=rfl
def aaA(c p i:Int)(X:aJ):dB c p [i] X=h7 c p i X:=by
 rw[vT];split
 ·rename_i h
  generalize h7 c p i X=y at*;obtain⟨a,b⟩:=y;simp only at h;subst h;rfl
 ·rfl
def Iz(c p:Int)(l a:aN)(X:aJ):dB c p (l++a) X=if(dB c p l X).2=0 then dB c p a (dB c p l X).1 else dB c p l X:=by
 induction l generalizing X with
 |nil=>simp[dB]
 |cons i l b=>
  rw[qL,vT,vT];split
  ·exact b _
  ·rfl
def aay(c p i:Int)(X:aJ):(h7 c p i X).1.S.bl<=X.S.bl+1/\X.S.bl<=(h7 c p i X).1.S.bl/\(h7 c p i X).1.R.line.next<=X.R.line.next+1/\(h7 c p i X).1.T=X.T/\(h7 c p i X).1.Q=X.Q/\(h7 c p i X).1.pu=X.pu:=by
 have h1:(X.S.defer i (p+1)).bl<=X.S.bl+1/\X.S.bl<=(X.S.defer i (p+1)).bl:=by unfold aE.defer;split<;>(try simp only)<;>omega
 have a:(X.R.put X.S i (p+1)).line.next<=X.R.line.next+1:=by
  unfold Rec.put;split
  ·simp only;unfold dR.put;split<;>(try simp only[dR.yd])<;>omega
  ·omega
 unfold h7;split<;>exact⟨h1.1,h1.2,a,rfl,rfl,rfl⟩
def yF(c p:Int)(l:aN)(X:aJ):(dB c p l X).1.S.bl<=X.S.bl+l.length/\X.S.bl<=(dB c p l X).1.S.bl/\(dB c p l X).1.R.line.next<=X.R.line.next+l.length/\(dB c p l X).1.T=X.T/\(dB c p l X).1.Q=X.Q/\(dB c p l X).1.pu=X.pu:=by
 induction l generalizing X with
 |nil=>simp[dB]
 |cons i l b=>
  have h1:=aay c p i X;rw[vT];simp only[c8];split
  ·have d:=b (h7 c p i X).1
   obtain⟨e,a2,a3,a4,a5,a⟩:=h1;obtain⟨h,dG,j,iB,f,g⟩:=d;exact⟨by omega,by omega,by omega,iB.trans a4,f.trans a5,g.trans a⟩
  ·obtain⟨e,a2,a3,a4,a5,a⟩:=h1
   exact⟨by omega,a2,by omega,a4,a5,a⟩
end aJ
def Pz.cut(z:Pz)(n:Nat):Pz:=⟨z.p.map λx=>(x.1,if z.c=n then x.2 else x.2+n),z.c-n,z.gK++z.xs.take n,z.xs.drop n⟩
section
variable {B:Heap}{H H0:au}{K:aK}{b:Nat}{X:aJ}{c n i:Int}
def El{x:mD}{p:Int}{k:Nat}(hs:bQ x.m)(A:1<=k)(d:k<=((aQ x.m p).getD dV).xs.length)(U:∀q,(∀H,bF B (dJ (bC p (((aQ x.m p).getD dV).cut k) x.m)::H) q (iv .i64 (((aQ x.m p).getD dV).xs.take k)))->T B (cl b (hk x)::MP fP x.r (bC p (((aQ x.m p).getD dV).cut k) x.m)::dJ (bC p (((aQ x.m p).getD dV).cut k) x.m)::H) (K (.slice q k k))):T B (cl b (hk x)::MP fP x.r x.m::dJ x.m::H) (ad P 186 #[pz b,J p,J k] K):=by
 apply an (MM _ _ _)
 obtain⟨z,hz⟩:∃z,aQ x.m p=some z:=by
  cases h:aQ x.m p with
  |none=>rw[h]at d;simp at d;omega
  |some z=>exact⟨z,rfl⟩
 rw[hz]at d U;simp only[fx]at d U;refine St.go (St.go ?_);rw[hz];simp only[fx];refine St.go (St.go ?_);refine ba (by omega) (St.go ?_);rw[aZ];refine aL dJ (yc (k:=p) hs ?_);rw[hz];simp only[fx]
 have l:∀{a o:Nat},z.p=some (a,o)->z.c≠0->(z.c≠0->o=z.gK.length)->∀H,bF B (dJ (bC p (z.cut k) x.m)::H) (some ⟨a,o,none⟩) (iv .i64 (z.xs.take k)):=by
  intro a o f hc j H;apply Xy (fu hs) (A' hs) (by unfold Pz.cut;rw[f];rfl);intro rest h1 C i hi;have D:i<k:=by simp at hi;omega
  rw[j hc];unfold Pz.cut;simp only[iv,eY,el];rw[iu (by simp),gx (by simp;omega)];simp
 have g:hZ z=hZ z:=rfl
 conv at g=>rhs;unfold hZ
 rw[g];clear g
 cases f:z.p with
 |none=>simp only;refine gz λh=>?_;rw[h.2]at d;simp at d;omega
 |some y=>
  obtain⟨a,o⟩:=y;simp only;refine gg λrest=>gz λhr=>?_;have hc:z.c≠0:=by omega
  have j:=hr.2 hc;have n:z.ptr=some ⟨a,o,none⟩:=by unfold Pz.ptr;rw[f];rfl
  rw[n]
  have s:da (some ⟨a,o,none⟩) 1 k z.c=(z.cut k).ptr:=by unfold da Pz.ptr Pz.cut;rw[f];simp only[iy,aR,iP];split<;>simp[*]
  have u:Value.slice (da (some ⟨a,o,none⟩) 1 k z.c) (z.xs.length-k) (z.c-k)=fP (z.cut k):=by rw[s];unfold fP;simp only[Pz.cut,kN]
  refine Be u (ba (by omega) (ba (by omega) ?_));rw[lx,iQ]
  have v:∀{H:au} {q:HP},T B (dJ (bC p (z.cut k) x.m)::H) q->T B (cl a (iv .i64 z.gK++(iv .i64 z.xs++rest)).toArray::dJ (bN p x.m)::H) q:=by
   intro H q t
   have e:hZ (z.cut k)=eF λrest:az=>fa ((z.cut k).xs.length+rest.length=(z.cut k).c/\((z.cut k).c≠0->(if z.c=k then o else o+k)=(z.cut k).gK.length)) (cl a (iv .i64 (z.cut k).gK++(iv .i64 (z.cut k).xs++rest)).toArray):=by
    conv=>lhs;unfold hZ
    have:(z.cut k).p=some (a,if z.c=k then o else o+k):=by unfold Pz.cut;rw[f];rfl
    rw[this]
   have t2:=BF hs t;rw[e]at t2
   have w:(iv .i64 z.gK++(iv .i64 z.xs++rest))=(iv .i64 (z.cut k).gK++(iv .i64 (z.cut k).xs++rest)):=by unfold Pz.cut;simp only[iv,eY,el];rw[<-el (List.map _ (z.xs.take k)),<-eY,kd]
   rw[w];refine ic ⟨?_,?_⟩ (gI rest t2)
   ·simp only[Pz.cut,kN];omega
   ·simp only[Pz.cut,b',fv]
    intro h;rw[aj (by omega)];omega
  have:=U (some ⟨a,o,none⟩) (l f hc hr.2);refine af (H':=cl a (iv .i64 z.gK++(iv .i64 z.xs++rest)).toArray::dJ (bN p x.m)::cl b (hk x)::MP fP x.r (bC p (z.cut k) x.m)::H) (v ?_);exact af this
abbrev rZ(b:Nat)(x:mD)(X:aJ)(G:au):au:=cl b (hk x)::bq x.lb X.L::cf x.sb X.S::dx x.rb x.sb X.R::G
def Em{x:mD}{p:Int}{q:av}{c' k':Nat}{l:aN}{G:au}(m:k'=l.length)(n:bF B G q (iv .i64 l))(hc:aF c)(t:0<=p/\p<64)(u:X.S.bl+l.length<1000000)(v:X.R.line.next<4000000000)(U:T B (rZ b x (aJ.dB c p l X).1 G) (K (J (aJ.dB c p l X).2))):T B (rZ b x X G) (ad P 194 #[pz b,J c,J p,.slice q k' c'] K):=by
 subst m;refine an (MN _ _ _ _ _ _) (dh l.length (by omega) (λk H'=>(aJ.dB c p (l.take k) X).2=0/\H'=rZ b x (aJ.dB c p (l.take k) X).1 G) ⟨rfl,rfl⟩ ?_);rintro k H' R o ⟨he,rfl⟩ r;have hf:=aJ.yF c p (l.take k) X;rw[fv,qP o]at hf;refine S2.go (λ_=>?_) λ_=>?_
 ·have d:k<l.length:=by omega
  have f:l[k]?=some l[k]:=bj d;generalize l[k]=i at f;have s:bF B (rZ b x (aJ.dB c p (l.take k) X).1 G) q (iv .i64 l):=n.tail.tail.tail.tail;have:Rd B (rZ b x (aJ.dB c p (l.take k) X).1 G) q (iv .i64 l):=⟨s⟩;apply fA k rfl d f
  have hs:aJ.dB c p (l.take (k+1)) X=aJ.h7 c p i (aJ.dB c p (l.take k) X).1:=by rw[ef f,aJ.Iz,ag he,aJ.aaA]
  have j:(aJ.dB c p (l.take (k+1)) X).2≠0->aJ.dB c p l X=aJ.dB c p (l.take (k+1)) X:=by
   intro h;have:l=l.take (k+1)++l.drop (k+1):=(kd ..).symm
   conv=>lhs;rw[this]
   rw[aJ.Iz,aj h]
  generalize(aJ.dB c p (l.take k) X).1=Y at*;have hw:IntKind.wrap .i64 (p+1)=p+1:=br (by omega);rw[hw];have a:=hs;unfold aJ.h7 at a;refine St.go (Sc.go ⟨by omega,by omega⟩ ?_);repeat' first|apply St.go|refine S2.go (λ_=>?_) λ_=>?_|refine Sc.go (by omega) ?_|done
  ·rename_i h1
   rw[aj h1]at a;have e:=j (by rw[a];exact h1);rw[e,a]at U;exact af U
  ·rename_i h1 g
   rw[ag h1]at a;have e:=j (by rw[a];exact g);rw[e,a]at U;exact af U
  ·rename_i h1 g
   rw[ag h1]at a;have:=r d _ ⟨by rw[a];exact g,rfl⟩;rw[a]at this;exact af this
 ·have hl:k=l.length:=by omega
  subst hl;rw[ix]at he⊢;rw[he]at U;exact U
def aJ.Ok.with{x:mD}(ok:X.Ok x){Y:aJ}(h1:Y.pu=X.pu)(a:X.S.bl<=Y.S.bl):Y.Ok x:=⟨ok.bX,λk=>by rw[h1];exact ok.pu k,λk=>by rw[h1];exact lN (ok.len k) a⟩
def aJ.Ok.cut{x:mD}(ok:X.Ok x)(p:Int)(k:Nat):(X.cut p k).Ok {x with m:=bC p (((aQ x.m p).getD dV).cut k) x.m}:=by
 refine⟨fu ok.bX,λj=>?_,λj=>?_⟩
 ·simp only[aJ.cut,b1]
  rw[gR ok.bX];split
  ·rename_i e;subst e;rw[ok.pu];rfl
  ·exact ok.pu j
 ·have:=ok.len j
  simp only[aJ.cut,b1];split
  ·rename_i e;subst e;rw[kN];omega
  ·exact this
def Lj[h:Ow H (bS b) X H0](hc:aF c)(U:T B (bS b (X.nX c)::H0) (K (.tuple #[J (X.nf c),J (X.qu c)]))):T B H (ad P 109 #[pz b,J c] K):=by
 refine bf h.pl (an (Mx _ _) ?_);unfold aJ.nX aJ.nf at U;generalize d:X.qu c=e at U;unfold aJ.qu at d;repeat' first|apply St.go|refine S2.go (λ_=>?_) λ_=>?_|refine Sc.go (by omega) ?_|done
 ·rename_i he
  rw[aj he]at d;subst d;rw[aj he,aj he]at U;exact af U
 ·rename_i he
  rw[ag he]at d;have n:X.qg c=X.L.place c:=by unfold aJ.qg;rw[ag he]
  rw[n];refine aL (bS b) (e8 λx ok=>?_);have f:=ok.pu (X.L.place c);repeat' first|apply St.go|refine S2.go (λ_=>?_) λ_=>?_|done
  ·rename_i h1
   have:X.pu (X.L.place c)=[]:=by rw[f];exact kO.1 (by simpa using h1)
   rw[ag this]at d;subst d;exact af (dw x ok U)
  ·rename_i h1
   have g:X.pu (X.L.place c)≠[]:=by rw[f];intro e;rw[e]at h1;exact h1 rfl
   rw[aj g]at d;subst d;rw[ag rfl,ag rfl]at U
   have hl:1<=((aQ x.m (X.L.place c)).getD dV).xs.length:=by rw[<-f];exact r9.2 g
   refine af (H':=cl b (hk x)::MP fP x.r x.m::dJ x.m::bq x.lb X.L::cf x.sb X.S::dx x.rb x.sb X.R::dz x.tb X.T::eH x.qb X.Q::H0) ?_;refine El (k:=1) ok.bX (dQ _) hl λq i=>?_;apply St.go
   have o:((aQ x.m (X.L.place c)).getD dV).xs.take 1=[(X.pu (X.L.place c)).headD 0]:=by
    rw[<-f]
    cases p:X.pu (X.L.place c)with
    |nil=>exact absurd p g
    |cons a l=>rfl
   rw[o]at i;have j:=(i (cl b (hk x)::MP fP x.r (bC (X.L.place c) (((aQ x.m (X.L.place c)).getD dV).cut 1) x.m)::bq x.lb X.L::cf x.sb X.S::dx x.rb x.sb X.R::dz x.tb X.T::eH x.qb X.Q::H0));refine af (H':=dJ (bC (X.L.place c) (((aQ x.m (X.L.place c)).getD dV).cut 1) x.m)::cl b (hk x)::MP fP x.r (bC (X.L.place c) (((aQ x.m (X.L.place c)).getD dV).cut 1) x.m)::bq x.lb X.L::cf x.sb X.S::dx x.rb x.sb X.R::dz x.tb X.T::eH x.qb X.Q::H0) (oI j (by simp) λa ha=>?_);subst ha;exact ba (by omega) (uu j rfl (af (dw _ (ok.cut (X.L.place c) 1) U)))
def Lg[h:Ow H (bS b) X H0](hc:aF c)(w:aF n)(d:X.L.bk c=0->0<=X.L.place c/\X.L.place c<64)(y:2*X.S.bl<900000)(s:X.R.line.next<4000000000)(U:T B (bS b (X.xo c n)::H0) (K (J (X.xp c n)))):T B H (ad P 116 #[pz b,J c,J n] K):=by
 refine bf h.pl (an (Mv _ _ _) ?_);unfold aJ.xo at U;generalize a:X.xp c n=e at U;unfold aJ.xp at a;repeat' first|apply St.go|refine S2.go (λ_=>?_) λ_=>?_|refine Sc.go (by omega) ?_|done
 ·rename_i he
  rw[aj he]at a U;subst a;exact af U
 ·rename_i he h1
  rw[ag he,ag h1]at a U;subst a;exact af U
 ·rename_i he h1
  rw[ag he,aj h1]at a U
  have t:X.L.bk c=0:=by
   unfold aJ.e2 at he;split at he
   ·assumption
   ·exact he
  have d:=d t;have u:X.qg c=X.L.place c:=by unfold aJ.qg;rw[ag he]
  rw[u];refine aL (bS b) (e8 λx ok=>?_);have f:=ok.pu (X.L.place c);have hlen:=ok.len (X.L.place c);repeat' first|apply St.go|refine S2.go (λ_=>?_) λ_=>?_|done
  ·rename_i g
   have:((X.pu (X.L.place c)).length:Int)<n:=by rw[f];exact g
   rw[ag this]at a U;subst a;exact af (dw x ok U)
  ·rename_i g
   have v:¬((X.pu (X.L.place c)).length:Int)<n:=by rw[f];exact g
   rw[aj v]at a U;obtain⟨k,rfl⟩:∃k:Nat,n=k:=⟨n.toNat,by omega⟩;rw[aZ]at a U;refine af (H':=cl b (hk x)::MP fP x.r x.m::dJ x.m::bq x.lb X.L::cf x.sb X.S::dx x.rb x.sb X.R::dz x.tb X.T::eH x.qb X.Q::H0) ?_;refine El (k:=k) ok.bX (by omega) (by omega) λq i=>?_;apply St.go;rw[<-f]at i;refine af (H':=rZ b x (X.cut (X.L.place c) k) (dJ (bC (X.L.place c) (((aQ x.m (X.L.place c)).getD dV).cut k) x.m)::MP fP x.r (bC (X.L.place c) (((aQ x.m (X.L.place c)).getD dV).cut k) x.m)::dz x.tb X.T::eH x.qb X.Q::H0)) ?_;have j:((X.pu (X.L.place c)).take k).length=k:=by rw[fv];omega
   refine Em j.symm (i _) hc d (by rw[j];simp only;omega) s ?_;have hf:=aJ.yF c (X.L.place c) ((X.pu (X.L.place c)).take k) (X.cut (X.L.place c) k);generalize aJ.dB c (X.L.place c) ((X.pu (X.L.place c)).take k) (X.cut (X.L.place c) k)=Y at*;have aM:Y.1.Ok {x with m:=bC (X.L.place c) (((aQ x.m (X.L.place c)).getD dV).cut k) x.m}:=(ok.cut (X.L.place c) k).with hf.2.2.2.2.2 hf.2.1;have l:=hf.2.2.2.1;have o:=hf.2.2.2.2.1;simp only at l o;rw[<-l,<-o];repeat' first|apply St.go|refine S2.go (λ_=>?_) λ_=>?_|refine Sc.go (by omega) ?_|done
   ·rename_i p
    subst a;exact af (dw {x with m:=bC (X.L.place c) (((aQ x.m (X.L.place c)).getD dV).cut k) x.m} aM U)
   ·rename_i p
    rw[p]at a;subst a;rw[ag ⟨d.1,d.2,by omega⟩];exact af (dw {x with m:=bC (X.L.place c) (((aQ x.m (X.L.place c)).getD dV).cut k) x.m} aM U)
end
end
section
variable {B:Heap}{H H0:au}{K:aK}{b:Nat}{X:aJ}{c n i:Int}
def Cs:P.underlying 31=some (.slice 3):=by kernel_rfl
def Hr{m:ML Pz}{p v:Int}{k:Nat}{f:av->Nat->Nat->HP}(hs:bQ m)[I:bZ B H k #[J v]](hl:((aQ m p).getD dV).xs.length<1000000)(t:∀b:Pz,b.xs=((aQ m p).getD dV).xs++[v]->T B (hZ b::dJ (bN p m)::H) (f b.ptr b.xs.length b.c)):T B (dJ m::H) (cC P #[31,31] ((aQ m p).getD dV).ptr ((aQ m p).getD dV).xs.length ((aQ m p).getD dV).c (some (ai k 0)) 1 1 f):=by
 refine yc (k:=p) hs ?_;generalize(aQ m p).getD dV=z at*;have j:∀w∈([J v]:az),w.oneCell'=true:=by intro w hw;simp at hw;subst hw;rfl
 have s:∀{H2:au} {a cap:Nat} {rest:az},H2=dJ (bN p m)::H->z.xs.length+1<=cap->(iv .i64 z.xs++[J v]++rest).length=cap*1->
   T B (cl a (iv .i64 z.xs++[J v]++rest).toArray::H2) (f (some ⟨a,0,none⟩) (z.xs.length+1) cap):=by
  rintro H2 a cap rest rfl g d;have:=t ⟨some (a,0),cap,[],z.xs++[v]⟩ rfl;unfold hZ at this;simp only[Pz.ptr,iy,b',c8,gH,bI]at this;refine ic (c:=z.xs.length+1+rest.length=cap/\(cap≠0->(0:Nat)=0)) ⟨by simp at d;omega,λ_=>rfl⟩ (gI (q:=λrest:az=>fa (z.xs.length+1+rest.length=cap/\(cap≠0->(0:Nat)=0)) (cl a (iv .i64 z.xs++[J v]++rest).toArray)) rest ?_);simpa[iv]using this
 have l:hZ z=hZ z:=rfl
 conv at l=>rhs;unfold hZ
 rw[l];clear l
 cases n:z.p with
 |none=>
  simp only;refine gz λh=>?_;have r:z.ptr=none:=by unfold Pz.ptr;rw[n];rfl
  rw[r,h.1];have x:=h.2;refine q0 (.drop .refl) ?_;refine D7 rfl rfl Cs (by kernel_rfl) (by kernel_rfl) (by kernel_rfl) l5 (by rw[kZ];omega) (by rw[kZ];omega) (by kernel_rfl) (by rw[x];exact bF.nil) (by simp) (Rd.rd) rfl j (by omega) λa rest cap g d=>s rfl g d
 |some y=>
  obtain⟨a,o⟩:=y;simp only;refine gg λrest=>gz λhr=>?_;have r:z.ptr=some ⟨a,o,none⟩:=by unfold Pz.ptr;rw[n];rfl
  rw[r];by_cases A:z.xs.length+1<=z.c
  ·have u:=hr.2 (by omega)
   apply zN rfl rfl Cs (by kernel_rfl) (by kernel_rfl) l5 (Rd.rd) rfl j A (by simp[iv];omega)
   have e:eB (iv .i64 z.gK++(iv .i64 z.xs++rest)).toArray (o+z.xs.length*1) [J v]=(iv .i64 z.gK++(iv .i64 (z.xs++[v])++rest.drop 1)).toArray:=by
    have C:o+z.xs.length*1=(iv .i64 z.gK++iv .i64 z.xs).length:=by simp[iv];omega
    have K:1<=rest.length:=by omega
    rw[<-el,C];have D:iv .i64 z.gK++(iv .i64 (z.xs++[v])++List.drop 1 rest)=(iv .i64 z.gK++iv .i64 z.xs)++([J v]++List.drop 1 rest):=by simp[iv]
    rw[kI _ _ _ (by simp;omega),qO rfl,<-y',za rfl,D];rfl
   rw[e];have:=t ⟨z.p,z.c,z.gK,z.xs++[v]⟩ rfl;unfold hZ at this;rw[n]at this;simp only[Pz.ptr,iy,b',c8,gH,bI]at this;exact ic (c:=z.xs.length+1+(rest.drop 1).length=z.c/\(z.c≠0->o=z.gK.length)) ⟨by simp;omega,hr.2⟩ (gI (q:=λrest:az=>fa (z.xs.length+1+rest.length=z.c/\(z.c≠0->o=z.gK.length)) (cl a (iv .i64 z.gK++(iv .i64 (z.xs++[v])++rest)).toArray)) (rest.drop 1) this)
  ·have E:bF B (cl a (iv .i64 z.gK++(iv .i64 z.xs++rest)).toArray::dJ (bN p m)::H) (some ⟨a,o,none⟩) (iv .i64 z.xs):=by
    refine bF.nU λi hi=>?_;have hl:i<z.xs.length:=by simpa using hi
    have u:=hr.2 (by omega);rw[dE,u,iu (by simp),gx (by simp;omega)];simp
   refine D7 rfl rfl Cs (by kernel_rfl) (by kernel_rfl) (by kernel_rfl) l5 (by rw[kZ];omega) (by rw[kZ];omega) (by kernel_rfl) E (by simp) (Rd.rd) rfl j (by omega) λF G cap g d=>?_;exact af (H':=cl F (iv .i64 z.xs++[J v]++G).toArray::dJ (bN p m)::H) (s rfl g d)
def Wa{L:bE}(a:L.ar.aU.Ok)(b:L.ar.Ok):(L.ar.members.map (·.1)).Pairwise (·<·)/\∀m∈L.ar.members,0<=m.1/\m.1<64:=by
 have e:L.ar.members.map (·.1)=a7 L.ar.aU.cN:=by simp[bG.members,CV]
 refine⟨by rw[e];exact a.bX,λm hm=>?_⟩;obtain⟨q,c,rfl⟩:=bP.1 hm;obtain⟨e,he,rfl⟩:=bP.1 c;have:=a.op e he;have:=a.fresh;have:=b.n;simp only;omega
def Ln{x:mD}(ok:X.Ok x)(U:∀q l c' (ys:aN),l=ys.length->l<=64->T B (ah 1 q l c' (iv .i64 ys)::eh b X x H) (K (.slice q l c'))):T B (eh b X x H) (ad P 202 #[pz b] K):=by
 refine an (MG _) (St.go (aL (bq x.lb) (uS λg h=>?_)));obtain⟨hr,hm⟩:=Wa h g;refine Sa.go λy=>?_;have hlen:X.L.ar.members.length<=64:=by rw[bG.u4];exact bG.uW g h
 generalize r:X.L.ar.members=ms at*;repeat' first|apply St.go|refine S2.go (λ_=>?_) λ_=>?_|done
 ·rename_i h0
  exact dL 1 (af (H':=ah 1 none 0 0 []::eh b X x H) (U none 0 0 [] rfl (by omega)))
 ·rename_i h0
  have s:0<ms.length:=by omega
  obtain⟨w,hw⟩:∃w,ms[ms.length-1]?=some w:=⟨_,bj (by omega)⟩;have t:=hm w (cr hw)
  have hle:∀z∈ms,z.1<=w.1:=by
   intro z hz;obtain⟨j,o,rfl⟩:=qN hz;have i:ms[ms.length-1]'(by omega)=w:=by rw[bj (by omega)]at hw;exact qQ hw
   by_cases e:j=ms.length-1
   ·subst e
    rw[i];exact fS _
   ·have h1:=mz.1 hr j (ms.length-1) (by simpa using o) (by simp;omega) (by omega)
    simp only[zg,i]at h1;omega
  refine mF (ys:=aW ms) (ms.length-1) (by rw[br (by omega)];omega) (by omega) (x:=w.1) ?_ ?_
  ·exact ht gp ms (ms.length-1) w hw 0 (by omega)
  obtain⟨N,n⟩:∃N:Nat,IntKind.wrap .i64 (w.1+1)=(N:Int):=⟨(w.1+1).toNat,by rw[br (by omega)];omega⟩;have u:(N:Int)=w.1+1:=by rw[<-n,br (by omega)]
  rw[n];refine Sx.go (by omega) λa=>af (H':=cl a (iv .i64 (List.replicate N 0)).toArray::ah 4 y.1 ms.length y.2 (aW ms)::eh b X x H) (dh ms.length (by omega) (λk H'=>∃ys:aN,ys.length=N/\H'=cl a (iv .i64 ys).toArray::ah 4 y.1 ms.length y.2 (aW ms)::eh b X x H) ⟨_,by simp,rfl⟩ ?_);rintro k H' R v ⟨ys,d,rfl⟩ p;refine S2.go (λ_=>?_) λ_=>?_
  ·have f:k<ms.length:=by omega
   have c:ms[k]?=some ms[k]:=bj f;generalize ms[k]=z at c;have hz:=hm z (cr c);have A:=hle z (cr c);apply eD gp (by omega) k rfl f c;repeat first|apply St.go|refine Sa.go λ_=>?_|refine Sc.go (by first|omega|exact⟨rfl,rfl⟩) ?_
   rw[aR,bI];apply eE (by simp;omega) rfl
   have e:(iv .i64 ys).toArray.setIfInBounds z.1.toNat (J (((aQ x.m z.1).getD dV).xs.length:Int))=(iv .i64 (ys.set z.1.toNat (((aQ x.m z.1).getD dV).xs.length:Int))).toArray:=by simp[iv,jj]
   rw[e];exact af (H':=cl a (iv .i64 (ys.set z.1.toNat (((aQ x.m z.1).getD dV).xs.length:Int))).toArray::ah 4 y.1 ms.length y.2 (aW ms)::eh b X x H) (p f _ ⟨_,by simpa using d,rfl⟩)
  ·rw[aZ]
   refine kk (l:=N) 1 (by simp[d]) ?_;have:=U (some ⟨a,0,none⟩) N N ys d.symm (by omega);exact af this
def Lh{q:av}{c':Nat}{l:aN}{G:au}(C:bF B G q (iv .i64 l))(hc:aF c)(u:X.L.bk c=0->0<=X.L.place c/\X.L.place c<64)(ae:X.S.bl+l.length<900000)(I:X.R.line.next<4000000000)(U:T B (bS b (X.lv c l)::G) (K (J (X.u0 c l)))):T B (bS b X::G) (ad P 115 #[pz b,J c,.slice q l.length c'] K):=by
 apply an (Mw _ _ _ _ _);unfold aJ.lv at U;generalize d:X.u0 c l=e at U;unfold aJ.u0 at d;repeat' first|apply St.go|refine Sa.go λ_=>?_|refine S2.go (λ_=>?_) λ_=>?_|refine Sc.go (by omega) ?_|done
 ·rename_i he
  rw[aj he]at d U;subst d;exact af U
 ·rename_i he o
  rw[ag he]at d U
  have M:X.L.bk c=0:=by
   unfold aJ.e2 at he;split at he
   ·assumption
   ·exact he
  have u:=u M;have N:X.qg c=X.L.place c:=by unfold aJ.qg;rw[ag he]
  rw[N];generalize X.L.place c=p at*;refine iT Value.bool (dh l.length (by omega) (λk H'=>∃f:ML Bool,bQ f/\(∀j,(aQ f j).getD false=(l.take k).contains j)/\X.j0 p (l.take k)=true/\H'=MP Value.bool o f::bS b X::G) ⟨[],by simp[bQ,a7,ed],λj=>by simp[aQ],by simp[aJ.j0],rfl⟩ ?_);rintro k H' R ah ⟨f,D,v,g,rfl⟩ O;refine S2.go (λ_=>?_) λ_=>?_
  ·have w:k<l.length:=by omega
   have s:l[k]?=some l[k]:=bj w;generalize l[k]=i at s;have:Rd B (MP Value.bool o f::bS b X::G) q (iv .i64 l):=⟨C.tail.tail⟩;apply fA k rfl w s;have hw:IntKind.wrap .i64 (p+1)=p+1:=br (by omega);rw[hw]
   have V:∀{k':Nat},X.j0 p (l.take k')=false->X.j0 p l=false:=by
    intro k' h;unfold aJ.j0 at h⊢;simp only[vZ,hg,List.all_eq_false]at h⊢;rcases h with h|⟨z,hz,h⟩
    ·exact .inl λW=>h (W.sublist (Dc _ _))
    ·exact .inr ⟨z,kP hz,h⟩
   have n:X.j0 p (l.take (k+1))=(((X.ck i).own==p+1&&!(X.pu p).contains i)&&!(l.take k).contains i):=by
    rw[ef s];unfold aJ.j0 at g⊢;simp only[cg,bJ]at g
    have Z:(l.take k++[i]).Nodup↔i∉l.take k:=by rw[dP];exact⟨λh hi=>h.2.2 i hi i (by simp) rfl,λh=>⟨g.1,by simp,λa ha b E e=>h (by simp at E;subst E;subst e;exact ha)⟩⟩
    have aa:decide ((l.take k++[i]).Nodup)=!(l.take k).contains i:=by rw[CQ,bJ,Z];simp
    rw[aa,List.all_append,g.2];simp only[y7,List.all_nil,y3,ff];exact Bool.and_comm _ _
   have y:X.j0 p (l.take (k+1))=false->T B (bS b X::G) (K (J 18)):=by intro h;rw[V h]at U d;subst d;exact U
   refine aL (bS b) (e8 λx ok=>?_);have F:=ok.pu p;have hlen:=ok.len p;repeat' first|apply St.go|refine Sa.go λ_=>?_|refine S2.go (λ_=>?_) λ_=>?_|refine Sc.go ⟨rfl,rfl⟩ ?_|done
   ·rename_i t
    have:X.j0 p (l.take (k+1))=false:=by
     rw[n];have:((X.ck i).own==p+1)=false:=by unfold aJ.ck;simpa using t
     rw[this];rfl
    exact af (dw x ok (y this))
   ·rename_i t hs
    have:X.j0 p (l.take (k+1))=false:=by rw[n,<-v i,hs];simp
    exact af (dw x ok (y this))
   ·rename_i t hs
    have ab:((X.ck i).own==p+1)=true:=by unfold aJ.ck;simpa using t
    rw[ab,<-v i,hs]at n;have ai:∀H,Rd B (dJ x.m::H) ((aQ x.m p).getD dV).ptr (iv .i64 ((aQ x.m p).getD dV).xs):=λH=>⟨Xz ok.bX⟩;refine af (H':=dJ x.m::MP fP x.r x.m::MP Value.bool o f::cf x.sb X.S::cl b (hk x)::bq x.lb X.L::dx x.rb x.sb X.R::dz x.tb X.T::eH x.qb X.Q::G) ?_;refine Sc.go ⟨rfl,by rw[<-F];omega⟩ ?_;rw[<-F];repeat' first|apply St.go|refine S2.go (λ_=>?_) λ_=>?_|done
    ·rename_i A
     have:X.j0 p (l.take (k+1))=false:=by rw[n,A];rfl
     exact af (dw x ok (y this))
    ·rename_i A
     rw[A]at n;have ac:=O w (MP Value.bool o (bC i true f)::bS b X::G) ⟨_,fu D,λj=>?_,n,rfl⟩
     ·refine af (H':=eh b X x (MP Value.bool o (bC i true f)::G)) (dw x ok ?_)
      exact af ac
     ·rw[gR D,ef s]
      by_cases e:j=i
      ·subst e;simp
      ·rw[aj e,v];simp[e]
  ·have hl:k=l.length:=by omega
   subst hl;rw[ix]at g;rw[g,ag rfl]at U d;refine aL (bS b) (e8 λx ok=>?_);refine af (H':=rZ b x X (MP fP x.r x.m::dJ x.m::dz x.tb X.T::eH x.qb X.Q::G)) (Em rfl C.tail.tail.tail.tail hc u (by omega) I ?_);have hf:=aJ.yF c p l X;generalize aJ.dB c p l X=Y at*;subst d;have aM:Y.1.Ok x:=ok.with hf.2.2.2.2.2 hf.2.1;rw[<-hf.2.2.2.1,<-hf.2.2.2.2.1];exact St.go (af (dw x aM U))
end
