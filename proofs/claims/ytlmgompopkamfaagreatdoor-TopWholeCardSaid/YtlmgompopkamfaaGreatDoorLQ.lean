/- Lemmas that lead to TopWhole (their names made short by a program); no condition. -/
import Derived.Test.YtlmgompopkamfaaGreatDoorLP
import Derived.Handed
import Derived.ShapedOpen
import Derived.Shelf.Vars
import Derived.Lib.LaidTab
set_option linter.all false
set_option maxRecDepth 20000
set_option synthInstance.checkSynthOrder false
namespace Go.Proofs.YtlmgompopkamfaaGreatDoor
section
open Go.XS Go.bn
def oE{B:Heap}{H:au}{K:aK}{ty f:Nat}{name:String}{v:Value}{args:aB}(a:gb P f=true)(hm:∀w,(method (P.types.size+Made.depth) ty v name).run P w= .ok (f,v) w)(t:T B H (ab P f (v::args).toArray K)):T B H (eF P (invoke (Target.fn (Fn.method name) #[]) (Value.iface ty v::args).toArray) K):=by
 intro σ o w hw;refine⟨.enter f (v::args).toArray,w,?_,.refl _,.inr (.inr (.inl ⟨f,_,rfl,by rw[hw];exact t σ o⟩))⟩
 have e:(#[v]++(Value.iface ty v::args).toArray.extract 1 (Value.iface ty v::args).toArray.size)=(v::args).toArray:=by apply g';simp
 simp only[invoke,dY,jF,callMethod,Sem.run_bind,run_program,Result.andThen_ok,hm,e];exact zI uX _ a _
abbrev df(k:Nat):Value:=(pz k)
def Vx{k:Nat}:∀w,(method (P.types.size+Made.depth) 103 (df k) "copyhold/play.ahead").run P w= .ok (545,df k) w:=by intro w;kernel_rfl
def Vy{k:Nat}:∀w,(method (P.types.size+Made.depth) 103 (df k) "copyhold/play.behind").run P w= .ok (546,df k) w:=by intro w;kernel_rfl
def Vz{k:Nat}:∀w,(method (P.types.size+Made.depth) 103 (df k) "copyhold/play.end").run P w= .ok (547,df k) w:=by intro w;kernel_rfl
def VA{k:Nat}:∀w,(method (P.types.size+Made.depth) 106 (df k) "copyhold/play.ahead").run P w= .ok (548,df k) w:=by intro w;kernel_rfl
def VB{k:Nat}:∀w,(method (P.types.size+Made.depth) 106 (df k) "copyhold/play.behind").run P w= .ok (549,df k) w:=by intro w;kernel_rfl
def VC{k:Nat}:∀w,(method (P.types.size+Made.depth) 106 (df k) "copyhold/play.end").run P w= .ok (550,df k) w:=by intro w;kernel_rfl
def VD{k:Nat}:∀w,(method (P.types.size+Made.depth) 109 (df k) "copyhold/play.ahead").run P w= .ok (576,df k) w:=by intro w;kernel_rfl
def VE{k:Nat}:∀w,(method (P.types.size+Made.depth) 109 (df k) "copyhold/play.behind").run P w= .ok (577,df k) w:=by intro w;kernel_rfl
def VF{k:Nat}:∀w,(method (P.types.size+Made.depth) 109 (df k) "copyhold/play.end").run P w= .ok (578,df k) w:=by intro w;kernel_rfl
instance acW:gl P 112 5:=gl.of (e:=0) (by kernel_rfl)
section
variable {B:Heap}{H H0:au}{K:aK}{b kc ks kh kX:Nat}{s:Setup}{M:bB}
def F1(I:T B (bC b M::H) (K (.agg (cx M.s)))):T B (bC b M::H) (ab P 542 #[pz b] K):=by
 refine an (NO _) (Sa.go λaa=>aD rfl (aN (bC b) (gO λx=>?_)));unfold jX;apply J.go;rw[aQ];refine iS (cx M.s) rfl (λj c=>?_) ?_
 ·obtain rfl|rfl|rfl|rfl:j=0\/j=1\/j=2\/j=3:=by omega
  all_goals rfl
 refine hj rfl rfl ?_ ?_
 ·intro v a;simp at a;rcases a with rfl|rfl|rfl|rfl<;>rfl
 apply bI (b:=aa) (cs:=cx M.s) rfl;refine af (H':=k1 b M x H) (eE x ?_);exact I
abbrev jU(t g:Int):ax:=#[.string (ByteArray.mk #[]),D t,D g,D 0,D 0,.bool false,.bool false,D 0]
def Tx{p q:aw}(I:T B H (K (.tuple #[]))):T B H (ab P 545 #[.pointer p,.pointer q] K):=by exact an (O6 _ _) I
def Ty{o:Op}{y:jO}{t g:Int}{q:aw}(a:0<=t/\t<1000000)(b:0<=g/\g<1000000)(hl:y.list.length<1000000)(I:T B (cl kc (jU (if o.kind=12 then t+1 else t) (if o.kind=12 then g+y.list.length else g))::H) (K (.tuple #[]))):T B (cl kc (jU t g)::H) (ab P 546 #[df kc,.pointer q,.agg (b8 o),.agg (cQ y).toArray] K):=by
 apply an (O7 _ _ _ _);refine Sa.go λaa=>Sa.go λaj=>?_;refine dV (α:=Unit) (λ_=>cl aj (cQ y).toArray::cl aa (b8 o)::cl kc (jU t g)::H) (λ_=>[]) (λc body=>?_) λ_=>?_
 ·exact a1 rfl (aD rfl (body ()))
 ·refine J.go (a1 rfl ?_)
  by_cases h:o.kind=12
  ·rw[ah h,ah h]at I
   apply bk (by simp[h]);unfold cw cO;apply J.go;rw[aQ];apply a1 rfl;rw[bd (by omega)];apply J.go;rw[aQ];refine J.go (J.go ?_);rw[aQ];refine a1 rfl (bW rfl ?_);rw[bd (by omega)];apply J.go;rw[aQ];exact J.go (af I)
  ·rw[ak h,ak h]at I
   exact aD (by simp[h]) (af I)
def HH(hs:ik M.s M.snap)(a:M.V.bw<500/\M.V.all.length<500)(I:T B (cl ks #[D 0]::bC b M::H) (K (.tuple #[]))):T B (cl ks #[D 0]::bC b M::H) (ab P 548 #[df ks,df b] K):=by apply an (Pa _ _);unfold cw;apply J.go;rw[aQ];refine a1 rfl (bk rfl ?_);unfold bH;refine aN (bC b) (F1 ?_);refine J.go (uR a λx=>J.go ?_);unfold aU;refine af (H':=iG M.snap x (cl ks #[D 0]::bC b M::H)) ?_;apply Zm hs;apply J.go;unfold cO;apply J.go;rw[aQ,mx];exact J.go (af I)
def ZI{o:Op}{y:jO}(hs:ik M.s M.snap)(a:M.V.bw<500/\M.V.all.length<500)(I:T B (cl ks #[D 0]::bC b M::H) (K (.tuple #[]))):T B (cl ks #[D 0]::bC b M::H) (ab P 549 #[df ks,df b,.agg (b8 o),.agg (cQ y).toArray] K):=by apply an (Pb _ _ _ _);refine Sa.go λaa=>Sa.go λaj=>?_;refine af (H':=cl ks #[D 0]::bC b M::H) ?_;unfold ce;exact HH hs a (J.go I)
abbrev h'(t g w:Int)(f o:Bool)(l:Int)(r:ByteArray):ax:=#[.string r,D t,D g,D 0,D w,.bool f,.bool o,D l]
def ZJ{q:aw}{t g:Int}{f o:Bool}{l:Int}{r:ByteArray}(I:T B (cl ks #[D 0]::cl kX (h' t g 0 f o l r)::H) (K (.tuple #[]))):T B (cl ks #[D 0]::cl kX (h' t g 0 f o l r)::H) (ab P 550 #[df ks,.pointer q,df kX] K):=by apply an (Pd _ _ _);unfold cw cO;apply J.go;rw[aQ];refine a1 rfl (J.go ?_);rw[aQ];exact J.go (af I)
def Tz{t g:Int}{r:ByteArray}(a:M.V.bw<500/\M.V.all.length<500)(I:T B (cl kc (jU t g)::bC b M::cl kX (h' t g 0 false false M.snap.ts.length r)::H) (K (.tuple #[]))):T B (cl kc (jU t g)::bC b M::cl kX (h' 0 0 0 false false 0 r)::H) (ab P 547 #[df kc,df b,df kX] K):=by
 refine an (O8 _ _ _) (J.go (J.go (J.go ?_)));rw[aQ,aQ,aQ];refine a1 rfl (a1 rfl (a1 rfl ?_));unfold bH;refine aN (bC b) (uR a λx=>?_);apply J.go;have hC:bY B (bC b M::iG M.snap x (cl kc (jU t g)::cl kX (h' 0 0 0 false false 0 r)::H)) kc (jU t g):=inferInstance;refine fF (λσ o=>hC.cell o 3) (fF (λσ o=>hC.cell o 2) (fF (λσ o=>hC.cell o 1) (JU rfl ?_)));unfold cO
 iterate 4
  apply J.go;rw[aQ];apply J.go
 exact af I
end
end
section
open Go.XS Go.bn
abbrev fL(S:Sh)(y:fE)(pa:aw)(la ca:Nat):ax:=#[.slice y.pt S.ts.length y.dm,D S.f,D S.w,.slice y.pm S.ms.length y.cm,.slice y.pg S.gs.length y.cv,.slice pa la ca,.bool false]
abbrev BK(pa:aw)(la ca:Nat):ax:=#[.slice none 0 0,D 0,D 0,.slice none 0 0,.slice none 0 0,.slice pa la ca,.bool false]
section
variable {B:Heap}{H H0:au}{K:aK}{b kc ks kh kX la ca:Nat}{s:Setup}{M:bB}{S:Sh}{y:fE}{pa:aw}
def BM(hs:ik M.s M.snap)(d:M.V.bw<500/\M.V.all.length<500)(I:∀y:fE,T B (ai 5 y.pt M.snap.ts.length y.dm (M.snap.ts.flatMap aE)::ai 4 y.pm M.snap.ms.length y.cm (aW M.snap.ms)::cl kh (fL (dk M.snap M.s) {y with pg:=none,cv:=0} pa la ca)::bC b M::H) (K (.tuple #[]))):T B (cl kh (fL S y pa la ca)::bC b M::H) (ab P 576 #[df kh,df b] K):=by
 apply an (O9 _ _);unfold bH;refine aN (bC b) (uR d λx=>?_);refine J.go (aN (bC b) (F1 ?_));apply J.go;refine af (H':=iG M.snap x (bC b M::cl kh (fL S y pa la ca)::H)) ?_;refine T6 hs.n1 hs.n2 hs.n3 hs.n4 λa=>?_;apply J.go;unfold E5;apply J.go;rw[aQ,mx];refine ny rfl (by show 0+5<=7;omega) ?_ ?_
 ·intro v c;simp at c;rcases c with rfl|rfl|rfl|rfl|rfl<;>rfl
 have:=I a;show T B (ai 5 a.pt M.snap.ts.length a.dm (M.snap.ts.flatMap aE)::ai 4 a.pm M.snap.ms.length a.cm (aW M.snap.ms)::bC b M::cl kh (fL (dk M.snap M.s) {a with pg:=none,cv:=0} pa la ca)::H) _;exact af this
def YV{o:Op}{r:jO}(a:o.kind≠12)(hs:ik M.s M.snap)(c:M.V.bw<500/\M.V.all.length<500)(I:∀y:fE,T B (ai 5 y.pt M.snap.ts.length y.dm (M.snap.ts.flatMap aE)::ai 4 y.pm M.snap.ms.length y.cm (aW M.snap.ms)::cl kh (fL (dk M.snap M.s) {y with pg:=none,cv:=0} pa la ca)::bC b M::H) (K (.tuple #[]))):T B (cl kh (fL S y pa la ca)::bC b M::H) (ab P 577 #[df kh,df b,.agg (b8 o),.agg (cQ r).toArray] K):=by refine an (D5 _ _ _ _) (Sa.go λaa=>Sa.go λaj=>a1 rfl (aD (by simp[a]) ?_));unfold ce;refine af (H':=cl kh (fL S y pa la ca)::bC b M::H) ?_;refine BM hs c λd=>?_;apply J.go;exact I d
def YW{o:Op}{r:jO}{ys:List (Sh×fE)}{n:Nat}[x:Rd B H r.p (iv .i64 r.list)](z:o.kind=12)(hs:ik M.s M.snap)(A:M.V.bw<500/\M.V.all.length<500)(m:b4.Fit ⟨[],S.ts,S.ms,S.f⟩ n)(q:r.list.length<1000)(hf:rf S.w r.list S.ts S.ms S.f=true)(C:la=ys.length)(U:ys.length<1000)(I:∀(d:fE) t u,T B (ai 5 d.pt M.snap.ts.length d.dm (M.snap.ts.flatMap aE)::ai 4 d.pm M.snap.ms.length d.cm (aW M.snap.ms)::cl kh (fL (dk M.snap M.s) {d with pg:=none,cv:=0} t (ys.length+1) u)::bC b M::ai 5 t (ys.length+1) u (hS (ys++[({S with gs:=r.list},{y with pg:=r.p,cv:=r.c})]))::ai 5 y.pt S.ts.length y.dm (S.ts.flatMap aE)::ai 4 y.pm S.ms.length y.cm (aW S.ms)::H) (K (.tuple #[]))):T B (cl kh (fL S y pa la ca)::bC b M::ai 5 pa la ca (hS ys)::ai 5 y.pt S.ts.length y.dm (S.ts.flatMap aE)::ai 4 y.pm S.ms.length y.cm (aW S.ms)::H) (ab P 577 #[df kh,df b,.agg (b8 o),.agg (cQ r).toArray] K):=by
 subst C;refine an (D5 _ _ _ _) (Sa.go λaa=>Sa.go λaj=>a1 rfl (bk (by simp[z]) (bW rfl ?_)));unfold cO;apply J.go;rw[aQ];apply J.go;show T B (cl aj (cQ r).toArray::cl aa (b8 o)::cl kh (fL {S with gs:=r.list} {y with pg:=r.p,cv:=r.c} pa ys.length ca)::bC b M::ai 5 pa ys.length ca (hS ys)::ai 5 y.pt S.ts.length y.dm (S.ts.flatMap aE)::ai 4 y.pm S.ms.length y.cm (aW S.ms)::H) _;obtain⟨S',g⟩:∃S':Sh,S'={S with gs:=r.list}:=⟨_,rfl⟩;obtain⟨a,h⟩:∃a:fE,a={y with pg:=r.p,cv:=r.c}:=⟨_,rfl⟩;have i:S'.ts=S.ts:=by rw[g]
 have k:S'.ms=S.ms:=by rw[g]
 have v:S'.f=S.f:=by rw[g]
 have D:S'.w=S.w:=by rw[g]
 have l:S'.gs=r.list:=by rw[g]
 have E:a.pt=y.pt:=by rw[h]
 have F:a.dm=y.dm:=by rw[h]
 have G:a.pm=y.pm:=by rw[h]
 have L:a.cm=y.cm:=by rw[h]
 have N:a.pg=r.p:=by rw[h]
 rw[<-g,<-h]at I⊢;rw[<-i,<-k,<-v,<-D,<-l]at hf;rw[<-i,<-k,<-v]at m;rw[<-l]at q;simp only[<-i,<-k,<-E,<-F,<-G,<-L]at I⊢;have W:Rd B H a.pg (iv .i64 S'.gs):=by rw[N,l];exact x
 refine af (H':=cl kh (fL S' a pa ys.length ca)::cl aj (cQ r).toArray::cl aa (b8 o)::bC b M::ai 5 pa ys.length ca (hS ys)::ai 5 a.pt S'.ts.length a.dm (S'.ts.flatMap aE)::ai 4 a.pm S'.ms.length a.cm (aW S'.ms)::H) ?_;refine J.go (J.go ?_);rw[aQ,aQ];refine bW rfl (iS (iF S' a).toArray rfl (λj O=>?_) ?_)
 ·obtain rfl|rfl|rfl|rfl|rfl:j=0\/j=1\/j=2\/j=3\/j=4:=by omega
  all_goals rfl
 apply bj rfl;refine Sa.go λQ=>?_;refine jP (ds:=(iF S' a).toArray) rfl ?_;have hC:bY B (cl Q (iF S' a).toArray::cl kh (fL S' a pa ys.length ca)::cl aj (cQ r).toArray::cl aa (b8 o)::bC b M::ai 5 pa ys.length ca (hS ys)::ai 5 a.pt S'.ts.length a.dm (S'.ts.flatMap aE)::ai 4 a.pm S'.ms.length a.cm (aW S'.ms)::H) kh (fL S' a pa ys.length ca):=inferInstance;apply fF (λσ o=>hC.cell o 5);refine aN (ai 5 pa ys.length ca) (e0 (s:=5) (c:=ca) rfl (by omega) λe c'=>?_);have R:hS ys++(iF S' a).toArray.toList=hS (ys++[(S',a)]):=by unfold hS;simp
 rw[R];apply J.go;rw[aQ];apply J.go;unfold E4;apply J.go;rw[aQ];refine iT rfl (aD rfl ?_);unfold jX;apply J.go;rw[aQ];refine af (H':=ai 5 a.pt S'.ts.length a.dm (S'.ts.flatMap aE)::ai 4 a.pm S'.ms.length a.cm (aW S'.ms)::cl kh (fL S' a e (ys.length+1) c')::bC b M::ai 5 e (ys.length+1) c' (hS (ys++[(S',a)]))::H) (iS (iF S' a).toArray rfl (λj O=>?_) ?_)
 ·obtain rfl|rfl|rfl|rfl|rfl:j=0\/j=1\/j=2\/j=3\/j=4:=by omega
  all_goals rfl
 unfold aJ;refine T7 m q hf (J.go (J.go ?_));rw[aQ];apply J.go;unfold ce;show T B (ai 5 a.pt S'.ts.length a.dm (S'.ts.flatMap aE)::ai 4 a.pm S'.ms.length a.cm (aW S'.ms)::cl kh (fL S' a e (ys.length+1) c')::bC b M::ai 5 e (ys.length+1) c' (hS (ys++[(S',a)]))::H) _;exact af (H':=cl kh (fL S' a e (ys.length+1) c')::bC b M::ai 5 e (ys.length+1) c' (hS (ys++[(S',a)]))::ai 5 a.pt S'.ts.length a.dm (S'.ts.flatMap aE)::ai 4 a.pm S'.ms.length a.cm (aW S'.ms)::H) (BM hs A λd=>J.go (I d e c'))
def YX{ys:List (Sh×fE)}{t g l:Int}{r:ByteArray}{q:aw}(hl:la=ys.length)(hlen:la<1000)(a:∀y∈ys,y.1.gs≠[]->bF B H y.2.pt (y.1.ts.flatMap aE)/\bF B H y.2.pg (iv .i64 y.1.gs))(c:∀y∈ys,y.1.gs.length<1000/\y.1.ts.length<1000)(d:qi (ys.map (·.1)) []=true)(I:T B (cl kX (h' t g 0 true true l r)::H) (K (.tuple #[]))):T B (cl kh (fL S y pa la ca)::ai 5 pa la ca (hS ys)::cl kX (h' t g 0 false false l r)::H) (ab P 578 #[df kh,.pointer q,df kX] K):=by refine an (O' _ _ _) (J.go (J.go ?_));rw[aQ,aQ];refine iT rfl (bW rfl ?_);unfold aJ;refine T8 hl hlen (λy b h=>⟨((a y b h).1.tail.tail).tail,((a y b h).2.tail.tail).tail⟩) c d (J.go ?_);have hC:bY B (cl kh (fL S y pa la ca)::ai 5 pa la ca (hS ys)::cl kX (h' t g 0 false false l r)::H) kh (fL S y pa la ca):=inferInstance;apply fF (λσ o=>hC.cell o 6);unfold cO;apply J.go;rw[aQ];refine J.go (J.go ?_);rw[aQ];apply J.go;show T B (cl kh (fL S y pa la ca)::ai 5 pa la ca (hS ys)::cl kX (h' t g 0 true true l r)::H) _;exact af I
end
end
section
open Go.XS Go.bn
def o4(nums:aO)(a r:Int):Int:=if 1<=r/\r<=nums.length then nums.getD (r-1).toNat 0 else if r≠0 then 0 else a
def cU(nums:aO)(x:h3):Op:=⟨x.1,o4 nums (g1 x.2 0) (g2 x.2 0),o4 nums (g1 x.2 1) (g2 x.2 1),o4 nums (g1 x.2 2) (g2 x.2 2),[]⟩
abbrev o1(kind:Int)(a:Nat->Int):ax:=#[D kind,D (a 0),D (a 1),D (a 2),.string (ByteArray.mk #[])]
def WB{kind n:Int}{a:Nat->Int}{k:Nat}(I:k<3):(o1 kind a).setIfInBounds (1+k) (D n)=o1 kind (λj=>if j=k then n else a j):=by
 obtain rfl|rfl|rfl:k=0\/k=1\/k=2:=by omega
 all_goals rfl
def JT{B:Heap}{H:au}{cs:ax}{i:Nat}{p:aw}{f:aw->HP}(h:cs[i]?=some (.pointer p))(t:T B H (f p)):T B H (Bk cs i f):=λσ o=>⟨p,h,t σ o⟩
section
variable {B:Heap}{H H0:au}{K:aK}{q:aw}{c:Nat}
def Yx{nums:aO}{x:h3}[hr:Rd B H q (iv .i64 nums)](hl:nums.length<1000)(I:T B H (K (.agg (b8 (cU nums x))))):T B H (ab P 31 #[.agg (k8 x),.slice q nums.length c] K):=by
 apply an (Qy _ _ _ _);refine Sa.go λaa=>Sa.go λaj=>?_;refine iS (b:=aa) (cs:=k8 x) (o1 x.1 (g1 x.2)) rfl (λj f=>?_) ?_
 ·obtain rfl|rfl|rfl|rfl|rfl:j=0\/j=1\/j=2\/j=3\/j=4:=by omega
  all_goals rfl
 refine Sa.go λd=>Sc.go ⟨rfl,rfl⟩ (cF 3 (by omega) (λk Y=>∃a:Nat->Int,(∀j,j<k->a j=o4 nums (g1 x.2 j) (g2 x.2 j))/\(∀j,k<=j->a j=g1 x.2 j)/\Y=cl d (o1 x.1 a)::cl aj (b8 ⟨0,0,0,0,[]⟩)::cl aa (k8 x)::H) ⟨_,λj f=>absurd f (by omega),λj _=>rfl,rfl⟩ ?_);rintro k Y R v ⟨a,ha,i,rfl⟩ m;refine S2.go (λg=>?_) λg=>?_
 ·have g:k<3:=by omega
  apply bj (by omega);apply JT (p:=some ⟨d,1+k,none⟩) (by obtain rfl|rfl|rfl:k=0\/k=1\/k=2:=(by omega)<;>rfl);apply bj (by omega);rw[aQ,a7];apply a1 (b:=aa) (cs:=k8 x) (n:=g2 x.2 k) (by obtain rfl|rfl|rfl:k=0\/k=1\/k=2:=(by omega)<;>rfl);have u:=i k (by omega)
  have fin:∀n:Int,n=o4 nums (g1 x.2 k) (g2 x.2 k)->T B (cl d (o1 x.1 λj=>if j=k then n else a j)::cl aj (b8 ⟨0,0,0,0,[]⟩)::cl aa (k8 x)::H) (R [D (IntKind.wrap .i64 ((k:Int)+1))]):=λn l=>m g _ ⟨_,λj f=>by
   by_cases e:j=k
   ·subst e;rw[ah rfl];exact l
   ·rw[ak e];exact ha j (by omega),λj f=>by rw[ak (by omega)];exact i j (by omega),rfl⟩
  obtain⟨r,o⟩:∃r,g2 x.2 k=r:=⟨_,rfl⟩;rw[o]at fin⊢
  have s:∀n:Int,n=o4 nums (g1 x.2 k) r->T B (cl d (o1 x.1 a)::cl aj (b8 ⟨0,0,0,0,[]⟩)::cl aa (k8 x)::H) (cO (some ⟨d,1+k,none⟩) 0 (D n) (R [D (IntKind.wrap .i64 ((k:Int)+1))])):=λn l=>by unfold cO;apply J.go;rw[aQ,mx];apply eB (by show 1+k<5;omega) rfl;rw[WB g];exact fin n l
  refine dV (α:=Unit) (λ_=>cl d (o1 x.1 a)::cl aj (b8 ⟨0,0,0,0,[]⟩)::cl aa (k8 x)::H) (λ_=>[.bool (decide (1<=r/\r<=nums.length))]) (λw body=>?_) λ_=>?_
  ·have body:=body ()
   by_cases U:1<=r
   ·apply bk (by simpa using U)
    simp only[U,nk]at body;exact body
   ·apply aD (by simpa using U)
    simp only[U,false_and,decide_false]at body;exact body
  ·apply J.go
   by_cases h:1<=r/\r<=nums.length
   ·apply bk (by simpa using h)
    rw[bd (by omega)];have hi:(r-1).toNat<nums.length:=by omega
    have t:nums[(r-1).toNat]?=some nums[(r-1).toNat]:=ba hi;refine e1 (r-1).toNat (by omega) hi t (s _ ?_);unfold o4;rw[ah h,ei,t];rfl
   ·apply aD (by simpa using h)
    by_cases h0:r=0
    ·refine aD (by simpa using h0) (m g _ ⟨a,λj f=>?_,λj f=>i j (by omega),rfl⟩)
     by_cases e:j=k
     ·subst e
      rw[u,o,h0];unfold o4;rw[ak (by omega),ak (by simp)]
     ·exact ha j (by omega)
    ·refine bk (by simpa using h0) (s _ ?_)
     unfold o4;rw[ak h,ah h0]
 ·have e:k=3:=by omega
  subst e;refine bI (b:=d) rfl ?_;refine Sc.go ⟨rfl,rfl⟩ ?_;refine bI (b:=aj) rfl ?_
  have e:o1 x.1 a=b8 (cU nums x):=by unfold cU o1 b8;rw[ha 0 (by omega),ha 1 (by omega),ha 2 (by omega)]
  rw[e];exact af I
end
end
section
open Go.XS Go.bn
instance acX:gl P 119 4:=gl.of (e:=0) (by kernel_rfl)
structure PS where
 M:bB
 nums:aO
 t:Int
 g:Int
 ss:List Sh
def BL(S:Sh):Bool:=S.ms.all (λm=>bZ m.2)&&S.ts.all (λt=>decide (0<=t.b1))&&decide (0<=S.f/\S.f<=1048576)&&decide (S.ms.length<=900)&&decide (S.ts.length<=900)
def YT{S:Sh}(h:BL S=true):b4.Fit ⟨[],S.ts,S.ms,S.f⟩ 999/\S.ts.length<=900:=by unfold BL at h;simp only[b9,bz,ig]at h;obtain⟨⟨⟨⟨U,a⟩,b⟩,d⟩,c⟩:=h;exact⟨⟨U,a,b,by show S.ms.length<=1000;omega,by show 0+S.ts.length<=999;omega,by omega⟩,c⟩
def dj(n:Int):Bool:=decide (-9223372036854775808<=n/\n<=9223372036854775807)
def wE{n:Int}(h:dj n=true):aF n:=by unfold dj at h;simpa[aF]using h
def Bi(x:h3)(p:PS):Bool:=
 decide ((p.M.da (cU p.nums x)).e=0)&&(p.M.da (cU p.nums x)).text.isEmpty&&decide ((cU p.nums x).kind≠14)&&(dj (cU p.nums x).a&&dj (cU p.nums x).b&&dj (cU p.nums x).c)&&
 (p.M.da (cU p.nums x)).list.all dj&&decide ((p.M.da (cU p.nums x)).list.length<=50)&&
 (if(cU p.nums x).kind=12 then rf (dk p.M.snap p.M.s).w (p.M.da (cU p.nums x)).list (dk p.M.snap p.M.s).ts (dk p.M.snap p.M.s).ms (dk p.M.snap p.M.s).f&&BL (dk p.M.snap p.M.s)else true)
def fU(x:h3)(p:PS):PS:=
 ⟨(p.M.da (cU p.nums x)).M,p.nums++[(p.M.da (cU p.nums x)).n 0],if(cU p.nums x).kind=12 then p.t+1 else p.t,
  if(cU p.nums x).kind=12 then p.g+(p.M.da (cU p.nums x)).list.length else p.g,
  if(cU p.nums x).kind=12 then p.ss++[{dk p.M.snap p.M.s with gs:=(p.M.da (cU p.nums x)).list}]else p.ss⟩
def s9:List h3->PS->Bool
 |[],p=>decide (p.g=2)&&decide (p.M.snap.ts.length=0)&&qi p.ss []
 |x::l,p=>Bi x p&&s9 l (fU x p)
def Cn(R:e7):Prop:=∀w,R.n w=R.n 0
def oO{c:Prop}[Decidable c]{a b:e7}(ha:c->Cn a)(d:¬c->Cn b):Cn (if c then a else b):=by
 split
 ·rename_i h;exact ha h
 ·rename_i h;exact d h
def TF{M:bB}{o:Op}(h:o.kind≠14):Cn (M.da o):=by
 unfold bB.da;repeat' (refine oO (λ_=>?_) λ_=>?_)
 all_goals first
  |exact λ_=>rfl
  |exact absurd ‹o.kind=14› h
  |(unfold bB.td;repeat' (refine oO (λ_=>?_) λ_=>?_);all_goals exact λ_=>rfl)
  |(unfold bB.root;repeat' (refine oO (λ_=>?_) λ_=>?_);all_goals exact λ_=>rfl)
  |(unfold bB.child;repeat' (refine oO (λ_=>?_) λ_=>?_);all_goals exact λ_=>rfl)
  |(unfold bB.write;repeat' (refine oO (λ_=>?_) λ_=>?_);all_goals exact λ_=>rfl)
  |(unfold bB.vv;repeat' (refine oO (λ_=>?_) λ_=>?_);all_goals exact λ_=>rfl)
  |(unfold bB.free;repeat' (refine oO (λ_=>?_) λ_=>?_);all_goals exact λ_=>rfl)
  |(unfold bB.sP;repeat' (refine oO (λ_=>?_) λ_=>?_);all_goals first|exact λ_=>rfl|(unfold bB.laid;repeat' (refine oO (λ_=>?_) λ_=>?_);all_goals exact λ_=>rfl))
section
variable {B:Heap}{H H0:au}{K:aK}{s:Setup}{b:Nat}{M:bB}{o:Op}
def ns{p:HP}{a:Value}(t:T B H p):T B H (λσ=>(a=a)/\p σ):=λσ o=>⟨rfl,t σ o⟩
def nr{b i:Nat}{cs:ax}[h:bY B H b cs]{v:Value}{p:HP}(hc:cs[i]?=some v)(t:T B H p):T B H (dA (λσ=>cA σ (Addr.add ⟨b,0,none⟩ i)=some v) p):=fF (λσ o=>by rw[aQ,h.cell o,bJ];exact hc) t
def zf{b n:Nat}{cs:ax}[h:bY B H b cs]{p:HP}(a:cs.size=n)(t:T B H p):T B H (dA (λσ=>∃ds,(Value.agg cs=Value.agg ds)/\((Array.size ds=n)/\(∀k,(k<n)->(cA σ (Addr.add ⟨b,0,none⟩ k)=ds[k]?)))) p):=fF (λσ o=>⟨cs,rfl,a,λk _=>by rw[aQ,h.cell o,bJ]⟩) t
def JF{a d:aw}{b c e g:Nat}{f:aw->Nat->Nat->aw->Nat->Nat->HP}(t:T B H (f a b c d e g)):T B H (λσ=>∀a' i c' j k l,([Value.slice a b c,Value.slice d e g]=[Value.slice a' i c',Value.slice j k l])->f a' i c' j k l σ):=by intro σ o a' i c' j k l h;cases h;exact t σ o
def TG(d:M.Fit)(f:o.Fit)(he:(M.da o).e=0)(g:(M.da o).text=[])(h:o.kind≠14)(I:∀a:jO,a.n=(M.da o).n 0->a.list=(M.da o).list->Basic (M.da o).M->T B (ai 1 a.p a.list.length a.c (iv .i64 a.list)::bC b (M.da o).M::H) (K (.agg (cQ a).toArray))):T B (bC b M::H) (ab P 14 #[pz b,.agg (b8 o)] K):=by
 refine AO d f λw p c hw=>aN (bC b) (xy λi=>?_)
 have e:x8 (M.da o) w p c= .agg (cQ ⟨(M.da o).n 0,(M.da o).list,p,c⟩).toArray:=by unfold x8 cQ;rw[he,g,TF h w]
 rw[e];exact af (I ⟨(M.da o).n 0,(M.da o).list,p,c⟩ rfl rfl i)
abbrev n8(kc ks kh:Nat):ax:=#[.iface 103 (df kc),.iface 106 (df ks),.iface 109 (df kh)]
abbrev nR(mb kc ks kh:Nat)(M:bB)(t g:Int)(S:Sh)(y:fE)(pa:aw)(ca:Nat)(ys:List (Sh×fE))(Z:au):au:=
 bC mb M::cl kc (jU t g)::cl ks #[D 0]::cl kh (fL S y pa ys.length ca)::ai 5 y.pt S.ts.length y.dm (S.ts.flatMap aE)::ai 4 y.pm S.ms.length y.cm (aW S.ms)::ai 5 pa ys.length ca (hS ys)::Z
structure PF(B:Heap)(H:au)(s:Setup)(k:Nat)(p:PS)(rs:List jO)(ys:List (Sh×fE))(Z:au):Prop where
 uH:Kp s k p.M
 b:Basic p.M
 t:0<=p.t/\p.t<=k
 g:0<=p.g/\p.g<=50*k
 nl:p.nums.length=k
 By:rs.length=k
 rr:∀y∈rs,bF B Z y.p (iv .i64 y.list)/\aF y.n/\(∀x∈y.list,aF x)/\y.list.length<=100
 ss:ys.map (·.1)=p.ss
 Cq:ys.length<=k
 yr:∀y∈ys,y.1.gs≠[]->bF B Z y.2.pt (y.1.ts.flatMap aE)/\bF B Z y.2.pg (iv .i64 y.1.gs)
 Cr:∀y∈ys,y.1.gs.length<1000/\y.1.ts.length<1000
 z:∀q,T B H q->T B Z q
def PF.Wc{k:Nat}{p:PS}{rs:List jO}{ys:List (Sh×fE)}{Z:au}{x:h3}{e:jO}(h:PF B H s k p rs ys Z)(I:k<50)(aP:Bi x p=true)(gr:(cU p.nums x).kind≠12)(j:Basic (p.M.da (cU p.nums x)).M)(C:e.n=(p.M.da (cU p.nums x)).n 0)(hl:e.list=(p.M.da (cU p.nums x)).list)(l:Kp s (k+1) (p.M.da (cU p.nums x)).M)(m:aF e.n)(o:∀v∈e.list,aF v)(D:e.list.length<=50):PF B H s (k+1) (fU x p) (rs++[e]) ys (ai 1 e.p e.list.length e.c (iv .i64 e.list)::Z):=by
 have E:=h.t;have i:=h.g;have r:(fU x p).t=p.t:=by unfold fU;exact ak gr
 have u:(fU x p).g=p.g:=by unfold fU;exact ak gr
 have w:(fU x p).ss=p.ss:=by unfold fU;exact ak gr
 have A:(fU x p).nums.length=p.nums.length+1:=by unfold fU;simp
 refine⟨l,j,by rw[r];omega,by rw[u];omega,by rw[A,h.nl],by rw[cr,h.By];rfl,λy f=>?_,by rw[w];exact h.ss,by have:=h.Cq;omega,λy f i=>⟨(h.yr y f i).1.tail,(h.yr y f i).2.tail⟩,h.Cr,λq t=>ec (h.z q t)⟩;rcases dL.1 f with f|f
 ·obtain⟨a,b,c,d⟩:=h.rr y f
  exact⟨a.tail,b,c,d⟩
 ·rw[fB.1 f]
  exact⟨bF.iB,m,o,by omega⟩
def PF.We{k:Nat}{p:PS}{rs:List jO}{ys:List (Sh×fE)}{Z:au}{x:h3}{e:jO}{y:fE}(h:PF B H s k p rs ys Z)(I:k<50)(C:(dk p.M.snap p.M.s).ts.length<=900)(gr:(cU p.nums x).kind=12)(j:Basic (p.M.da (cU p.nums x)).M)(D:e.n=(p.M.da (cU p.nums x)).n 0)(hl:e.list=(p.M.da (cU p.nums x)).list)(l:Kp s (k+1) (p.M.da (cU p.nums x)).M)(m:aF e.n)(o:∀v∈e.list,aF v)(E:e.list.length<=50):PF B H s (k+1) (fU x p) (rs++[e]) (ys++[({dk p.M.snap p.M.s with gs:=e.list},{y with pg:=e.p,cv:=e.c})]) (ai 1 e.p e.list.length e.c (iv .i64 e.list)::ai 5 y.pt (dk p.M.snap p.M.s).ts.length y.dm ((dk p.M.snap p.M.s).ts.flatMap aE)::ai 4 y.pm (dk p.M.snap p.M.s).ms.length y.cm (aW (dk p.M.snap p.M.s).ms)::Z):=by
 have F:=h.t;have i:=h.g;have r:(fU x p).t=p.t+1:=by unfold fU;exact ah gr
 have u:(fU x p).g=p.g+e.list.length:=by unfold fU;rw[hl];exact ah gr
 have w:(fU x p).ss=p.ss++[{dk p.M.snap p.M.s with gs:=e.list}]:=by unfold fU;rw[hl];exact ah gr
 have A:(fU x p).nums.length=p.nums.length+1:=by unfold fU;simp
 refine⟨l,j,by rw[r];omega,by rw[u];omega,by rw[A,h.nl],by rw[cr,h.By];rfl,λy f=>?_,by rw[w,e6,h.ss];rfl,by have:=h.Cq;rw[cr,vU];omega,λz hz i=>?_,λz hz=>?_,λq t=>ec (ec (ec (h.z q t)))⟩
 ·rcases dL.1 f with f|f
  ·obtain⟨a,b,c,d⟩:=h.rr y f
   exact⟨a.tail.tail.tail,b,c,d⟩
  ·rw[fB.1 f]
   exact⟨bF.iB,m,o,by omega⟩
 ·rcases dL.1 hz with hz|hz
  ·exact⟨(h.yr z hz i).1.tail.tail.tail,(h.yr z hz i).2.tail.tail.tail⟩
  ·rw[fB.1 hz]
   exact⟨bF.iB.tail,bF.iB⟩
 ·rcases dL.1 hz with hz|hz
  ·exact h.Cr z hz
  ·rw[fB.1 hz]
   exact⟨by show e.list.length<1000;omega,by show(dk p.M.snap p.M.s).ts.length<1000;omega⟩
def J1{p:aw}{n:Int}{f:aw->Int->HP}(t:T B H (f p n)):T B H (λσ=>∃a,∃b,(Value.tuple #[.pointer p,D n]=Value.tuple #[.pointer a,D b])/\f a b σ):=λσ o=>⟨p,n,rfl,t σ o⟩
def J0{p n:ax}{f:ax->ax->HP}(t:T B H (f p n)):T B H (λσ=>∃a,∃b,(Value.tuple #[.agg p,.agg n]=Value.tuple #[.agg a,.agg b])/\f a b σ):=λσ o=>⟨p,n,rfl,t σ o⟩
abbrev jY(a b aa aj kc ks kh:Nat)(s:Setup)(lp:aw)(N lc:Nat)(ls:List h3)(X:au):au:=
 cl a (n8 kc ks kh)::ai 8 lp N lc (ls.flatMap o6)::cl b #[D s.c,D s.z,D s.q,D s.l,.slice lp N lc]::cl aa (h' 0 0 0 false false 0 (ByteArray.mk #[]))::cl aj #[D 0,D 0]::X
def Xc{aV l0:ByteArray}{lns:List (ByteArray×h3)}(g:Gl B)(bf:ou aV (l0::lns.map (·.1)))(hs:tZ l0 s.c s.z s.q s.l)(bg:∀x∈lns,iR x.1 x.2)(hl:lns.length<=49)(bh:ui s.c s.z s.q s.l=true)(gr:s.c<=12/\s.z<=256)(A:∀n m q:Nat,s.c=n->s.z=m->s.q=q->s9 (lns.map (·.2)) ⟨⟨s,aL.new n m q,a8.new,Lv.new⟩,[],0,0,[]⟩=true)(I:∀t r,T B H (K (.tuple #[.agg (h' t 2 0 true true 0 r),.agg #[D 0,D 0]]))):T B H (ab P 17 #[.string aV] K):=by
 apply an (O5 _);refine Sa.go λaa=>Sa.go λaj=>?_;refine Yv g bf hs bg (by omega) λlp lc=>?_;apply J0;refine Sa.go λC=>Sa.go λbi=>?_;refine Sc.go ⟨rfl,rfl⟩ ?_;refine Sc.go ⟨rfl,rfl⟩ ?_;apply bI (b:=bi) (cs:=#[D 0,D 0]) rfl;apply qU (.bool false) (λσ o w hw=>by kernel_rfl);apply J.go;apply aD rfl;rw[aQ];refine iS (b:=C) (cs:=#[D s.c,D s.z,D s.q,D s.l,.slice lp lns.length lc]) (cx s) rfl (λj ae=>?_) ?_
 ·obtain rfl|rfl|rfl|rfl:j=0\/j=1\/j=2\/j=3:=by omega
  all_goals rfl
 refine F0 (λh=>by rw[bh]at h;cases h) λn m q' mb ag aX aY ao bV bl bX bm bn=>?_;have ak:Kp s 0 ⟨s,aL.new n m q',a8.new,Lv.new⟩:=(keeps s).new n m q' ag aX aY ao (by omega) bl (by omega) bm bn;have A:=A n m q' ag aX aY;apply J1;apply aD rfl;refine Sa.go λkc=>Sa.go λks=>Sa.go λkh=>Sa.go λe=>?_;have bo:(⟨⟨s.c,s.z,s.q,s.l⟩,aL.new n m q',a8.new,Lv.new⟩:bB)=⟨s,aL.new n m q',a8.new,Lv.new⟩:=rfl;obtain⟨M0,aZ⟩:∃M0:bB,M0=⟨s,aL.new n m q',a8.new,Lv.new⟩:=⟨_,rfl⟩;rw[bo,<-aZ];rw[<-aZ]at ak A;refine aN (bC mb) (xy λaH=>?_);refine dR 5 ?_;generalize bp:lns.map (·.2)=ls at A;have bY:ls.length=lns.length:=by rw[<-bp];simp
 refine af (H':=jY e C aa aj kc ks kh s lp lns.length lc ls (bC mb M0::cl kc (jU 0 0)::cl ks #[D 0]::cl kh (BK none 0 0)::ai 5 none 0 0 []::H)) ?_;have L:=(keeps s).fit 0 M0 (by omega) aH ak;have aI:=(keeps s).snd 0 M0 (by omega) aH ak|>.1;rw[<-ak.st]at aI
 refine cF 3 (by omega) (λk Y=>(k<=2/\Y=jY e C aa aj kc ks kh s lp lns.length lc ls (bC mb M0::cl kc (jU 0 0)::cl ks #[D 0]::cl kh (BK none 0 0)::ai 5 none 0 0 []::H))\/
  (k=3/\∃y,Y=jY e C aa aj kc ks kh s lp lns.length lc ls (nR mb kc ks kh M0 0 0 (dk M0.snap M0.s) y none 0 [] H))) (.inl ⟨by omega,rfl⟩) ?_
 rintro k Y R bq ap aJ;rcases ap with⟨bZ,rfl⟩|⟨rfl,y,rfl⟩
 ·apply bk (by simp;omega)
  apply bj (by omega);rw[aQ];obtain rfl|rfl|rfl:k=0\/k=1\/k=2:=by omega
  ·apply hM (b:=e) (cs:=n8 kc ks kh) (v:= .iface 103 (df kc)) rfl
   apply oE (by kernel_rfl) Vx;apply Tx;apply ns;exact aJ (by omega) _ (.inl ⟨by omega,rfl⟩)
  ·apply hM (b:=e) (cs:=n8 kc ks kh) (v:= .iface 106 (df ks)) rfl
   apply oE (by kernel_rfl) VA;refine bL (q:=bC mb M0) (bL (q:=cl ks #[D 0]) (HH aI ⟨L.mh,L.qA⟩ ?_));apply ns;exact af (aJ (by omega) _ (.inl ⟨by omega,rfl⟩))
  ·apply hM (b:=e) (cs:=n8 kc ks kh) (v:= .iface 109 (df kh)) rfl
   apply oE (by kernel_rfl) VD;refine bL (q:=bC mb M0) (bL (q:=cl kh (BK none 0 0)) ?_);refine BM (S:=⟨[],0,0,[],[]⟩) (y:=⟨none,0,none,0,none,0⟩) (pa:=none) (la:=0) (ca:=0) aI ⟨L.mh,L.qA⟩ λy=>?_;apply ns;have h:=aJ (by omega) _ (.inr ⟨rfl,{y with pg:=none,cv:=0},rfl⟩)
   refine af (H':=jY e C aa aj kc ks kh s lp lns.length lc ls (bC mb M0::cl kc (jU 0 0)::cl ks #[D 0]::cl kh (fL (dk M0.snap M0.s) {y with pg:=none,cv:=0} none 0 0)::
    ai 5 y.pt M0.snap.ts.length y.dm (M0.snap.ts.flatMap aE)::ai 4 y.pm M0.snap.ms.length y.cm (aW M0.snap.ms)::ai 5 none 0 0 []::H)) ?_
   exact h
 apply aD rfl;rw[aQ];apply bW (b:=C) (cs:=#[D s.c,D s.z,D s.q,D s.l,.slice lp lns.length lc]) (p:=lp) (l:=lns.length) (c:=lc) rfl;refine dR 1 ?_;refine dR 4 ?_;clear aJ R
 refine J4 lns.length (by omega) (λk aq a0 ar av a5 ay Y=>∃(p:PS) (rs:List jO) (ys:List (Sh×fE)) (y:fE) (pa:aw) (ca:Nat) (Z:au),PF B H s k p rs ys Z/\s9 (ls.drop k) p=true/\a0=rs.length/\a5=p.nums.length/\
  Y=ai 4 aq rs.length ar (rs.flatMap cQ)::ai 1 av p.nums.length ay (iv .i64 p.nums)::jY e C aa aj kc ks kh s lp lns.length lc ls (nR mb kc ks kh p.M p.t p.g (dk p.M.snap p.M.s) y pa ca ys Z)) ?_ ?_
 ·exact⟨⟨M0,[],0,0,[]⟩,[],[],y,none,0,H,⟨ak,aH,⟨fY _,fY _⟩,⟨fY _,fY _⟩,rfl,rfl,by simp,rfl,d' _,by simp,by simp,λq t=>t⟩,A,rfl,rfl,rfl⟩
 clear A L aI ak aH;rintro k aq a0 ar av a5 ay Y R1 bq ⟨p,rs,ys,y,pa,ca,Z,hf,A,rfl,rfl,rfl⟩ a6;have b0:=hf.nl;have b1:=hf.By;have b2:=hf.Cq;have b3:=hf.t;have b4:=hf.g;refine S2.go (λaK=>?_) λaK=>?_
 ·have aK:k<lns.length:=by omega
  have a7:ls[k]?=some ls[k]:=ba (by omega);rw[tI (by omega)]at A;generalize ls[k]'(by omega)=x at a7 A;unfold s9 at A;rw[b9]at A;obtain⟨aP,A⟩:=A;have aR:=aP;unfold Bi at aR;simp only[b9,bz,List.isEmpty_iff,ig]at aR;obtain⟨⟨⟨⟨⟨⟨he,br⟩,bs⟩,⟨⟨ha,bt⟩,hc⟩⟩,bu⟩,hlen⟩,al⟩:=aR;have a9:(cU p.nums x).Fit:=⟨wE ha,wE bt,wE hc,by show 0<1000000;omega⟩;have L:=(keeps s).fit k p.M (by omega) hf.b hf.uH;show T B _ (de lp lns.length (k:Int) 8 8 _);apply dO (f:=o6) (rs:=ls) Yt (by omega) k rfl aK a7;refine Sa.go λbv=>Sc.go ⟨rfl,rfl⟩ ?_;refine jP (ds:=k8 x) rfl ?_;apply bI (b:=bv) (cs:=k8 x) rfl;apply Yx (x:=x) (nums:=p.nums) (by omega);apply J.go;refine Sa.go λW=>Sc.go ⟨rfl,rfl⟩ ?_;apply bI (b:=W) (cs:=b8 (cU p.nums x)) rfl;refine aN (bC mb) (TG L a9 he br bs λd aM am az=>?_);obtain⟨aO,_,aA⟩:=(keeps s).step k p.M (cU p.nums x) (by omega) hf.b az hf.uH a9 (by show 0<=9000;omega);have aA:=aA 0 (by omega);rw[<-aM]at aA;have bb:∀v∈d.list,aF v:=by rw[am];exact λv bw=>wE (bu v bw)
  have bc:d.list.length<=50:=by rw[am];exact hlen
  have ac:=(keeps s).fit (k+1) _ (by omega) az aO;have aB:=(keeps s).snd (k+1) _ (by omega) az aO|>.1;rw[<-aO.st]at aB;apply J.go;refine Sa.go λE=>Sc.go ⟨rfl,rfl⟩ ?_
  refine dV (α:=aw×Nat×aw×Nat) (λa=>ai 4 a.1 (rs.length+1) a.2.1 ((rs++[d]).flatMap cQ)::ai 1 a.2.2.1 (p.nums.length+1) a.2.2.2 (iv .i64 (p.nums++[d.n]))::ai 1 d.p d.list.length d.c (iv .i64 d.list)::
   cl E (cQ d).toArray::cl W (b8 (cU p.nums x))::jY e C aa aj kc ks kh s lp lns.length lc ls (nR mb kc ks kh (p.M.da (cU p.nums x)).M p.t p.g (dk p.M.snap p.M.s) y pa ca ys Z))
   (λa=>[.slice a.1 (rs.length+1) a.2.1,.slice a.2.2.1 (p.nums.length+1) a.2.2.2]) (λb5 body=>?_) λa=>?_
  ·have ao:rs.flatMap cQ++(cQ d).toArray.toList=(rs++[d]).flatMap cQ:=by simp
   have ag:iv .i64 p.nums++(#[D d.n]:ax).toList=iv .i64 (p.nums++[d.n]):=by simp[iv]
   apply bI (b:=E) (cs:=(cQ d).toArray) rfl;apply a1 (b:=E) (i:=1) (cs:=(cQ d).toArray) (n:=d.n) rfl;refine fO ?_ ?_
   ·apply bj rfl
    refine Sa.go λb6=>?_;refine jP (ds:=(cQ d).toArray) rfl ?_;apply nr (b:=E) (cs:=(cQ d).toArray) rfl;refine fO ?_ ?_
    ·refine aN (ai 4 aq rs.length ar) (e0 (s:=4) rfl (by omega) λaC c'=>?_)
     rw[ao];apply nr (b:=E) (cs:=(cQ d).toArray) rfl;refine Sa.go λb7=>?_;apply zf (b:=E) (cs:=(cQ d).toArray) rfl;refine aN (ai 1 av p.nums.length ay) (e0 (s:=1) rfl (by omega) λp2 c2=>?_);rw[ag];exact af (body (aC,c',p2,c2))
    ·refine Sa.go λcb=>?_
     apply zf (b:=E) (cs:=(cQ d).toArray) rfl;refine aN (ai 4 aq rs.length ar) (e0 (s:=4) rfl (by omega) λaC c'=>?_);rw[ao];apply nr (b:=E) (cs:=(cQ d).toArray) rfl;refine aN (ai 1 av p.nums.length ay) (e0 (s:=1) rfl (by omega) λp2 c2=>?_);rw[ag];exact af (body (aC,c',p2,c2))
   ·refine Sa.go λcc=>?_
    apply zf (b:=E) (cs:=(cQ d).toArray) rfl;apply bj rfl;refine Sa.go λcd=>?_;refine jP (ds:=(cQ d).toArray) rfl ?_;apply nr (b:=E) (cs:=(cQ d).toArray) rfl;refine aN (ai 4 aq rs.length ar) (e0 (s:=4) rfl (by omega) λaC c'=>?_);rw[ao];apply nr (b:=E) (cs:=(cQ d).toArray) rfl;refine aN (ai 1 av p.nums.length ay) (e0 (s:=1) rfl (by omega) λp2 c2=>?_);rw[ag];exact af (body (aC,c',p2,c2))
  obtain⟨ad,a2,a3,a4⟩:=a;apply JF;generalize bx:(p.M.da (cU p.nums x)).M=M2 at ac aB;have bA:(fU x p).M=M2:=by rw[<-bx];rfl
  have bd:(fU x p).nums=p.nums++[d.n]:=by rw[aM];rfl
  have bD:(fU x p).t=if(cU p.nums x).kind=12 then p.t+1 else p.t:=rfl;have bE:(fU x p).g=if(cU p.nums x).kind=12 then p.g+d.list.length else p.g:=by rw[am];rfl
  have bG:∀(u:fE) (F:aw) (G:Nat) (N:List (Sh×fE)) (O:au),PF B H s (k+1) (fU x p) (rs++[d]) N O->
    T B (ai 4 ad (rs.length+1) a2 ((rs++[d]).flatMap cQ)::ai 1 a3 (p.nums.length+1) a4 (iv .i64 (p.nums++[d.n]))::jY e C aa aj kc ks kh s lp lns.length lc ls
     (nR mb kc ks kh M2 (if(cU p.nums x).kind=12 then p.t+1 else p.t) (if(cU p.nums x).kind=12 then p.g+d.list.length else p.g) (dk M2.snap M2.s) u F G N O))
     (R1 [Value.slice ad (rs.length+1) a2,Value.slice a3 (p.nums.length+1) a4,Value.int IntKind.i64 (IntKind.wrap IntKind.i64 ((k:Int)+1))]):=λu F G N O aS=>by
   refine a6 aK _ _ _ _ _ _ _ ⟨fU x p,rs++[d],N,u,F,G,O,aS,A,by simp,by rw[bd];simp,?_⟩;rw[bA,bd,bD,bE];simp only[cr,vU]
  clear a6
  refine cF 3 (by omega) (λj Y=>(j=0/\Y=ai 4 ad (rs.length+1) a2 ((rs++[d]).flatMap cQ)::ai 1 a3 (p.nums.length+1) a4 (iv .i64 (p.nums++[d.n]))::ai 1 d.p d.list.length d.c (iv .i64 d.list)::
    cl E (cQ d).toArray::cl W (b8 (cU p.nums x))::jY e C aa aj kc ks kh s lp lns.length lc ls (nR mb kc ks kh M2 p.t p.g (dk p.M.snap p.M.s) y pa ca ys Z))\/
   ((j=1\/j=2)/\Y=ai 4 ad (rs.length+1) a2 ((rs++[d]).flatMap cQ)::ai 1 a3 (p.nums.length+1) a4 (iv .i64 (p.nums++[d.n]))::ai 1 d.p d.list.length d.c (iv .i64 d.list)::
    cl E (cQ d).toArray::cl W (b8 (cU p.nums x))::jY e C aa aj kc ks kh s lp lns.length lc ls (nR mb kc ks kh M2 (if(cU p.nums x).kind=12 then p.t+1 else p.t) (if(cU p.nums x).kind=12 then p.g+d.list.length else p.g) (dk p.M.snap p.M.s) y pa ca ys Z))\/
   (j=3/\∃(u:fE) (F:aw) (G:Nat) (N:List (Sh×fE)) (O:au),PF B H s (k+1) (fU x p) (rs++[d]) N O/\
    Y=ai 4 ad (rs.length+1) a2 ((rs++[d]).flatMap cQ)::ai 1 a3 (p.nums.length+1) a4 (iv .i64 (p.nums++[d.n]))::jY e C aa aj kc ks kh s lp lns.length lc ls
     (nR mb kc ks kh M2 (if(cU p.nums x).kind=12 then p.t+1 else p.t) (if(cU p.nums x).kind=12 then p.g+d.list.length else p.g) (dk M2.snap M2.s) u F G N O))) (.inl ⟨rfl,rfl⟩) ?_
  rintro j Y bH bJ ap Q;rcases ap with⟨rfl,rfl⟩|⟨ae,rfl⟩|⟨rfl,u,F,G,N,O,aS,rfl⟩
  ·apply bk rfl
   apply bj (by omega);rw[aQ];apply hM (b:=e) (cs:=n8 kc ks kh) (v:= .iface 103 (df kc)) rfl;apply bI (b:=W) (cs:=b8 (cU p.nums x)) rfl;apply bI (b:=E) (cs:=(cQ d).toArray) rfl;apply oE (by kernel_rfl) Vy;refine bL (q:=cl kc (jU p.t p.g)) (Ty (by omega) (by omega) (by omega) ?_);apply ns;exact af (Q (by omega) _ (.inr (.inl ⟨.inl rfl,rfl⟩)))
  ·apply bk (by rcases ae with rfl|rfl<;>rfl)
   apply bj (by omega);rw[aQ];rcases ae with rfl|rfl
   ·apply hM (b:=e) (cs:=n8 kc ks kh) (v:= .iface 106 (df ks)) rfl
    apply bI (b:=W) (cs:=b8 (cU p.nums x)) rfl;apply bI (b:=E) (cs:=(cQ d).toArray) rfl;apply oE (by kernel_rfl) VB;refine bL (q:=bC mb M2) (bL (q:=cl ks #[D 0]) (ZI aB ⟨ac.mh,ac.qA⟩ ?_));apply ns;exact af (Q (by omega) _ (.inr (.inl ⟨.inr rfl,rfl⟩)))
   ·apply hM (b:=e) (cs:=n8 kc ks kh) (v:= .iface 109 (df kh)) rfl
    apply bI (b:=W) (cs:=b8 (cU p.nums x)) rfl;apply bI (b:=E) (cs:=(cQ d).toArray) rfl;apply oE (by kernel_rfl) VE;have be:Kp s (k+1) (p.M.da (cU p.nums x)).M:=aO;by_cases aG:(cU p.nums x).kind=12
    ·rw[ah aG]at al
     rw[b9]at al;obtain⟨al,bK⟩:=al;rw[<-am]at al;obtain⟨bM,bN⟩:=YT bK;refine bL (q:=ai 4 y.pm (dk p.M.snap p.M.s).ms.length y.cm (aW (dk p.M.snap p.M.s).ms)) (bL (q:=ai 5 y.pt (dk p.M.snap p.M.s).ts.length y.dm ((dk p.M.snap p.M.s).ts.flatMap aE)) (bL (q:=ai 5 pa ys.length ca (hS ys)) (bL (q:=bC mb M2) (bL (q:=cl kh (fL (dk p.M.snap p.M.s) y pa ys.length ca)) ?_))));refine YW (r:=d) aG aB ⟨ac.mh,ac.qA⟩ bM (by omega) al rfl (by omega) λu F G=>?_;apply ns;have h:=Q (by omega) _ (.inr (.inr ⟨rfl,{u with pg:=none,cv:=0},F,G,_,_,PF.We (y:=y) hf (by omega) bN aG az aM am be aA bb bc,rfl⟩));obtain⟨X,bO⟩:∃X:Sh×fE,X=({dk p.M.snap p.M.s with gs:=d.list},{y with pg:=d.p,cv:=d.c}):=⟨_,rfl⟩;rw[show ys.length+1=(ys++[X]).length from by simp]
     refine af (H':=ai 4 ad (rs.length+1) a2 ((rs++[d]).flatMap cQ)::ai 1 a3 (p.nums.length+1) a4 (iv .i64 (p.nums++[d.n]))::jY e C aa aj kc ks kh s lp lns.length lc ls
      (bC mb M2::cl kc (jU (if(cU p.nums x).kind=12 then p.t+1 else p.t) (if(cU p.nums x).kind=12 then p.g+d.list.length else p.g))::cl ks #[D 0]::cl kh (fL (dk M2.snap M2.s) {u with pg:=none,cv:=0} F (ys++[X]).length G)::
       ai 5 u.pt M2.snap.ts.length u.dm (M2.snap.ts.flatMap aE)::ai 4 u.pm M2.snap.ms.length u.cm (aW M2.snap.ms)::ai 5 F (ys++[X]).length G (hS (ys++[({dk p.M.snap p.M.s with gs:=d.list},{y with pg:=d.p,cv:=d.c})]))::
       ai 1 d.p d.list.length d.c (iv .i64 d.list)::ai 5 y.pt (dk p.M.snap p.M.s).ts.length y.dm ((dk p.M.snap p.M.s).ts.flatMap aE)::ai 4 y.pm (dk p.M.snap p.M.s).ms.length y.cm (aW (dk p.M.snap p.M.s).ms)::Z)) ?_
     subst bO;exact h
    ·refine bL (q:=bC mb M2) (bL (q:=cl kh (fL (dk p.M.snap p.M.s) y pa ys.length ca)) ?_)
     refine YV (r:=d) aG aB ⟨ac.mh,ac.qA⟩ λu=>?_;apply ns;have h:=Q (by omega) _ (.inr (.inr ⟨rfl,{u with pg:=none,cv:=0},pa,ca,_,_,PF.Wc hf (by omega) aP aG az aM am be aA bb bc,rfl⟩))
     refine af (H':=ai 4 ad (rs.length+1) a2 ((rs++[d]).flatMap cQ)::ai 1 a3 (p.nums.length+1) a4 (iv .i64 (p.nums++[d.n]))::jY e C aa aj kc ks kh s lp lns.length lc ls
      (bC mb M2::cl kc (jU (if(cU p.nums x).kind=12 then p.t+1 else p.t) (if(cU p.nums x).kind=12 then p.g+d.list.length else p.g))::cl ks #[D 0]::cl kh (fL (dk M2.snap M2.s) {u with pg:=none,cv:=0} pa ys.length ca)::
       ai 5 u.pt M2.snap.ts.length u.dm (M2.snap.ts.flatMap aE)::ai 4 u.pm M2.snap.ms.length u.cm (aW M2.snap.ms)::ai 5 pa ys.length ca (hS ys)::ai 1 d.p d.list.length d.c (iv .i64 d.list)::Z)) ?_
     exact h
  ·apply aD rfl
   exact bG u F G N O aS
 ·have ce:k=lns.length:=by omega
  rw[CI (by omega)]at A;unfold s9 at A;simp only[b9,bz]at A;obtain⟨⟨bP,bQ⟩,bR⟩:=A;have L:=(keeps s).fit k p.M (by omega) hf.b hf.uH;refine Yw (rs:=rs) g (by omega) (λz hz=>?_) λU=>?_
  ·obtain⟨aT,aU,bS,bT⟩:=hf.rr z hz
   refine⟨?_,aU,bS,bT⟩;iterate 14 refine bF.tail ?_
   exact aT
  apply J.go;refine Sa.go λV=>Sc.go ⟨rfl,rfl⟩ ?_;refine af (H':=cl V (h' 0 0 0 false false 0 U)::jY e C aa aj kc ks kh s lp lns.length lc ls (nR mb kc ks kh p.M p.t p.g (dk p.M.snap p.M.s) y pa ca ys Z)) ?_
  refine cF 3 (by omega) (λj Y=>(j=0/\Y=cl V (h' 0 0 0 false false 0 U)::jY e C aa aj kc ks kh s lp lns.length lc ls (nR mb kc ks kh p.M p.t p.g (dk p.M.snap p.M.s) y pa ca ys Z))\/
   ((j=1\/j=2)/\Y=cl V (h' p.t p.g 0 false false p.M.snap.ts.length U)::jY e C aa aj kc ks kh s lp lns.length lc ls (nR mb kc ks kh p.M p.t p.g (dk p.M.snap p.M.s) y pa ca ys Z))\/
   (j=3/\Y=cl V (h' p.t p.g 0 true true p.M.snap.ts.length U)::cl aa (h' 0 0 0 false false 0 (ByteArray.mk #[]))::cl aj #[D 0,D 0]::Z)) (.inl ⟨rfl,rfl⟩) ?_
  rintro j Y bH bJ ap Q;rcases ap with⟨rfl,rfl⟩|⟨ae,rfl⟩|⟨rfl,rfl⟩
  ·apply bk rfl
   apply bj (by omega);rw[aQ];apply hM (b:=e) (cs:=n8 kc ks kh) (v:= .iface 103 (df kc)) rfl;apply oE (by kernel_rfl) Vz;refine bL (q:=cl V (h' 0 0 0 false false 0 U)) (bL (q:=bC mb p.M) (bL (q:=cl kc (jU p.t p.g)) (Tz ⟨L.mh,L.qA⟩ ?_)));apply ns;exact af (Q (by omega) _ (.inr (.inl ⟨.inl rfl,rfl⟩)))
  ·apply bk (by rcases ae with rfl|rfl<;>rfl)
   apply bj (by omega);rw[aQ];rcases ae with rfl|rfl
   ·apply hM (b:=e) (cs:=n8 kc ks kh) (v:= .iface 106 (df ks)) rfl
    apply oE (by kernel_rfl) VC;refine bL (q:=cl V (h' p.t p.g 0 false false p.M.snap.ts.length U)) (bL (q:=cl ks #[D 0]) (ZJ ?_));apply ns;exact af (Q (by omega) _ (.inr (.inl ⟨.inr rfl,rfl⟩)))
   ·apply hM (b:=e) (cs:=n8 kc ks kh) (v:= .iface 109 (df kh)) rfl
    apply oE (by kernel_rfl) VF;refine bL (q:=cl V (h' p.t p.g 0 false false p.M.snap.ts.length U)) (bL (q:=ai 5 pa ys.length ca (hS ys)) (bL (q:=cl kh (fL (dk p.M.snap p.M.s) y pa ys.length ca)) ?_));refine YX rfl (by omega) (λz hz bU=>?_) hf.Cr (by rw[hf.ss];exact bR) ?_
    ·obtain⟨aT,aU⟩:=hf.yr z hz bU
     constructor
     ·repeat first|exact aT|refine bF.tail ?_
     ·repeat first|exact aU|refine bF.tail ?_
    apply ns;exact af (Q (by omega) _ (.inr (.inr ⟨rfl,rfl⟩)))
  ·apply aD rfl
   refine bI (b:=V) rfl ?_;refine Sc.go ⟨rfl,rfl⟩ ?_;refine Sc.go ⟨rfl,rfl⟩ ?_;refine bI (b:=aa) rfl ?_;refine bI (b:=aj) rfl ?_;have h:=I p.t U;rw[bP,bQ];exact af (hf.z _ h)
end
end
section
open Go.XS Go.bn Go.RowKit Go.Lib
def wl0:iR (bt [114,101,103,105,115,116,101,114,32,50]) (1,[(2,0)]):=λB H K g I=>
 lX (i:=1) (m:=1) (a:=(bt [114,101,103,105,115,116,101,114])) (t:=[(bt [50])]) (q:=[(bt [50])]) (w:=((bt [114,101,103,105,115,116,101,114]),1)) g ⟨by decide,by decide⟩ (by kernel_rfl) (by decide) (by kernel_rfl) (by decide) (by decide) (by kernel_rfl) rfl (by decide)
  (.cons (x:=(bt [114,101,103,105,115,116,101,114])) (r:=(bt [50])) (a:=(bt [50])) (t:=[]) ⟨by decide,by decide⟩ (by kernel_rfl) (.inl ⟨by kernel_rfl,(⟨by decide,by kernel_rfl,by kernel_rfl,by unfold aF;omega⟩:fs (bt [50]) 2),rfl⟩:iP (bt [50]) 2 0) (.nil _)) rfl I
def wl1:iR (bt [114,101,103,105,115,116,101,114,32,51]) (1,[(3,0)]):=λB H K g I=>
 lX (i:=1) (m:=1) (a:=(bt [114,101,103,105,115,116,101,114])) (t:=[(bt [51])]) (q:=[(bt [51])]) (w:=((bt [114,101,103,105,115,116,101,114]),1)) g ⟨by decide,by decide⟩ (by kernel_rfl) (by decide) (by kernel_rfl) (by decide) (by decide) (by kernel_rfl) rfl (by decide)
  (.cons (x:=(bt [114,101,103,105,115,116,101,114])) (r:=(bt [51])) (a:=(bt [51])) (t:=[]) ⟨by decide,by decide⟩ (by kernel_rfl) (.inl ⟨by kernel_rfl,(⟨by decide,by kernel_rfl,by kernel_rfl,by unfold aF;omega⟩:fs (bt [51]) 3),rfl⟩:iP (bt [51]) 3 0) (.nil _)) rfl I
def wl2:iR (bt [97,115,107,32,35,49,32,50]) (3,[(0,1),(2,0)]):=λB H K g I=>
 lX (i:=3) (m:=2) (a:=(bt [97,115,107])) (t:=[(bt [35,49,32,50])]) (q:=[(bt [50])]) (w:=((bt [97,115,107]),2)) g ⟨by decide,by decide⟩ (by kernel_rfl) (by decide) (by kernel_rfl) (by decide) (by decide) (by kernel_rfl) rfl (by decide)
  (.cons (x:=(bt [97,115,107])) (r:=(bt [35,49,32,50])) (a:=(bt [35,49])) (t:=[(bt [50])]) ⟨by decide,by decide⟩ (by kernel_rfl) (.inr ⟨by kernel_rfl,rfl,by decide,(⟨by decide,by kernel_rfl,by kernel_rfl,by unfold aF;omega⟩:fs ((bt [35,49]).extract 1 (bt [35,49]).size) 1),by omega,by omega⟩:iP (bt [35,49]) 0 1) (.cons (x:=(bt [35,49])) (r:=(bt [50])) (a:=(bt [50])) (t:=[]) ⟨by decide,by decide⟩ (by kernel_rfl) (.inl ⟨by kernel_rfl,(⟨by decide,by kernel_rfl,by kernel_rfl,by unfold aF;omega⟩:fs (bt [50]) 2),rfl⟩:iP (bt [50]) 2 0) (.nil _))) rfl I
def wl3:iR (bt [97,115,107,32,35,50,32,51]) (3,[(0,2),(3,0)]):=λB H K g I=>
 lX (i:=3) (m:=2) (a:=(bt [97,115,107])) (t:=[(bt [35,50,32,51])]) (q:=[(bt [51])]) (w:=((bt [97,115,107]),2)) g ⟨by decide,by decide⟩ (by kernel_rfl) (by decide) (by kernel_rfl) (by decide) (by decide) (by kernel_rfl) rfl (by decide)
  (.cons (x:=(bt [97,115,107])) (r:=(bt [35,50,32,51])) (a:=(bt [35,50])) (t:=[(bt [51])]) ⟨by decide,by decide⟩ (by kernel_rfl) (.inr ⟨by kernel_rfl,rfl,by decide,(⟨by decide,by kernel_rfl,by kernel_rfl,by unfold aF;omega⟩:fs ((bt [35,50]).extract 1 (bt [35,50]).size) 2),by omega,by omega⟩:iP (bt [35,50]) 0 2) (.cons (x:=(bt [35,50])) (r:=(bt [51])) (a:=(bt [51])) (t:=[]) ⟨by decide,by decide⟩ (by kernel_rfl) (.inl ⟨by kernel_rfl,(⟨by decide,by kernel_rfl,by kernel_rfl,by unfold aF;omega⟩:fs (bt [51]) 3),rfl⟩:iP (bt [51]) 3 0) (.nil _))) rfl I
def wl4:iR (bt [116,105,99,107]) (12,[]):=λB H K g I=>
 lX (i:=12) (m:=0) (a:=(bt [116,105,99,107])) (t:=[]) (q:=[(bt [116,105,99,107])]) (w:=((bt [116,105,99,107]),0)) g ⟨by decide,by decide⟩ (by kernel_rfl) (by decide) (by kernel_rfl) (by decide) (by decide) (by kernel_rfl) rfl (by decide)
  (.nil _) rfl I
def wl5:iR (bt [114,111,111,116,32,35,49]) (5,[(0,1)]):=λB H K g I=>
 lX (i:=5) (m:=1) (a:=(bt [114,111,111,116])) (t:=[(bt [35,49])]) (q:=[(bt [35,49])]) (w:=((bt [114,111,111,116]),1)) g ⟨by decide,by decide⟩ (by kernel_rfl) (by decide) (by kernel_rfl) (by decide) (by decide) (by kernel_rfl) rfl (by decide)
  (.cons (x:=(bt [114,111,111,116])) (r:=(bt [35,49])) (a:=(bt [35,49])) (t:=[]) ⟨by decide,by decide⟩ (by kernel_rfl) (.inr ⟨by kernel_rfl,rfl,by decide,(⟨by decide,by kernel_rfl,by kernel_rfl,by unfold aF;omega⟩:fs ((bt [35,49]).extract 1 (bt [35,49]).size) 1),by omega,by omega⟩:iP (bt [35,49]) 0 1) (.nil _)) rfl I
def wl6:iR (bt [108,97,121,32,35,54,32,54,52,32,49]) (7,[(0,6),(64,0),(1,0)]):=λB H K g I=>
 lX (i:=7) (m:=3) (a:=(bt [108,97,121])) (t:=[(bt [35,54,32,54,52,32,49])]) (q:=[(bt [49])]) (w:=((bt [108,97,121]),3)) g ⟨by decide,by decide⟩ (by kernel_rfl) (by decide) (by kernel_rfl) (by decide) (by decide) (by kernel_rfl) rfl (by decide)
  (.cons (x:=(bt [108,97,121])) (r:=(bt [35,54,32,54,52,32,49])) (a:=(bt [35,54])) (t:=[(bt [54,52,32,49])]) ⟨by decide,by decide⟩ (by kernel_rfl) (.inr ⟨by kernel_rfl,rfl,by decide,(⟨by decide,by kernel_rfl,by kernel_rfl,by unfold aF;omega⟩:fs ((bt [35,54]).extract 1 (bt [35,54]).size) 6),by omega,by omega⟩:iP (bt [35,54]) 0 6) (.cons (x:=(bt [35,54])) (r:=(bt [54,52,32,49])) (a:=(bt [54,52])) (t:=[(bt [49])]) ⟨by decide,by decide⟩ (by kernel_rfl) (.inl ⟨by kernel_rfl,(⟨by decide,by kernel_rfl,by kernel_rfl,by unfold aF;omega⟩:fs (bt [54,52]) 64),rfl⟩:iP (bt [54,52]) 64 0) (.cons (x:=(bt [54,52])) (r:=(bt [49])) (a:=(bt [49])) (t:=[]) ⟨by decide,by decide⟩ (by kernel_rfl) (.inl ⟨by kernel_rfl,(⟨by decide,by kernel_rfl,by kernel_rfl,by unfold aF;omega⟩:fs (bt [49]) 1),rfl⟩:iP (bt [49]) 1 0) (.nil _)))) rfl I
def wl7:iR (bt [102,114,101,101,32,35,54]) (8,[(0,6)]):=λB H K g I=>
 lX (i:=8) (m:=1) (a:=(bt [102,114,101,101])) (t:=[(bt [35,54])]) (q:=[(bt [35,54])]) (w:=((bt [102,114,101,101]),1)) g ⟨by decide,by decide⟩ (by kernel_rfl) (by decide) (by kernel_rfl) (by decide) (by decide) (by kernel_rfl) rfl (by decide)
  (.cons (x:=(bt [102,114,101,101])) (r:=(bt [35,54])) (a:=(bt [35,54])) (t:=[]) ⟨by decide,by decide⟩ (by kernel_rfl) (.inr ⟨by kernel_rfl,rfl,by decide,(⟨by decide,by kernel_rfl,by kernel_rfl,by unfold aF;omega⟩:fs ((bt [35,54]).extract 1 (bt [35,54]).size) 6),by omega,by omega⟩:iP (bt [35,54]) 0 6) (.nil _)) rfl I
def wl8:iR (bt [103,105,118,101,32,35,49,32,49]) (9,[(0,1),(1,0)]):=λB H K g I=>
 lX (i:=9) (m:=2) (a:=(bt [103,105,118,101])) (t:=[(bt [35,49,32,49])]) (q:=[(bt [49])]) (w:=((bt [103,105,118,101]),2)) g ⟨by decide,by decide⟩ (by kernel_rfl) (by decide) (by kernel_rfl) (by decide) (by decide) (by kernel_rfl) rfl (by decide)
  (.cons (x:=(bt [103,105,118,101])) (r:=(bt [35,49,32,49])) (a:=(bt [35,49])) (t:=[(bt [49])]) ⟨by decide,by decide⟩ (by kernel_rfl) (.inr ⟨by kernel_rfl,rfl,by decide,(⟨by decide,by kernel_rfl,by kernel_rfl,by unfold aF;omega⟩:fs ((bt [35,49]).extract 1 (bt [35,49]).size) 1),by omega,by omega⟩:iP (bt [35,49]) 0 1) (.cons (x:=(bt [35,49])) (r:=(bt [49])) (a:=(bt [49])) (t:=[]) ⟨by decide,by decide⟩ (by kernel_rfl) (.inl ⟨by kernel_rfl,(⟨by decide,by kernel_rfl,by kernel_rfl,by unfold aF;omega⟩:fs (bt [49]) 1),rfl⟩:iP (bt [49]) 1 0) (.nil _))) rfl I
def wl9:iR (bt [116,105,99,107]) (12,[]):=λB H K g I=>
 lX (i:=12) (m:=0) (a:=(bt [116,105,99,107])) (t:=[]) (q:=[(bt [116,105,99,107])]) (w:=((bt [116,105,99,107]),0)) g ⟨by decide,by decide⟩ (by kernel_rfl) (by decide) (by kernel_rfl) (by decide) (by decide) (by kernel_rfl) rfl (by decide)
  (.nil _) rfl I
def aaO:iR (bt [116,105,99,107]) (12,[]):=λB H K g I=>
 lX (i:=12) (m:=0) (a:=(bt [116,105,99,107])) (t:=[]) (q:=[(bt [116,105,99,107])]) (w:=((bt [116,105,99,107]),0)) g ⟨by decide,by decide⟩ (by kernel_rfl) (by decide) (by kernel_rfl) (by decide) (by decide) (by kernel_rfl) rfl (by decide)
  (.nil _) rfl I
def aaP:iR (bt [115,116,97,116,101,32,35,50,32,35,52]) (13,[(0,2),(0,4)]):=λB H K g I=>
 lX (i:=13) (m:=2) (a:=(bt [115,116,97,116,101])) (t:=[(bt [35,50,32,35,52])]) (q:=[(bt [35,52])]) (w:=((bt [115,116,97,116,101]),2)) g ⟨by decide,by decide⟩ (by kernel_rfl) (by decide) (by kernel_rfl) (by decide) (by decide) (by kernel_rfl) rfl (by decide)
  (.cons (x:=(bt [115,116,97,116,101])) (r:=(bt [35,50,32,35,52])) (a:=(bt [35,50])) (t:=[(bt [35,52])]) ⟨by decide,by decide⟩ (by kernel_rfl) (.inr ⟨by kernel_rfl,rfl,by decide,(⟨by decide,by kernel_rfl,by kernel_rfl,by unfold aF;omega⟩:fs ((bt [35,50]).extract 1 (bt [35,50]).size) 2),by omega,by omega⟩:iP (bt [35,50]) 0 2) (.cons (x:=(bt [35,50])) (r:=(bt [35,52])) (a:=(bt [35,52])) (t:=[]) ⟨by decide,by decide⟩ (by kernel_rfl) (.inr ⟨by kernel_rfl,rfl,by decide,(⟨by decide,by kernel_rfl,by kernel_rfl,by unfold aF;omega⟩:fs ((bt [35,52]).extract 1 (bt [35,52]).size) 4),by omega,by omega⟩:iP (bt [35,52]) 0 4) (.nil _))) rfl I
def aaS:tZ (bt [109,97,110,111,114,32,51,32,54,52,32,49,32,48]) 3 64 1 0:=λB H K g I=>YA (x0:=(bt [109,97,110,111,114])) (x1:=(bt [51])) (x2:=(bt [54,52])) (x3:=(bt [49])) (x4:=(bt [48])) g ⟨by decide,by decide⟩ (by kernel_rfl) (by kernel_rfl) (by decide) rfl (⟨by decide,by kernel_rfl,by kernel_rfl,by unfold aF;omega⟩:fs (bt [51]) 3) (⟨by decide,by kernel_rfl,by kernel_rfl,by unfold aF;omega⟩:fs (bt [54,52]) 64) (⟨by decide,by kernel_rfl,by kernel_rfl,by unfold aF;omega⟩:fs (bt [49]) 1) (⟨by decide,by kernel_rfl,by kernel_rfl,by unfold aF;omega⟩:fs (bt [48]) 0) I
abbrev wSc:ByteArray:=ByteArray.mk (List.toArray (List.append [109,97,110,111,114,32,51,32,54,52,32,49,32,48,10,114,101,103,105,115,116,101,114,32,50,10,114,101,103,105,115,116,101,114,32,51,10,97,115,107,32,35,49,32,50,10,97,115,107,32,35,50,32,51,10,116,105,99,107,10] [114,111,111,116,32,35,49,10,108,97,121,32,35,54,32,54,52,32,49,10,102,114,101,101,32,35,54,10,103,105,118,101,32,35,49,32,49,10,116,105,99,107,10,116,105,99,107,10,115,116,97,116,101,32,35,50,32,35,52,10]))
def aaR:ou wSc [(bt [109,97,110,111,114,32,51,32,54,52,32,49,32,48]),(bt [114,101,103,105,115,116,101,114,32,50]),(bt [114,101,103,105,115,116,101,114,32,51]),(bt [97,115,107,32,35,49,32,50]),(bt [97,115,107,32,35,50,32,51]),(bt [116,105,99,107]),(bt [114,111,111,116,32,35,49]),(bt [108,97,121,32,35,54,32,54,52,32,49]),(bt [102,114,101,101,32,35,54]),(bt [103,105,118,101,32,35,49,32,49]),(bt [116,105,99,107]),(bt [116,105,99,107]),(bt [115,116,97,116,101,32,35,50,32,35,52])]:=
 .cons (r:=(bt [114,101,103,105,115,116,101,114,32,50,10,114,101,103,105,115,116,101,114,32,51,10,97,115,107,32,35,49,32,50,10,97,115,107,32,35,50,32,51,10,116,105,99,107,10,114,111,111,116,32,35,49,10,108,97,121,32,35,54,32,54,52,32,49,10,102,114,101,101,32,35,54,10,103,105,118,101,32,35,49,32,49,10,116,105,99,107,10,116,105,99,107,10,115,116,97,116,101,32,35,50,32,35,52,10])) (b:=true) (by decide) (by decide) (by kernel_rfl) (by decide) (by decide) (
 .cons (r:=(bt [114,101,103,105,115,116,101,114,32,51,10,97,115,107,32,35,49,32,50,10,97,115,107,32,35,50,32,51,10,116,105,99,107,10,114,111,111,116,32,35,49,10,108,97,121,32,35,54,32,54,52,32,49,10,102,114,101,101,32,35,54,10,103,105,118,101,32,35,49,32,49,10,116,105,99,107,10,116,105,99,107,10,115,116,97,116,101,32,35,50,32,35,52,10])) (b:=true) (by decide) (by decide) (by kernel_rfl) (by decide) (by decide) (
 .cons (r:=(bt [97,115,107,32,35,49,32,50,10,97,115,107,32,35,50,32,51,10,116,105,99,107,10,114,111,111,116,32,35,49,10,108,97,121,32,35,54,32,54,52,32,49,10,102,114,101,101,32,35,54,10,103,105,118,101,32,35,49,32,49,10,116,105,99,107,10,116,105,99,107,10,115,116,97,116,101,32,35,50,32,35,52,10])) (b:=true) (by decide) (by decide) (by kernel_rfl) (by decide) (by decide) (
 .cons (r:=(bt [97,115,107,32,35,50,32,51,10,116,105,99,107,10,114,111,111,116,32,35,49,10,108,97,121,32,35,54,32,54,52,32,49,10,102,114,101,101,32,35,54,10,103,105,118,101,32,35,49,32,49,10,116,105,99,107,10,116,105,99,107,10,115,116,97,116,101,32,35,50,32,35,52,10])) (b:=true) (by decide) (by decide) (by kernel_rfl) (by decide) (by decide) (
 .cons (r:=(bt [116,105,99,107,10,114,111,111,116,32,35,49,10,108,97,121,32,35,54,32,54,52,32,49,10,102,114,101,101,32,35,54,10,103,105,118,101,32,35,49,32,49,10,116,105,99,107,10,116,105,99,107,10,115,116,97,116,101,32,35,50,32,35,52,10])) (b:=true) (by decide) (by decide) (by kernel_rfl) (by decide) (by decide) (
 .cons (r:=(bt [114,111,111,116,32,35,49,10,108,97,121,32,35,54,32,54,52,32,49,10,102,114,101,101,32,35,54,10,103,105,118,101,32,35,49,32,49,10,116,105,99,107,10,116,105,99,107,10,115,116,97,116,101,32,35,50,32,35,52,10])) (b:=true) (by decide) (by decide) (by kernel_rfl) (by decide) (by decide) (
 .cons (r:=(bt [108,97,121,32,35,54,32,54,52,32,49,10,102,114,101,101,32,35,54,10,103,105,118,101,32,35,49,32,49,10,116,105,99,107,10,116,105,99,107,10,115,116,97,116,101,32,35,50,32,35,52,10])) (b:=true) (by decide) (by decide) (by kernel_rfl) (by decide) (by decide) (
 .cons (r:=(bt [102,114,101,101,32,35,54,10,103,105,118,101,32,35,49,32,49,10,116,105,99,107,10,116,105,99,107,10,115,116,97,116,101,32,35,50,32,35,52,10])) (b:=true) (by decide) (by decide) (by kernel_rfl) (by decide) (by decide) (
 .cons (r:=(bt [103,105,118,101,32,35,49,32,49,10,116,105,99,107,10,116,105,99,107,10,115,116,97,116,101,32,35,50,32,35,52,10])) (b:=true) (by decide) (by decide) (by kernel_rfl) (by decide) (by decide) (
 .cons (r:=(bt [116,105,99,107,10,116,105,99,107,10,115,116,97,116,101,32,35,50,32,35,52,10])) (b:=true) (by decide) (by decide) (by kernel_rfl) (by decide) (by decide) (
 .cons (r:=(bt [116,105,99,107,10,115,116,97,116,101,32,35,50,32,35,52,10])) (b:=true) (by decide) (by decide) (by kernel_rfl) (by decide) (by decide) (
 .cons (r:=(bt [115,116,97,116,101,32,35,50,32,35,52,10])) (b:=true) (by decide) (by decide) (by kernel_rfl) (by decide) (by decide) (
 .cons (r:=(bt [])) (b:=true) (by decide) (by decide) (by kernel_rfl) (by decide) (by decide) (
 .nil (by decide))))))))))))))
abbrev yw:List (ByteArray×h3):=[((bt [114,101,103,105,115,116,101,114,32,50]),((1:Int),([(2,0)]:List (Int×Int)))),((bt [114,101,103,105,115,116,101,114,32,51]),((1:Int),([(3,0)]:List (Int×Int)))),((bt [97,115,107,32,35,49,32,50]),((3:Int),([(0,1),(2,0)]:List (Int×Int)))),((bt [97,115,107,32,35,50,32,51]),((3:Int),([(0,2),(3,0)]:List (Int×Int)))),((bt [116,105,99,107]),((12:Int),([]:List (Int×Int)))),((bt [114,111,111,116,32,35,49]),((5:Int),([(0,1)]:List (Int×Int)))),((bt [108,97,121,32,35,54,32,54,52,32,49]),((7:Int),([(0,6),(64,0),(1,0)]:List (Int×Int)))),((bt [102,114,101,101,32,35,54]),((8:Int),([(0,6)]:List (Int×Int)))),((bt [103,105,118,101,32,35,49,32,49]),((9:Int),([(0,1),(1,0)]:List (Int×Int)))),((bt [116,105,99,107]),((12:Int),([]:List (Int×Int)))),((bt [116,105,99,107]),((12:Int),([]:List (Int×Int)))),((bt [115,116,97,116,101,32,35,50,32,35,52]),((13:Int),([(0,2),(0,4)]:List (Int×Int))))]
def aaQ:∀x∈yw,iR x.1 x.2:=by
 intro x a;simp only[yw,cR,jH,ji]at a;rcases a with rfl|rfl|rfl|rfl|rfl|rfl|rfl|rfl|rfl|rfl|rfl|rfl
 ·exact wl0
 ·exact wl1
 ·exact wl2
 ·exact wl3
 ·exact wl4
 ·exact wl5
 ·exact wl6
 ·exact wl7
 ·exact wl8
 ·exact wl9
 ·exact aaO
 ·exact aaP
abbrev Ib:Setup:=⟨3,64,1,0⟩
def aaB:s9 (yw.map (·.2)) ⟨⟨Ib,aL.new 3 64 1,a8.new,Lv.new⟩,[],0,0,[]⟩=true:=by kernel_rfl
def aal{B:Heap}(g:Gl B):DD B:=by
 intro H K I;apply an (SH);unfold Ec;refine Xc (s:=Ib) (lns:=yw) g aaR aaS aaQ (by decide) (by kernel_rfl) ⟨by decide,by decide⟩ (λn m q U a b=>?_) λt r=>?_
 ·obtain rfl:n=3:=by simp only at U;omega
  obtain rfl:m=64:=by simp only at a;omega
  obtain rfl:q=1:=by simp only at b;omega
  exact aaB
 exact J.go (Sa.go λc=>Sa.go λd=>Sc.go ⟨rfl,rfl⟩ (Sc.go ⟨rfl,rfl⟩ (a1 rfl (bk rfl (a1 rfl (bk rfl (a1 rfl (bk rfl (a1 rfl (bk rfl (iT rfl (bk rfl (iT rfl (bk rfl (a1 rfl (af I))))))))))))))))
end
section
open Go.XS Go.bn
section
variable {s:Setup}{k:Nat}{M:bB}{l l2:Ld}{t:List UInt8}{c c2:UInt8}
end
end
section
open Go.XS Go.bn
section
variable {B:Heap}{H H0:au}{K:aK}{s:Setup}{b:Nat}{M:bB}{o:Op}{p q:aw}{a:Addr}{rs:List Ld}{l:Ld}{i:Nat}
end
end
section
open Go.XS Go.bn
section
variable {B:Heap}{H H0:au}{K:aK}{n:Int}{q:aw}{l c:Nat}{s:Setup}{ls:List jN}
end
end
open Go.XS Go.bn Go.RowKit Go.Lib
def abO{H:Type}{enc:TypeId×Value->H}{a:Assume}{C:Checked}{os:Os}{f:FuncId}{fn:Func}{s:ChangeSpec}{conds:List PathCond}{apart fresh handsOn again:Bool}{X:World->ax->Prop}(b:∀(w w':World) (args:ax),w.heap=w'.heap->X w args->X w' args)(own:ownKnob C.prog.godebug=none)(started:os.Started)(c:C.prog.inits.idxOf? f=none)(d:C.prog.funcs[f]?=some fn)(witness:∃(w:World) (tape:Tape) (i:Input),w.os=os/\(w.forCall tape i).Shaped C.prog/\i.vars=[]/\Input.okWide C.prog (w.forCall tape i) .any w.heap.size f i/\((s.pre enc C.prog fn conds apart (w.forCall tape i).memory i.args/\X (w.forCall tape i).memory i.args)/\sizedMet enc C.prog fn (OpenSpec.ofChange s) apart (w.forCall tape i).memory i.args)/\a.holds C.prog (lone (Frame.enter C.prog f i.args .normal) [] (w.forCall tape i)))(g:∀(W:World) (base:Nat) (args:ax) (ds gs:List (DataW H)) (before:List MemPlace),(∀(j:Nat) t v,fn.params[j]?=some t->args[j]?=some v->Value.okWide C.prog W .any base t v)->DataW.Whole enc C.prog fn.params.toList s.vars apart W args.toList ds gs before->X W args->W.ShapedOpen C.prog->Calls C.prog f args W λe W'=>∃v,e= .returned v/\s.post enc C.prog fn apart fresh handsOn again W args v W'):ReturnsInHanded a C os f .any (λw args=>(s.pre enc C.prog fn conds apart w args/\X w args)/\sizedMet enc C.prog fn (OpenSpec.ofChange s) apart w args) (s.post enc C.prog fn apart fresh handsOn again):=by apply returnsInHanded_of_calls own started c witness;intro w tape i _ h _ aP k _;obtain⟨_,_,_,l,m,_,_,_,_,n⟩:=aP;obtain rfl:l=fn:=qL (m.symm.trans d);obtain⟨⟨⟨ds,gs,before,hw,_⟩,o⟩,_⟩:=k;refine(g (w.forCall tape i) w.heap.size i.args ds gs before n (DataW.Whole.of_heap (by rfl) hw) (b _ _ _ (by rfl) o) h).mono λe W' ⟨v,he,p⟩=>?_;subst he;exact ChangeSpec.post_blind p
def filter_none{L:List (String×DataW Unit)}(h:(L.filter λx=>x.2.handleName?.isSome)=[]):(L.filter λx=>x.2.handleName?.isNone)=L:=by
 rw[qF];intro x a;have:=II.1 h x a
 cases b:x.2.handleName? with
 |none=>rfl
 |some s=>rw[b]at this;exact absurd rfl this
def abR{Q:Program}{L:List (String×DataW Unit)}{W:World}(h:laidMetH Q L W):laidMet Q (L.filter λx=>x.2.handleName?.isNone) W:=by
 unfold laidMetH at h;split at h
 ·rename_i e
  rw[filter_none e];exact h
 ·exact h.1
def abS{Q:Program}{L:List (String×DataW Unit)}{W:World}{name:String}{k:IntKind}{zs:aO}{g:Nat}{t e:TypeId}{n i:Nat}(h:laidMet Q L W)(hm:L[i]?=some (name,tabData k zs))(f:Q.globalNamed name=some g)(j:(Q.globals[g]?).map (·.type)=some t)(l:Q.underlying t=some (.array n e))(he:Q.underlying e=some (.int k))(m:Q.cellsOf e=1)(o:Q.cellsOf t=n):TabIs Q W name k zs:=by
 obtain⟨ps,U,r⟩:=h;clear r
 induction L generalizing i ps with
 |nil=>cases hm
 |cons a L s=>
  cases i with
  |zero=>cases hm;obtain⟨u,v,cs,fuel,p,q,b,c,d,hd,_,_⟩:=U;obtain rfl:=qL (f.symm.trans b);obtain rfl:=qL (j.symm.trans c);unfold TabIs;rw[d,<-cells_of_tab l he m o hd]
  |succ i=>obtain⟨u,v,cs,fuel,p,q,b,c,d,hd,hr,_⟩:=U;exact s hm q hr
def abM{w:World}(a:TabIs P w "internal/strconv.uint64pow10" .u64 pow10Tab)(hm:∃m,w.cell? ⟨1,0,none⟩=some (.int .i64 m)):Gl w.heap:=by
 refine⟨by obtain⟨m,hm⟩:=hm;exact⟨m,by rw[<-kQ];exact hm⟩,λw' hw hs=>?_⟩;unfold TabIs World.var? at a⊢
 cases b:P.globalNamed "internal/strconv.uint64pow10" with
 |none=>rw[b]at a;cases a
 |some g=>
  rw[b]at a;simp only[C0]at a⊢
  have c:g<w.heap.size:=by refine Nat.lt_of_not_le λhle=>?_;rw[yM hle]at a;cases a
  rw[hw g c];exact a
def vF{a:Int}(h:(Lit.int .i64 a).wf=true):aF a:=by
 unfold aF;have U:IntKind.i64.min=-9223372036854775808:=by decide
 have b:IntKind.i64.max=9223372036854775807:=by decide
 have:=h;simp only[Lit.wf,b9,bz]at this;omega
section
variable {E:Type}{enc:TypeId×Value->E}{w:World}
def YS{cs:ax}(f:Fits enc P w [.int .i64,.int .i64,.int .i64,.int .i64] cs.toList):∃s:Setup,cs=cx s:=by obtain⟨a,vs,h0,_,f⟩:=f.int;obtain⟨b,vs,rfl,_,f⟩:=f.int;obtain⟨c,vs,rfl,_,f⟩:=f.int;obtain⟨d,vs,rfl,_,f⟩:=f.int;obtain rfl:=f.nil;exact⟨⟨a,b,c,d⟩,g' h0⟩
def WM{g:List aB}(r:∀c∈g,c.length=P.cellsOf 49/\Tr enc P w 49 c):∃all:List jN,g=all.map gE/\∀v∈all,aF v.o.kind/\aF v.o.a/\aF v.o.b/\aF v.o.c/\aF v.ref:=by refine E2 g λc hc=>?_;have f:=A5 9 (cts:=[.int .i64,.int .i64,.int .i64,.int .i64,.str,.int .i64]) (by kernel_rfl) (r c hc).2;obtain⟨a,vs,rfl,h,f⟩:=f.int;obtain⟨b,vs,rfl,i,f⟩:=f.int;obtain⟨c,vs,rfl,wc,f⟩:=f.int;obtain⟨d,vs,rfl,wd,f⟩:=f.int;obtain⟨t,vs,rfl,k,f⟩:=f.str;obtain⟨e,vs,rfl,j,f⟩:=f.int;obtain rfl:=f.nil;exact⟨⟨⟨a,b,c,d,t.data.toList⟩,e⟩,by simp[gE],vF h,vF i,vF wc,vF wd,vF j⟩
def Xy{B:Heap}{H:au}{q:aw}{xs ys:aB}(h:bF B H q (xs++ys)):bF B H q xs:=by
 intro σ o;rcases h σ o with⟨U,b⟩|⟨a,U,b⟩
 ·exact .inl ⟨U,(List.append_eq_nil_iff.1 b).1⟩
 ·exact .inr ⟨a,U,λi hi=>by rw[b i (by rw[cr];omega),hb hi]⟩
theorem WN{all:List jN}{a:aw}{len:Nat}(h:Arg w.heap a (all.map gE).flatten):Rd w.heap [] a ((all.take len).flatMap gE):=by
 rw[<-List.flatMap_def]at h;have e:all.flatMap gE=(all.take len).flatMap gE++(all.drop len).flatMap gE:=by rw[<-og,j6]
 have:=h [];rw[e]at this;exact⟨Xy this⟩
def adK(g:Gl w.heap)(aZ:ax)(f0:Fits enc P w [.int .i64,.int .i64,.int .i64,.int .i64] aZ.toList)(f:aw)(a b:Nat)(d:List aB)(l1:a<=b)(c1:d.length=b)(h:∀c∈d,c.length=P.cellsOf 49/\Tr enc P w 49 c)(U:Arg w.heap f d.flatten):Calls P 3 #[.agg aZ,.slice f a b] w λe w'=>e= .returned (.bool true)/\Below w.heap.size w w':=by obtain⟨s,rfl⟩:=YS f0;obtain⟨all,rfl,hf⟩:=WM h;rw[fe]at c1;have:=WN (len:=a) U;exact U5 (aai (keeps s) (aal g) (by rw[ff];omega) (λv i=>hf v (kH i)) Jz)
end
