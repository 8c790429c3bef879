/- Lemmas that lead to TopApart (their names made short by a program); no condition. -/
import Derived.Test.YtlmgompopkamfaaGreatDoorLO
import Derived.Lib.ItoaLen
set_option linter.all false
set_option maxRecDepth 20000
set_option synthInstance.checkSynthOrder false
namespace Go.Proofs.YtlmgompopkamfaaGreatDoor
section
open Go.XS Go.bm Go.RowKit Go.Lib
instance ac':fG P 98 8:=fG.of (e:=0) (by kernel_rfl)
abbrev ib:=Int×List (Int×Int)
abbrev lr(x:ib):aw:=ql x.1 x.2
abbrev pd(x:ib):az:=(lr x).toList
def Ys(x:ib):(pd x).length=8:=rfl
abbrev iU(l:ByteArray)(x:ib):Prop:=∀(B:Heap) (H:au) (K:aK),Gl B->T B H (K (.tuple #[.agg (lr x),.bool true]))->T B H (ad P 125 #[.string l] K)
abbrev uj(l:ByteArray)(n1 n2 n3 n4:Int):Prop:=∀(B:Heap) (H:au) (K:aK),Gl B->T B H (K (.tuple #[.agg #[J n1,J n2,J n3,J n4],.bool true]))->T B H (ad P 124 #[.string l] K)
abbrev Wv:ByteArray:=ByteArray.mk #[10]
inductive oy:ByteArray->List ByteArray->Prop where
 |nil {s:ByteArray}:s.size=0->oy s []
 |cons {s l r:ByteArray} {b:Bool} {ls:List ByteArray}:0<s.size->s.size<100000->Lib.cut s.data.toList Wv.data.toList=(l.data.toList,r.data.toList,b)->0<l.size->gv l 0≠59->oy r ls->oy s (l::ls)
def eq_nil{s:ByteArray}(h:s.size=0):(!ByteArray.toList s==ByteArray.toList (ByteArray.mk #[]))=false:=by
 rw[ByteArray.toList_eq,ByteArray.toList_eq]
 have:s.data.toList=[]:=by have a:s.data.toList.length=s.size:=kM;exact kO.1 (by omega)
 rw[this];rfl
def JQ{B:Heap}{H:au}{K:aK}{s l r sep:ByteArray}{b:Bool}(g:Gl B)(hs:s.size<100000)(hc:Lib.cut s.data.toList sep.data.toList=(l.data.toList,r.data.toList,b))(U:T B H (K (.tuple #[.string l,.string r,.bool b]))):T B H (ad P 210 #[.string s,.string sep] K):=by apply Ju g (by omega);rw[hc];exact U
section
variable {B:Heap}{H H0:au}{K:aK}{s:ByteArray}
def Yx{lp a:Nat}{ls:List ByteArray}(g:Gl B)(Z:Nat->au->Prop)(o:oy s ls)(hl:ls.length<1000)(hz:Z 0 H0)(p:∀(j:Nat) (l:ByteArray) (n:Int) (q:bc) (Y:au) (f:aK),ls[j]?=some l->Z j Y->(∀c,Z (j+1) c->T B (q::c) (f (.bool true)))->T B (q::Y) (ga P lp #[] #[] [J n,.string l] f))(U:∀q Y,Z ls.length Y->T B (q::Y) (K (.tuple #[]))):T B (cl a #[.string s]::H0) (ad P 209 #[.func (.yield lp) #[] #[],pz a] K):=by
 apply an (QE _ _)
 refine wK (λm n Y=>∃(cur:ByteArray) (j:Nat) (d:au),oy cur (ls.drop j)/\n=j/\j<=ls.length/\m=ls.length-j/\Z j d/\Y=cl a #[.string cur]::d) ls.length
  ⟨s,0,H0,o,rfl,by omega,rfl,hz,rfl⟩ ?_
 rintro m n Y R ⟨cur,j,d,hL,rfl,E,hm,i,rfl⟩ u;unfold sO;apply St.go;rw[aR];apply hS rfl;generalize he:ls.drop j=k at hL
 cases hL with
 |nil h=>
  apply aI (eq_nil h);have e:j=ls.length:=by have:=congrArg List.length he;simp at this;omega
  subst e;exact U _ _ i
 |@cons _ l r dG k h1 v w x y z=>
  have F:j<ls.length:=by have:=congrArg List.length he;simp at this;omega
  have A:ls[j]?=some l:=by have:=congrArg (λt=>t[0]?) he;simpa using this
  have C:ls.drop (j+1)=k:=by have:=congrArg List.tail he;simpa using this
  refine bo (ne_nil h1) (St.go ?_);rw[aR];apply hS rfl;unfold EJ;refine JQ g v w (St.go ?_);unfold cJ;apply St.go;rw[aR];apply eE (b:=a) (cs:=#[.string cur]) Nat.zero_lt_one rfl;apply bo (ne_nil x);apply ba (by omega);apply bo (by simp[y]);refine p j l _ (cl a #[.string r]) d _ A i λc D=>?_;apply St.go;apply aI rfl;rw[br (by omega)];refine u (m-1) _ _ (by omega) ⟨r,j+1,c,C▸z,by omega,by omega,by omega,D,rfl⟩
abbrev Hu(aa ak a d:Nat):Nat->az->aK->HP:=BJ (λb e f c=>i7 b (bu (iH λj=>ae (!j) (al #[J 17,J e] 69 λk=>gW (ai aa 0) #[J 0,J 0,J 0,J 0,Value.slice none 0 0] 5 (st (ai ak 0) (Value.iface 172 (Value.pointer (some (ai k 0)))) (fp b (some Code.ret) (c (Value.bool false))))) (fp b none (c (Value.bool true)))) λg=>gB (ai d 0) λl=>ae (!l) (mJ 124 #[Value.string f] λm n=>gW (ai a 0) m 4 (st (ai d 0) (Value.bool true) (g [Value.bool n]))) (a8 (ai a 4) λz o A=>ae ((↑o:Int)==4096) (al #[J 10,J e] 69 λp=>gW (ai aa 0) #[J 0,J 0,J 0,J 0,Value.slice none 0 0] 5 (st (ai ak 0) (Value.iface 172 (Value.pointer (some (ai p 0)))) (fp b (some Code.ret) (c (Value.bool false))))) (al #[J 0,J 0,J 0,J 0,Value.string (ByteArray.mk #[]),J 0,J 0,J 0] 122 λh=>mJ 125 #[Value.string f] λq r=>gW (ai h 0) q 8 (a8 (ai a 4) λs t u=>eQ (ai h 0) 8 λi=>aP (Array.size i=8) (al (Array.mk (cV [J 0,J 0,J 0,J 0,Value.string (ByteArray.mk #[]),J 0,J 0,J 0] (0*8) (Array.toList i))) 122 λv=>cC P #[98,98] s t u (some (ai v 0)) 1 1 λw x y=>st (ai a 4) (Value.slice w x y) (g [Value.bool r])))))))
abbrev qv(a b lp:Nat)(ro:Loop)(d:Bool)(e a2 a3 a4:Int)(done:List ib)(p:av)(c:Nat)(H:au):au:=
 lo lp ro .ready none::ah 8 p done.length c (done.flatMap pd)::cl b #[.bool d]::cl a #[J e,J a2,J a3,J a4,.slice p done.length c]::H
def Xs{aa ak a b lp c:Nat}{ro:Loop}{p:av}{l:ByteArray}{n n1 n2 n3 n4:Int}(g:Gl B)(e:mE P ro (Hu aa ak a b))(hs:uj l n1 n2 n3 n4)(U:T B (qv a b lp ro true n1 n2 n3 n4 [] p c H) (K (.bool true))):T B (qv a b lp ro false 0 0 0 0 [] p c H) (ga P lp #[] #[] [J n,.string l] K):=by
 refine oL e (St.go (oC ?_));refine dU (α:=Unit) (λ_=>lo lp ro .busy none::ah 8 p 0 c []::cl b #[.bool true]::cl a #[J n1,J n2,J n3,J n4,.slice p 0 c]::H) (λ_=>[.bool true]) (λf body=>?_) λ_=>?_
 ·refine iW rfl (bo rfl ?_)
  unfold mJ;refine hs _ _ _ g (St.go ?_);apply nH rfl (by show 0+4<=5;omega) (λv d=>by simp at d;rcases d with rfl|rfl|rfl|rfl<;>rfl);show T B (lo lp ro .busy none::ah 8 p 0 c []::cl b #[.bool false]::cl a #[J n1,J n2,J n3,J n4,.slice p 0 c]::H) _;exact St.go (af (body ()))
 ·exact St.go (aI rfl (oD U))
def Xt{aa ak d f lp c:Nat}{ro:Loop}{p:av}{l:ByteArray}{x:ib}{done:List ib}{n n1 n2 n3 n4:Int}(g:Gl B)(h:mE P ro (Hu aa ak d f))(hs:iU l x)(hl:done.length<1000)(U:∀p c,T B (qv d f lp ro true n1 n2 n3 n4 (done++[x]) p c H) (K (.bool true))):T B (qv d f lp ro true n1 n2 n3 n4 done p c H) (ga P lp #[] #[] [J n,.string l] K):=by
 refine oL h (St.go (oC ?_));refine dU (α:=av×Nat) (λa=>lo lp ro .busy none::ah 8 a.1 (done++[x]).length a.2 ((done++[x]).flatMap pd)::cl f #[.bool true]::cl d #[J n1,J n2,J n3,J n4,.slice a.1 (done++[x]).length a.2]::H) (λ_=>[.bool true]) (λk body=>?_) λa=>?_
 ·refine iW rfl (aI rfl (bU rfl ?_))
  apply aI (by simp;omega);refine Sa.go λi=>?_;unfold mJ;apply hs _ _ _ g;apply St.go;refine Sc.go ⟨rfl,rfl⟩ ?_;apply bU (b:=d) (p:=p) (l:=done.length) (c:=c) rfl;refine bV (b:=i) rfl ?_;apply ba rfl;refine Sa.go λm=>?_;refine jP (ds:=lr x) rfl ?_;refine aL (ah 8 p done.length c) (eZ (s:=8) (c:=c) rfl (by omega) λj c'=>?_);have e:done.flatMap pd++(lr x).toList=(done++[x]).flatMap pd:=by simp
  rw[e];apply St.go;have:=body (j,c');dsimp only at this;rw[show(done++[x]).length=done.length+1 from by simp]at this;exact af this
 ·exact St.go (aI rfl (oD (U a.1 a.2)))
def Yy{l0:ByteArray}{lns:List (ByteArray×ib)}{n1 n2 n3 n4:Int}(g:Gl B)(o:oy s (l0::lns.map (·.1)))(hs:uj l0 n1 n2 n3 n4)(r:∀x∈lns,iU x.1 x.2)(hl:lns.length<900)(U:∀p c,T B (ah 8 p lns.length c ((lns.map (·.2)).flatMap pd)::H) (K (.tuple #[.agg #[J n1,J n2,J n3,J n4,.slice p lns.length c],.nilIface]))):T B H (ad P 70 #[.string s] K):=by
 apply an (QF _);refine Sa.go λaa=>Sa.go λak=>Sa.go λa=>Sa.go λd=>?_;apply St.go;apply an (QD _);refine Sa.go λt=>?_;refine pR (by kernel_rfl) λro rr lp k=>?_;refine dL 8 ?_;refine af (H':=cl t #[.string s]::lo lp ro .ready none::ah 8 none 0 0 []::cl d #[.bool false]::cl a #[J 0,J 0,J 0,J 0,.slice none 0 0]::cl aa #[J 0,J 0,J 0,J 0,Value.slice none 0 0]::cl ak #[Value.nilIface]::ob rr (.deferred (some []))::H) ?_
 refine Yx g (λj Y=>∃p c,(j=0/\Y=qv a d lp ro false 0 0 0 0 [] p c (cl aa #[J 0,J 0,J 0,J 0,Value.slice none 0 0]::cl ak #[Value.nilIface]::ob rr (.deferred (some []))::H))\/
  (∃i,j=i+1/\Y=qv a d lp ro true n1 n2 n3 n4 ((lns.map (·.2)).take i) p c (cl aa #[J 0,J 0,J 0,J 0,Value.slice none 0 0]::cl ak #[Value.nilIface]::ob rr (.deferred (some []))::H))) o (by simp;omega) ⟨none,0,.inl ⟨rfl,rfl⟩⟩ ?_ ?_
 ·rintro j l n q Y v m ⟨p,c,⟨rfl,rfl⟩|⟨i,rfl,rfl⟩⟩ hK
  ·have e:l0=l:=by simpa using m
   subst e;refine af (H':=qv a d lp ro false 0 0 0 0 [] p c (q::cl aa #[J 0,J 0,J 0,J 0,Value.slice none 0 0]::cl ak #[Value.nilIface]::ob rr (.deferred (some []))::H)) (Xs g k hs ?_);have:=hK _ ⟨p,c,.inr ⟨0,rfl,rfl⟩⟩;rw[sf]at this;exact af this
  ·have f:(lns.map (·.1))[i]?=some l:=by simpa using m
   rw[e6]at f
   cases h:lns[i]? with
   |none=>rw[h]at f;cases f
   |some y=>
    rw[h]at f;cases f;have hi:i<lns.length:=(bY.1 h).1;refine af (H':=qv a d lp ro true n1 n2 n3 n4 ((lns.map (·.2)).take i) p c (q::cl aa #[J 0,J 0,J 0,J 0,Value.slice none 0 0]::cl ak #[Value.nilIface]::ob rr (.deferred (some []))::H)) ?_;refine Xt g k (r y (cr h)) (by rw[fv];omega) λu c'=>?_
    have e:(lns.map (·.2)).take i++[y.2]=(lns.map (·.2)).take (i+1):=by rw[ef (by rw[e6,h];rfl)]
    rw[e];exact af (hK _ ⟨u,c',.inr ⟨i+1,rfl,rfl⟩⟩)
 ·rintro q Y ⟨p,c,⟨h0,_⟩|⟨i,hi,rfl⟩⟩
  ·simp at h0
  have hi:i=lns.length:=by simp at hi;omega
  subst hi;have e:(lns.map (·.2)).take lns.length=lns.map (·.2):=ke (by simp);rw[e];refine bL (q:=lo lp ro .ready none) (qU (by simp) ?_);refine iW rfl (aI rfl (bV (b:=a) rfl (Sc.go ⟨rfl,rfl⟩ (St.go (bL (q:=ob rr (.deferred (some []))) (oK ?_))))));refine bV (b:=aa) rfl (hT rfl ?_);have:=U p c;rw[show lns.length=(lns.map (·.2)).length from by simp]at this;exact af this
def JW{t:TypeId}{x y:Operand}{a:aK}(h:T B H (a (.bool true))):T B H (aH P (do eqGuard BinOp.eql 169 (Operand.tmp 8) (Operand.const Value.nilIface) Value.nilIface Value.nilIface;binOp BinOp.eql 169 Value.nilIface Value.nilIface) a):=by refine qZ (.bool true) (λσ o w hw=>?_) h;kernel_rfl
def T7{v:Value}(U:T B H (K (.bool false))):T B H (ad P 71 #[.nilIface,v] K):=by apply an (Ns _ _);apply JW (t:=0) (x:= .tmp 0) (y:= .tmp 0);apply St.go;apply bo rfl;exact U
def Yu{l0:ByteArray}{lns:List (ByteArray×ib)}{n1 n2 n3 n4:Int}(g:Gl B)(a:oy s (l0::lns.map (·.1)))(hs:uj l0 n1 n2 n3 n4)(d:∀x∈lns,iU x.1 x.2)(hl:lns.length<900)(U:∀p c,T B (ah 8 p lns.length c ((lns.map (·.2)).flatMap pd)::H) (K (.tuple #[.agg #[J n1,J n2,J n3,J n4,.slice p lns.length c],.agg #[J 0,J 0]]))):T B H (ad P 30 #[.string s] K):=by refine an (QA _) (Sa.go λaa=>Sa.go λak=>?_);unfold EG;refine Yy g a hs d hl λp c=>St.go (Sa.go λe=>Sc.go ⟨rfl,rfl⟩ (Sa.go λf=>?_));unfold aS;apply T7;apply St.go;apply aI rfl;refine bV (b:=e) rfl ?_;refine Sc.go ⟨rfl,rfl⟩ ?_;refine Sc.go ⟨rfl,rfl⟩ ?_;refine bV (b:=aa) rfl ?_;refine bV (b:=ak) rfl ?_;exact af (U p c)
end
end
section
open Go.XS Go.bm
def uI(m:ML Int)(c:bD):ML Int:=if 0<c.own then bC c.own ((aQ m c.own).getD 0+1) m else m
def jb(cs:List bD):ML Int:=cs.foldl uI []
def EO(cs:List bD)(c:bD):jb (cs++[c])=uI (jb cs) c:=by unfold jb;rw[wh];rfl
def w6(cs:List bD):bQ (jb cs)/\(∀k,0<k->(aQ (jb cs) k).getD 0=((cs.countP λc=>c.own==k:Nat):Int))/\∀k∈a7 (jb cs),0<k/\∃c∈cs,c.own=k:=by
 generalize b:cs.length=n
 induction n generalizing cs with
 |zero=>obtain rfl:=kO.1 b;exact⟨by simp[bQ,a7,ed,jb],λk _=>by simp[jb,aQ],by simp[jb,a7]⟩
 |succ n g=>
  obtain⟨init,z,rfl⟩:∃init z,cs=init++[z]:=⟨cs.dropLast,cs.getLast (by intro h;subst h;simp at b),(tR _).symm⟩;obtain⟨h1,d,f⟩:=g init (by simp at b;exact b);rw[EO];unfold uI;by_cases hz:0<z.own
  ·rw[ag hz]
   refine⟨fu h1,λk U=>?_,λk U=>?_⟩
   ·rw[gR h1,y8,y9]
    by_cases e:k=z.own
    ·subst e;rw[ag rfl,ag (by simp),d _ U];simp
    ·rw[aj e,aj (by simpa using λh=>e h.symm),d _ U];simp
   ·rw[oX,nR]at U
    rcases U with rfl|U
    ·exact⟨hz,z,by simp,rfl⟩
    ·obtain⟨a,c,hc,e⟩:=f k U
     exact⟨a,c,by simp[hc],e⟩
  ·rw[aj hz]
   refine⟨h1,λk U=>?_,λk U=>?_⟩
   ·rw[y8,y9,aj (by simp;omega),d _ U];simp
   ·obtain⟨a,c,hc,e⟩:=f k U
    exact⟨a,c,by simp[hc],e⟩
def Tz(cs:List bD):(jb cs).length<=cs.length:=by
 have h:=w6 cs
 have:=vg (mg h.1) λk U=>by obtain⟨_,c,hc,e⟩:=h.2.2 k U;exact bP.2 ⟨c,hc,e⟩
 simpa using this
def n7(w:aN):ML Unit:=w.foldl (λm i=>bC i () m) []
def HM(w:aN)(i:Int):n7 (w++[i])=bC i () (n7 w):=by unfold n7;rw[wh];rfl
def YD(w:aN):bQ (n7 w)/\(∀k,k∈a7 (n7 w)↔k∈w)/\(w.Nodup->(n7 w).length=w.length):=by
 generalize a:w.length=n
 induction n generalizing w with
 |zero=>obtain rfl:=kO.1 a;exact⟨by simp[bQ,a7,ed,n7],λk=>by simp[n7,a7],λ_=>rfl⟩
 |succ n c=>
  obtain⟨init,z,rfl⟩:∃init z,w=init++[z]:=⟨w.dropLast,w.getLast (by intro h;subst h;simp at a),(tR _).symm⟩;obtain⟨h1,b,d⟩:=c init (by simp at a;exact a);rw[HM];refine⟨fu h1,λk=>?_,λhd=>?_⟩
  ·rw[oX,nR,b];simp[or_comm]
  ·rw[dP]at hd
   have hz:z∉a7 (n7 init):=λh=>hd.2.2 z ((b z).1 h) z (by simp) rfl;have:=(AT hz).length_eq;rw[<-oX (v:=())]at this;have e:=d hd.1;simp only[a7,eX,c8]at this;omega
def aaG{cs:List bD}{w:aN}(h1:∀(i:Nat) c,cs[i]?=some c->w.countP (·==(i:Int))=if c.ph=2 then 1 else 0)(g:∀i∈w,0<=i/\i<(cs.length:Int)):w.Nodup/\w.length=dk cs 2:=by
 have j:w.Nodup:=by
  rw[List.nodup_iff_count];intro a;by_cases ha:a∈w
  ·obtain⟨k,dG⟩:=g a ha
   have d:cs[a.toNat]?=some (cs[a.toNat]'(by omega)):=bj _;have:=h1 _ _ d;rw[show((a.toNat:Nat):Int)=a from by omega]at this;unfold List.count;rw[this];split<;>omega
  ·rw[List.count_eq_zero.2 ha];omega
 refine⟨j,?_⟩
 have e:cs=(List.range cs.length).map λi=>cs.getD i bD.zero:=by refine List.ext_getElem (by simp) λi a b=>?_;simp[eo,a]
 have f:w.Perm (((List.range cs.length).filter λi=>(cs.getD i bD.zero).ph==2).map Int.ofNat):=by
  refine(zl j (tQ _ (λa b (l:a≠b) h=>l (Int.ofNat.inj h)) (List.Pairwise.filter _ List.nodup_range))).2 λa=>?_;simp only[bP,pG,ou];constructor
  ·intro ha
   obtain⟨k,dG⟩:=g a ha;have d:cs[a.toNat]?=some (cs[a.toNat]'(by omega)):=bj _;have:=h1 _ _ d;rw[show((a.toNat:Nat):Int)=a from by omega]at this;refine⟨a.toNat,⟨by omega,?_⟩,by show((a.toNat:Nat):Int)=a;omega⟩;rw[eo,d];by_cases f:(cs[a.toNat]'(by omega)).ph=2
   ·simpa using f
   ·rw[aj f,wa]at this
    exact absurd (by simp) (this a ha)
  ·rintro⟨i,⟨hi,f⟩,rfl⟩
   have d:cs[i]?=some cs[i]:=bj hi;rw[eo,d]at f;have:=h1 _ _ d;rw[ag (by simpa using f)]at this;have:0<w.countP (·==(i:Int)):=by omega
   obtain⟨y,m,e⟩:=C0.1 this;have e:y=(i:Int):=by simpa using e
   subst e;exact m
 rw[f.length_eq,eX];unfold dk
 conv=>rhs;rw[e]
 rw[List.countP_map,List.countP_eq_length_filter];rfl
section
variable {B:Heap}{H H0:au}{K:aK}{q q':av}{l c c':Nat}{n i:Int}{cs:List bD}{ms:List Mem}{ws:aN}
def Ef(h:0<=n/\n<=3)(U:T B H (K (.bool true))):T B H (ad P 573 #[J n] K):=by refine an (Mh _) (bo (cM h.1) ?_);rw[cM h.2];exact U
def K0{z:bD}(h:o6 z=true)(U:T B H (K (.bool true))):T B H (ad P 567 #[.agg (fo z).toArray] K):=by
 apply an (Mi _);unfold o6 at h;simp only[cg,bJ]at h;obtain⟨⟨h1,b⟩,a⟩:=h
 have c:(z.ph=1/\0<z.own)\/(z.ph≠1/\z.ph<=3/\z.own=0):=by
  split at a
  ·exact .inl ⟨by assumption,by simpa using a⟩
  ·exact .inr ⟨by assumption,by simpa using a⟩
 refine Sa.go λaa=>bg rfl ?_;unfold aS;refine Ef (by omega) (St.go (bo rfl (bg rfl (bo (cM (by omega)) (bg rfl (bg rfl ?_))))));apply bo (by rw[hQ,CQ];simp;omega);refine bg rfl (bo (cM (by omega)) (bg rfl ?_));rw[cM (by omega)];exact af U
def KZ{z:bD}(h:o6 z=true)(U:T B H (K (.bool false))):T B H (ad P 566 #[.agg (fo z).toArray] K):=by apply an (Mf _);refine Sa.go λaa=>?_;apply bV (b:=aa) (cs:=(fo z).toArray) rfl;unfold aS;exact K0 h (St.go (af U))
def UY{α:Type}{l:List α}:cS (λ_:α=>false) l=-1:=by unfold cS;rw[oV λ_ _ _=>rfl]
def Zd{g:Nat}{ca:aw}(d:fW P g=true)[hr:Rd B H q (cs.flatMap fo)](hl:l=cs.length)(hlen:l<1000000)(hf:∀m∈cs,∀b:aK,T B H (b (.bool false))->T B H (ad P g (Array.mk (Array.toList #[]++[Value.agg (fo m).toArray]++Array.toList ca)) b))(U:T B H (K (.bool false))):T B H (ad P 568 #[.slice q l c,.func (.func g) #[] ca] K):=by
 apply an (Q7 _ _ _ _ _);unfold aV;apply an (Rc _ _ _ _ _);subst hl;apply dh cs.length (by omega) (λk H'=>H'=H) rfl;rintro k H' R h rfl e;repeat' first|apply St.go|refine S2.go (λ_=>?_) λ_=>?_|done
 ·have a:k<cs.length:=by omega
  have f:cs[k]?=some cs[k]:=bj a;refine eD p7 (by omega) k rfl a f (lR d (hf _ (eK a) _ ?_));repeat apply St.go
  exact e a _ rfl
 ·exact U
def Ze{ys:aN}{g:Nat}{ca:aw}(d:fW P g=true)[hr:Rd B H q (iv .i64 ys)](hl:l=ys.length)(hlen:l<1000000)(hf:∀m∈ys,∀b:aK,T B H (b (.bool false))->T B H (ad P g (Array.mk (Array.toList #[]++[J m]++Array.toList ca)) b))(U:T B H (K (.bool false))):T B H (ad P 562 #[.slice q l c,.func (.func g) #[] ca] K):=by
 apply an (Q9 _ _ _ _ _);unfold aV;apply an (Rg _ _ _ _ _);subst hl;apply dh ys.length (by omega) (λk H'=>H'=H) rfl;rintro k H' R h rfl e;repeat' first|apply St.go|refine S2.go (λ_=>?_) λ_=>?_|done
 ·have a:k<ys.length:=by omega
  have f:ys[k]?=some ys[k]:=bj a;refine fA k rfl a f (lR d (hf _ (eK a) _ ?_));repeat apply St.go
  exact e a _ rfl
 ·exact U
def Zf{g:Nat}{ca:aw}(b:fW P g=true)[hr:Rd B H q (aW ms)](hl:l=ms.length)(hlen:l<1000000)(hf:∀m∈ms,∀a:aK,T B H (a (.bool false))->T B H (ad P g (Array.mk (Array.toList #[]++[Value.agg (fL m).toArray]++Array.toList ca)) a))(U:T B H (K (.bool false))):T B H (ad P 520 #[.slice q l c,.func (.func g) #[] ca] K):=by apply an (Ey _ _ _ _ _);unfold aV;apply tB b hl hlen hf;rw[UY];exact St.go U
def Ed[hr:Rd B H q (cs.flatMap fo)](hl:l=cs.length)(hlen:l<1000000)(i:∀z∈cs,z.ph<=3)(U:T B H (K (.agg #[J (dk cs 0),J (dk cs 1),J (dk cs 2),J (dk cs 3)]))):T B H (ad P 565 #[.slice q l c] K):=by
 subst hl;apply an (Mb _ _ _);refine Sa.go λaa=>Sa.go λak=>?_;refine af (H':=cl ak (lX λ_=>0)::cl aa (lX λ_=>0)::H) ?_;refine dh cs.length (by omega) (λk Y=>Y=cl ak (lX λj=>(dk (cs.take k) j:Int))::cl aa (lX λ_=>0)::H) (by simp[dk]) ?_;rintro k Y R o rfl m;have p:Rd B (cl ak (lX λj=>(dk (cs.take k) j:Int))::cl aa (lX λ_=>0)::H) q (cs.flatMap fo):=⟨hr.rd.tail.tail⟩;refine S2.go (λn=>?_) λn=>?_
 ·have a:k<cs.length:=by omega
  have d:cs[k]?=some cs[k]:=bj a;have hz:=i cs[k] (eK a);generalize cs[k]=z at d hz;refine eD p7 (by omega) k rfl a d (Sa.go λr=>Sc.go ⟨rfl,rfl⟩ (bg rfl ?_));unfold aS;refine Ef (by omega) (St.go (bo rfl (bg rfl (ba (by omega) ?_))));rw[aR,aZ,bI];refine bg (KS (by omega)) (ba (by omega) ?_);have s:dk (cs.take k) z.ph<=k:=lN r7 (by rw[fv];omega);rw[br (by omega)];apply eE (by simp;omega) rfl;rw[D8 (by omega)]
  have e:(up (λj=>(dk (cs.take k) j:Int)) z.ph ((dk (cs.take k) z.ph:Int)+1))=λj=>(dk (cs.take (k+1)) j:Int):=by
   funext j;unfold Go.bm.up;have e:dk (cs.take (k+1)) j=dk (cs.take k) j+if z.ph==j then 1 else 0:=by unfold dk;rw[ef d,y8,y9]
   by_cases f:j=z.ph
   ·subst f;rw[ag rfl,e,ag (by simp)];omega
   ·rw[aj f,e,aj (by simpa using λh=>f h.symm)];rfl
  rw[e];exact af (m a _ rfl)
 ·have hl:k=cs.length:=by omega
  subst hl;rw[ix];refine bV (b:=ak) (cs:=lX λj=>(dk cs j:Int)) rfl (hj rfl rfl ?_ ?_)
  ·intro v g;simp at g;rcases g with rfl|rfl|rfl|rfl<;>rfl
  exact bV (b:=aa) (cs:=lX λj=>(dk cs j:Int)) rfl (af U)
def KY[hr:Rd B H q (cs.flatMap fo)][hw:Rd B H q' (iv .i64 ws)](hl:l=cs.length)(hlen:l<1000000)(w:ws.length<1000000)(h1:∀(i:Nat) c,cs[i]?=some c->o6 c=true/\(ws.countP (·==(i:Int))=if c.ph=2 then 1 else 0))(f:∀i∈ws,0<=i/\i<(cs.length:Int))(U:T B H (K (.bool true))):T B H (ad P 558 #[.slice q l c,.slice q' ws.length c'] K):=by
 subst hl;obtain⟨n,o⟩:=aaG (λi c hc=>(h1 i c hc).2) f
 have g:∀z∈cs,o6 z=true:=λz hz=>by obtain⟨i,hi⟩:=C4 hz;exact(h1 i z hi).1
 have p:∀z∈cs,z.ph<=3:=λz hz=>by
  have:=g z hz;unfold o6 at this;simp only[cg,bJ]at this;have:=this.2;split at this
  ·omega
  ·have:=sg this;omega
 apply an (Me _ _ _ _ _ _);refine dU (α:=Unit) (λ_=>H) (λ_=>[]) (λx body=>?_) λ_=>?_
 ·unfold aS
  refine Zd (by kernel_rfl) rfl hlen (λz hz y h=>KZ (g z hz) h) (St.go (aI rfl ?_));unfold bH;exact Ed rfl hlen p (St.go (ba (by omega) (zI rfl (aI (by simp[o]) (body ())))))
 ·refine St.go (Sa.go λr=>iT (λ_:Unit=>Value.agg #[]) (dh ws.length (by omega) (λk Y=>Y=MP (λ_:Unit=>Value.agg #[]) r (n7 (ws.take k))::H) rfl ?_))
  rintro k Y R A rfl s;repeat' first|apply St.go|refine S2.go (λ_=>?_) λ_=>?_|done
  ·have a:k<ws.length:=by omega
   have b:ws[k]?=some ws[k]:=bj a;have t:=f ws[k] (eK a);generalize C:ws[k]=v at b t;have d:cs[v.toNat]?=some (cs[v.toNat]'(by omega)):=bj _;have j:=(h1 _ _ d).2
   have m:(cs[v.toNat]'(by omega)).ph=2:=by refine tP λu=>?_;rw[aj u,wa]at j;have:=j v (cr b);simp at this;omega
   generalize(cs[v.toNat]'(by omega))=z at d m;apply fA k rfl a b;apply aI (by simp;omega);apply aI (by simp;omega);refine mF v.toNat (by omega) (by omega) (ht p7 cs _ z d 0 (by omega)) (aI (by simp[m]) (St.go ?_));rw[<-HM,<-ef b];exact af (s a _ rfl)
  ·have hl:k=ws.length:=by omega
   subst hl;rw[ix]at*;have e:=(YD ws).2.2 n;rw[e];rw[show((ws.length:Int)==(ws.length:Int))=true from by simp];exact af U
def Ee[hr:Rd B H q (cs.flatMap fo)](hl:l=cs.length)(hlen:l<1000000)(U:∀r,T B (MP J r (jb cs)::H) (K (.map (some r)))):T B H (ad P 569 #[.slice q l c] K):=by
 subst hl;refine an (Mg _ _ _) (Sa.go λr=>iT J (dh cs.length (by omega) (λk Y=>Y=MP J r (jb (cs.take k))::H) rfl ?_));rintro k Y R g rfl d;refine S2.go (λf=>?_) λf=>?_
 ·have a:k<cs.length:=by omega
  have b:cs[k]?=some cs[k]:=bj a;generalize cs[k]=z at b;refine eD p7 (by omega) k rfl a b (Sa.go λh=>Sc.go ⟨rfl,rfl⟩ ?_);have e:jb (cs.take (k+1))=uI (jb (cs.take k)) z:=by rw[ef b,EO]
  unfold uI at e;refine bg rfl (S2.go (λhz=>?_) λhz=>?_)
  ·rw[ag (by omega)]at e
   apply bg rfl;have i:=(w6 (cs.take k)).2.1 z.own (by omega);have j:(cs.take k).countP (λc=>c.own==z.own)<=k:=lN r7 (by rw[fv];omega);refine St.go (St.go ?_);rw[br (by omega)];apply St.go;rw[<-e];exact af (d a _ rfl)
  ·rw[aj (by omega)]at e
   rw[<-e];exact af (d a _ rfl)
 ·have hl:k=cs.length:=by omega
  subst hl;rw[ix];exact U r
def KW[hr:Rd B H q (cs.flatMap fo)](hl:l=cs.length)(hlen:l<1000000)(a:1<=n)(U:T B H (K (J (cs.countP (λc=>c.own==n):Nat)))):T B H (ad P 559 #[.slice q l c,J n] K):=by apply an (Ma _ _ _ _);unfold sF;refine Ee hl hlen λr=>St.go (St.go ?_);rw[(w6 cs).2.1 n (by omega)];exact St.go (af U)
def KX[hr:Rd B H q (cs.flatMap fo)](hl:l=cs.length)(hlen:l<1000000)(U:∀p c' (ys:aN),(∀y∈ys,0<y/\∃z∈cs,z.own=y)->ys.length<=cs.length->T B (ah 1 p ys.length c' (iv .i64 ys)::H) (K (.slice p ys.length c'))):T B H (ad P 563 #[.slice q l c] K):=by apply an (Mc _ _ _);unfold sF;refine Ee hl hlen λr=>St.go ?_;unfold b2;have a:=Tz cs;refine Sx.go (by omega) λx=>St.go ?_;have:=U x.1 x.2 (a7 (jb cs)) (w6 cs).2.2 (by simpa using a);rw[show(a7 (jb cs)).length=(jb cs).length from by simp]at this;exact af this
end
end
section
open Go.XS Go.bm
def Ce(m:ML Int)(t:Tk):ML Int:=bC t.aO ((aQ m t.aO).getD 0+t.count) m
def mm(ts:List Tk):ML Int:=ts.foldl Ce []
def Il(ts:List Tk)(t:Tk):mm (ts++[t])=Ce (mm ts) t:=by unfold mm;rw[wh];rfl
def Ik(ts:List Tk):bQ (mm ts)/\∀k,(aQ (mm ts) k).getD 0=((ts.filter λt=>t.aO==k).map (·.count)).sum:=by
 generalize a:ts.length=n
 induction n generalizing ts with
 |zero=>obtain rfl:=kO.1 a;exact⟨by simp[bQ,a7,ed,mm],λk=>by simp[mm,aQ]⟩
 |succ n c=>
  obtain⟨init,z,rfl⟩:∃init z,ts=init++[z]:=⟨ts.dropLast,ts.getLast (by intro h;subst h;simp at a),(tR _).symm⟩;obtain⟨h1,b⟩:=c init (by simp at a;exact a);rw[Il];unfold Ce;refine⟨fu h1,λk=>?_⟩;rw[gR h1,nt,eY,zm];by_cases e:k=z.aO
  ·subst e;rw[ag rfl,b,nw (by simp)];simp
  ·rw[aj e,b,nu (by simpa using λh=>e h.symm)];simp
section
variable {B:Heap}{H H0:au}{K:aK}{s:Setup}{x:kV}{X:sn}{n:Int}{q:av}{l c:Nat}
def Zm[h1:Rd B H X.p1 (x.cs.flatMap fo)][a:Rd B H X.p2 (iv .i64 x.w)](hs:kW s x)(U:T B H (K (.bool false))):T B H (ad P 553 #[.agg (cH s),.agg (cz x X)] K):=by apply an (Rt _ _);have n1:=hs.n1;have n2:=hs.n2;have c1:=hs.c1;refine Sa.go λaa=>Sa.go λak=>bU rfl (bg rfl (aI (by simp[c1]) (bU rfl (bU rfl ?_))));unfold aS;exact KY rfl (by omega) (by omega) hs.ch hs.w (St.go (af U))
def Zn{m:Mem}{k:Nat}[hc:bZ B H k #[J n]](U:T B H (K (.bool (m.1==n)))):T B H (ad P 570 #[.agg (fL m).toArray,pz k] K):=by refine an (Rv _ _) (Sa.go λaa=>bg rfl ?_);unfold cx;apply St.go;rw[aR];exact bg rfl (af U)
def H3[e:Rd B H X.p3 (aW x.ms)](hl:x.ms.length<=1000)(hm:∃m∈x.ms,m.1=n)(U:∀a,T B H (K (.pointer (some a)))):T B H (ad P 561 #[.agg (cz x X),J n] K):=by
 obtain⟨m,hm,b⟩:=hm;refine an (Ru _ _) (Sa.go λaa=>Sa.go λak=>bU rfl ?_);unfold aV;refine tB (ms:=x.ms) (f:=λm=>m.1==n) (by kernel_rfl) rfl (by omega) (λm hm g h=>?_) ?_
 ·exact Zn h
 have hi:=FX (p:=λm:Mem=>m.1==n) hm (by simp[b])
 have c:cS (λm:Mem=>m.1==n) x.ms<x.ms.length:=by
  unfold cS
  cases h:x.ms.findIdx? (λm:Mem=>m.1==n)with
  |none=>simp only;omega
  |some i=>have:=(zb.1 h).1;simp only;omega
 generalize cS (λm:Mem=>m.1==n) x.ms=i at hi c;apply St.go;apply aI (by simp;omega);apply bU rfl
 have d:0<(aW x.ms).length:=by have:=List.length_pos_of_mem hm;rw[show(aW x.ms).length=x.ms.length*4 from dj gp x.ms];omega
 exact oI Rd.rd d λa ha=>ba (by omega) (af (U _))
def Zp{k:Nat}[hc:bZ B H k (cz x X)][b:Rd B H X.p3 (aW x.ms)](hl:x.ms.length<=1000)(c:-9223372036854775808<=n-1/\n<=9223372036854775807)(hm:∃m∈x.ms,m.1=n-1)(U:T B H (K (.bool false))):T B H (ad P 560 #[J n,pz k] K):=by apply an (Rx _ _);unfold jW;apply St.go;rw[aR];refine bV rfl ?_;rw[br (by omega)];unfold di;exact H3 hl hm λa=>St.go U
def Zo[h1:Rd B H X.p1 (x.cs.flatMap fo)][A:Rd B H X.p3 (aW x.ms)](hs:kW s x)(U:T B H (K (.bool false))):T B H (ad P 554 #[.agg (cH s),.agg (cz x X)] K):=by
 apply an (Rw _ _);have n1:=hs.n1;have n3:=hs.n3;refine Sa.go λaa=>Sa.go λak=>bU rfl ?_
 refine qX (λm la i Y=>∃k:Nat,i=(k:Int)/\m+k=x.ms.length/\(∀j v,k<=j->x.ms[j]?=some v->la<v.1)/\Y=cl ak (cz x X)::cl aa (cH s)::H) x.ms.length
  ⟨0,rfl,by omega,λj v _ b=>by have:=(hs.me v (cr b)).1;omega,rfl⟩ ?_
 rintro m la i Y R ⟨k,rfl,C,l,rfl⟩ n;refine S2.go (λa=>?_) λa=>?_
 ·have a:k<x.ms.length:=by omega
  have c:x.ms[k]?=some x.ms[k]:=bj a;obtain⟨q,dG,d,iB⟩:=hs.me x.ms[k] (eK a)
  have f:∀j v,k+1<=j->x.ms[j]?=some v->x.ms[k].1<v.1:=λj v D b=>by obtain⟨r,e⟩:=bY.1 b;have:=mz.1 hs.Wj k j (by simpa using a) (by simpa using r) (by omega);simp only[zg]at this;rw[e]at this;exact this
  have t:=l k _ (dQ _) c;generalize x.ms[k]=v at c q dG d iB f t;refine eD gp (by omega) k rfl a c (Sa.go λg=>Sc.go ⟨rfl,rfl⟩ (bg rfl ?_));apply aI (by simp;omega);apply bg rfl;apply aI (by simp;omega);apply zG;unfold aS;apply su (by simp only[cq,bJ]at d;exact⟨by unfold aF;omega,by unfold aF;omega,by unfold aF;omega⟩);rw[d];refine St.go (aI rfl (bU rfl (bg rfl (bg rfl ?_))));rw[br (by omega)];unfold aV;apply KW rfl (by omega) (by omega);rw[iB];refine St.go (e7 (λσ o=>(inferInstance:bZ B (cl g (fL v).toArray::cl ak (cz x X)::cl aa (cH s)::H) g (fL v).toArray).cell o 2) (aI (by simp) (bg rfl ?_)));rw[br (by omega)];exact af (n (m-1) _ _ _ (by omega) ⟨k+1,by omega,by omega,f,rfl⟩)
 ·apply bU rfl
  unfold b2;refine KX rfl (by omega) λp c' ys u E=>St.go ?_;unfold aS;refine Ze (by kernel_rfl) rfl (by omega) (λy w F h=>?_) ?_
  ·obtain⟨G,z,hz,I⟩:=u y w
   obtain⟨m,hm,J⟩:=hs.own z hz (by omega);have L:=hs.me m hm;exact Zp n3 (by omega) ⟨m,hm,by omega⟩ h
  ·exact St.go (af U)
def Zr{m:Mem}{k r:Nat}{a:ML Int}[hc:bZ B H k #[.map (some r)]][b:Ow H (MP J r) a H0](c:(aQ a m.1).getD 0=m.2.cB)(U:T B (MP J r a::H0) (K (.bool false))):T B H (ad P 564 #[.agg (fL m).toArray,pz k] K):=by refine an (Rz _ _) (Sa.go λaa=>?_);unfold cU;apply St.go;rw[aR];refine pP rfl (bg rfl (bf (lP.tail b.pl) (St.go ?_)));rw[c];refine St.go (bg rfl ?_);rw[show(m.2.cB !=m.2.cB)=false from by simp];exact af U
def Zq[h1:Rd B H X.p4 (x.ts.flatMap aD)][F:Rd B H X.p3 (aW x.ms)](hs:kW s x)(U:T B H (K (.bool false))):T B H (ad P 555 #[.agg (cH s),.agg (cz x X)] K):=by
 apply an (Ry _ _);have n3:=hs.n3;have n4:=hs.n4
 have d:∀t∈x.ts,0<=t.count/\t.count<=1048576/\0<t.id:=λt g=>by have:=(hs.Ir t g).1;unfold right at this;simp only[bJ]at this;omega
 refine Sa.go λaa=>Sa.go λak=>Sa.go λr=>?_;refine iT (r:=r) J ?_;refine Sa.go λn=>?_;apply St.go;apply bU (b:=ak) (cs:=cz x X) rfl;refine af (H':=MP J r []::cl n #[.map (some r)]::cl ak (cz x X)::cl aa (cH s)::H) ?_
 refine qX (λm la i Y=>∃k:Nat,i=(k:Int)/\m+k=x.ts.length/\(∀j v,k<=j->x.ts[j]?=some v->la<v.id)/\Y=MP J r (mm (x.ts.take k))::cl n #[.map (some r)]::cl ak (cz x X)::cl aa (cH s)::H) x.ts.length
  ⟨0,rfl,by omega,λj v _ o=>(d v (cr o)).2.2,rfl⟩ ?_
 rintro m la i Y R ⟨k,rfl,G,w,rfl⟩ y;refine S2.go (λc=>?_) λc=>?_
 ·have c:k<x.ts.length:=by omega
  have l:x.ts[k]?=some x.ts[k]:=bj c;obtain⟨p,dG,q⟩:=hs.Ir x.ts[k] (eK c);have z:=d x.ts[k] (eK c)
  have u:∀j v,k+1<=j->x.ts[j]?=some v->x.ts[k].id<v.id:=λj v I o=>by obtain⟨A,e⟩:=bY.1 o;have:=mz.1 hs.aad k j (by simpa using c) (by simpa using A) (by omega);simp only[zg]at this;rw[e]at this;exact this
  have C:=w k _ (dQ _) l;generalize x.ts[k]=v at l p dG q u C z;refine eD (f:=aD) (rs:=x.ts) eS (by omega) k rfl c l (Sa.go λD=>Sc.go ⟨rfl,rfl⟩ (dU (α:=Unit) (λ_=>cl D (aD v).toArray::MP J r (mm (x.ts.take k))::cl n #[.map (some r)]::cl ak (cz x X)::cl aa (cH s)::H) (λ_=>[]) (λL body=>?_) λ_=>?_))
  ·refine bV rfl ?_
   unfold aS;apply Cm;rw[p];refine St.go (aI rfl (bg rfl (aI (by simp[dG]) (bg rfl ?_))));apply aI (by simp;omega);refine bV rfl (bg rfl ?_);unfold di;exact H3 n3 q λa=>St.go (aI rfl (body ()))
  ·refine St.go (bg rfl (pP rfl (bg rfl (St.go (St.go (bg rfl ?_))))))
   have E:=Z6 (f:=λt=>t.aO==v.aO) (k:=k) (λt g=>⟨(d t g).1,(d t g).2.1⟩) (by omega);rw[<-(Ik (x.ts.take k)).2]at E;rw[br (by omega)];apply St.go;rw[br (by omega)];have e:bC v.aO ((aQ (mm (x.ts.take k)) v.aO).getD 0+v.count) (mm (x.ts.take k))=mm (x.ts.take (k+1)):=by rw[ef l,Il];rfl
   rw[e];exact af (y (m-1) _ _ _ (by omega) ⟨k+1,by omega,by omega,u,rfl⟩)
 ·have hl:k=x.ts.length:=by omega
  subst hl;rw[ix];apply bU rfl;unfold aS;refine Zf (by kernel_rfl) rfl (by omega) (λm hm M h=>?_) ?_
  ·exact Zr (by rw[(Ik x.ts).2];exact hs.ko m hm) h
  ·exact St.go (af U)
def Zt[h1:Rd B (ah 4 X.p3 x.ms.length X.c3 (aW x.ms)::H) X.p1 (x.cs.flatMap fo)](hs:kW s x)(U:T B (ah 4 X.p3 x.ms.length X.c3 (aW x.ms)::H) (K (.bool false))):T B (ah 4 X.p3 x.ms.length X.c3 (aW x.ms)::H) (ad P 556 #[.agg (cH s),.agg (cz x X)] K):=by
 apply an (RC _ _);have n1:=hs.n1;have hm:∀p,dk x.cs p<=x.cs.length:=λp=>r7;have m0:=hm 0;have m2:=hm 2;have m3:=hm 3
 have a:∀z∈x.cs,z.ph<=3:=λz hz=>by
  obtain⟨i,hi⟩:=C4 hz;have:=(hs.ch i z hi).1;unfold o6 at this;simp only[cg,bJ]at this;have:=this.2;split at this
  ·omega
  ·have:=sg this;omega
 refine Sa.go λaa=>Sa.go λak=>bU rfl ?_;unfold bH;refine Ed rfl (by omega) a (St.go (Sa.go λb=>Sc.go ⟨rfl,rfl⟩ (ba (by omega) (bg rfl (ba (by omega) (bg rfl (ba (by omega) (bg rfl ?_))))))));rw[jh (n:=(dk x.cs 0:Int)+dk x.cs 2) (by omega) (by omega),br (by omega)];apply bU rfl;unfold aS;refine bL (G' (λm hm=>(hs.me m hm).2.2.1) hs.n3 ?_);rw[hs.safe];exact St.go (af U)
def Dv(x:kV)(m:ML Int)(k:Nat):Prop:=bQ m/\∀g o,aQ m g=some o->∃j u,j<k/\x.ls[j]?=some u/\u.bR=g/\qq x.cs u.chunk=o
def Zs[h1:Rd B H X.p1 (x.cs.flatMap fo)][ai:Rd B H X.p5 (x.ls.flatMap cy)](hs:kW s x)(al:x.ls.length<=X.fI)(U:T B H (K (.bool false))):T B H (ad P 557 #[.agg (cH s),.agg (cz x X)] K):=by
 apply an (RA _ _);have hz:=hs.pz;have n1:=hs.n1;have u7:=hs.u7;refine Sa.go λaa=>Sa.go λak=>Sa.go λr=>iT J (bU rfl (D0 x.ls.length (by omega) (λk b Y=>b=false/\∃m,Dv x m k/\Y=MP J r m::cl ak (cz x X)::cl aa (cH s)::H) ⟨rfl,[],⟨by simp[bQ,a7,ed],λg o h=>by simp[aQ]at h⟩,rfl⟩ ?_));rintro k b Y R am ⟨rfl,m,q,rfl⟩ N;refine S2.go (λd=>?_) λd=>?_
 ·have d:k<x.ls.length:=by omega
  have w:x.ls[k]?=some x.ls[k]:=bj d;have hm:=eK d;generalize D:x.ls[k]=v at w hm;obtain⟨ao,dG,ap,iB,c,hc,O,Q⟩:=hs.pc v hm;have S:v.chunk.toNat<x.cs.length:=(bY.1 hc).1;have E:qq x.cs v.chunk=c.own:=by unfold qq;rw[eo,hc];rfl
  apply eD (f:=cy) (rs:=x.ls) xA (by omega) k rfl d w;refine Sa.go λi=>Sc.go ⟨rfl,rfl⟩ ?_;refine dU (α:=Unit) (λ_=>cl i (cy v).toArray::MP J r m::cl ak (cz x X)::cl aa (cH s)::H) (λ_=>[.bool false]) (λF body=>?_) λ_=>?_
  ·apply bg rfl
   apply aI (by simp;omega);refine bg rfl (bU rfl ?_);apply aI (by simp;omega);apply bg rfl;apply aI (by simp;omega);apply bg rfl;apply aI (by simp;omega);refine bg rfl (bg rfl ?_);apply aI (by simp;omega);refine bg rfl (bg rfl (bg rfl ?_));rw[br (by omega)];apply aI (by simp;omega);exact body ()
  ·refine St.go (bU rfl (bg rfl (eD (f:=fo) (rs:=x.cs) p7 (by omega) v.chunk.toNat (by omega) S hc (Sa.go λy=>Sc.go ⟨rfl,rfl⟩ (bg rfl (St.go (St.go (dU (α:=Unit) (λ_=>cl y (fo c).toArray::cl i (cy v).toArray::MP J r m::cl ak (cz x X)::cl aa (cH s)::H) (λ_=>[.bool false]) (λF body=>?_) λ_=>?_))))))))
   ·have body:T B (MP J r m::cl y (fo c).toArray::cl i (cy v).toArray::cl ak (cz x X)::cl aa (cH s)::H) (F [.bool false]):=af (body ())
    refine bg rfl (aI (by simp[O]) (bg rfl (bg rfl (aI (by simp[Q]) ?_))))
    cases V:aQ m v.bR with
    |none=>exact aI rfl body
    |some o=>refine bo rfl (bg rfl ?_);obtain⟨j,u,z,hu,A,C⟩:=q.2 _ _ V;obtain⟨W,Z⟩:=bY.1 hu;have l:=mz.1 hs.pp j k W d z;rw[D,Z]at l;have:=l.2 A;apply aI (by simp only[fx];rw[<-C,this,E];simp);exact body
   ·apply St.go
    apply bg (b:=i) (cs:=(cy v).toArray) (n:=v.bR) rfl;apply bg (b:=y) (cs:=(fo c).toArray) (n:=c.own) rfl;apply St.go
    have ab:Dv x (bC v.bR c.own m) (k+1):=⟨fu q.1,λg o p=>by
     rw[gR q.1]at p;by_cases e:g=v.bR
     ·subst e
      rw[ag rfl]at p;cases p;exact⟨k,v,by omega,w,rfl,E⟩
     ·rw[aj e]at p
      obtain⟨j,u,z,hu,A,C⟩:=q.2 _ _ p;exact⟨j,u,by omega,hu,A,C⟩⟩
    refine bU rfl (ba (by omega) (af (H':=MP J r (bC v.bR c.own m)::cl i (cy v).toArray::cl ak (cz x X)::cl aa (cH s)::H) (D0 k (by omega) (λj b Y=>b=false/\Y=MP J r (bC v.bR c.own m)::cl i (cy v).toArray::cl ak (cz x X)::cl aa (cH s)::H) ⟨rfl,rfl⟩ ?_)));rintro j b Y ac z ⟨rfl,rfl⟩ ae;refine S2.go (λt=>?_) λt=>?_
    ·have t:j<k:=by omega
     have G:x.ls[j]?=some x.ls[j]:=bj (by omega);have I:x.ls[j]∈x.ls:=eK (by omega);have l:=mz.1 hs.pp j k (by omega) d t;rw[D]at l;generalize x.ls[j]=u at G I l;obtain⟨d1,d2,d3,d4,c',e',aq,ar⟩:=hs.pc u I;show T B _ (dI (da X.p5 5 0 X.fI) (Int.toNat (k:Int)-0) (j:Int) 5 5 _);rw[lx];refine eD (f:=cy) (rs:=x.ls) xA (by omega) j rfl (by omega) G (Sa.go λah=>Sc.go ⟨rfl,rfl⟩ ?_);have L:T B (cl ah (cy u).toArray::MP J r (bC v.bR c.own m)::cl i (cy v).toArray::cl ak (cz x X)::cl aa (cH s)::H) (ac [.bool false,J (IntKind.wrap .i64 ((j:Int)+1))]):=af (ae t _ _ ⟨rfl,rfl⟩);refine bg rfl (bg rfl (S2.go (λM=>?_) λM=>?_))
     ·refine bg rfl (bg rfl (bg rfl (bg rfl ?_)))
      unfold aS;refine B' (a:=u.sp) (b:=v.sp) ⟨by unfold aF;simp only;omega,by unfold aF;simp only;omega⟩ ⟨by unfold aF;simp only;omega,by unfold aF;simp only;omega⟩ ?_;rw[l.1 (by simpa using M)];exact St.go (aI rfl L)
     ·exact L
    ·exact af (N d _ _ ⟨rfl,_,ab,rfl⟩)
 ·exact af U
def Zl(hs:kW s x)(U:T B (j6 x X H) (K (J 0))):T B (j6 x X H) (ad P 551 #[.agg (cH s),.agg (cz x X)] K):=by
 refine an (Rr _ _) (aL (ah 5 X.p5 x.ls.length X.fI) (Bo λg=>?_));refine af (H':=j6 x X H) ?_;refine Sa.go λaa=>Sa.go λak=>?_;unfold b2;apply an (RD);iterate 5 refine ba rfl ?_
 refine Sa.go λf=>St.go (dh 5 (by omega) (λk Y=>Y=cl f #[Value.func (Fn.func 553) #[] #[],Value.func (Fn.func 554) #[] #[],Value.func (Fn.func 555) #[] #[],Value.func (Fn.func 556) #[] #[],Value.func (Fn.func 557) #[] #[]]::cl ak (cz x X)::cl aa (cH s)::j6 x X H) rfl ?_);rintro k Y R l rfl c;have m:∀{a:Nat} {v:Value},k<5->T B (cl a #[v]::cl f #[Value.func (Fn.func 553) #[] #[],Value.func (Fn.func 554) #[] #[],Value.func (Fn.func 555) #[] #[],Value.func (Fn.func 556) #[] #[],Value.func (Fn.func 557) #[] #[]]::cl ak (cz x X)::cl aa (cH s)::j6 x X H) (R [J (IntKind.wrap .i64 ((k:Int)+1))]):=λh=>af (c h _ rfl);by_cases i:k=5
 ·subst i
  exact aI (by decide) (af U)
 have d:k<5:=by omega
 obtain rfl|rfl|rfl|rfl|rfl:k=0\/k=1\/k=2\/k=3\/k=4:=by omega
 ·apply bo (by decide)
  unfold sW;refine St.go (ba (by omega) ?_);refine iV #[Value.func (Fn.func 553) #[] #[]] rfl (λj e=>by obtain rfl:j=0:=(by omega);rfl) ?_;refine Sa.go λa=>Sc.go ⟨rfl,rfl⟩ ?_;apply hT (b:=a) (v:=Value.func (Fn.func 553) #[] #[]) rfl;refine bV (b:=aa) (cs:=cH s) rfl ?_;refine bV (b:=ak) (cs:=cz x X) rfl ?_;apply nJ (by kernel_rfl);apply Zm (x:=x) (X:=X) hs;apply St.go;apply aI rfl;exact af (c d _ rfl)
 ·apply bo (by decide)
  unfold sW;refine St.go (ba (by omega) ?_);refine iV #[Value.func (Fn.func 554) #[] #[]] rfl (λj e=>by obtain rfl:j=0:=(by omega);rfl) ?_;refine Sa.go λa=>Sc.go ⟨rfl,rfl⟩ ?_;apply hT (b:=a) (v:=Value.func (Fn.func 554) #[] #[]) rfl;refine bV (b:=aa) (cs:=cH s) rfl ?_;refine bV (b:=ak) (cs:=cz x X) rfl ?_;apply nJ (by kernel_rfl);apply Zo (x:=x) (X:=X) hs;apply St.go;apply aI rfl;exact af (c d _ rfl)
 ·apply bo (by decide)
  unfold sW;refine St.go (ba (by omega) ?_);refine iV #[Value.func (Fn.func 555) #[] #[]] rfl (λj e=>by obtain rfl:j=0:=(by omega);rfl) ?_;refine Sa.go λa=>Sc.go ⟨rfl,rfl⟩ ?_;apply hT (b:=a) (v:=Value.func (Fn.func 555) #[] #[]) rfl;refine bV (b:=aa) (cs:=cH s) rfl ?_;refine bV (b:=ak) (cs:=cz x X) rfl ?_;apply nJ (by kernel_rfl);apply Zq (x:=x) (X:=X) hs;apply St.go;apply aI rfl;exact af (c d _ rfl)
 ·apply bo (by decide)
  unfold sW;refine St.go (ba (by omega) ?_);refine iV #[Value.func (Fn.func 556) #[] #[]] rfl (λj e=>by obtain rfl:j=0:=(by omega);rfl) ?_;refine Sa.go λa=>Sc.go ⟨rfl,rfl⟩ ?_;apply hT (b:=a) (v:=Value.func (Fn.func 556) #[] #[]) rfl;refine bV (b:=aa) (cs:=cH s) rfl ?_;refine bV (b:=ak) (cs:=cz x X) rfl ?_;apply nJ (by kernel_rfl);refine aL (ah 4 X.p3 x.ms.length X.c3) (Zt (x:=x) (X:=X) hs ?_);exact St.go (aI rfl (af (c d _ rfl)))
 ·apply bo (by decide)
  unfold sW;refine St.go (ba (by omega) ?_);refine iV #[Value.func (Fn.func 557) #[] #[]] rfl (λj e=>by obtain rfl:j=0:=(by omega);rfl) ?_;refine Sa.go λa=>Sc.go ⟨rfl,rfl⟩ ?_;apply hT (b:=a) (v:=Value.func (Fn.func 557) #[] #[]) rfl;refine bV (b:=aa) (cs:=cH s) rfl ?_;refine bV (b:=ak) (cs:=cz x X) rfl ?_;apply nJ (by kernel_rfl);apply Zs (x:=x) (X:=X) hs g;apply St.go;apply aI rfl;exact af (c d _ rfl)
end
end
section
open Go.XS Go.bm
def gX(ts:List Tk)(ms:List Mem)(f w:Int):b5:=b5.cu ⟨[],ts,ms,f⟩ (ih f w ts ms).toNat
section
variable {B:Heap}{H H0:au}{K:aK}{b:Nat}{R:b5}{w:Int}{ts:List Tk}{ms:List Mem}{q:av}{l c:Nat}
def UJ{f:Int}{p0 p1:av}{c0 c1 n:Nat}(d:b5.Fit ⟨[],ts,ms,f⟩ n)(l:¬ih f w ts ms<0)(U:∀x:qT,T B (ah 5 x.pl (gX ts ms f w).ls.length x.cl ((gX ts ms f w).ls.flatMap aD)::ah 4 x.pm (gX ts ms f w).ms.length x.cm (aW (gX ts ms f w).ms)::ah 5 p0 ts.length c0 (ts.flatMap aD)::ah 4 p1 ms.length c1 (aW ms)::H) (K (.tuple #[.agg #[.slice x.pg (gX ts ms f w).gs.length x.cw,.slice x.pl (gX ts ms f w).ls.length x.cl,.slice x.pm (gX ts ms f w).ms.length x.cm,J (gX ts ms f w).free],.bool true]))):T B (ah 5 p0 ts.length c0 (ts.flatMap aD)::ah 4 p1 ms.length c1 (aW ms)::H) (ad P 584 #[.slice p0 ts.length c0,J f,J w,.slice p1 ms.length c1] K):=by
 have h1:=d.many;have N:=d.n2;have A:=d.ms;simp only[gH]at h1 A;apply an (NK _ _ _ _ _ _ _ _);refine Sa.go λaa=>Sa.go λak=>?_;refine af (H':=ah 5 p0 ts.length c0 (ts.flatMap aD)::ah 4 p1 ms.length c1 (aW ms)::cl ak #[.bool false]::cl aa #[.slice none 0 0,.slice none 0 0,.slice none 0 0,J 0]::H) ?_;unfold bH;refine FJ (by omega) (by omega) λa c=>St.go (Sa.go λb=>Sc.go ⟨rfl,rfl⟩ (Sa.go λy=>?_));obtain⟨g,j⟩:=y;refine pR (by kernel_rfl) λro rr lp C=>dL 5 (af (H':=cl b #[.slice none 0 0,.slice (some ⟨a,0,none⟩) ts.length ts.length,.slice (some ⟨c,0,none⟩) ms.length ms.length,J f]::ah 5 none 0 0 []::ah 5 (some ⟨a,0,none⟩) ts.length ts.length (ts.flatMap aD)::ah 4 (some ⟨c,0,none⟩) ms.length ms.length (aW ms)::(lo lp ro .ready none::ob rr (.deferred (some []))::cl g #[pz b]::cl j #[J w]::ah 5 p0 ts.length c0 (ts.flatMap aD)::ah 4 p1 ms.length c1 (aW ms)::cl ak #[.bool false]::cl aa #[.slice none 0 0,.slice none 0 0,.slice none 0 0,J 0]::H)) ?_);generalize e:(⟨[],ts,ms,f⟩:b5)=R0 at d;have D:R0.gs=[]:=by subst e;rfl
 have k:R0.ls=ts:=by subst e;rfl
 have o:R0.ms=ms:=by subst e;rfl
 have r:R0.free=f:=by subst e;rfl
 generalize E:lo lp ro .ready none::ob rr (.deferred (some []))::cl g #[pz b]::cl j #[J w]::ah 5 p0 ts.length c0 (ts.flatMap aD)::ah 4 p1 ms.length c1 (aW ms)::cl ak #[.bool false]::cl aa #[.slice none 0 0,.slice none 0 0,.slice none 0 0,J 0]::H=G
 have F:∀{p:HP},T B (mh b R0 ⟨none,0,some ⟨a,0,none⟩,ts.length,some ⟨c,0,none⟩,ms.length⟩ G) p->T B (cl b #[.slice none 0 0,.slice (some ⟨a,0,none⟩) ts.length ts.length,.slice (some ⟨c,0,none⟩) ms.length ms.length,J f]::ah 5 none 0 0 []::ah 5 (some ⟨a,0,none⟩) ts.length ts.length (ts.flatMap aD)::ah 4 (some ⟨c,0,none⟩) ms.length ms.length (aW ms)::G) p:=by subst e;exact λh=>h
 apply F;generalize(⟨none,0,some ⟨a,0,none⟩,ts.length,some ⟨c,0,none⟩,ms.length⟩:qT)=x0;subst E;refine an (Ev _ _ _) (uq (λm H'=>m=0/\H'=mh b R0 x0 (lo lp ro .ready none::ob rr (.deferred (some []))::cl g #[pz b]::cl j #[J w]::ah 5 p0 ts.length c0 (ts.flatMap aD)::ah 4 p1 ms.length c1 (aW ms)::cl ak #[.bool false]::cl aa #[.slice none 0 0,.slice none 0 0,.slice none 0 0,J 0]::H)) 0 ⟨rfl,rfl⟩ ?_);rintro m H' O ⟨rfl,rfl⟩ I;clear I;repeat apply St.go
 refine af (H':=ah 5 x0.pl R0.ls.length x0.cl (R0.ls.flatMap aD)::ah 4 x0.pm R0.ms.length x0.cm (aW R0.ms)::cl b #[.slice x0.pg R0.gs.length x0.cw,.slice x0.pl R0.ls.length x0.cl,.slice x0.pm R0.ms.length x0.cm,J R0.free]::ah 5 x0.pg R0.gs.length x0.cw (R0.gs.flatMap aD)::lo lp ro .ready none::ob rr (.deferred (some []))::cl g #[pz b]::cl j #[J w]::ah 5 p0 ts.length c0 (ts.flatMap aD)::ah 4 p1 ms.length c1 (aW ms)::cl ak #[.bool false]::cl aa #[.slice none 0 0,.slice none 0 0,.slice none 0 0,J 0]::H) ?_;rw[<-k,<-o,<-r]at l;apply B6 d.right d.ms (by rw[k];omega);refine St.go (aI (by simpa using l) ?_);obtain⟨i,hi,s,t⟩:=tc l;rw[hi];obtain⟨g1,g2⟩:=xm t;have L:=d.cu s t;have M:=L.free;simp only[b5.cu]at M;refine St.go (af (H':=mh b R0 x0 (lo lp ro .ready none::ob rr (.deferred (some []))::cl g #[pz b]::cl j #[J w]::ah 5 p0 ts.length c0 (ts.flatMap aD)::ah 4 p1 ms.length c1 (aW ms)::cl ak #[.bool false]::cl aa #[.slice none 0 0,.slice none 0 0,.slice none 0 0,J 0]::H)) ?_);refine FK s d.right g1 (by rw[k];omega) (by rw[D];show 0<10000;omega) d.ms d.vm (by omega) λp c=>?_
 have u:gX ts ms f w=R0.cu i:=by unfold gX;rw[e];rw[k,o,r]at hi;rw[hi,aZ]
 apply St.go;refine bL (q:=lo lp ro .ready none) (oL C ?_);refine St.go (oC ?_);generalize R0.cu i=R1 at u;refine bV rfl (hj rfl rfl ?_ ?_)
 ·intro v z;simp at z;rcases z with rfl|rfl|rfl|rfl<;>rfl
 refine St.go (bL (q:=lo lp ro .busy none) (JS ?_));refine St.go (bo rfl (bL (q:=lo lp ro .done (some .ret)) (JR (by simp) ?_)));refine bL (q:=ob rr (.deferred (some []))) (oK ?_);refine bV rfl (iW rfl ?_);have U:=U {x0 with pg:=p,cw:=c};rw[u]at U;exact af U
def Y6[hr:Rd B H q (ts.flatMap aD)](hl:l=ts.length)(hlen:l<1000000)(U:∀b c',T B (ah 5 b ts.length c' (ts.flatMap aD)::H) (K (.slice b ts.length c'))):T B H (ad P 582 #[.slice q l c] K):=by
 subst hl;apply an (Q4 _ _ _)
 cases q with
 |none=>
  apply bo rfl;by_cases hs:ts=[]
  ·subst hs
   exact dL 5 (U none 0)
  ·intro σ o
   exfalso;rcases hr.rd σ o with⟨_,h⟩|⟨a,h,_⟩
   ·have:=dj eS ts
    rw[h]at this;have d:=r9.2 hs;simp at this;omega
   ·cases h
 |some a=>apply aI rfl;refine Sa.go λaa=>?_;refine kk (l:=0) 5 rfl ?_;have e:Rd B (ah 5 (some ⟨aa,0,none⟩) 0 0 (#[]:aw).toList::H) (some a) (ts.flatMap aD):=⟨hr.rd.tail⟩;refine oB (by omega) (dj eS ts) λb c'=>?_;rw[bI,kQ];exact U b c'
instance acA{l:List Mem}:kj (l.flatMap fL).toArray:=⟨by intro v a;simp only[lL]at a;obtain⟨t,_,b⟩:=a;simp only[fL,cL,jJ,jm]at b;rcases b with rfl|rfl|rfl|rfl<;>rfl⟩
def Y5[hr:Rd B H q (aW ms)](hl:l=ms.length)(hlen:l<1000000)(U:∀b c',T B (ah 4 b ms.length c' (aW ms)::H) (K (.slice b ms.length c'))):T B H (ad P 583 #[.slice q l c] K):=by
 subst hl;apply an (Q2 _ _ _)
 cases q with
 |none=>
  apply bo rfl;by_cases hs:ms=[]
  ·subst hs
   exact dL 4 (U none 0)
  ·intro σ o
   exfalso;rcases hr.rd σ o with⟨_,h⟩|⟨a,h,_⟩
   ·have:(aW ms).length=ms.length*4:=dj gp ms
    rw[h]at this;have d:=r9.2 hs;simp at this;omega
   ·cases h
 |some a=>apply aI rfl;refine Sa.go λaa=>?_;refine kk (l:=0) 4 rfl ?_;have e:Rd B (ah 4 (some ⟨aa,0,none⟩) 0 0 (#[]:aw).toList::H) (some a) (ms.flatMap fL):=⟨hr.rd.tail⟩;refine oB (by omega) (dj gp ms) λb c'=>?_;rw[bI,kQ];exact U b c'
end
end
section
open Go.XS Go.bm
structure Sh where
 ts:List Tk
 f:Int
 w:Int
 ms:List Mem
 gs:aN
structure fz where
 pt:av
 de:Nat
 pm:av
 cm:Nat
 pg:av
 cw:Nat
abbrev iL(s:Sh)(x:fz):az:=[.slice x.pt s.ts.length x.de,J s.f,J s.w,.slice x.pm s.ms.length x.cm,.slice x.pg s.gs.length x.cw]
def YT(y:Sh×fz):(iL y.1 y.2).length=5:=rfl
def q7(x:kV)(s:Setup):Int:=if 0>if s.q<(x.w.length:Int)then s.q else(x.w.length:Int)then 0 else if s.q<(x.w.length:Int)then s.q else(x.w.length:Int)
def dd(x:kV)(s:Setup):Sh:=⟨x.ts,dk x.cs 0+q7 x s,x.w.length-q7 x s,x.ms,[]⟩
def ru(w:Int):aN->List Tk->List Mem->Int->Bool
 |[],ts,ms,f=>decide (ih f w ts ms<0)
 |g::gs,ts,ms,f=>!decide (ih f w ts ms<0)&&((ts.getD (ih f w ts ms).toNat dy).id==g)&&ru w gs (gX ts ms f w).ls (gX ts ms f w).ms (gX ts ms f w).free
def K5{x:kV}{s:Setup}:0<=q7 x s/\q7 x s<=x.w.length:=by unfold q7;split<;>split<;>omega
section
variable {B:Heap}{H H0:au}{K:aK}{b:Nat}{s:Setup}{x:kV}{X:sn}{S:Sh}{y:fz}
def Ud(n1:x.cs.length<=1000)(n2:x.w.length<=1000)(n3:x.ms.length<=1000)(n4:x.ts.length<=1000)(U:∀y:fz,T B (ah 5 y.pt x.ts.length y.de (x.ts.flatMap aD)::ah 4 y.pm x.ms.length y.cm (aW x.ms)::H) (K (.agg (iL (dd x s) {y with pg:=none,cw:=0}).toArray))):T B (j6 x X H) (ad P 579 #[.agg (cz x X),.agg (cH s)] K):=by
 refine an (Nt _ _) (Sa.go λaa=>Sa.go λak=>Sa.go λb=>bU rfl ?_);have l:(J 0:Value)=J ((dk (x.cs.take 0) 0:Nat):Int):=by simp[dk]
 refine Kq x.cs.length (by omega) (λk n Y=>n=((dk (x.cs.take k) 0:Nat):Int)/\Y=cl b #[Value.slice none 0 0,J 0,J 0,Value.slice none 0 0,Value.slice none 0 0]::cl ak (cH s)::cl aa (cz x X)::j6 x X H) ⟨by simp[dk],rfl⟩ ?_;rintro k n Y R m ⟨rfl,rfl⟩ d;have p:dk (x.cs.take k) 0<=k:=lN r7 (by rw[fv];omega);refine S2.go (λa=>?_) λa=>?_
 ·have a:k<x.cs.length:=by omega
  have c:x.cs[k]?=some x.cs[k]:=bj a;generalize x.cs[k]=z at c;refine eD p7 (by omega) k rfl a c (Sa.go λr=>Sc.go ⟨rfl,rfl⟩ (bg rfl ?_));have e:dk (x.cs.take (k+1)) 0=dk (x.cs.take k) 0+if z.ph==0 then 1 else 0:=by unfold dk;rw[ef c,y8,y9]
  refine S2.go (λh=>?_) λh=>?_
  ·rw[ag (by simpa using h)]at e
   rw[br (by omega)];exact af (d a _ _ ⟨by rw[e];omega,rfl⟩)
  ·rw[aj (by simpa using h)]at e
   exact af (d a _ _ ⟨by rw[e];omega,rfl⟩)
 ·have hl:k=x.cs.length:=by omega
  subst hl;rw[ix]at*;have t:=K5 (x:=x) (s:=s);refine bU rfl (bg rfl (bU rfl (bU rfl (bU rfl ?_))));unfold b2;refine Y6 rfl (by omega) λpt de=>St.go (e7 (λσ o=>(inferInstance:bZ B (ah 5 pt x.ts.length de (x.ts.flatMap aD)::cl b #[Value.slice none 0 0,J 0,J 0,Value.slice none 0 0,Value.slice none 0 0]::cl ak (cH s)::cl aa (cz x X)::j6 x X H) aa (cz x X)).cell o 3) (e7 (λσ o=>(inferInstance:bZ B (ah 5 pt x.ts.length de (x.ts.flatMap aD)::cl b #[Value.slice none 0 0,J 0,J 0,Value.slice none 0 0,Value.slice none 0 0]::cl ak (cH s)::cl aa (cz x X)::j6 x X H) aa (cz x X)).cell o 2) (Y5 rfl (by omega) λpm cm=>St.go (e7 (λσ o=>(inferInstance:bZ B (ah 4 pm x.ms.length cm (aW x.ms)::ah 5 pt x.ts.length de (x.ts.flatMap aD)::cl b #[Value.slice none 0 0,J 0,J 0,Value.slice none 0 0,Value.slice none 0 0]::cl ak (cH s)::cl aa (cz x X)::j6 x X H) aa (cz x X)).cell o 2) ?_))))
  have i:IntKind.wrap .i64 (((dk x.cs 0:Nat):Int)+if 0>if s.q<(x.w.length:Int)then s.q else(x.w.length:Int)then 0 else if s.q<(x.w.length:Int)then s.q else(x.w.length:Int))=(dd x s).f:=by show IntKind.wrap .i64 (((dk x.cs 0:Nat):Int)+q7 x s)=_;rw[br (by omega)];rfl
  have j:IntKind.wrap .i64 ((x.w.length:Int)-if 0>if s.q<(x.w.length:Int)then s.q else(x.w.length:Int)then 0 else if s.q<(x.w.length:Int)then s.q else(x.w.length:Int))=(dd x s).w:=by show IntKind.wrap .i64 ((x.w.length:Int)-q7 x s)=_;rw[br (by omega)];rfl
  rw[i,j];refine hj rfl rfl ?_ ?_
  ·intro v g;simp at g;rcases g with rfl|rfl|rfl|rfl|rfl<;>rfl
  exact bV rfl (af (U ⟨pt,de,pm,cm,none,0⟩))
def Ue{n:Nat}[l:Rd B (ah 5 y.pt S.ts.length y.de (S.ts.flatMap aD)::ah 4 y.pm S.ms.length y.cm (aW S.ms)::H) y.pg (iv .i64 S.gs)](a:b5.Fit ⟨[],S.ts,S.ms,S.f⟩ n)(C:S.gs.length<1000)(hf:ru S.w S.gs S.ts S.ms S.f=true)(U:T B (ah 5 y.pt S.ts.length y.de (S.ts.flatMap aD)::ah 4 y.pm S.ms.length y.cm (aW S.ms)::H) (K (.bool true))):T B (ah 5 y.pt S.ts.length y.de (S.ts.flatMap aD)::ah 4 y.pm S.ms.length y.cm (aW S.ms)::H) (ad P 580 #[.agg (iL S y).toArray] K):=by
 refine an (Nu _) (Sa.go λaa=>bU rfl (bg rfl (bU rfl (bU rfl ?_))));generalize m:ah 5 y.pt S.ts.length y.de (S.ts.flatMap aD)::ah 4 y.pm S.ms.length y.cm (aW S.ms)::H=u at l U
 refine Kr S.gs.length (by omega) (λk pt lt de f pm lm cm Y=>∃ts ms Z,lt=ts.length/\lm=ms.length/\b5.Fit ⟨[],ts,ms,f⟩ n/\ru S.w (S.gs.drop k) ts ms f=true/\(∀p:HP,T B u p->T B (ah 5 pt ts.length de (ts.flatMap aD)::ah 4 pm ms.length cm (aW ms)::Z) p)/\
  Y=cl aa (iL S y).toArray::ah 5 pt ts.length de (ts.flatMap aD)::ah 4 pm ms.length cm (aW ms)::Z) ?_ ?_
 ·exact⟨S.ts,S.ms,H,rfl,rfl,a,hf,λp h=>by rw[m];exact h,by rw[<-m]⟩
 rintro k pt lt de f pm lm cm Y R D ⟨ts,ms,Z,rfl,rfl,a,hf,d,rfl⟩ v;have E:Rd B (ah 5 pt ts.length de (ts.flatMap aD)::ah 4 pm ms.length cm (aW ms)::Z) y.pg (iv .i64 S.gs):=⟨λσ o=>d (λσ=>_) (λσ o=>l.rd σ o) σ o⟩;have h1:=a.many;have F:=a.n2;have q:=a.ms;simp only[gH]at h1 q
 have nx:∀{r:aK},T B (cl aa (iL S y).toArray::ah 5 pt ts.length de (ts.flatMap aD)::ah 4 pm ms.length cm (aW ms)::Z) (r (J (ih f S.w ts ms)))->T B (cl aa (iL S y).toArray::ah 5 pt ts.length de (ts.flatMap aD)::ah 4 pm ms.length cm (aW ms)::Z) (ad P 372 #[Value.slice pt ts.length de,J f,J S.w,Value.slice pm ms.length cm] r):=λh=>by refine af (H':=ah 5 pt ts.length de (ts.flatMap aD)::ah 4 pm ms.length cm (aW ms)::cl aa (iL S y).toArray::Z) ?_;apply B6 a.right q (by omega);exact af h
 refine S2.go (λb=>?_) λb=>?_
 ·have b:k<S.gs.length:=by omega
  have s:S.gs[k]?=some S.gs[k]:=bj b;rw[tT b]at hf;generalize S.gs[k]=g at s hf;simp only[ru,cg,ns,hg]at hf;obtain⟨⟨f1,f2⟩,f3⟩:=hf;refine fA k rfl b s (bg rfl ?_);unfold aV;apply nx;apply St.go;refine dU (α:=Unit) (λ_=>cl aa (iL S y).toArray::ah 5 pt ts.length de (ts.flatMap aD)::ah 4 pm ms.length cm (aW ms)::Z) (λ_=>[]) (λG body=>?_) λ_=>?_
  ·apply aI (by simpa using f1)
   obtain⟨i,hi,c,_⟩:=tc (R:=⟨[],ts,ms,f⟩) f1;have hi:ih f S.w ts ms=(i:Int):=hi;have c:i<ts.length:=c;rw[hi]at f2⊢;rw[aZ]at f2;have j:ts[i]?=some ts[i]:=bj c;rw[eo,j]at f2;generalize ts[i]=t at j f2;apply mF i rfl c (ht eS ts i t j 0 (by omega));apply aI (by have f2:t.id=g:=(by simpa using f2);simp[f2]);exact body ()
  ·refine St.go (bg rfl ?_)
   unfold mJ;refine af (H':=ah 5 pt ts.length de (ts.flatMap aD)::ah 4 pm ms.length cm (aW ms)::cl aa (iL S y).toArray::Z) (UJ a f1 λx=>?_)
   have z:b5.Fit ⟨[],(gX ts ms f S.w).ls,(gX ts ms f S.w).ms,(gX ts ms f S.w).free⟩ n:=by
    obtain⟨i,hi,c,A⟩:=tc (R:=⟨[],ts,ms,f⟩) f1;have hi:ih f S.w ts ms=(i:Int):=hi;have:=a.cu c A;have e:gX ts ms f S.w=b5.cu ⟨[],ts,ms,f⟩ i:=by unfold gX;rw[hi,aZ]
    rw[e];exact⟨this.right,this.vm,this.free,this.ms,by have:=this.many;simp only[gH];omega,this.n2⟩
   exact St.go (Sa.go λI=>Sc.go ⟨rfl,rfl⟩ (bU rfl (bg rfl (bU rfl (af (H':=cl aa (iL S y).toArray::ah 5 x.pl (gX ts ms f S.w).ls.length x.cl ((gX ts ms f S.w).ls.flatMap aD)::ah 4 x.pm (gX ts ms f S.w).ms.length x.cm (aW (gX ts ms f S.w).ms)::ah 5 pt ts.length de (ts.flatMap aD)::ah 4 pm ms.length cm (aW ms)::Z) (v b _ _ _ _ _ _ _ _ ⟨_,_,_,rfl,rfl,z,f3,λp h=>af (d p h),rfl⟩))))))
 ·have hl:k=S.gs.length:=by omega
  subst hl;rw[List.drop_length]at hf;unfold ru at hf;apply bg rfl;unfold aV;refine nx (St.go ?_);rw[hf];exact af (d _ U)
end
end
section
open Go.XS Go.bm
def G9(ts:List Tk)(m:ML Int)(g:Int):Option (ML Int):=
 if cS (λt:Tk=>t.id==g) ts<0 then some m
 else if(aQ m (ts.getD (cS (λt:Tk=>t.id==g) ts).toNat dy).aO).isSome&&decide (g<=(aQ m (ts.getD (cS (λt:Tk=>t.id==g) ts).toNat dy).aO).getD 0)then none
 else some (bC (ts.getD (cS (λt:Tk=>t.id==g) ts).toNat dy).aO g m)
def tg(ts:List Tk):aN->ML Int->(ML Int->Bool)->Bool
 |[],m,k=>k m
 |g::gs,m,k=>match G9 ts m g with
  |none=>false
  |some a=>tg ts gs a k
def qp:List Sh->ML Int->Bool
 |[],_=>true
 |s::l,m=>tg s.ts s.gs m (qp l)
abbrev h2(ys:List (Sh×fz)):az:=ys.flatMap λy=>iL y.1 y.2
section
variable {B:Heap}{H H0:au}{K:aK}{q:av}{l c:Nat}{ts:List Tk}{n:Int}
def Zb{g:Nat}{ca:aw}{f:Tk->Bool}(o:fW P g=true)[hr:Rd B H q (ts.flatMap aD)](hl:l=ts.length)(hlen:l<1000000)(hf:∀m∈ts,∀n:aK,T B H (n (.bool (f m)))->T B H (ad P g (Array.mk (Array.toList #[]++[Value.agg (aD m).toArray]++Array.toList ca)) n))(U:T B H (K (J (cS f ts)))):T B H (ad P 511 #[.slice q l c,.func (.func g) #[] ca] K):=by
 apply an (Ez _ _ _ _ _);subst hl;refine dh ts.length (by omega) (λk H'=>H'=H/\∀j x,j<k->ts[j]?=some x->f x=false) ⟨rfl,by simp⟩ ?_;rintro k H' R r ⟨rfl,d⟩ p;refine S2.go (λ_=>?_) λ_=>?_
 ·have b:k<ts.length:=by omega
  have h:ts[k]?=some ts[k]:=bj b;refine eD eS (by omega) k rfl b h (lR o (hf _ (eK b) _ ?_));repeat' first|apply St.go|refine S2.go (λ_=>?_) λ_=>?_|done
  ·rename_i i
   unfold cS at U;rw[qc d h i]at U;exact U
  ·rename_i i
   refine p b _ ⟨rfl,λj x s a=>?_⟩;by_cases e:j=k
   ·subst e;rw[h]at a;cases a;exact i
   ·exact d j x (by omega) a
 ·unfold cS at U
  rw[oV λj x a=>d j x (by have:=(bY.1 a).1;omega) a]at U;exact U
def Ug{t:Tk}{k:Nat}[hc:bZ B H k #[J n]](U:T B H (K (.bool (t.id==n)))):T B H (ad P 585 #[.agg (aD t).toArray,pz k] K):=by refine an (Nw _ _) (Sa.go λaa=>bg rfl ?_);unfold cx;apply St.go;rw[aR];exact bg rfl (af U)
def Uf{ys:List (Sh×fz)}[hr:Rd B H q (h2 ys)](hl:l=ys.length)(hlen:l<1000)(o:∀y∈ys,y.1.gs≠[]->bF B H y.2.pt (y.1.ts.flatMap aD)/\bF B H y.2.pg (iv .i64 y.1.gs))(p:∀y∈ys,y.1.gs.length<1000/\y.1.ts.length<1000)(z:qp (ys.map (·.1)) []=true)(U:T B H (K (.bool true))):T B H (ad P 581 #[.slice q l c] K):=by
 subst hl;refine an (Nv _ _ _) (Sa.go λr=>iT J (dh ys.length (by omega) (λk Y=>∃m,qp ((ys.drop k).map (·.1)) m=true/\Y=MP J r m::H) ⟨[],z,rfl⟩ ?_));rintro k Y R L ⟨m,hm,rfl⟩ A;refine S2.go (λd=>?_) λd=>?_
 ·have d:k<ys.length:=by omega
  have s:ys[k]?=some ys[k]:=bj d;have o:=o _ (eK d);have p:=p _ (eK d);rw[tT d,cX]at hm;unfold qp at hm;generalize ys[k]=y at s o p hm;refine eD YT (by omega) k rfl d s (Sa.go λu=>Sc.go ⟨rfl,rfl⟩ (bU rfl (dh y.1.gs.length (by omega) (λj Y=>∃m,tg y.1.ts (y.1.gs.drop j) m (qp ((ys.drop (k+1)).map (·.1)))=true/\Y=cl u (iL y.1 y.2).toArray::MP J r m::H) ⟨m,hm,rfl⟩ ?_)));clear hm;rintro j Y C M ⟨m,hm,rfl⟩ v;refine S2.go (λb=>?_) λb=>?_
  ·have b:j<y.1.gs.length:=by omega
   obtain⟨D,E⟩:=o (λe=>by rw[e]at b;cases b);have N:Rd B H y.2.pt (y.1.ts.flatMap aD):=⟨D⟩;have O:Rd B H y.2.pg (iv .i64 y.1.gs):=⟨E⟩;have w:y.1.gs[j]?=some y.1.gs[j]:=bj b;rw[tT b]at hm;generalize y.1.gs[j]=g at w hm;unfold tg at hm;refine fA j rfl b w (Sa.go λF=>St.go (bU rfl ?_));unfold aV;refine Zb (ts:=y.1.ts) (f:=λt:Tk=>t.id==g) (by kernel_rfl) rfl (by omega) (λt Q S h=>?_) ?_
   ·exact Ug h
   apply St.go;unfold G9 at hm;by_cases n:cS (λt:Tk=>t.id==g) y.1.ts<0
   ·rw[ag n]at hm
    exact bo (by simpa using n) (af (v b _ ⟨m,hm,rfl⟩))
   ·rw[aj n]at hm
    apply aI (by simpa using n);obtain⟨i,a,hi,ha,_⟩:=rB n;rw[hi]at hm⊢;rw[aZ,eo,ha]at hm;simp only[fx]at hm;refine bU rfl (mF i rfl (bY.1 ha).1 (ht eS y.1.ts i a ha 1 (by omega)) ?_);refine St.go (St.go ?_)
    have fin:(match some (bC a.aO g m)with
      |none=>false
      |some G=>tg y.1.ts (y.1.gs.drop (j+1)) G (qp ((ys.drop (k+1)).map (·.1))))=true->T B (MP J r (bC a.aO g m)::cl F #[J g]::cl u (iL y.1 y.2).toArray::H) (C [J (IntKind.wrap .i64 ((j:Int)+1))]):=λh=>af (v b _ ⟨_,h,rfl⟩)
    cases x:aQ m a.aO with
    |none=>simp only[x,Option.isSome_none,v7,gb,ep]at hm;exact aI rfl (bg rfl (St.go (af (fin hm))))
    |some I=>
     simp only[x,Option.isSome_some,ff,fx,bJ]at hm;by_cases hw:g<=I
     ·rw[ag hw]at hm
      cases hm
     ·rw[aj hw]at hm
      exact bo rfl (bg rfl (aI (by simpa using hw) (bg rfl (St.go (af (fin hm))))))
  ·have hl:j=y.1.gs.length:=by omega
   subst hl;rw[List.drop_length]at hm;unfold tg at hm;exact af (A d _ ⟨m,hm,rfl⟩)
 ·exact af U
end
end
section
open Go.XS Go.bm Go.RowKit Go.Lib
def Dw{B σ:Heap}{H H':au}{q:av}{ys:az}(h:bF B H q ys)(o:Own B H σ):bF σ H' q ys:=λeC a=>h eC (Own.below o a.size a.base)
def join_le{sep:List UInt8}{m:Nat}:∀(ys:List (List UInt8)),(∀y∈ys,y.length<=m)->(Lib.join ys sep).length<=ys.length*(m+sep.length)
 |[],_=>by simp[Lib.join,List.intercalate]
 |[a],h=>by have:=h a (by simp);simp[Lib.join,List.intercalate,List.intersperse];omega
 |a::b::l,h=>by have h1:=h a (by simp);have c:=join_le (sep:=sep) (b::l) λy d=>h y (by simp at d⊢;right;exact d);unfold Lib.join List.intercalate at c⊢;rw[List.intersperse_cons_cons];simp only[List.flatten_cons,b',c8]at c⊢;have e:(l.length+1+1)*(m+sep.length)=(l.length+1)*(m+sep.length)+(m+sep.length):=pK _ _;rw[e];omega
def DE{B:Heap}{H:au}{a b:ByteArray}{x y:Operand}{c:aK}(ha:a.size+b.size<=1000000)(h:T B H (c (.string (a++b)))):T B H (aH P (do eqGuard BinOp.add 9 x y (.string a) (.string b);binOp BinOp.add 9 (.string a) (.string b)) c):=by
 refine qZ (.string (a++b)) (λσ o w hw=>?_) h
 have e:¬(((a.size+b.size:Nat):Int)>IntKind.i64.max):=by
  have:IntKind.i64.max=9223372036854775807:=by decide
  omega
 simp[eqGuard,binOp,Op.stringOp,e];omega
section
variable {B:Heap}{H H0:au}{K:aK}{p:av}{c:Nat}
def XK(U:∀t:ByteArray,t.size<=10->T B H (K (.string t))):T B H (ad P 134 #[.string (ByteArray.mk #[])] K):=by
 refine DX λσ back _=>?_;have U:∀t:ByteArray,t.size<=10->T σ [] (K (.string t)):=λt a eC c=>U t a eC (back eC c);refine an (PX _) (DF λb=>DD (by decide) (dh 0 (by omega) (λk Y=>Y=[kY b ([]++[.int .u8 34])]) rfl ?_));rintro k Y R d rfl f;have e:k=0:=by omega
 subst e;apply aI (by decide);apply DD (by decide);apply DC (l:=[34,34]) rfl;apply St.go;exact U _ (by decide)
def X8{xs:aN}[hr:Rd B H p (iv .i64 xs)](g:Gl B)(i:∀x∈xs,aF x)(hl:xs.length<=100)(U:∀t:ByteArray,t.size<=3000->T B H (K (.string t))):T B H (ad P 133 #[.slice p xs.length c] K):=by
 apply an (Qm _ _ _);by_cases h0:xs.length=0
 ·exact bo (by simp[h0]) (U _ (by decide))
 apply aI (by simpa using h0);have q:P.bytesOf 9=16:=by kernel_rfl
 have r:P.cellsOf 9=1:=by kernel_rfl
 refine gy (by omega) (by omega) (by omega) (by rw[q];omega) (by kernel_rfl) (by kernel_rfl) λaa=>?_;rw[r,iP,aZ];have l:(gr (zc P 9) xs.length).size=xs.length:=by unfold gr;simp
 generalize gr (zc P 9) xs.length=bd at l;refine dh xs.length (by omega) (λk Y=>∃cs:aw,cs.size=xs.length/\(∀j x,j<k->xs[j]?=some x->cs[j]?=some (.string ⟨(itoa x).toArray⟩))/\Y=cl aa cs::H) ⟨bd,l,λj x a=>by omega,rfl⟩ ?_;rintro k Y R w ⟨cs,hs,n,rfl⟩ s;refine S2.go (λb=>?_) λb=>?_
 ·have b:k<xs.length:=by omega
  have f:xs[k]?=some xs[k]:=bj b;have hi:=i _ (eK b);generalize xs[k]=v at f hi;apply fA k rfl b f;unfold iD;refine Am g hi (St.go (ba (by omega) ?_));rw[aR,aZ,bI];apply eE (by omega) rfl;refine s b _ ⟨_,by rw[I1];exact hs,λj x a h=>?_,rfl⟩;rw[r3];by_cases e:k=j
  ·subst e
   rw[f]at h;cases h;rw[ag rfl,ag (by omega)]
  ·rw[aj e]
   exact n j x (by omega) h
 ·have e:k=xs.length:=by omega
  subst e;unfold iD;have hL:(xs.map λx=>(⟨(itoa x).toArray⟩:ByteArray)).length=xs.length:=by simp
  rw[<-hL]
  have z:(Lib.join ((xs.map λx=>(⟨(itoa x).toArray⟩:ByteArray)).map (·.data.toList)) (ByteArray.mk #[44]).data.toList).length<=2200:=by
   have:=join_le (sep:=(ByteArray.mk #[44]).data.toList) (m:=21) ((xs.map λx=>(⟨(itoa x).toArray⟩:ByteArray)).map (·.data.toList)) λy o=>by simp only[nz,bP]at o;obtain⟨x,u,rfl⟩:=o;have:=i x u;unfold aF at this;simpa using itoa_length_le x this.1 this.2
   simp only[eX,c8,gH]at this⊢;omega
  refine Dz (λj x a=>?_) (by rw[hL];omega) (by omega) (by omega) ?_
  ·rw[e6]at a
   cases d:xs[j]? with
   |none=>rw[d]at a;cases a
   |some v=>rw[d]at a;cases a;exact n j v (by have:=(bY.1 d).1;omega) d
  ·apply St.go
   exact af (U _ (by show(Array.size (List.toArray _))<=_;rw[hP];omega))
abbrev II:ByteArray:=ByteArray.mk (List.toArray (List.append [111,107,32,107,105,110,100,32,97,114,103,32,99,108,105,101,110,116,32,115,116,97,108,101,32,115,105,122,101,32,111,118,101,114,32,99,108,97,105,109,32,119,97,105,116,32,100,114,121,32,102,117,108,108,32] [98,117,115,121,32,116,105,99,107,101,116,32,100,111,110,101,32,114,101,103,105,111,110,32,114,97,110,103,101,32,110,105,108,32,102,111,114,109,32,112,104,97,115,101,32,116,119,105,99,101,32,110,111,110,101]))
def aaX:(Lib.splitB np 0 (Lib.countB II np) II)[0]?=some (ByteArray.mk #[111,107]):=by kernel_rfl
def Ya(g:Gl B)(U:T B H (K (.string (ByteArray.mk #[111,107])))):T B H (ad P 130 #[J 0] K):=by apply an (Qo _);unfold b2;apply an (Qp);unfold b2;refine DA g (by decide) (by decide) λb=>St.go (St.go ?_);refine aI (by decide) (aI (by simp) ?_);unfold xv;refine St.go (ba (by omega) ?_);rw[aR];exact hS (Cd aaX) (af U)
structure jO where
 n:Int
 list:aN
 p:av
 c:Nat
abbrev cO(y:jO):az:=[J 0,J y.n,.slice y.p y.list.length y.c,.string ⟨#[]⟩]
def Yn(y:jO):(cO y).length=4:=rfl
def X9{y:jO}[hr:Rd B H y.p (iv .i64 y.list)](g:Gl B)(a:aF y.n)(f:∀x∈y.list,aF x)(hl:y.list.length<=100)(U:∀t:ByteArray,t.size<=13000->T B H (K (.tuple #[.string t,.bool true]))):T B H (ad P 72 #[.agg (cO y).toArray] K):=by
 apply an (Qn _);refine Sa.go λaa=>?_;apply bg (b:=aa) (cs:=(cO y).toArray) (n:=0) rfl;unfold iD;apply Ya g;apply St.go;have c:=ne_nil (s:=ByteArray.mk #[111,107]) (by decide);simp only[ns]at c;apply aI c;apply bg (b:=aa) (cs:=(cO y).toArray) (n:=y.n) rfl;apply bU (b:=aa) (cs:=(cO y).toArray) rfl;apply hS (b:=aa) (cs:=(cO y).toArray) (n:=ByteArray.mk #[]) rfl;apply Am g a;apply St.go;refine e7 (λσ o=>(inferInstance:bZ B (cl aa (cO y).toArray::H) aa (cO y).toArray).cell o 3) ?_;refine e7 (λσ o=>(inferInstance:bZ B (cl aa (cO y).toArray::H) aa (cO y).toArray).cell o 2) ?_;refine X8 (xs:=y.list) g f hl λt1 h1=>?_;apply St.go;refine e7 (λσ o=>(inferInstance:bZ B (cl aa (cO y).toArray::H) aa (cO y).toArray).cell o 3) ?_;refine XK λt2 i=>?_;apply St.go;refine Sa.go λh=>?_;apply an (Nk _ _ _);unfold iD;have hi:=itoa_length_le y.n a.1 a.2
 have d:=join_le (sep:=np.data.toList) (m:=3000) ([ByteArray.mk #[111,107],⟨(itoa y.n).toArray⟩,t1,t2].map (·.data.toList)) λz hz=>by
  simp only[cX,ot,cL,jJ,jm]at hz;rcases hz with rfl|rfl|rfl|rfl
  ·decide
  ·show(itoa y.n).length<=3000
   omega
  ·have:t1.data.toList.length=t1.size:=kM
   omega
  ·have:t2.data.toList.length=t2.size:=kM
   omega
 have d:(Lib.join ([ByteArray.mk #[111,107],⟨(itoa y.n).toArray⟩,t1,t2].map (·.data.toList)) (ByteArray.mk #[32]).data.toList).length<=4*(3000+1):=d;refine Dz (b:=h) (xs:=[ByteArray.mk #[111,107],⟨(itoa y.n).toArray⟩,t1,t2]) (cs:=#[.string (ByteArray.mk #[111,107]),.string ⟨(itoa y.n).toArray⟩,.string t1,.string t2]) (λj x e=>?_) (by show 4<=1000;omega) (dQ 4) (by omega) ?_
 ·have k:j<4:=(bY.1 e).1
  obtain rfl|rfl|rfl|rfl:j=0\/j=1\/j=2\/j=3:=by omega
  all_goals (cases e;rfl)
 ·refine St.go (St.go ?_)
  exact af (U _ (by show(Array.size (List.toArray _))<=_;rw[hP];omega))
def Yv{rs:List jO}[hr:Rd B H p (rs.flatMap cO)](g:Gl B)(F:rs.length<=50)(d:∀y∈rs,bF B H y.p (iv .i64 y.list)/\aF y.n/\(∀x∈y.list,aF x)/\y.list.length<=100)(U:∀t,T B H (K (.string t))):T B H (ad P 32 #[.slice p rs.length c] K):=by
 refine DX λσ back s=>?_;obtain⟨x0,e,u⟩:=s;rw[u]at e;have g:=g.yi e;have hr:∀H',Rd σ H' p (rs.flatMap cO):=λH'=>⟨Dw hr.rd e⟩;have U:∀t,T σ [] (K (.string t)):=λt eC v=>U t eC (back eC v);have d:∀y∈rs,(∀H',bF σ H' y.p (iv .i64 y.list))/\aF y.n/\(∀x∈y.list,aF x)/\y.list.length<=100:=λy h=>⟨λH'=>Dw (d y h).1 e,(d y h).2⟩;apply an (QB _ _ _);refine DF λb=>?_;refine dh rs.length (by omega) (λk Y=>∃l:List UInt8,l.length<=k*13001/\Y=[kY b (byteCells l)]) ⟨[],by simp,rfl⟩ ?_;rintro k Y R G ⟨l,hl,rfl⟩ w;refine S2.go (λa=>?_) λa=>?_
 ·have a:k<rs.length:=by omega
  have i:rs[k]?=some rs[k]:=bj a;obtain⟨j,m,o,q⟩:=d _ (eK a);generalize rs[k]=y at i j m o q;have:=hr [kY b (byteCells l)];show T σ _ (dI p rs.length (k:Int) 4 4 _);apply eD (f:=cO) (rs:=rs) Yn (by omega) k rfl a i;refine Sa.go λr=>Sc.go ⟨rfl,rfl⟩ ?_;apply bV (b:=r) (cs:=(cO y).toArray) rfl;have:Rd σ (cl r (cO y).toArray::[kY b (byteCells l)]) y.p (iv .i64 y.list):=⟨j _⟩;refine X9 (y:=y) g m o q λt I=>?_;refine λz A=>⟨t,true,rfl,?_⟩;refine DE ?_ ?_ z A
  ·show t.size+1<=1000000
   omega
  ·apply St.go
   refine af (H':=[kY b (byteCells l)]) ?_
   have J:(t++ByteArray.mk #[10]).size<=13001:=by rw[ByteArray.size_append];show t.size+1<=_;omega
   have C:(byteCells l).length=l.length:=by unfold byteCells;simp
   apply Jy (by rw[C];omega);refine λD E=>⟨_,_,rfl,?_⟩;refine w a _ ⟨l++(t++ByteArray.mk #[10]).data.toList,?_,?_⟩ D E
   ·have:(t++ByteArray.mk #[10]).data.toList.length=(t++ByteArray.mk #[10]).size:=kM
    rw[b',pK];omega
   ·unfold byteCells strCells
    rw[eY]
 ·apply DC rfl
  apply St.go;exact U _
end
end
section
open Go.XS Go.bm
def oH{B:Heap}{H:au}{K:aK}{ty f:Nat}{name:String}{v:Value}{args:az}(a:fW P f=true)(hm:∀w,(method (P.types.size+Made.depth) ty v name).run P w= .ok (f,v) w)(t:T B H (ad P f (v::args).toArray K)):T B H (ey P (invoke (Target.fn (Fn.method name) #[]) (Value.iface ty v::args).toArray) K):=by
 intro σ o w hw;refine⟨.enter f (v::args).toArray,w,?_,.refl _,.inr (.inr (.inl ⟨f,_,rfl,by rw[hw];exact t σ o⟩))⟩
 have e:(#[v]++(Value.iface ty v::args).toArray.extract 1 (Value.iface ty v::args).toArray.size)=(v::args).toArray:=by apply gE;simp
 simp only[invoke,dE,jI,callMethod,Sem.run_bind,run_program,Result.andThen_ok,hm,e];exact z6 vb _ a _
abbrev c9(k:Nat):Value:=(pz k)
def VD{k:Nat}:∀w,(method (P.types.size+Made.depth) 103 (c9 k) "copyhold/play.ahead").run P w= .ok (545,c9 k) w:=by intro w;kernel_rfl
def VE{k:Nat}:∀w,(method (P.types.size+Made.depth) 103 (c9 k) "copyhold/play.behind").run P w= .ok (546,c9 k) w:=by intro w;kernel_rfl
def VF{k:Nat}:∀w,(method (P.types.size+Made.depth) 103 (c9 k) "copyhold/play.end").run P w= .ok (547,c9 k) w:=by intro w;kernel_rfl
def VG{k:Nat}:∀w,(method (P.types.size+Made.depth) 106 (c9 k) "copyhold/play.ahead").run P w= .ok (548,c9 k) w:=by intro w;kernel_rfl
def VH{k:Nat}:∀w,(method (P.types.size+Made.depth) 106 (c9 k) "copyhold/play.behind").run P w= .ok (549,c9 k) w:=by intro w;kernel_rfl
def VI{k:Nat}:∀w,(method (P.types.size+Made.depth) 106 (c9 k) "copyhold/play.end").run P w= .ok (550,c9 k) w:=by intro w;kernel_rfl
def VJ{k:Nat}:∀w,(method (P.types.size+Made.depth) 109 (c9 k) "copyhold/play.ahead").run P w= .ok (576,c9 k) w:=by intro w;kernel_rfl
def VK{k:Nat}:∀w,(method (P.types.size+Made.depth) 109 (c9 k) "copyhold/play.behind").run P w= .ok (577,c9 k) w:=by intro w;kernel_rfl
def VL{k:Nat}:∀w,(method (P.types.size+Made.depth) 109 (c9 k) "copyhold/play.end").run P w= .ok (578,c9 k) w:=by intro w;kernel_rfl
instance ac2:fG P 112 5:=fG.of (e:=0) (by kernel_rfl)
section
variable {B:Heap}{H H0:au}{K:aK}{b kc ks kh k7:Nat}{s:Setup}{M:bx}
def Gu(U:T B (bw b M::H) (K (.agg (cH M.s)))):T B (bw b M::H) (ad P 542 #[pz b] K):=by
 refine an (Og _) (Sa.go λaa=>aI rfl (aL (bw b) (gO λx=>?_)));unfold jW;apply St.go;rw[aR];refine iV (cH M.s) rfl (λj c=>?_) ?_
 ·obtain rfl|rfl|rfl|rfl:j=0\/j=1\/j=2\/j=3:=by omega
  all_goals rfl
 refine hj rfl rfl ?_ ?_
 ·intro v a;simp at a;rcases a with rfl|rfl|rfl|rfl<;>rfl
 apply bV (b:=aa) (cs:=cH M.s) rfl;refine af (H':=lf b M x H) (ew x ?_);exact U
abbrev jT(t g:Int):aw:=#[.string (ByteArray.mk #[]),J t,J g,J 0,J 0,.bool false,.bool false,J 0]
def TF{p q:av}(U:T B H (K (.tuple #[]))):T B H (ad P 545 #[.pointer p,.pointer q] K):=by exact an (PC _ _) U
def TG{o:Op}{y:jO}{t g:Int}{q:av}(a:0<=t/\t<1000000)(b:0<=g/\g<1000000)(hl:y.list.length<1000000)(U:T B (cl kc (jT (if o.kind=12 then t+1 else t) (if o.kind=12 then g+y.list.length else g))::H) (K (.tuple #[]))):T B (cl kc (jT t g)::H) (ad P 546 #[c9 kc,.pointer q,.agg (b3 o),.agg (cO y).toArray] K):=by
 apply an (PD _ _ _ _);refine Sa.go λaa=>Sa.go λak=>?_;refine dU (α:=Unit) (λ_=>cl ak (cO y).toArray::cl aa (b3 o)::cl kc (jT t g)::H) (λ_=>[]) (λc body=>?_) λ_=>?_
 ·exact bg rfl (aI rfl (body ()))
 ·refine St.go (bg rfl ?_)
  by_cases h:o.kind=12
  ·rw[ag h,ag h]at U
   apply bo (by simp[h]);unfold cx cJ;apply St.go;rw[aR];apply bg rfl;rw[br (by omega)];apply St.go;rw[aR];refine St.go (St.go ?_);rw[aR];refine bg rfl (bU rfl ?_);rw[br (by omega)];apply St.go;rw[aR];exact St.go (af U)
  ·rw[aj h,aj h]at U
   exact aI (by simp[h]) (af U)
def Ib(hs:kW M.s M.snap)(a:M.V.bs<500/\M.V.all.length<500)(U:T B (cl ks #[J 0]::bw b M::H) (K (.tuple #[]))):T B (cl ks #[J 0]::bw b M::H) (ad P 548 #[c9 ks,c9 b] K):=by apply an (PK _ _);unfold cx;apply St.go;rw[aR];refine bg rfl (bo rfl ?_);unfold bH;refine aL (bw b) (Gu ?_);refine St.go (xJ a λx=>St.go ?_);unfold aV;refine af (H':=j6 M.snap x (cl ks #[J 0]::bw b M::H)) ?_;apply Zl hs;apply St.go;unfold cJ;apply St.go;rw[aR,mA];exact St.go (af U)
def ZH{o:Op}{y:jO}(hs:kW M.s M.snap)(a:M.V.bs<500/\M.V.all.length<500)(U:T B (cl ks #[J 0]::bw b M::H) (K (.tuple #[]))):T B (cl ks #[J 0]::bw b M::H) (ad P 549 #[c9 ks,c9 b,.agg (b3 o),.agg (cO y).toArray] K):=by apply an (PL _ _ _ _);refine Sa.go λaa=>Sa.go λak=>?_;refine af (H':=cl ks #[J 0]::bw b M::H) ?_;unfold ce;exact Ib hs a (St.go U)
abbrev ij(t g w:Int)(f o:Bool)(l:Int)(r:ByteArray):aw:=#[.string r,J t,J g,J 0,J w,.bool f,.bool o,J l]
def ZI{q:av}{t g:Int}{f o:Bool}{l:Int}{r:ByteArray}(U:T B (cl ks #[J 0]::cl k7 (ij t g 0 f o l r)::H) (K (.tuple #[]))):T B (cl ks #[J 0]::cl k7 (ij t g 0 f o l r)::H) (ad P 550 #[c9 ks,.pointer q,c9 k7] K):=by apply an (PM _ _ _);unfold cx cJ;apply St.go;rw[aR];refine bg rfl (St.go ?_);rw[aR];exact St.go (af U)
def TH{t g:Int}{r:ByteArray}(a:M.V.bs<500/\M.V.all.length<500)(U:T B (cl kc (jT t g)::bw b M::cl k7 (ij t g 0 false false M.snap.ts.length r)::H) (K (.tuple #[]))):T B (cl kc (jT t g)::bw b M::cl k7 (ij 0 0 0 false false 0 r)::H) (ad P 547 #[c9 kc,c9 b,c9 k7] K):=by
 refine an (PG _ _ _) (St.go (St.go (St.go ?_)));rw[aR,aR,aR];refine bg rfl (bg rfl (bg rfl ?_));unfold bH;refine aL (bw b) (xJ a λx=>?_);apply St.go;have hC:bZ B (bw b M::j6 M.snap x (cl kc (jT t g)::cl k7 (ij 0 0 0 false false 0 r)::H)) kc (jT t g):=inferInstance;refine e7 (λσ o=>hC.cell o 3) (e7 (λσ o=>hC.cell o 2) (e7 (λσ o=>hC.cell o 1) (Kh rfl ?_)));unfold cJ
 iterate 4
  apply St.go;rw[aR];apply St.go
 exact af U
end
end
section
open Go.XS Go.bm
abbrev fF(S:Sh)(y:fz)(pa:av)(la ca:Nat):aw:=#[.slice y.pt S.ts.length y.de,J S.f,J S.w,.slice y.pm S.ms.length y.cm,.slice y.pg S.gs.length y.cw,.slice pa la ca,.bool false]
abbrev B3(pa:av)(la ca:Nat):aw:=#[.slice none 0 0,J 0,J 0,.slice none 0 0,.slice none 0 0,.slice pa la ca,.bool false]
section
variable {B:Heap}{H H0:au}{K:aK}{b kc ks kh k7 la ca:Nat}{s:Setup}{M:bx}{S:Sh}{y:fz}{pa:av}
def B5(hs:kW M.s M.snap)(d:M.V.bs<500/\M.V.all.length<500)(U:∀y:fz,T B (ah 5 y.pt M.snap.ts.length y.de (M.snap.ts.flatMap aD)::ah 4 y.pm M.snap.ms.length y.cm (aW M.snap.ms)::cl kh (fF (dd M.snap M.s) {y with pg:=none,cw:=0} pa la ca)::bw b M::H) (K (.tuple #[]))):T B (cl kh (fF S y pa la ca)::bw b M::H) (ad P 576 #[c9 kh,c9 b] K):=by
 apply an (PH _ _);unfold bH;refine aL (bw b) (xJ d λx=>?_);refine St.go (aL (bw b) (Gu ?_));apply St.go;refine af (H':=j6 M.snap x (bw b M::cl kh (fF S y pa la ca)::H)) ?_;refine Ud hs.n1 hs.n2 hs.n3 hs.n4 λa=>?_;apply St.go;unfold Fw;apply St.go;rw[aR,mA];refine nH rfl (by show 0+5<=7;omega) ?_ ?_
 ·intro v c;simp at c;rcases c with rfl|rfl|rfl|rfl|rfl<;>rfl
 have:=U a;show T B (ah 5 a.pt M.snap.ts.length a.de (M.snap.ts.flatMap aD)::ah 4 a.pm M.snap.ms.length a.cm (aW M.snap.ms)::bw b M::cl kh (fF (dd M.snap M.s) {a with pg:=none,cw:=0} pa la ca)::H) _;exact af this
def YU{o:Op}{r:jO}(a:o.kind≠12)(hs:kW M.s M.snap)(c:M.V.bs<500/\M.V.all.length<500)(U:∀y:fz,T B (ah 5 y.pt M.snap.ts.length y.de (M.snap.ts.flatMap aD)::ah 4 y.pm M.snap.ms.length y.cm (aW M.snap.ms)::cl kh (fF (dd M.snap M.s) {y with pg:=none,cw:=0} pa la ca)::bw b M::H) (K (.tuple #[]))):T B (cl kh (fF S y pa la ca)::bw b M::H) (ad P 577 #[c9 kh,c9 b,.agg (b3 o),.agg (cO r).toArray] K):=by refine an (Ew _ _ _ _) (Sa.go λaa=>Sa.go λak=>bg rfl (aI (by simp[a]) ?_));unfold ce;refine af (H':=cl kh (fF S y pa la ca)::bw b M::H) ?_;refine B5 hs c λd=>?_;apply St.go;exact U d
def YV{o:Op}{r:jO}{ys:List (Sh×fz)}{n:Nat}[x:Rd B H r.p (iv .i64 r.list)](z:o.kind=12)(hs:kW M.s M.snap)(A:M.V.bs<500/\M.V.all.length<500)(m:b5.Fit ⟨[],S.ts,S.ms,S.f⟩ n)(q:r.list.length<1000)(hf:ru S.w r.list S.ts S.ms S.f=true)(C:la=ys.length)(Q:ys.length<1000)(U:∀(d:fz) t u,T B (ah 5 d.pt M.snap.ts.length d.de (M.snap.ts.flatMap aD)::ah 4 d.pm M.snap.ms.length d.cm (aW M.snap.ms)::cl kh (fF (dd M.snap M.s) {d with pg:=none,cw:=0} t (ys.length+1) u)::bw b M::ah 5 t (ys.length+1) u (h2 (ys++[({S with gs:=r.list},{y with pg:=r.p,cw:=r.c})]))::ah 5 y.pt S.ts.length y.de (S.ts.flatMap aD)::ah 4 y.pm S.ms.length y.cm (aW S.ms)::H) (K (.tuple #[]))):T B (cl kh (fF S y pa la ca)::bw b M::ah 5 pa la ca (h2 ys)::ah 5 y.pt S.ts.length y.de (S.ts.flatMap aD)::ah 4 y.pm S.ms.length y.cm (aW S.ms)::H) (ad P 577 #[c9 kh,c9 b,.agg (b3 o),.agg (cO r).toArray] K):=by
 subst C;refine an (Ew _ _ _ _) (Sa.go λaa=>Sa.go λak=>bg rfl (bo (by simp[z]) (bU rfl ?_)));unfold cJ;apply St.go;rw[aR];apply St.go;show T B (cl ak (cO r).toArray::cl aa (b3 o)::cl kh (fF {S with gs:=r.list} {y with pg:=r.p,cw:=r.c} pa ys.length ca)::bw b M::ah 5 pa ys.length ca (h2 ys)::ah 5 y.pt S.ts.length y.de (S.ts.flatMap aD)::ah 4 y.pm S.ms.length y.cm (aW S.ms)::H) _;obtain⟨S',g⟩:∃S':Sh,S'={S with gs:=r.list}:=⟨_,rfl⟩;obtain⟨a,h⟩:∃a:fz,a={y with pg:=r.p,cw:=r.c}:=⟨_,rfl⟩;have i:S'.ts=S.ts:=by rw[g]
 have k:S'.ms=S.ms:=by rw[g]
 have v:S'.f=S.f:=by rw[g]
 have D:S'.w=S.w:=by rw[g]
 have l:S'.gs=r.list:=by rw[g]
 have E:a.pt=y.pt:=by rw[h]
 have F:a.de=y.de:=by rw[h]
 have G:a.pm=y.pm:=by rw[h]
 have I:a.cm=y.cm:=by rw[h]
 have J:a.pg=r.p:=by rw[h]
 rw[<-g,<-h]at U⊢;rw[<-i,<-k,<-v,<-D,<-l]at hf;rw[<-i,<-k,<-v]at m;rw[<-l]at q;simp only[<-i,<-k,<-E,<-F,<-G,<-I]at U⊢;have R:Rd B H a.pg (iv .i64 S'.gs):=by rw[J,l];exact x
 refine af (H':=cl kh (fF S' a pa ys.length ca)::cl ak (cO r).toArray::cl aa (b3 o)::bw b M::ah 5 pa ys.length ca (h2 ys)::ah 5 a.pt S'.ts.length a.de (S'.ts.flatMap aD)::ah 4 a.pm S'.ms.length a.cm (aW S'.ms)::H) ?_;refine St.go (St.go ?_);rw[aR,aR];refine bU rfl (iV (iL S' a).toArray rfl (λj L=>?_) ?_)
 ·obtain rfl|rfl|rfl|rfl|rfl:j=0\/j=1\/j=2\/j=3\/j=4:=by omega
  all_goals rfl
 apply ba rfl;refine Sa.go λN=>?_;refine jP (ds:=(iL S' a).toArray) rfl ?_;have hC:bZ B (cl N (iL S' a).toArray::cl kh (fF S' a pa ys.length ca)::cl ak (cO r).toArray::cl aa (b3 o)::bw b M::ah 5 pa ys.length ca (h2 ys)::ah 5 a.pt S'.ts.length a.de (S'.ts.flatMap aD)::ah 4 a.pm S'.ms.length a.cm (aW S'.ms)::H) kh (fF S' a pa ys.length ca):=inferInstance;apply e7 (λσ o=>hC.cell o 5);refine aL (ah 5 pa ys.length ca) (eZ (s:=5) (c:=ca) rfl (by omega) λe c'=>?_);have O:h2 ys++(iL S' a).toArray.toList=h2 (ys++[(S',a)]):=by unfold h2;simp
 rw[O];apply St.go;rw[aR];apply St.go;unfold Fv;apply St.go;rw[aR];refine iW rfl (aI rfl ?_);unfold jW;apply St.go;rw[aR];refine af (H':=ah 5 a.pt S'.ts.length a.de (S'.ts.flatMap aD)::ah 4 a.pm S'.ms.length a.cm (aW S'.ms)::cl kh (fF S' a e (ys.length+1) c')::bw b M::ah 5 e (ys.length+1) c' (h2 (ys++[(S',a)]))::H) (iV (iL S' a).toArray rfl (λj L=>?_) ?_)
 ·obtain rfl|rfl|rfl|rfl|rfl:j=0\/j=1\/j=2\/j=3\/j=4:=by omega
  all_goals rfl
 unfold aS;refine Ue m q hf (St.go (St.go ?_));rw[aR];apply St.go;unfold ce;show T B (ah 5 a.pt S'.ts.length a.de (S'.ts.flatMap aD)::ah 4 a.pm S'.ms.length a.cm (aW S'.ms)::cl kh (fF S' a e (ys.length+1) c')::bw b M::ah 5 e (ys.length+1) c' (h2 (ys++[(S',a)]))::H) _;exact af (H':=cl kh (fF S' a e (ys.length+1) c')::bw b M::ah 5 e (ys.length+1) c' (h2 (ys++[(S',a)]))::ah 5 a.pt S'.ts.length a.de (S'.ts.flatMap aD)::ah 4 a.pm S'.ms.length a.cm (aW S'.ms)::H) (B5 hs A λd=>St.go (U d e c'))
def YW{ys:List (Sh×fz)}{t g l:Int}{r:ByteArray}{q:av}(hl:la=ys.length)(hlen:la<1000)(a:∀y∈ys,y.1.gs≠[]->bF B H y.2.pt (y.1.ts.flatMap aD)/\bF B H y.2.pg (iv .i64 y.1.gs))(c:∀y∈ys,y.1.gs.length<1000/\y.1.ts.length<1000)(d:qp (ys.map (·.1)) []=true)(U:T B (cl k7 (ij t g 0 true true l r)::H) (K (.tuple #[]))):T B (cl kh (fF S y pa la ca)::ah 5 pa la ca (h2 ys)::cl k7 (ij t g 0 false false l r)::H) (ad P 578 #[c9 kh,.pointer q,c9 k7] K):=by refine an (PJ _ _ _) (St.go (St.go ?_));rw[aR,aR];refine iW rfl (bU rfl ?_);unfold aS;refine Uf hl hlen (λy b h=>⟨((a y b h).1.tail.tail).tail,((a y b h).2.tail.tail).tail⟩) c d (St.go ?_);have hC:bZ B (cl kh (fF S y pa la ca)::ah 5 pa la ca (h2 ys)::cl k7 (ij t g 0 false false l r)::H) kh (fF S y pa la ca):=inferInstance;apply e7 (λσ o=>hC.cell o 6);unfold cJ;apply St.go;rw[aR];refine St.go (St.go ?_);rw[aR];apply St.go;show T B (cl kh (fF S y pa la ca)::ah 5 pa la ca (h2 ys)::cl k7 (ij t g 0 true true l r)::H) _;exact af U
end
end
open Go.XS Go.bm
def o'(nums:aN)(a r:Int):Int:=if 1<=r/\r<=nums.length then nums.getD (r-1).toNat 0 else if r≠0 then 0 else a
def cT(nums:aN)(x:ib):Op:=⟨x.1,o' nums (g1 x.2 0) (g2 x.2 0),o' nums (g1 x.2 1) (g2 x.2 1),o' nums (g1 x.2 2) (g2 x.2 2),[]⟩
abbrev o7(kind:Int)(a:Nat->Int):aw:=#[J kind,J (a 0),J (a 1),J (a 2),.string (ByteArray.mk #[])]
def WR{kind n:Int}{a:Nat->Int}{k:Nat}(U:k<3):(o7 kind a).setIfInBounds (1+k) (J n)=o7 kind (λj=>if j=k then n else a j):=by
 obtain rfl|rfl|rfl:k=0\/k=1\/k=2:=by omega
 all_goals rfl
def Kg{B:Heap}{H:au}{cs:aw}{i:Nat}{p:av}{f:av->HP}(h:cs[i]?=some (.pointer p))(t:T B H (f p)):T B H (BC cs i f):=λσ o=>⟨p,h,t σ o⟩
section
variable {B:Heap}{H H0:au}{K:aK}{q:av}{c:Nat}
def Yw{nums:aN}{x:ib}[hr:Rd B H q (iv .i64 nums)](hl:nums.length<1000)(U:T B H (K (.agg (b3 (cT nums x))))):T B H (ad P 31 #[.agg (lr x),.slice q nums.length c] K):=by
 apply an (QC _ _ _ _);refine Sa.go λaa=>Sa.go λak=>?_;refine iV (b:=aa) (cs:=lr x) (o7 x.1 (g1 x.2)) rfl (λj f=>?_) ?_
 ·obtain rfl|rfl|rfl|rfl|rfl:j=0\/j=1\/j=2\/j=3\/j=4:=by omega
  all_goals rfl
 refine Sa.go λd=>Sc.go ⟨rfl,rfl⟩ (dh 3 (by omega) (λk Y=>∃a:Nat->Int,(∀j,j<k->a j=o' nums (g1 x.2 j) (g2 x.2 j))/\(∀j,k<=j->a j=g1 x.2 j)/\Y=cl d (o7 x.1 a)::cl ak (b3 ⟨0,0,0,0,[]⟩)::cl aa (lr x)::H) ⟨_,λj f=>absurd f (by omega),λj _=>rfl,rfl⟩ ?_);rintro k Y R v ⟨a,ha,i,rfl⟩ m;refine S2.go (λg=>?_) λg=>?_
 ·have g:k<3:=by omega
  apply ba (by omega);apply Kg (p:=some ⟨d,1+k,none⟩) (by obtain rfl|rfl|rfl:k=0\/k=1\/k=2:=(by omega)<;>rfl);apply ba (by omega);rw[aR,aZ];apply bg (b:=aa) (cs:=lr x) (n:=g2 x.2 k) (by obtain rfl|rfl|rfl:k=0\/k=1\/k=2:=(by omega)<;>rfl);have u:=i k (by omega)
  have fin:∀n:Int,n=o' nums (g1 x.2 k) (g2 x.2 k)->T B (cl d (o7 x.1 λj=>if j=k then n else a j)::cl ak (b3 ⟨0,0,0,0,[]⟩)::cl aa (lr x)::H) (R [J (IntKind.wrap .i64 ((k:Int)+1))]):=λn l=>m g _ ⟨_,λj f=>by
   by_cases e:j=k
   ·subst e;rw[ag rfl];exact l
   ·rw[aj e];exact ha j (by omega),λj f=>by rw[aj (by omega)];exact i j (by omega),rfl⟩
  obtain⟨r,o⟩:∃r,g2 x.2 k=r:=⟨_,rfl⟩;rw[o]at fin⊢
  have s:∀n:Int,n=o' nums (g1 x.2 k) r->T B (cl d (o7 x.1 a)::cl ak (b3 ⟨0,0,0,0,[]⟩)::cl aa (lr x)::H) (cJ (some ⟨d,1+k,none⟩) 0 (J n) (R [J (IntKind.wrap .i64 ((k:Int)+1))])):=λn l=>by unfold cJ;apply St.go;rw[aR,mA];apply eE (by show 1+k<5;omega) rfl;rw[WR g];exact fin n l
  refine dU (α:=Unit) (λ_=>cl d (o7 x.1 a)::cl ak (b3 ⟨0,0,0,0,[]⟩)::cl aa (lr x)::H) (λ_=>[.bool (decide (1<=r/\r<=nums.length))]) (λw body=>?_) λ_=>?_
  ·have body:=body ()
   by_cases h1:1<=r
   ·apply bo (by simpa using h1)
    simp only[h1,nB]at body;exact body
   ·apply aI (by simpa using h1)
    simp only[h1,false_and,decide_false]at body;exact body
  ·apply St.go
   by_cases h:1<=r/\r<=nums.length
   ·apply bo (by simpa using h)
    rw[br (by omega)];have hi:(r-1).toNat<nums.length:=by omega
    have t:nums[(r-1).toNat]?=some nums[(r-1).toNat]:=bj hi;refine fA (r-1).toNat (by omega) hi t (s _ ?_);unfold o';rw[ag h,eo,t];rfl
   ·apply aI (by simpa using h)
    by_cases h0:r=0
    ·refine aI (by simpa using h0) (m g _ ⟨a,λj f=>?_,λj f=>i j (by omega),rfl⟩)
     by_cases e:j=k
     ·subst e
      rw[u,o,h0];unfold o';rw[aj (by omega),aj (by simp)]
     ·exact ha j (by omega)
    ·refine bo (by simpa using h0) (s _ ?_)
     unfold o';rw[aj h,ag h0]
 ·have e:k=3:=by omega
  subst e;refine bV (b:=d) rfl ?_;refine Sc.go ⟨rfl,rfl⟩ ?_;refine bV (b:=ak) rfl ?_
  have e:o7 x.1 a=b3 (cT nums x):=by unfold cT o7 b3;rw[ha 0 (by omega),ha 1 (by omega),ha 2 (by omega)]
  rw[e];exact af U
end
