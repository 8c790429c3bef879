/- Lemmas that lead to TopWhole (their names made short by a program); no condition. -/
import Derived.Test.YtlmgompopkamfaaGreatDoorLO
import Derived.Lib.ItoaLen
set_option linter.all false
set_option maxRecDepth 20000
set_option synthInstance.checkSynthOrder false
namespace Go.Proofs.YtlmgompopkamfaaGreatDoor
section
open Go.XS Go.bn Go.RowKit Go.Lib
section
variable {B:Heap}{H H0:au}{K:aK}{p:HP}{f:FuncId}{args:ax}
def Own.below{σ eI:Heap}(o:Own B H σ)(hs:σ.size<=eI.size)(a:∀k,k<σ.size->eI[k]?=σ[k]?):Own B H eI:=by obtain⟨l,U,e,d⟩:=o.own;refine⟨λb f=>(a b (by have:=o.size;omega)).trans (o.base b f),by have:=o.size;omega,l,U,e,λc hc=>⟨(d c hc).1,?_⟩⟩;have:=(d c hc).2;rw[a _ (gF.1 this).1];exact this
def Dy(h:∀σ,(∀eI,Own σ [] eI->Own B H eI)->(∃x,Own B H x/\x=σ)->T σ [] p):T B H p:=λσ o=>h σ (λeI a=>Own.below o a.size a.base) ⟨σ,o,rfl⟩ σ ⟨λ_ _=>rfl,d' _,[],trivial,by simp,by simp⟩
structure Gl(B:Heap):Prop where
 Gd:∃m,cA B ⟨1,0,none⟩=some (.int .i64 m)
 cY:∀w:World,(∀k,k<B.size->w.heap[k]?=B[k]?)->B.size<=w.heap.size->TabIs P w "internal/strconv.uint64pow10" .u64 pow10Tab
def Gl.G1{σ:Heap}(h:Gl B)(o:Own B H σ):Gl σ:=by
 obtain⟨m,hm⟩:=h.Gd;refine⟨⟨m,?_⟩,λw hw hs=>h.cY w (λk I=>(hw k (by have:=o.size;omega)).trans (o.base k I)) (by have:=o.size;omega)⟩;unfold cA at hm⊢
 have:1<B.size:=by refine tE λa=>?_;rw[yM (show B.size<=(⟨1,0,none⟩:Addr).block from by show B.size<=1;omega)]at hm;cases hm
 rw[o.base 1 this];exact hm
def Gl.cell{σ:Heap}(h:Gl B)(o:Own B H σ){w:World}(hw:w.heap=σ):∃m,w.cell? ⟨1,0,none⟩=some (.int .i64 m):=by obtain⟨m,hm⟩:=(h.G1 o).Gd;exact⟨m,by rw[kQ,hw];exact hm⟩
def Gl.Z8{σ:Heap}(h:Gl B)(o:Own B H σ){w:World}(hw:w.heap=σ):TabIs P w "internal/strconv.uint64pow10" .u64 pow10Tab:=h.cY w (λk I=>by rw[hw];exact o.base k I) (by rw[hw];exact o.size)
def I6{s sep:ByteArray}(g:Gl B)(hs:s.size<4294967281)(I:T B H (K (.tuple #[.string ⟨(Lib.cut s.data.toList sep.data.toList).1.toArray⟩,.string ⟨(Lib.cut s.data.toList sep.data.toList).2.1.toArray⟩,.bool (Lib.cut s.data.toList sep.data.toList).2.2]))):T B H (ab P 210 #[.string s,.string sep] K):=λσ o w hw=>by obtain⟨m,hm⟩:=g.cell o hw;refine(Tryz.strings_Cut s sep m w hs hm).mono ?_;rintro e w' ⟨rfl,n,rfl⟩;exact⟨_,rfl,by show K _ w.heap;rw[hw];exact I σ o,⟨rfl,rfl,rfl⟩⟩
def I7{s p:ByteArray}(I:T B H (K (.bool (Lib.hasPrefix s.data.toList p.data.toList)))):T B H (ab P 321 #[.string s,.string p] K):=λσ o w hw=>by refine(Tryz.strings_HasPrefix s p w).mono ?_;rintro e w' ⟨rfl,rfl⟩;exact⟨_,rfl,by rw[hw];exact I σ o,.refl _⟩
def Df{s sep:ByteArray}(g:Gl B)(hs:s.size<4294967281)(U:1<=sep.size)(I:∀b,T B (cl b ((Lib.splitB sep 0 (Lib.countB s sep) s).map Value.string).toArray::H) (K (.slice (some ⟨b,0,none⟩) (Lib.countB s sep+1) (Lib.countB s sep+1)))):T B H (ab P 313 #[.string s,.string sep] K):=λσ o w hw=>by obtain⟨m,hm⟩:=g.cell o hw;refine(Tryz.strings_Split s sep m w hs hm U).mono ?_;rintro e w' ⟨rfl,rfl⟩;refine⟨_,rfl,?_,⟨rfl,rfl,rfl⟩⟩;rw[hw];have:=I σ.size _ (o.push ⟨9,(0,0),rfl,by simp⟩);show K _ (w.heap.push _);rw[hw];exact this
def I9{s sep:ByteArray}{n:Nat}(g:Gl B)(hs:s.size<4294967281)(U:1<=sep.size)(a:1<=n/\n<=1000)(I:∀b,T B (cl b (Lib.cellsOf (Lib.splitB sep 0 (min n (s.size+1)-1) s) (min n (s.size+1)))::H) (K (.slice (some ⟨b,0,none⟩) (Lib.splitB sep 0 (min n (s.size+1)-1) s).length (min n (s.size+1))))):T B H (ab P 213 #[.string s,.string sep,D n] K):=λσ o w hw=>by obtain⟨m,hm⟩:=g.cell o hw;refine(Tryz.strings_SplitN s sep n m w hs hm U a.1 (by omega)).mono ?_;rintro e w' ⟨rfl,rfl⟩;refine⟨_,rfl,?_,⟨rfl,rfl,rfl⟩⟩;rw[hw];have:=I σ.size _ (o.push ⟨9,(0,0),rfl,by simp⟩);show K _ (w.heap.push _);rw[hw];exact this
def I8{n:Int}(g:Gl B)(a:aF n)(I:T B H (K (.string ⟨(Lib.itoa n).toArray⟩))):T B H (ab P 224 #[D n] K):=λσ o w hw=>by
 refine(Tryz.strconv_Itoa n a.1 a.2 w (g.Z8 o hw)).mono ?_;rintro e w' ⟨rfl,k,os,rfl⟩;refine⟨_,rfl,I _ (Own.below o ?_ λj b=>?_),⟨rfl,rfl,rfl⟩⟩
 ·show σ.size<=(w.heap++os).size
  rw[hw];simp
 ·show(w.heap++os)[j]?=_
  rw[hw,Array.getElem?_append_left b]
def I5{s:ByteArray}{n:Int}(hl:s.size<=18)(h:Lib.atoi s.data.toList=some n)(I:T B H (K (.tuple #[D n,.nilIface]))):T B H (ab P 315 #[.string s] K):=λσ o w hw=>by
 refine(Tryz.strconv_Atoi s n hl h w).mono ?_;rintro e w' ⟨rfl,t,rfl⟩;refine⟨_,rfl,I _ (Own.below o ?_ λj a=>?_),⟨rfl,rfl,rfl⟩⟩
 ·rw[<-hw]
  simp[bytesWorld,World.freeze,World.alloc,World.drew,-World.alloc_eq,-World.drew_eq]
 ·rw[<-hw]at a⊢
  exact bytesWorld_at_old w 5 t j a
def De{b c:Nat}{xs:List ByteArray}{sep:ByteArray}{cs:ax}[a:bY B H b cs](d:∀(j:Nat) x,xs[j]?=some x->cs[j]?=some (.string x))(k:xs.length<=1000)(hc:xs.length<=c)(hl:(Lib.join (xs.map (·.data.toList)) sep.data.toList).length<=1000000)(I:T B H (K (.string ⟨(Lib.join (xs.map (·.data.toList)) sep.data.toList).toArray⟩))):T B H (ab P 223 #[.slice (some ⟨b,0,none⟩) xs.length c,.string sep] K):=λσ o w hw=>by
 have f:b<w.heap.size:=by obtain⟨t,fr,e⟩:=a.has σ o;rw[hw];exact(gF.1 e).1
 refine(Tryz.strings_Join b 0 c xs sep w (λj x g=>?_) f (by omega) hc (by omega)).mono ?_
 ·rw[kQ,hw,bJ,a.cell o]
  exact d j x g
 ·rintro e w' ⟨rfl,h⟩
  exact⟨_,rfl,I _ (Own.below o (by rw[<-hw];exact h.size) λj i=>by rw[h.block j (by rw[hw];exact i),hw]),⟨h.os,h.tape,h.output⟩⟩
end
def kN(b:Nat)(eU:aB):bg:=λl=>∃p v a,l=(b,.cells #[.pointer p,v] 180 (0,0))::a/\(p=none\/p=some ⟨b,0,none⟩)/\
 ((v= .slice none 0 0/\eU=[]/\a=[])\/∃g cap cur,v= .slice (some ⟨g,0,none⟩) eU.length cap/\a=[(g,.cells cur 5 (0,0))]/\eU.length<=cap/\cap<=maxLen/\cur.size=cap/\cur.toList.take eU.length=eU)
section
variable {B:Heap}{H H0:au}{K:aK}{b:Nat}{eU:aB}
def zx{σ:Heap}(o:Own B (kN b eU::H) σ){w:World}(hw:w.heap=σ):IsBuilder 180 5 B.size b eU w:=by
 obtain⟨l,⟨l1,l2,a,⟨p,v,k,rfl,m,n⟩,_⟩,q,hc⟩:=o.own;have d:=(a.map (·.1)).nodup q;rw[e6]at d;have f:=(dZ.1 d).1;have i:∀c∈(b,Obj.cells #[.pointer p,v] 180 (0,0))::k,B.size<=c.1/\σ[c.1]?=some c.2:=λc h=>hc c (a.mem_iff.2 (List.mem_append_left _ h));have h0:=i _ kG
 have key:BuilderAt 180 5 B.size b (.pointer p) eU w:=by
  refine⟨h0.1,v,by rw[hw];exact h0.2,?_⟩;rcases n with⟨rfl,rfl,rfl⟩|⟨g,cap,cur,rfl,rfl,q1,q2,q3,r⟩
  ·exact⟨⟨by simp,.inl ⟨rfl,rfl⟩⟩,by simp[Value.ownBlock]⟩
  ·have j:=i (g,.cells cur 5 (0,0)) (by simp)
   refine⟨⟨by simp,.inr ⟨g,cap,cur,rfl,j.1,by rw[hw];exact j.2,q1,q2,by omega,by simpa using r⟩⟩,?_⟩;simp only[c4,oj,fp,fB]at f;simp only[Value.ownBlock,ne_eq,iO];exact λe=>f.1 e.symm
 rcases m with rfl|rfl
 ·exact .inl key
 ·exact .inr key
def DQ{σ:Heap}{w w':World}(o:Own B (H) σ)(hw:w.heap=σ)(h:BuilderAt 180 5 B.size b (pz b) eU w')(a:Below B.size w w'):Own B [kN b eU] w'.heap:=by
 obtain⟨U,v,d,i,f⟩:=h;have hs:=o.size;refine⟨λk I=>(a.block k I).trans (by rw[hw];exact o.base k I),by have:=a.size;rw[hw]at this;omega,?_⟩;obtain⟨n,q⟩:=i;rcases q with⟨rfl,j⟩|⟨g,cap,cur,rfl,q1,q2,q3,l,p,m⟩
 ·refine⟨[(b,.cells #[pz b,.slice none 0 0] 180 (0,0))],⟨_,[],.refl _,⟨some ⟨b,0,none⟩,_,[],rfl,.inr rfl,.inl ⟨rfl,kF.1 j,rfl⟩⟩,trivial⟩,by simp,λc hc=>?_⟩
  rw[fB.1 hc];exact⟨U,d⟩
 ·refine⟨[(b,.cells #[pz b,.slice (some ⟨g,0,none⟩) eU.length cap] 180 (0,0)),(g,.cells cur 5 (0,0))],⟨_,[],by rw[je],⟨some ⟨b,0,none⟩,_,[(g,.cells cur 5 (0,0))],rfl,.inr rfl,.inr ⟨g,cap,cur,rfl,rfl,q3,l,by omega,by simpa using m⟩⟩,trivial⟩,?_,λc hc=>?_⟩
  ·simp only[Value.ownBlock,ne_eq,iO]at f
   simp only[c4,oj,fp,fB,jH,not_false_eq_true,tN,kK];exact λe=>f e.symm
  ·rcases cR.1 hc with rfl|hc
   ·exact⟨U,d⟩
   ·rw[fB.1 hc];exact⟨q1,q2⟩
def Dj{f:Nat->HP}(h:∀b,T B (kN b []::H) (f b)):T B H (al #[.pointer none,.slice none 0 0] 180 f):=λσ o=>h σ.size _ (o.push ⟨none,_,[],rfl,.inl rfl,.inl ⟨rfl,rfl,rfl⟩⟩)
def I'{s:ByteArray}(hl:eU.length+s.size<=1000000)(I:T B [kN b (eU++strCells s)] (K (.tuple #[D s.size,.nilIface]))):T B (kN b eU::H) (ab P 73 #[pz b,.string s] K):=λσ o w hw=>by refine(Tryz.Builder_WriteString B.size b eU s w (zx o hw) (by omega) (by rw[hw];exact o.size)).mono ?_;rintro e w' ⟨rfl,U,a⟩;exact⟨_,rfl,I _ (DQ o hw U a),⟨a.os,a.tape,a.output⟩⟩
def Di{c:Int}(hl:eU.length+1<=1000000)(I:T B [kN b (eU++[.int .u8 c])] (K .nilIface)):T B (kN b eU::H) (ab P 225 #[pz b,.int .u8 c] K):=λσ o w hw=>by refine(Tryz.Builder_WriteByte B.size b eU c w (zx o hw) (by omega) (by rw[hw];exact o.size)).mono ?_;rintro e w' ⟨rfl,U,a⟩;exact⟨_,rfl,I _ (DQ o hw U a),⟨a.os,a.tape,a.output⟩⟩
def Dh{l:List UInt8}(hl:eU=Lib.byteCells l)(I:T B [] (K (.string ⟨l.toArray⟩))):T B (kN b eU::H) (ab P 74 #[pz b] K):=λσ o w hw=>by subst hl;refine(Tryz.Builder_String_any B.size b l w (zx o hw) (by rw[hw];exact o.size)).mono ?_;rintro e w' ⟨rfl,a⟩;refine⟨_,rfl,I _ ⟨λk I=>(a.block k I).trans (by rw[hw];exact o.base k I),by have:=a.size;rw[hw]at this;have:=o.size;omega,[],trivial,by simp,by simp⟩,⟨a.os,a.tape,a.output⟩⟩
end
end
section
open Go.XS Go.bn Go.RowKit Go.Lib
section
variable {B:Heap}{H H0:au}{K:aK}{n lo hi:Int}{s:ByteArray}
def zX(g:Gl B)(a:aF n)(I:T B H (K (.string ⟨(itoa n).toArray⟩))):T B H (ab P 132 #[D n] K):=by apply an (MN _);unfold ir;exact I8 g a (J.go I)
structure fs(s:ByteArray)(n:Int):Prop where
 l:s.size<=18
 a:atoi s.data.toList=some n
 i:itoa n=s.data.toList
 n:aF n
def JO{f:HP}{a:aK}(h:T B H (a (.bool false))):T B H (aI P (do eqGuard BinOp.neq 169 (Operand.tmp 11) (Operand.const Value.nilIface) Value.nilIface Value.nilIface;binOp BinOp.neq 169 Value.nilIface Value.nilIface) a):=by refine qU (.bool false) (λσ o w hw=>?_) h;kernel_rfl
def zY(g:Gl B)(h:fs s n)(I:T B H (K (.tuple #[D n,.bool true]))):T B H (ab P 212 #[.string s] K):=by
 refine an (MO _) (I5 h.l h.a λσ o=>⟨n,.nilIface,rfl,?_⟩);refine JO (f:=λ_=>True) ?_ σ o;refine J.go (aD rfl (zX g h.n (J.go ?_)));have e:(⟨(itoa n).toArray⟩:ByteArray)=s:=by rw[h.i]
 rw[e];exact aD (by simp) I
def TA(g:Gl B)(h:fs s n)(a:lo<=n/\n<=hi)(I:T B H (K (.tuple #[D n,.bool true]))):T B H (ab P 322 #[.string s,D lo,D hi] K):=by
 apply an (MQ _ _ _);unfold fR;apply zY g h;repeat' first|apply J.go|refine S2.go (λ_=>?_) λ_=>?_|done
 ·omega
 ·omega
 ·exact I
def TE{c:Int}(h:32<c/\c<=126)(I:T B H (K (.bool true))):T B H (ab P 382 #[.int .i32 c] K):=by apply an (MT _);apply bk (by simp;omega);rw[cB h.2];exact I
def yB(s:ByteArray):Bool:=decide (0<s.size)&&(List.range s.size).all λi=>decide ((Utf8.decode s i).2=1/\32<(Utf8.decode s i).1/\(Utf8.decode s i).1<=126)
def JW{a:aK}(t:∀it,T B (ob it (.stringIter s 0)::H) (a (pz it))):T B H (aI P (Instr.range 9 (.string s)) a):=by intro σ o;unfold Instr.range;refine aY (gV (d:= .string) (by kernel_rfl) ?_);refine aY (cu ?_);refine aY (Dw (λit=>?_) σ o);intro σ o;exact cu (t it σ o)
def JR{it pos:Nat}{ty:TypeId}{f0:HP}{f1:Value->aK}(h0:¬pos<s.size->T B (ob it (.stringIter s pos)::H) f0)(U:pos<s.size->T B (ob it (.stringIter s (pos+(Utf8.decode s pos).2))::H) (f1 (D pos) (.int .i32 (Utf8.decode s pos).1))):T B (ob it (.stringIter s pos)::H) (mU P (pz it) true ty f0 f1):=by
 intro σ o;unfold mU Instr.next
 refine aY (k9 o.gL ?_);simp only;by_cases h:pos<s.size
 ·rw[ah h]
  refine aY (o7 o.gL ?_);refine cu (.inr ⟨_,_,rfl,?_⟩);exact U h _ o.o9
 ·rw[ak h]
  exact cu (.inl ⟨rfl,h0 h σ o⟩)
def ne_nil(h:0<s.size):(!ByteArray.toList s==ByteArray.toList (ByteArray.mk #[]))=true:=by
 rw[ByteArray.toList_eq,ByteArray.toList_eq]
 have:s.data.toList≠[]:=λe=>by have b:s.data.toList.length=s.size:=kD;rw[e]at b;have c:(0:Nat)=s.size:=b;omega
 cases b:s.data.toList with
 |nil=>exact absurd b this
 |cons a l=>rfl
def TC(hw:yB s=true)(I:T B H (K (.bool true))):T B H (ab P 314 #[.string s] K):=by
 apply an (MR _);unfold yB at hw;simp only[b9,bz,ig,om]at hw;refine JW λit=>J.go (uc (λm Y=>∃pos,pos+m=s.size/\Y=ob it (.stringIter s pos)::H) s.size ⟨0,by omega,rfl⟩ ?_);rintro m Y R ⟨pos,c,rfl⟩ a;refine JR (λd=>?_) λb=>?_
 ·apply aD rfl
  have e:(!ByteArray.toList s==ByteArray.toList (ByteArray.mk #[]))=true:=ne_nil hw.1;rw[e];exact af I
 ·obtain⟨U,f,g⟩:=hw.2 pos b
  refine bk rfl (J.go ?_);unfold aJ;refine TE ⟨by omega,by omega⟩ (J.go (aD rfl (a (m-1) _ (by omega) ⟨pos+1,by omega,by rw[U]⟩)))
abbrev ng:ByteArray:=ByteArray.mk #[32]
def BV{xs:List ByteArray}{i:Nat}{x:ByteArray}(h:xs[i]?=some x):((xs.map Value.string).toArray)[i]?=some (.string x):=by rw[dY,fo,h];rfl
def TD{xs:List ByteArray}(g:Gl B)(hs:0<s.size/\s.size<100000)(f:splitB ng 0 (Go.Lib.countB s ng) s=xs)(hl:xs.length=Go.Lib.countB s ng+1)(hw:∀x∈xs,yB x=true)(i:xs.length<1000)(I:∀b,T B (cl b (xs.map Value.string).toArray::H) (K (.tuple #[.slice (some ⟨b,0,none⟩) xs.length xs.length,.bool true]))):T B H (ab P 211 #[.string s] K):=by
 apply an (MS _);have c:=ne_nil hs.1;simp only[ml]at c;apply aD c;unfold bX;refine Df g (by omega) (by decide) λb=>?_;rw[f,<-hl];refine J.go (cF xs.length (by omega) (λk Y=>Y=cl b (xs.map Value.string).toArray::H) rfl ?_);rintro k Y R j rfl h;refine S2.go (λa=>?_) λa=>?_
 ·have a:k<xs.length:=by omega
  have d:xs[k]?=some xs[k]:=ba a;have e:=hw _ (dz a);generalize xs[k]=v at d e;unfold xl;refine J.go (bj (by omega) ?_);rw[aQ,a7,bJ];apply iU (BV d);unfold aJ;exact TC e (J.go (aD rfl (h a _ rfl)))
 ·exact I b
def YA{x0 x1 x2 x3 x4:ByteArray}{n1 n2 n3 n4:Int}(g:Gl B)(hs:0<s.size/\s.size<100000)(f:splitB ng 0 (Go.Lib.countB s ng) s=[x0,x1,x2,x3,x4])(hl:5=Go.Lib.countB s ng+1)(hw:∀x∈[x0,x1,x2,x3,x4],yB x=true)(h0:x0.data.toList=[109,97,110,111,114])(U:fs x1 n1)(h:fs x2 n2)(i:fs x3 n3)(c:fs x4 n4)(I:T B H (K (.tuple #[.agg #[D n1,D n2,D n3,D n4],.bool true]))):T B H (ab P 124 #[.string s] K):=by
 refine an (QC _) (Sa.go λaa=>?_);unfold pU;refine TD g hs f hl hw (by show 5<1000;decide) λb=>?_;refine J.go (J.go (aD rfl (aD rfl (J.go (bj (by simp) ?_)))));rw[aQ];apply iU rfl;rw[ByteArray.toList_eq,h0,ByteArray.toList_eq];refine aD (by decide) (J.go (Sa.go λl=>bj (by simp) ?_))
 have m:∀k,k<4->∃x n,[x1,x2,x3,x4][k]?=some x/\[n1,n2,n3,n4][k]?=some n/\fs x n:=by
  intro k I;obtain rfl|rfl|rfl|rfl:k=0\/k=1\/k=2\/k=3:=by omega
  ·exact⟨_,_,rfl,rfl,U⟩
  ·exact⟨_,_,rfl,rfl,h⟩
  ·exact⟨_,_,rfl,rfl,i⟩
  ·exact⟨_,_,rfl,rfl,c⟩
 apply cF 4 (by omega) (λk Y=>Y=cl l (il λj=>if j<k then[n1,n2,n3,n4].getD j 0 else 0)::cl b ([x0,x1,x2,x3,x4].map Value.string).toArray::cl aa #[D 0,D 0,D 0,D 0]::H) rfl;rintro k Y R v rfl o;refine S2.go (λa=>?_) λa=>?_
 ·have a:k<4:=by have c:(k:Int)<((5-1:Nat):Int):=a;omega
  obtain⟨x,n,p,q,r⟩:=m k a;have eD:dh (some ⟨b,0,none⟩) 1 1 5=some ⟨b,1,none⟩:=by unfold dh;rw[ak (by decide)];rfl
  show T B _ (aA (dh (some ⟨b,0,none⟩) 1 1 5) _);rw[eD];apply J.go;apply bj (by simp;omega);rw[aQ,a7];apply iU (BV (by rw[Nat.add_comm];exact p));unfold fR;refine zY g r (J.go (aD rfl (bj (by omega) ?_)));rw[aQ,bJ];apply eB (by simp;omega) rfl;rw[zv a];apply o a _
  have t:(Go.bn.up (λj=>if j<k then[n1,n2,n3,n4].getD j 0 else 0) k n)=λj=>if j<k+1 then[n1,n2,n3,n4].getD j 0 else 0:=by
   funext j;unfold Go.bn.up;by_cases e:j=k
   ·subst e
    rw[ah rfl,ah (by omega),ei,q];rfl
   ·rw[ak e]
    show(if j<k then[n1,n2,n3,n4].getD j 0 else 0)=_;by_cases d:j<k
    ·rw[ah d,ah (by omega)]
    ·rw[ak d,ak (by omega)]
  rw[t]
 ·have u:k=4:=by have c:¬(k:Int)<((5-1:Nat):Int):=a;omega
  subst u;repeat first|apply J.go|refine Sc.go (by first|omega|rfl|exact⟨rfl,rfl⟩) ?_
  exact af I
end
end
section
open Go.XS Go.bn Go.RowKit Go.Lib
abbrev Wd:=ByteArray×Int
abbrev mi(w:Wd):aB:=[.string w.1,D w.2]
def Ig(w:Wd):(mi w).length=2:=rfl
def bt(l:List UInt8):ByteArray:=ByteArray.mk l.toArray
def px:List Wd:=[(bt [],0),(bt [114,101,103,105,115,116,101,114],1),(bt [114,101,116,105,114,101],1),(bt [97,115,107],2),(bt [99,97,110,99,101,108],2),(bt [114,111,111,116],1),(bt [99,104,105,108,100],1),(bt [108,97,121],3),(bt [102,114,101,101],1),(bt [103,105,118,101],2),(bt [119,114,105,116,101],2),(bt [114,101,97,100],3),(bt [116,105,99,107],0),(bt [115,116,97,116,101],2),(bt [116,114,105,109],1)]
def abf:zc P 491=#[.string (ByteArray.mk #[]),D 0]:=by kernel_rfl
def Ct:zc P 492=((List.replicate 15 ((bt [],0):Wd)).flatMap mi).toArray:=by kernel_rfl
section
variable {B:Heap}{H H0:au}{K:aK}{n:Int}{s:ByteArray}
def GB(I:T B H (K (.agg (px.flatMap mi).toArray))):T B H (ab P 317 #[] K):=by
 apply an (OO);rw[abf,Ct];refine Sa.go λaa=>?_;iterate 15 refine bj rfl ?_
 show T B _ (gW (ag aa 0) (px.flatMap mi).toArray 30 _);refine hj rfl rfl ?_ ?_
 ·decide
 exact bI rfl (af I)
def WH{i:Nat}{w:Wd}(h:px[i]?=some w)(hi:1<=i)(I:T B H (K (.agg (mi w).toArray))):T B H (ab P 320 #[D i] K):=by
 have c:i<15:=(b0.1 h).1;apply an (OM _);rw[Ct];refine Sa.go λaa=>?_;unfold bH;refine GB (J.go (Sa.go λd=>?_));refine hj rfl rfl (by decide) ?_;apply aD (by simp;omega);apply aD (by simp;omega);apply bj (by omega);rw[a7,aQ,bJ];refine iS (mi w).toArray rfl (λj a=>?_) ?_
 ·rw[dY,dY]
  have b:(mi w)[j]?=some ((mi w)[j]'(by simpa using a)):=ba _;rw[b];have:=dW Ig px i w h j a;rw[this];exact b
 repeat refine Sc.go (by first|rfl|exact⟨rfl,rfl⟩) ?_
 exact af I
def WE{i:Nat}{w:Wd}(h:px[i]?=some w)(hi:1<=i)(I:T B H (K (D w.2))):T B H (ab P 216 #[D i] K):=by apply an (OJ _);unfold bH;exact WH h hi (J.go λσ o=>⟨w.2,rfl,I σ o⟩)
def xk(s:ByteArray)(w:Wd):Bool:=w.1.data.toList==s.data.toList
def WD{w:Wd}{b:Nat}[hc:bY B H b #[.string s]](hs:0<s.size)(I:T B H (K (.bool (xk s w)))):T B H (ab P 319 #[.agg (mi w).toArray,pz b] K):=by refine an (OI _ _) (Sa.go λaa=>?_);have hC:bY B (cl aa (mi w).toArray::H) b #[.string s]:=inferInstance;unfold sF;apply J.go;rw[aQ];refine iU rfl (bk (ne_nil hs) (iU rfl (J.go ?_)));rw[aQ];apply iU rfl;rw[ByteArray.toList_eq,ByteArray.toList_eq];exact af I
def Zd{g c:Nat}{q:aw}{ca:ax}{f:Wd->Bool}{ss:List Wd}(n:gb P g=true)[hr:Rd B H q (ss.flatMap mi)](hlen:ss.length<1000000)(hf:∀m∈ss,∀l:aK,T B H (l (.bool (f m)))->T B H (ab P g (Array.mk (Array.toList #[]++[Value.agg (mi m).toArray]++Array.toList ca)) l))(I:T B H (K (D (cJ f ss)))):T B H (ab P 318 #[.slice q ss.length c,.func (.func g) #[] ca] K):=by
 refine an (Rc _ _ _ _ _) (cF ss.length (by omega) (λk H'=>H'=H/\∀j x,j<k->ss[j]?=some x->f x=false) ⟨rfl,by simp⟩ ?_);rintro k H' R p ⟨rfl,d⟩ o;refine S2.go (λ_=>?_) λ_=>?_
 ·have b:k<ss.length:=by omega
  have h:ss[k]?=some ss[k]:=ba b;refine dO Ig (by omega) k rfl b h (lI n (hf _ (dz b) _ ?_));repeat' first|apply J.go|refine S2.go (λ_=>?_) λ_=>?_|done
  ·rename_i i
   unfold cJ at I;rw[nD d h i]at I;exact I
  ·rename_i i
   refine o b _ ⟨rfl,λj x r a=>?_⟩;by_cases e:j=k
   ·subst e;rw[h]at a;cases a;exact i
   ·exact d j x (by omega) a
 ·unfold cJ at I
  rw[mI λj x a=>d j x (by have:=(b0.1 a).1;omega) a]at I;exact I
def WC{i:Nat}(hs:0<s.size)(hi:cJ (xk s) px=i)(I:T B H (K (D i))):T B H (ab P 214 #[.string s] K):=by
 apply an (OH _);rw[Ct];refine Sa.go λaa=>?_;unfold bH;refine GB (J.go (Sa.go λa=>?_));refine hj rfl rfl (by decide) ?_
 have eD:lK ⟨a,0,none⟩ (P.cellsOf 491) 0 15=⟨a,0,none⟩:=by unfold lK;rw[ak (by decide),aQ];simp
 rw[eD];unfold aU;refine Zd (ss:=px) (f:=xk s) (by kernel_rfl) (by decide) (λw hw b h=>?_) ?_
 ·exact WD hs h
 ·rw[hi]
  apply J.go;rw[ak (by omega)];exact af I
def iP(s:ByteArray)(n r:Int):Prop:=(Lib.hasPrefix s.data.toList [35]=false/\fs s n/\r=0)\/(Lib.hasPrefix s.data.toList [35]=true/\n=0/\1<=s.size/\fs (s.extract 1 s.size) r/\1<=r/\r<=4096)
def WI{n r:Int}(g:Gl B)(h:iP s n r)(I:T B H (K (.tuple #[D n,D r,.bool true]))):T B H (ab P 217 #[.string s] K):=by
 apply an (ON _);unfold aJ;refine I7 (J.go ?_);rcases h with⟨U,a,rfl⟩|⟨U,rfl,a,b,c⟩
 ·apply aD U
  unfold fR;exact zY g a (J.go I)
 ·refine bk U (bj (by omega) ?_)
  unfold fR;exact TA g b c (J.go I)
def WG{b:Nat}(I:T B H (K (.agg #[.pointer (some ⟨b,1,none⟩),.pointer (some ⟨b,2,none⟩),.pointer (some ⟨b,3,none⟩)]))):T B H (ab P 215 #[pz b] K):=by
 apply an (OL _);repeat first|apply J.go|refine Sa.go λ_=>?_|refine Sc.go (by first|rfl|exact⟨rfl,rfl⟩) ?_
 rw[aQ,aQ,aQ];exact af I
end
abbrev p2(s:ByteArray):List ByteArray:=Lib.splitB ng 0 1 s
inductive tS:Nat->List ByteArray->List (Int×Int)->List ByteArray->Prop where
 |nil (ps:List ByteArray):tS 0 ps [] ps
 |cons {k:Nat} {x r a:ByteArray} {t q:List ByteArray} {n f:Int} {xs:List (Int×Int)}:(1<=r.size/\r.size<100000)->p2 r=a::t->iP a n f->tS k (a::t) xs q->tS (k+1) [x,r] ((n,f)::xs) q
def zM{L:List ByteArray}{N j:Nat}{x:ByteArray}(h:L[j]?=some x):(Lib.cellsOf L N)[j]?=some (.string x):=by unfold Lib.cellsOf;have hl:=(b0.1 h).1;rw[dY,hb (by rw[fe];exact hl),fo,h];rfl
abbrev g1(xs:List (Int×Int))(j:Nat):Int:=(xs[j]?.getD (0,0)).1
abbrev g2(xs:List (Int×Int))(j:Nat):Int:=(xs[j]?.getD (0,0)).2
abbrev qe(kind:Int)(xs:List (Int×Int)):ax:=#[D kind,D (g1 xs 0),D (g1 xs 1),D (g1 xs 2),.string (ByteArray.mk #[]),D (g2 xs 0),D (g2 xs 1),D (g2 xs 2)]
def Vq{kind n f:Int}{done:List (Int×Int)}{k:Nat}(hl:done.length=k)(I:k<3):((qe kind done).setIfInBounds (1+k) (D n)).setIfInBounds (5+k) (D f)=qe kind (done++[(n,f)]):=by
 subst hl
 match done,I with
 |[],_=>rfl
 |[_],_=>rfl
 |[_,_],_=>rfl
section
variable {B:Heap}{H H0:au}{K:aK}{s a:ByteArray}
def Dg(g:Gl B)(hs:1<=s.size/\s.size<100000)(I:∀b,T B (cl b (Lib.cellsOf (p2 s) 2)::H) (K (.slice (some ⟨b,0,none⟩) (p2 s).length 2))):T B H (ab P 213 #[.string s,.string ng,D 2] K):=by
 refine I9 g (by omega) (by decide) (by decide) λb=>?_;have e:min 2 (s.size+1)=2:=by omega
 rw[e];exact I b
def lX{i m:Nat}{t q:List ByteArray}{xs:List (Int×Int)}{w:Wd}(g:Gl B)(hs:1<=s.size/\s.size<100000)(z:p2 s=a::t)(ha:0<a.size)(hi:cJ (xk a) px=i)(U:1<=i)(V:i≠10)(hw:px[i]?=some w)(hm:w.2=m)(W:m<=3)(A:tS m (a::t) xs q)(C:q.length=1)(I:T B H (K (.tuple #[.agg (qe i xs),.bool true]))):T B H (ab P 125 #[.string s] K):=by
 refine an (OK _) (Sa.go λaa=>?_);unfold bX;refine Dg g hs λb=>?_;rw[z];refine J.go (J.go ?_);apply bj (by simp);rw[aQ];apply iU (zM rfl);unfold aU;refine WC ha hi (J.go ?_);apply aD (by simp;omega);refine bj rfl (Sa.go λd=>Sc.go ⟨rfl,rfl⟩ ?_);unfold bH;refine WG (J.go (Sa.go λe=>?_));refine Sc.go ⟨rfl,rfl⟩ (WE hw U ?_);rw[hm];apply J.go;refine af (H':=cl b (Lib.cellsOf (a::t) 2)::cl e #[.pointer (some ⟨d,1,none⟩),.pointer (some ⟨d,2,none⟩),.pointer (some ⟨d,3,none⟩)]::cl d #[D i,D 0,D 0,D 0,Value.string (ByteArray.mk #[]),D 0,D 0,D 0]::cl aa #[D 0,D 0,D 0,D 0,Value.string (ByteArray.mk #[]),D 0,D 0,D 0]::H) ?_
 refine oH m (by omega) (λk p l c Y=>∃ps rest done b,p=some ⟨b,0,none⟩/\l=ps.length/\c=2/\xs=done++rest/\done.length=k/\tS (m-k) ps rest q/\
  Y=cl b (Lib.cellsOf ps 2)::cl e #[.pointer (some ⟨d,1,none⟩),.pointer (some ⟨d,2,none⟩),.pointer (some ⟨d,3,none⟩)]::cl d (qe i done)::cl aa #[D 0,D 0,D 0,D 0,Value.string (ByteArray.mk #[]),D 0,D 0,D 0]::H) ?_ ?_
 ·exact⟨a::t,xs,[],b,rfl,rfl,rfl,rfl,rfl,by rw[iN];exact A,rfl⟩
 rintro k p l c Y R X ⟨ps,rest,done,dJ,rfl,rfl,rfl,o,v,h,rfl⟩ E;refine S2.go (λu=>?_) λu=>?_
 ·have u:k<m:=by omega
  obtain⟨j,F⟩:∃j,m-k=j+1:=⟨m-k-1,by omega⟩;rw[F]at h
  cases h with
  |@cons _ x r a2 t2 _ n f G L M N O=>
  refine aD (by simp) (J.go (bj (by simp) ?_));rw[aQ];refine iU (zM rfl) (Dg g L λy=>?_);rw[M];refine J.go (J.go ?_);apply bj (by simp);rw[aQ];apply iU (zM rfl);unfold kP;refine WI g N (J.go (aD rfl (bj (by omega) ?_)));rw[a7,aQ,aQ];apply ke (b:=e) (n:=some ⟨d,1+k,none⟩) (by obtain rfl|rfl|rfl:k=0\/k=1\/k=2:=(by omega)<;>rfl);unfold cO;apply J.go;rw[aQ,mx];apply eB (b:=d) (cs:=qe i done) (by show 1+k<8;omega) rfl;apply bj (by omega);apply eB (b:=d) (cs:=(qe i done).setIfInBounds (1+k) (D n)) (by rw[Iz];show 5+k<8;omega) rfl;rw[Vq v (by omega)];have Q:j=m-(k+1):=by omega
  subst Q;refine pN (H':=cl y (Lib.cellsOf (a2::t2) 2)::cl e #[.pointer (some ⟨d,1,none⟩),.pointer (some ⟨d,2,none⟩),.pointer (some ⟨d,3,none⟩)]::cl d (qe i (done++[(n,f)]))::cl aa #[D 0,D 0,D 0,D 0,Value.string (ByteArray.mk #[]),D 0,D 0,D 0]::H) (by repeat(first|with_reducible exact Sub.refl|refine Sub.cons (by repeat(first|with_reducible exact lH.head|apply lH.tail)) ?_|refine Sub.drop ?_)) ?_;refine E u _ _ _ _ ⟨a2::t2,G,done++[(n,f)],y,rfl,rfl,rfl,by rw[o,er];rfl,by rw[cr,v];rfl,O,rfl⟩
 ·have S:k=m:=by omega
  rw[S,lF]at h;cases h;rw[je]at o;subst o;apply aD (by simp;omega);apply aD (by rw[C];rfl);refine bI (b:=d) rfl ?_;refine Sc.go ⟨rfl,rfl⟩ ?_;refine bI (b:=aa) rfl ?_;exact af I
end
end
section
open Go.XS Go.bn Go.RowKit Go.Lib
instance ac3:gl P 98 8:=gl.of (e:=0) (by kernel_rfl)
abbrev h3:=Int×List (Int×Int)
abbrev k8(x:h3):ax:=qe x.1 x.2
abbrev o6(x:h3):aB:=(k8 x).toList
def Yt(x:h3):(o6 x).length=8:=rfl
abbrev iR(l:ByteArray)(x:h3):Prop:=∀(B:Heap) (H:au) (K:aK),Gl B->T B H (K (.tuple #[.agg (k8 x),.bool true]))->T B H (ab P 125 #[.string l] K)
abbrev tZ(l:ByteArray)(n1 n2 n3 n4:Int):Prop:=∀(B:Heap) (H:au) (K:aK),Gl B->T B H (K (.tuple #[.agg #[D n1,D n2,D n3,D n4],.bool true]))->T B H (ab P 124 #[.string l] K)
abbrev Wg:ByteArray:=ByteArray.mk #[10]
inductive ou:ByteArray->List ByteArray->Prop where
 |nil {s:ByteArray}:s.size=0->ou s []
 |cons {s l r:ByteArray} {b:Bool} {ls:List ByteArray}:0<s.size->s.size<100000->Lib.cut s.data.toList Wg.data.toList=(l.data.toList,r.data.toList,b)->0<l.size->ic l 0≠59->ou r ls->ou s (l::ls)
def eq_nil{s:ByteArray}(h:s.size=0):(!ByteArray.toList s==ByteArray.toList (ByteArray.mk #[]))=false:=by
 rw[ByteArray.toList_eq,ByteArray.toList_eq]
 have:s.data.toList=[]:=by have a:s.data.toList.length=s.size:=kD;exact kF.1 (by omega)
 rw[this];rfl
def Js{B:Heap}{H:au}{K:aK}{s l r sep:ByteArray}{b:Bool}(g:Gl B)(hs:s.size<100000)(hc:Lib.cut s.data.toList sep.data.toList=(l.data.toList,r.data.toList,b))(I:T B H (K (.tuple #[.string l,.string r,.bool b]))):T B H (ab P 210 #[.string s,.string sep] K):=by apply I6 g (by omega);rw[hc];exact I
section
variable {B:Heap}{H H0:au}{K:aK}{s:ByteArray}
def Yy{lp a:Nat}{ls:List ByteArray}(g:Gl B)(Z:Nat->au->Prop)(o:ou s ls)(hl:ls.length<1000)(hz:Z 0 H0)(p:∀(j:Nat) (l:ByteArray) (n:Int) (q:bg) (Y:au) (f:aK),ls[j]?=some l->Z j Y->(∀c,Z (j+1) c->T B (q::c) (f (.bool true)))->T B (q::Y) (gj P lp #[] #[] [D n,.string l] f))(I:∀q Y,Z ls.length Y->T B (q::Y) (K (.tuple #[]))):T B (cl a #[.string s]::H0) (ab P 209 #[.func (.yield lp) #[] #[],pz a] K):=by
 apply an (QA _ _)
 refine wu (λm n Y=>∃(cur:ByteArray) (j:Nat) (d:au),ou cur (ls.drop j)/\n=j/\j<=ls.length/\m=ls.length-j/\Z j d/\Y=cl a #[.string cur]::d) ls.length
  ⟨s,0,H0,o,rfl,by omega,rfl,hz,rfl⟩ ?_
 rintro m n Y R ⟨cur,j,d,hL,rfl,F,hm,i,rfl⟩ u;unfold sF;apply J.go;rw[aQ];apply iU rfl;generalize he:ls.drop j=k at hL
 cases hL with
 |nil h=>
  apply aD (eq_nil h);have e:j=ls.length:=by have:=congrArg List.length he;simp at this;omega
  subst e;exact I _ _ i
 |@cons _ l r dJ k U v w x y z=>
  have G:j<ls.length:=by have:=congrArg List.length he;simp at this;omega
  have A:ls[j]?=some l:=by have:=congrArg (λt=>t[0]?) he;simpa using this
  have C:ls.drop (j+1)=k:=by have:=congrArg List.tail he;simpa using this
  refine bk (ne_nil U) (J.go ?_);rw[aQ];apply iU rfl;unfold Ei;refine Js g v w (J.go ?_);unfold cO;apply J.go;rw[aQ];apply eB (b:=a) (cs:=#[.string cur]) Nat.zero_lt_one rfl;apply bk (ne_nil x);apply bj (by omega);apply bk (by simp[y]);refine p j l _ (cl a #[.string r]) d _ A i λc E=>?_;apply J.go;apply aD rfl;rw[bd (by omega)];refine u (m-1) _ _ (by omega) ⟨r,j+1,c,C▸z,by omega,by omega,by omega,E,rfl⟩
abbrev G0(aa aj a d:Nat):Nat->aB->aK->HP:=Bp (λb e f c=>iY b (bq (hN λj=>ae (!j) (al #[D 17,D e] 69 λk=>gW (ag aa 0) #[D 0,D 0,D 0,D 0,Value.slice none 0 0] 5 (st (ag aj 0) (Value.iface 172 (Value.pointer (some (ag k 0)))) (fx b (some Code.ret) (c (Value.bool false))))) (fx b none (c (Value.bool true)))) λg=>hA (ag d 0) λl=>ae (!l) (mF 124 #[Value.string f] λm n=>gW (ag a 0) m 4 (st (ag d 0) (Value.bool true) (g [Value.bool n]))) (aT (ag a 4) λz o A=>ae ((↑o:Int)==4096) (al #[D 10,D e] 69 λp=>gW (ag aa 0) #[D 0,D 0,D 0,D 0,Value.slice none 0 0] 5 (st (ag aj 0) (Value.iface 172 (Value.pointer (some (ag p 0)))) (fx b (some Code.ret) (c (Value.bool false))))) (al #[D 0,D 0,D 0,D 0,Value.string (ByteArray.mk #[]),D 0,D 0,D 0] 122 λh=>mF 125 #[Value.string f] λq r=>gW (ag h 0) q 8 (aT (ag a 4) λs t u=>eY (ag h 0) 8 λi=>aR (Array.size i=8) (al (Array.mk (cX [D 0,D 0,D 0,D 0,Value.string (ByteArray.mk #[]),D 0,D 0,D 0] (0*8) (Array.toList i))) 122 λv=>cI P #[98,98] s t u (some (ag v 0)) 1 1 λw x y=>st (ag a 4) (Value.slice w x y) (g [Value.bool r])))))))
abbrev qm(a b lp:Nat)(ro:Loop)(d:Bool)(e a2 a3 a4:Int)(done:List h3)(p:aw)(c:Nat)(H:au):au:=
 lo lp ro .ready none::ai 8 p done.length c (done.flatMap o6)::cl b #[.bool d]::cl a #[D e,D a2,D a3,D a4,.slice p done.length c]::H
def Xe{aa aj a b lp c:Nat}{ro:Loop}{p:aw}{l:ByteArray}{n n1 n2 n3 n4:Int}(g:Gl B)(e:mB P ro (G0 aa aj a b))(hs:tZ l n1 n2 n3 n4)(I:T B (qm a b lp ro true n1 n2 n3 n4 [] p c H) (K (.bool true))):T B (qm a b lp ro false 0 0 0 0 [] p c H) (gj P lp #[] #[] [D n,.string l] K):=by
 refine oI e (J.go (oz ?_));refine dV (α:=Unit) (λ_=>lo lp ro .busy none::ai 8 p 0 c []::cl b #[.bool true]::cl a #[D n1,D n2,D n3,D n4,.slice p 0 c]::H) (λ_=>[.bool true]) (λf body=>?_) λ_=>?_
 ·refine iT rfl (bk rfl ?_)
  unfold mF;refine hs _ _ _ g (J.go ?_);apply ny rfl (by show 0+4<=5;omega) (λv d=>by simp at d;rcases d with rfl|rfl|rfl|rfl<;>rfl);show T B (lo lp ro .busy none::ai 8 p 0 c []::cl b #[.bool false]::cl a #[D n1,D n2,D n3,D n4,.slice p 0 c]::H) _;exact J.go (af (body ()))
 ·exact J.go (aD rfl (oA I))
def Xf{aa aj d f lp c:Nat}{ro:Loop}{p:aw}{l:ByteArray}{x:h3}{done:List h3}{n n1 n2 n3 n4:Int}(g:Gl B)(h:mB P ro (G0 aa aj d f))(hs:iR l x)(hl:done.length<1000)(I:∀p c,T B (qm d f lp ro true n1 n2 n3 n4 (done++[x]) p c H) (K (.bool true))):T B (qm d f lp ro true n1 n2 n3 n4 done p c H) (gj P lp #[] #[] [D n,.string l] K):=by
 refine oI h (J.go (oz ?_));refine dV (α:=aw×Nat) (λa=>lo lp ro .busy none::ai 8 a.1 (done++[x]).length a.2 ((done++[x]).flatMap o6)::cl f #[.bool true]::cl d #[D n1,D n2,D n3,D n4,.slice a.1 (done++[x]).length a.2]::H) (λ_=>[.bool true]) (λk body=>?_) λa=>?_
 ·refine iT rfl (aD rfl (bW rfl ?_))
  apply aD (by simp;omega);refine Sa.go λi=>?_;unfold mF;apply hs _ _ _ g;apply J.go;refine Sc.go ⟨rfl,rfl⟩ ?_;apply bW (b:=d) (p:=p) (l:=done.length) (c:=c) rfl;refine bI (b:=i) rfl ?_;apply bj rfl;refine Sa.go λm=>?_;refine jP (ds:=k8 x) rfl ?_;refine aN (ai 8 p done.length c) (e0 (s:=8) (c:=c) rfl (by omega) λj c'=>?_);have e:done.flatMap o6++(k8 x).toList=(done++[x]).flatMap o6:=by simp
  rw[e];apply J.go;have:=body (j,c');dsimp only at this;rw[show(done++[x]).length=done.length+1 from by simp]at this;exact af this
 ·exact J.go (aD rfl (oA (I a.1 a.2)))
def Yz{l0:ByteArray}{lns:List (ByteArray×h3)}{n1 n2 n3 n4:Int}(g:Gl B)(o:ou s (l0::lns.map (·.1)))(hs:tZ l0 n1 n2 n3 n4)(r:∀x∈lns,iR x.1 x.2)(hl:lns.length<900)(I:∀p c,T B (ai 8 p lns.length c ((lns.map (·.2)).flatMap o6)::H) (K (.tuple #[.agg #[D n1,D n2,D n3,D n4,.slice p lns.length c],.nilIface]))):T B H (ab P 70 #[.string s] K):=by
 apply an (QB _);refine Sa.go λaa=>Sa.go λaj=>Sa.go λa=>Sa.go λd=>?_;apply J.go;apply an (Qz _);refine Sa.go λt=>?_;refine pK (by kernel_rfl) λro rr lp k=>?_;refine dR 8 ?_;refine af (H':=cl t #[.string s]::lo lp ro .ready none::ai 8 none 0 0 []::cl d #[.bool false]::cl a #[D 0,D 0,D 0,D 0,.slice none 0 0]::cl aa #[D 0,D 0,D 0,D 0,Value.slice none 0 0]::cl aj #[Value.nilIface]::ob rr (.deferred (some []))::H) ?_
 refine Yy g (λj Y=>∃p c,(j=0/\Y=qm a d lp ro false 0 0 0 0 [] p c (cl aa #[D 0,D 0,D 0,D 0,Value.slice none 0 0]::cl aj #[Value.nilIface]::ob rr (.deferred (some []))::H))\/
  (∃i,j=i+1/\Y=qm a d lp ro true n1 n2 n3 n4 ((lns.map (·.2)).take i) p c (cl aa #[D 0,D 0,D 0,D 0,Value.slice none 0 0]::cl aj #[Value.nilIface]::ob rr (.deferred (some []))::H))) o (by simp;omega) ⟨none,0,.inl ⟨rfl,rfl⟩⟩ ?_ ?_
 ·rintro j l n q Y v m ⟨p,c,⟨rfl,rfl⟩|⟨i,rfl,rfl⟩⟩ hK
  ·have e:l0=l:=by simpa using m
   subst e;refine af (H':=qm a d lp ro false 0 0 0 0 [] p c (q::cl aa #[D 0,D 0,D 0,D 0,Value.slice none 0 0]::cl aj #[Value.nilIface]::ob rr (.deferred (some []))::H)) (Xe g k hs ?_);have:=hK _ ⟨p,c,.inr ⟨0,rfl,rfl⟩⟩;rw[r5]at this;exact af this
  ·have f:(lns.map (·.1))[i]?=some l:=by simpa using m
   rw[fo]at f
   cases h:lns[i]? with
   |none=>rw[h]at f;cases f
   |some y=>
    rw[h]at f;cases f;have hi:i<lns.length:=(b0.1 h).1;refine af (H':=qm a d lp ro true n1 n2 n3 n4 ((lns.map (·.2)).take i) p c (q::cl aa #[D 0,D 0,D 0,D 0,Value.slice none 0 0]::cl aj #[Value.nilIface]::ob rr (.deferred (some []))::H)) ?_;refine Xf g k (r y (cz h)) (by rw[ff];omega) λu c'=>?_
    have e:(lns.map (·.2)).take i++[y.2]=(lns.map (·.2)).take (i+1):=by rw[dQ (by rw[fo,h];rfl)]
    rw[e];exact af (hK _ ⟨u,c',.inr ⟨i+1,rfl,rfl⟩⟩)
 ·rintro q Y ⟨p,c,⟨h0,_⟩|⟨i,hi,rfl⟩⟩
  ·simp at h0
  have hi:i=lns.length:=by simp at hi;omega
  subst hi;have e:(lns.map (·.2)).take lns.length=lns.map (·.2):=j7 (by simp);rw[e];refine bL (q:=lo lp ro .ready none) (qQ (by simp) ?_);refine iT rfl (aD rfl (bI (b:=a) rfl (Sc.go ⟨rfl,rfl⟩ (J.go (bL (q:=ob rr (.deferred (some []))) (oG ?_))))));refine bI (b:=aa) rfl (hM rfl ?_);have:=I p c;rw[show lns.length=(lns.map (·.2)).length from by simp]at this;exact af this
def Jy{t:TypeId}{x y:Operand}{a:aK}(h:T B H (a (.bool true))):T B H (aI P (do eqGuard BinOp.eql 169 (Operand.tmp 8) (Operand.const Value.nilIface) Value.nilIface Value.nilIface;binOp BinOp.eql 169 Value.nilIface Value.nilIface) a):=by refine qU (.bool true) (λσ o w hw=>?_) h;kernel_rfl
def T0{v:Value}(I:T B H (K (.bool false))):T B H (ab P 71 #[.nilIface,v] K):=by apply an (MU _ _);apply Jy (t:=0) (x:= .tmp 0) (y:= .tmp 0);apply J.go;apply bk rfl;exact I
def Yv{l0:ByteArray}{lns:List (ByteArray×h3)}{n1 n2 n3 n4:Int}(g:Gl B)(a:ou s (l0::lns.map (·.1)))(hs:tZ l0 n1 n2 n3 n4)(d:∀x∈lns,iR x.1 x.2)(hl:lns.length<900)(I:∀p c,T B (ai 8 p lns.length c ((lns.map (·.2)).flatMap o6)::H) (K (.tuple #[.agg #[D n1,D n2,D n3,D n4,.slice p lns.length c],.agg #[D 0,D 0]]))):T B H (ab P 30 #[.string s] K):=by refine an (Qw _) (Sa.go λaa=>Sa.go λaj=>?_);unfold Ee;refine Yz g a hs d hl λp c=>J.go (Sa.go λe=>Sc.go ⟨rfl,rfl⟩ (Sa.go λf=>?_));unfold aJ;apply T0;apply J.go;apply aD rfl;refine bI (b:=e) rfl ?_;refine Sc.go ⟨rfl,rfl⟩ ?_;refine Sc.go ⟨rfl,rfl⟩ ?_;refine bI (b:=aa) rfl ?_;refine bI (b:=aj) rfl ?_;exact af (I p c)
end
end
section
open Go.XS Go.bn
def uw(m:ML Int)(c:bA):ML Int:=if 0<c.own then bE c.own ((aS m c.own).getD 0+1) m else m
def i1(cs:List bA):ML Int:=cs.foldl uw []
def En(cs:List bA)(c:bA):i1 (cs++[c])=uw (i1 cs) c:=by unfold i1;rw[vQ];rfl
def wQ(cs:List bA):bS (i1 cs)/\(∀k,0<k->(aS (i1 cs) k).getD 0=((cs.countP λc=>c.own==k:Nat):Int))/\∀k∈bb (i1 cs),0<k/\∃c∈cs,c.own=k:=by
 generalize b:cs.length=n
 induction n generalizing cs with
 |zero=>obtain rfl:=kF.1 b;exact⟨by simp[bS,bb,eu,i1],λk _=>by simp[i1,aS],by simp[i1,bb]⟩
 |succ n g=>
  obtain⟨init,z,rfl⟩:∃init z,cs=init++[z]:=⟨cs.dropLast,cs.getLast (by intro h;subst h;simp at b),(tG _).symm⟩;obtain⟨U,d,f⟩:=g init (by simp at b;exact b);rw[En];unfold uw;by_cases hz:0<z.own
  ·rw[ah hz]
   refine⟨fA U,λk I=>?_,λk I=>?_⟩
   ·rw[gR U,rY,rZ]
    by_cases e:k=z.own
    ·subst e;rw[ah rfl,ah (by simp),d _ I];simp
    ·rw[ak e,ak (by simpa using λh=>e h.symm),d _ I];simp
   ·rw[oT,nL]at I
    rcases I with rfl|I
    ·exact⟨hz,z,by simp,rfl⟩
    ·obtain⟨a,c,hc,e⟩:=f k I
     exact⟨a,c,by simp[hc],e⟩
  ·rw[ak hz]
   refine⟨U,λk I=>?_,λk I=>?_⟩
   ·rw[rY,rZ,ak (by simp;omega),d _ I];simp
   ·obtain⟨a,c,hc,e⟩:=f k I
    exact⟨a,c,by simp[hc],e⟩
def Tq(cs:List bA):(i1 cs).length<=cs.length:=by
 have h:=wQ cs
 have:=u1 (l7 h.1) λk I=>by obtain⟨_,c,hc,e⟩:=h.2.2 k I;exact bQ.2 ⟨c,hc,e⟩
 simpa using this
def nX(w:aO):ML Unit:=w.foldl (λm i=>bE i () m) []
def Hm(w:aO)(i:Int):nX (w++[i])=bE i () (nX w):=by unfold nX;rw[vQ];rfl
def YE(w:aO):bS (nX w)/\(∀k,k∈bb (nX w)↔k∈w)/\(w.Nodup->(nX w).length=w.length):=by
 generalize a:w.length=n
 induction n generalizing w with
 |zero=>obtain rfl:=kF.1 a;exact⟨by simp[bS,bb,eu,nX],λk=>by simp[nX,bb],λ_=>rfl⟩
 |succ n c=>
  obtain⟨init,z,rfl⟩:∃init z,w=init++[z]:=⟨w.dropLast,w.getLast (by intro h;subst h;simp at a),(tG _).symm⟩;obtain⟨U,b,d⟩:=c init (by simp at a;exact a);rw[Hm];refine⟨fA U,λk=>?_,λhd=>?_⟩
  ·rw[oT,nL,b];simp[or_comm]
  ·rw[dZ]at hd
   have hz:z∉bb (nX init):=λh=>hd.2.2 z ((b z).1 h) z (by simp) rfl;have:=(Av hz).length_eq;rw[<-oT (v:=())]at this;have e:=d hd.1;simp only[bb,fe,dd]at this;omega
def aaC{cs:List bA}{w:aO}(U:∀(i:Nat) c,cs[i]?=some c->w.countP (·==(i:Int))=if c.ph=2 then 1 else 0)(g:∀i∈w,0<=i/\i<(cs.length:Int)):w.Nodup/\w.length=cC cs 2:=by
 have j:w.Nodup:=by
  rw[List.nodup_iff_count];intro a;by_cases ha:a∈w
  ·obtain⟨k,dJ⟩:=g a ha
   have d:cs[a.toNat]?=some (cs[a.toNat]'(by omega)):=ba _;have:=U _ _ d;rw[show((a.toNat:Nat):Int)=a from by omega]at this;unfold List.count;rw[this];split<;>omega
  ·rw[List.count_eq_zero.2 ha];omega
 refine⟨j,?_⟩
 have e:cs=(List.range cs.length).map λi=>cs.getD i bA.zero:=by refine List.ext_getElem (by simp) λi a b=>?_;simp[ei,a]
 have f:w.Perm (((List.range cs.length).filter λi=>(cs.getD i bA.zero).ph==2).map Int.ofNat):=by
  refine(y5 j (tF _ (λa b (l:a≠b) h=>l (Int.ofNat.inj h)) (List.Pairwise.filter _ List.nodup_range))).2 λa=>?_;simp only[bQ,pB,om];constructor
  ·intro ha
   obtain⟨k,dJ⟩:=g a ha;have d:cs[a.toNat]?=some (cs[a.toNat]'(by omega)):=ba _;have:=U _ _ d;rw[show((a.toNat:Nat):Int)=a from by omega]at this;refine⟨a.toNat,⟨by omega,?_⟩,by show((a.toNat:Nat):Int)=a;omega⟩;rw[ei,d];by_cases f:(cs[a.toNat]'(by omega)).ph=2
   ·simpa using f
   ·rw[ak f,vM]at this
    exact absurd (by simp) (this a ha)
  ·rintro⟨i,⟨hi,f⟩,rfl⟩
   have d:cs[i]?=some cs[i]:=ba hi;rw[ei,d]at f;have:=U _ _ d;rw[ah (by simpa using f)]at this;have:0<w.countP (·==(i:Int)):=by omega
   obtain⟨y,m,e⟩:=CH.1 this;have e:y=(i:Int):=by simpa using e
   subst e;exact m
 rw[f.length_eq,fe];unfold cC
 conv=>rhs;rw[e]
 rw[List.countP_map,List.countP_eq_length_filter];rfl
section
variable {B:Heap}{H H0:au}{K:aK}{q q':aw}{l c c':Nat}{n i:Int}{cs:List bA}{ms:List Mem}{ws:aO}
def DP(h:0<=n/\n<=3)(I:T B H (K (.bool true))):T B H (ab P 573 #[D n] K):=by refine an (LN _) (bk (cB h.1) ?_);rw[cB h.2];exact I
def Ky{z:bA}(h:lW z=true)(I:T B H (K (.bool true))):T B H (ab P 567 #[.agg (dc z).toArray] K):=by
 apply an (LO _);unfold lW at h;simp only[b9,bz]at h;obtain⟨⟨U,b⟩,a⟩:=h
 have c:(z.ph=1/\0<z.own)\/(z.ph≠1/\z.ph<=3/\z.own=0):=by
  split at a
  ·exact .inl ⟨by assumption,by simpa using a⟩
  ·exact .inr ⟨by assumption,by simpa using a⟩
 refine Sa.go λaa=>a1 rfl ?_;unfold aJ;refine DP (by omega) (J.go (bk rfl (a1 rfl (bk (cB (by omega)) (a1 rfl (a1 rfl ?_))))));apply bk (by rw[gB,yQ];simp;omega);refine a1 rfl (bk (cB (by omega)) (a1 rfl ?_));rw[cB (by omega)];exact af I
def Kx{z:bA}(h:lW z=true)(I:T B H (K (.bool false))):T B H (ab P 566 #[.agg (dc z).toArray] K):=by apply an (LL _);refine Sa.go λaa=>?_;apply bI (b:=aa) (cs:=(dc z).toArray) rfl;unfold aJ;exact Ky h (J.go (af I))
def UR{α:Type}{l:List α}:cJ (λ_:α=>false) l=-1:=by unfold cJ;rw[mI λ_ _ _=>rfl]
def Ze{g:Nat}{ca:ax}(d:gb P g=true)[hr:Rd B H q (cs.flatMap dc)](hl:l=cs.length)(hlen:l<1000000)(hf:∀m∈cs,∀b:aK,T B H (b (.bool false))->T B H (ab P g (Array.mk (Array.toList #[]++[Value.agg (dc m).toArray]++Array.toList ca)) b))(I:T B H (K (.bool false))):T B H (ab P 568 #[.slice q l c,.func (.func g) #[] ca] K):=by
 apply an (Q3 _ _ _ _ _);unfold aU;apply an (Q9 _ _ _ _ _);subst hl;apply cF cs.length (by omega) (λk H'=>H'=H) rfl;rintro k H' R h rfl e;repeat' first|apply J.go|refine S2.go (λ_=>?_) λ_=>?_|done
 ·have a:k<cs.length:=by omega
  have f:cs[k]?=some cs[k]:=ba a;refine dO h6 (by omega) k rfl a f (lI d (hf _ (dz a) _ ?_));repeat apply J.go
  exact e a _ rfl
 ·exact I
def Zf{ys:aO}{g:Nat}{ca:ax}(d:gb P g=true)[hr:Rd B H q (iv .i64 ys)](hl:l=ys.length)(hlen:l<1000000)(hf:∀m∈ys,∀b:aK,T B H (b (.bool false))->T B H (ab P g (Array.mk (Array.toList #[]++[D m]++Array.toList ca)) b))(I:T B H (K (.bool false))):T B H (ab P 562 #[.slice q l c,.func (.func g) #[] ca] K):=by
 apply an (Q5 _ _ _ _ _);unfold aU;apply an (Rb _ _ _ _ _);subst hl;apply cF ys.length (by omega) (λk H'=>H'=H) rfl;rintro k H' R h rfl e;repeat' first|apply J.go|refine S2.go (λ_=>?_) λ_=>?_|done
 ·have a:k<ys.length:=by omega
  have f:ys[k]?=some ys[k]:=ba a;refine e1 k rfl a f (lI d (hf _ (dz a) _ ?_));repeat apply J.go
  exact e a _ rfl
 ·exact I
def Zg{g:Nat}{ca:ax}(b:gb P g=true)[hr:Rd B H q (aW ms)](hl:l=ms.length)(hlen:l<1000000)(hf:∀m∈ms,∀a:aK,T B H (a (.bool false))->T B H (ab P g (Array.mk (Array.toList #[]++[Value.agg (fj m).toArray]++Array.toList ca)) a))(I:T B H (K (.bool false))):T B H (ab P 520 #[.slice q l c,.func (.func g) #[] ca] K):=by apply an (D7 _ _ _ _ _);unfold aU;apply tm b hl hlen hf;rw[UR];exact J.go I
def DN[hr:Rd B H q (cs.flatMap dc)](hl:l=cs.length)(hlen:l<1000000)(i:∀z∈cs,z.ph<=3)(I:T B H (K (.agg #[D (cC cs 0),D (cC cs 1),D (cC cs 2),D (cC cs 3)]))):T B H (ab P 565 #[.slice q l c] K):=by
 subst hl;apply an (LH _ _ _);refine Sa.go λaa=>Sa.go λaj=>?_;refine af (H':=cl aj (il λ_=>0)::cl aa (il λ_=>0)::H) ?_;refine cF cs.length (by omega) (λk Y=>Y=cl aj (il λj=>(cC (cs.take k) j:Int))::cl aa (il λ_=>0)::H) (by simp[cC]) ?_;rintro k Y R o rfl m;have p:Rd B (cl aj (il λj=>(cC (cs.take k) j:Int))::cl aa (il λ_=>0)::H) q (cs.flatMap dc):=⟨hr.rd.tail.tail⟩;refine S2.go (λn=>?_) λn=>?_
 ·have a:k<cs.length:=by omega
  have d:cs[k]?=some cs[k]:=ba a;have hz:=i cs[k] (dz a);generalize cs[k]=z at d hz;refine dO h6 (by omega) k rfl a d (Sa.go λr=>Sc.go ⟨rfl,rfl⟩ (a1 rfl ?_));unfold aJ;refine DP (by omega) (J.go (bk rfl (a1 rfl (bj (by omega) ?_))));rw[aQ,a7,bJ];refine a1 (DH (by omega)) (bj (by omega) ?_);have s:cC (cs.take k) z.ph<=k:=jL mn (by rw[ff];omega);rw[bd (by omega)];apply eB (by simp;omega) rfl;rw[zv (by omega)]
  have e:(up (λj=>(cC (cs.take k) j:Int)) z.ph ((cC (cs.take k) z.ph:Int)+1))=λj=>(cC (cs.take (k+1)) j:Int):=by
   funext j;unfold Go.bn.up;have e:cC (cs.take (k+1)) j=cC (cs.take k) j+if z.ph==j then 1 else 0:=by unfold cC;rw[dQ d,rY,rZ]
   by_cases f:j=z.ph
   ·subst f;rw[ah rfl,e,ah (by simp)];omega
   ·rw[ak f,e,ak (by simpa using λh=>f h.symm)];rfl
  rw[e];exact af (m a _ rfl)
 ·have hl:k=cs.length:=by omega
  subst hl;rw[gA];refine bI (b:=aj) (cs:=il λj=>(cC cs j:Int)) rfl (hj rfl rfl ?_ ?_)
  ·intro v g;simp at g;rcases g with rfl|rfl|rfl|rfl<;>rfl
  exact bI (b:=aa) (cs:=il λj=>(cC cs j:Int)) rfl (af I)
def Kw[hr:Rd B H q (cs.flatMap dc)][hw:Rd B H q' (iv .i64 ws)](hl:l=cs.length)(hlen:l<1000000)(w:ws.length<1000000)(U:∀(i:Nat) c,cs[i]?=some c->lW c=true/\(ws.countP (·==(i:Int))=if c.ph=2 then 1 else 0))(f:∀i∈ws,0<=i/\i<(cs.length:Int))(I:T B H (K (.bool true))):T B H (ab P 558 #[.slice q l c,.slice q' ws.length c'] K):=by
 subst hl;obtain⟨n,o⟩:=aaC (λi c hc=>(U i c hc).2) f
 have g:∀z∈cs,lW z=true:=λz hz=>by obtain⟨i,hi⟩:=CL hz;exact(U i z hi).1
 have p:∀z∈cs,z.ph<=3:=λz hz=>by
  have:=g z hz;unfold lW at this;simp only[b9,bz]at this;have:=this.2;split at this
  ·omega
  ·have:=r8 this;omega
 apply an (LK _ _ _ _ _ _);refine dV (α:=Unit) (λ_=>H) (λ_=>[]) (λx body=>?_) λ_=>?_
 ·unfold aJ
  refine Ze (by kernel_rfl) rfl hlen (λz hz y h=>Kx (g z hz) h) (J.go (aD rfl ?_));unfold bH;exact DN rfl hlen p (J.go (bj (by omega) (zn rfl (aD (by simp[o]) (body ())))))
 ·refine J.go (Sa.go λr=>iQ (λ_:Unit=>Value.agg #[]) (cF ws.length (by omega) (λk Y=>Y=MP (λ_:Unit=>Value.agg #[]) r (nX (ws.take k))::H) rfl ?_))
  rintro k Y R A rfl s;repeat' first|apply J.go|refine S2.go (λ_=>?_) λ_=>?_|done
  ·have a:k<ws.length:=by omega
   have b:ws[k]?=some ws[k]:=ba a;have t:=f ws[k] (dz a);generalize C:ws[k]=v at b t;have d:cs[v.toNat]?=some (cs[v.toNat]'(by omega)):=ba _;have j:=(U _ _ d).2
   have m:(cs[v.toNat]'(by omega)).ph=2:=by refine tE λu=>?_;rw[ak u,vM]at j;have:=j v (cz b);simp at this;omega
   generalize(cs[v.toNat]'(by omega))=z at d m;apply e1 k rfl a b;apply aD (by simp;omega);apply aD (by simp;omega);refine eA v.toNat (by omega) (by omega) (dW h6 cs _ z d 0 (by omega)) (aD (by simp[m]) (J.go ?_));rw[<-Hm,<-dQ b];exact af (s a _ rfl)
  ·have hl:k=ws.length:=by omega
   subst hl;rw[gA]at*;have e:=(YE ws).2.2 n;rw[e];rw[show((ws.length:Int)==(ws.length:Int))=true from by simp];exact af I
def DO[hr:Rd B H q (cs.flatMap dc)](hl:l=cs.length)(hlen:l<1000000)(I:∀r,T B (MP D r (i1 cs)::H) (K (.map (some r)))):T B H (ab P 569 #[.slice q l c] K):=by
 subst hl;refine an (LM _ _ _) (Sa.go λr=>iQ D (cF cs.length (by omega) (λk Y=>Y=MP D r (i1 (cs.take k))::H) rfl ?_));rintro k Y R g rfl d;refine S2.go (λf=>?_) λf=>?_
 ·have a:k<cs.length:=by omega
  have b:cs[k]?=some cs[k]:=ba a;generalize cs[k]=z at b;refine dO h6 (by omega) k rfl a b (Sa.go λh=>Sc.go ⟨rfl,rfl⟩ ?_);have e:i1 (cs.take (k+1))=uw (i1 (cs.take k)) z:=by rw[dQ b,En]
  unfold uw at e;refine a1 rfl (S2.go (λhz=>?_) λhz=>?_)
  ·rw[ah (by omega)]at e
   apply a1 rfl;have i:=(wQ (cs.take k)).2.1 z.own (by omega);have j:(cs.take k).countP (λc=>c.own==z.own)<=k:=jL mn (by rw[ff];omega);refine J.go (J.go ?_);rw[bd (by omega)];apply J.go;rw[<-e];exact af (d a _ rfl)
  ·rw[ak (by omega)]at e
   rw[<-e];exact af (d a _ rfl)
 ·have hl:k=cs.length:=by omega
  subst hl;rw[gA];exact I r
def Ku[hr:Rd B H q (cs.flatMap dc)](hl:l=cs.length)(hlen:l<1000000)(a:1<=n)(I:T B H (K (D (cs.countP (λc=>c.own==n):Nat)))):T B H (ab P 559 #[.slice q l c,D n] K):=by apply an (LG _ _ _ _);unfold sw;refine DO hl hlen λr=>J.go (J.go ?_);rw[(wQ cs).2.1 n (by omega)];exact J.go (af I)
def Kv[hr:Rd B H q (cs.flatMap dc)](hl:l=cs.length)(hlen:l<1000000)(I:∀p c' (ys:aO),(∀y∈ys,0<y/\∃z∈cs,z.own=y)->ys.length<=cs.length->T B (ai 1 p ys.length c' (iv .i64 ys)::H) (K (.slice p ys.length c'))):T B H (ab P 563 #[.slice q l c] K):=by apply an (LJ _ _ _);unfold sw;refine DO hl hlen λr=>J.go ?_;unfold bX;have a:=Tq cs;refine Sx.go (by omega) λx=>J.go ?_;have:=I x.1 x.2 (bb (i1 cs)) (wQ cs).2.2 (by simpa using a);rw[show(bb (i1 cs)).length=(i1 cs).length from by simp]at this;exact af this
end
end
section
open Go.XS Go.bn
def BW(m:ML Int)(t:Tk):ML Int:=bE t.aM ((aS m t.aM).getD 0+t.count) m
def mc(ts:List Tk):ML Int:=ts.foldl BW []
def HQ(ts:List Tk)(t:Tk):mc (ts++[t])=BW (mc ts) t:=by unfold mc;rw[vQ];rfl
def HO(ts:List Tk):bS (mc ts)/\∀k,(aS (mc ts) k).getD 0=((ts.filter λt=>t.aM==k).map (·.count)).sum:=by
 generalize a:ts.length=n
 induction n generalizing ts with
 |zero=>obtain rfl:=kF.1 a;exact⟨by simp[bS,bb,eu,mc],λk=>by simp[mc,aS]⟩
 |succ n c=>
  obtain⟨init,z,rfl⟩:∃init z,ts=init++[z]:=⟨ts.dropLast,ts.getLast (by intro h;subst h;simp at a),(tG _).symm⟩;obtain⟨U,b⟩:=c init (by simp at a;exact a);rw[HQ];unfold BW;refine⟨fA U,λk=>?_⟩;rw[gR U,mo,e6,vW];by_cases e:k=z.aM
  ·subst e;rw[ah rfl,b,mr (by simp)];simp
  ·rw[ak e,b,mq (by simpa using λh=>e h.symm)];simp
section
variable {B:Heap}{H H0:au}{K:aK}{s:Setup}{x:kd}{X:qP}{n:Int}{q:aw}{l c:Nat}
def Zn[U:Rd B H X.p1 (x.cs.flatMap dc)][a:Rd B H X.p2 (iv .i64 x.w)](hs:ik s x)(I:T B H (K (.bool false))):T B H (ab P 553 #[.agg (cx s),.agg (b' x X)] K):=by apply an (Ro _ _);have n1:=hs.n1;have n2:=hs.n2;have c1:=hs.c1;refine Sa.go λaa=>Sa.go λaj=>bW rfl (a1 rfl (aD (by simp[c1]) (bW rfl (bW rfl ?_))));unfold aJ;exact Kw rfl (by omega) (by omega) hs.ch hs.w (J.go (af I))
def Zo{m:Mem}{k:Nat}[hc:bY B H k #[D n]](I:T B H (K (.bool (m.1==n)))):T B H (ab P 570 #[.agg (fj m).toArray,pz k] K):=by refine an (Rq _ _) (Sa.go λaa=>a1 rfl ?_);unfold cw;apply J.go;rw[aQ];exact a1 rfl (af I)
def Hz[e:Rd B H X.p3 (aW x.ms)](hl:x.ms.length<=1000)(hm:∃m∈x.ms,m.1=n)(I:∀a,T B H (K (.pointer (some a)))):T B H (ab P 561 #[.agg (b' x X),D n] K):=by
 obtain⟨m,hm,b⟩:=hm;refine an (Rp _ _) (Sa.go λaa=>Sa.go λaj=>bW rfl ?_);unfold aU;refine tm (ms:=x.ms) (f:=λm=>m.1==n) (by kernel_rfl) rfl (by omega) (λm hm g h=>?_) ?_
 ·exact Zo h
 have hi:=xj (p:=λm:Mem=>m.1==n) hm (by simp[b])
 have c:cJ (λm:Mem=>m.1==n) x.ms<x.ms.length:=by
  unfold cJ
  cases h:x.ms.findIdx? (λm:Mem=>m.1==n)with
  |none=>simp only;omega
  |some i=>have:=(yY.1 h).1;simp only;omega
 generalize cJ (λm:Mem=>m.1==n) x.ms=i at hi c;apply J.go;apply aD (by simp;omega);apply bW rfl
 have d:0<(aW x.ms).length:=by have:=List.length_pos_of_mem hm;rw[show(aW x.ms).length=x.ms.length*4 from dr eP x.ms];omega
 exact nw Rd.rd d λa ha=>bj (by omega) (af (I _))
def Zq{k:Nat}[hc:bY B H k (b' x X)][b:Rd B H X.p3 (aW x.ms)](hl:x.ms.length<=1000)(c:-9223372036854775808<=n-1/\n<=9223372036854775807)(hm:∃m∈x.ms,m.1=n-1)(I:T B H (K (.bool false))):T B H (ab P 560 #[D n,pz k] K):=by apply an (Rs _ _);unfold jX;apply J.go;rw[aQ];refine bI rfl ?_;rw[bd (by omega)];unfold dq;exact Hz hl hm λa=>J.go I
def Zp[U:Rd B H X.p1 (x.cs.flatMap dc)][A:Rd B H X.p3 (aW x.ms)](hs:ik s x)(I:T B H (K (.bool false))):T B H (ab P 554 #[.agg (cx s),.agg (b' x X)] K):=by
 apply an (Rr _ _);have n1:=hs.n1;have n3:=hs.n3;refine Sa.go λaa=>Sa.go λaj=>bW rfl ?_
 refine mC (λm la i Y=>∃k:Nat,i=(k:Int)/\m+k=x.ms.length/\(∀j v,k<=j->x.ms[j]?=some v->la<v.1)/\Y=cl aj (b' x X)::cl aa (cx s)::H) x.ms.length
  ⟨0,rfl,by omega,λj v _ b=>by have:=(hs.me v (cz b)).1;omega,rfl⟩ ?_
 rintro m la i Y R ⟨k,rfl,C,l,rfl⟩ n;refine S2.go (λa=>?_) λa=>?_
 ·have a:k<x.ms.length:=by omega
  have c:x.ms[k]?=some x.ms[k]:=ba a;obtain⟨q,dJ,d,h5⟩:=hs.me x.ms[k] (dz a)
  have f:∀j v,k+1<=j->x.ms[j]?=some v->x.ms[k].1<v.1:=λj v D b=>by obtain⟨r,e⟩:=b0.1 b;have:=kJ.1 hs.Gg k j (by simpa using a) (by simpa using r) (by omega);simp only[tL]at this;rw[e]at this;exact this
  have t:=l k _ (d' _) c;generalize x.ms[k]=v at c q dJ d h5 f t;refine dO eP (by omega) k rfl a c (Sa.go λg=>Sc.go ⟨rfl,rfl⟩ (a1 rfl ?_));apply aD (by simp;omega);apply a1 rfl;apply aD (by simp;omega);apply wv;unfold aJ;apply sh (by simp only[bZ,bz]at d;exact⟨by unfold aF;omega,by unfold aF;omega,by unfold aF;omega⟩);rw[d];refine J.go (aD rfl (bW rfl (a1 rfl (a1 rfl ?_))));rw[bd (by omega)];unfold aU;apply Ku rfl (by omega) (by omega);rw[h5];refine J.go (fF (λσ o=>(inferInstance:bY B (cl g (fj v).toArray::cl aj (b' x X)::cl aa (cx s)::H) g (fj v).toArray).cell o 2) (aD (by simp) (a1 rfl ?_)));rw[bd (by omega)];exact af (n (m-1) _ _ _ (by omega) ⟨k+1,by omega,by omega,f,rfl⟩)
 ·apply bW rfl
  unfold bX;refine Kv rfl (by omega) λp c' ys u E=>J.go ?_;unfold aJ;refine Zf (by kernel_rfl) rfl (by omega) (λy w F h=>?_) ?_
  ·obtain⟨G,z,hz,L⟩:=u y w
   obtain⟨m,hm,M⟩:=hs.own z hz (by omega);have N:=hs.me m hm;exact Zq n3 (by omega) ⟨m,hm,by omega⟩ h
  ·exact J.go (af I)
def Zs{m:Mem}{k r:Nat}{a:ML Int}[hc:bY B H k #[.map (some r)]][b:Ow H (MP D r) a H0](c:(aS a m.1).getD 0=m.2.cf)(I:T B (MP D r a::H0) (K (.bool false))):T B H (ab P 564 #[.agg (fj m).toArray,pz k] K):=by refine an (Ru _ _) (Sa.go λaa=>?_);unfold cW;apply J.go;rw[aQ];refine pJ rfl (a1 rfl (bh (lH.tail b.pl) (J.go ?_)));rw[c];refine J.go (a1 rfl ?_);rw[show(m.2.cf !=m.2.cf)=false from by simp];exact af I
def Zr[U:Rd B H X.p4 (x.ts.flatMap aE)][G:Rd B H X.p3 (aW x.ms)](hs:ik s x)(I:T B H (K (.bool false))):T B H (ab P 555 #[.agg (cx s),.agg (b' x X)] K):=by
 apply an (Rt _ _);have n3:=hs.n3;have n4:=hs.n4
 have d:∀t∈x.ts,0<=t.count/\t.count<=1048576/\0<t.id:=λt g=>by have:=(hs.yq t g).1;unfold right at this;simp only[bz]at this;omega
 refine Sa.go λaa=>Sa.go λaj=>Sa.go λr=>?_;refine iQ (r:=r) D ?_;refine Sa.go λn=>?_;apply J.go;apply bW (b:=aj) (cs:=b' x X) rfl;refine af (H':=MP D r []::cl n #[.map (some r)]::cl aj (b' x X)::cl aa (cx s)::H) ?_
 refine mC (λm la i Y=>∃k:Nat,i=(k:Int)/\m+k=x.ts.length/\(∀j v,k<=j->x.ts[j]?=some v->la<v.id)/\Y=MP D r (mc (x.ts.take k))::cl n #[.map (some r)]::cl aj (b' x X)::cl aa (cx s)::H) x.ts.length
  ⟨0,rfl,by omega,λj v _ o=>(d v (cz o)).2.2,rfl⟩ ?_
 rintro m la i Y R ⟨k,rfl,L,w,rfl⟩ y;refine S2.go (λc=>?_) λc=>?_
 ·have c:k<x.ts.length:=by omega
  have l:x.ts[k]?=some x.ts[k]:=ba c;obtain⟨p,dJ,q⟩:=hs.yq x.ts[k] (dz c);have z:=d x.ts[k] (dz c)
  have u:∀j v,k+1<=j->x.ts[j]?=some v->x.ts[k].id<v.id:=λj v M o=>by obtain⟨A,e⟩:=b0.1 o;have:=kJ.1 hs.HW k j (by simpa using c) (by simpa using A) (by omega);simp only[tL]at this;rw[e]at this;exact this
  have C:=w k _ (d' _) l;generalize x.ts[k]=v at l p dJ q u C z;refine dO (f:=aE) (rs:=x.ts) ep (by omega) k rfl c l (Sa.go λE=>Sc.go ⟨rfl,rfl⟩ (dV (α:=Unit) (λ_=>cl E (aE v).toArray::MP D r (mc (x.ts.take k))::cl n #[.map (some r)]::cl aj (b' x X)::cl aa (cx s)::H) (λ_=>[]) (λN body=>?_) λ_=>?_))
  ·refine bI rfl ?_
   unfold aJ;apply B4;rw[p];refine J.go (aD rfl (a1 rfl (aD (by simp[dJ]) (a1 rfl ?_))));apply aD (by simp;omega);refine bI rfl (a1 rfl ?_);unfold dq;exact Hz n3 q λa=>J.go (aD rfl (body ()))
  ·refine J.go (a1 rfl (pJ rfl (a1 rfl (J.go (J.go (a1 rfl ?_))))))
   have F:=HR (f:=λt=>t.aM==v.aM) (k:=k) (λt g=>⟨(d t g).1,(d t g).2.1⟩) (by omega);rw[<-(HO (x.ts.take k)).2]at F;rw[bd (by omega)];apply J.go;rw[bd (by omega)];have e:bE v.aM ((aS (mc (x.ts.take k)) v.aM).getD 0+v.count) (mc (x.ts.take k))=mc (x.ts.take (k+1)):=by rw[dQ l,HQ];rfl
   rw[e];exact af (y (m-1) _ _ _ (by omega) ⟨k+1,by omega,by omega,u,rfl⟩)
 ·have hl:k=x.ts.length:=by omega
  subst hl;rw[gA];apply bW rfl;unfold aJ;refine Zg (by kernel_rfl) rfl (by omega) (λm hm O h=>?_) ?_
  ·exact Zs (by rw[(HO x.ts).2];exact hs.ux m hm) h
  ·exact J.go (af I)
def Zu[U:Rd B (ai 4 X.p3 x.ms.length X.c3 (aW x.ms)::H) X.p1 (x.cs.flatMap dc)](hs:ik s x)(I:T B (ai 4 X.p3 x.ms.length X.c3 (aW x.ms)::H) (K (.bool false))):T B (ai 4 X.p3 x.ms.length X.c3 (aW x.ms)::H) (ab P 556 #[.agg (cx s),.agg (b' x X)] K):=by
 apply an (Rw _ _);have n1:=hs.n1;have hm:∀p,cC x.cs p<=x.cs.length:=λp=>mn;have m0:=hm 0;have m2:=hm 2;have m3:=hm 3
 have a:∀z∈x.cs,z.ph<=3:=λz hz=>by
  obtain⟨i,hi⟩:=CL hz;have:=(hs.ch i z hi).1;unfold lW at this;simp only[b9,bz]at this;have:=this.2;split at this
  ·omega
  ·have:=r8 this;omega
 refine Sa.go λaa=>Sa.go λaj=>bW rfl ?_;unfold bH;refine DN rfl (by omega) a (J.go (Sa.go λb=>Sc.go ⟨rfl,rfl⟩ (bj (by omega) (a1 rfl (bj (by omega) (a1 rfl (bj (by omega) (a1 rfl ?_))))))));rw[kC (n:=(cC x.cs 0:Int)+cC x.cs 2) (by omega) (by omega),bd (by omega)];apply bW rfl;unfold aJ;refine bL (GH (λm hm=>(hs.me m hm).2.2.1) hs.n3 ?_);rw[hs.safe];exact J.go (af I)
def Da(x:kd)(m:ML Int)(k:Nat):Prop:=bS m/\∀g o,aS m g=some o->∃j u,j<k/\x.ls[j]?=some u/\u.bT=g/\lY x.cs u.chunk=o
def Zt[U:Rd B H X.p1 (x.cs.flatMap dc)][am:Rd B H X.p5 (x.ls.flatMap c6)](hs:ik s x)(ao:x.ls.length<=X.pS)(I:T B H (K (.bool false))):T B H (ab P 557 #[.agg (cx s),.agg (b' x X)] K):=by
 apply an (Rv _ _);have hz:=hs.pz;have n1:=hs.n1;have rz:=hs.rz;refine Sa.go λaa=>Sa.go λaj=>Sa.go λr=>iQ D (bW rfl (DA x.ls.length (by omega) (λk b Y=>b=false/\∃m,Da x m k/\Y=MP D r m::cl aj (b' x X)::cl aa (cx s)::H) ⟨rfl,[],⟨by simp[bS,bb,eu],λg o h=>by simp[aS]at h⟩,rfl⟩ ?_));rintro k b Y R ap ⟨rfl,m,q,rfl⟩ Q;refine S2.go (λd=>?_) λd=>?_
 ·have d:k<x.ls.length:=by omega
  have w:x.ls[k]?=some x.ls[k]:=ba d;have hm:=dz d;generalize E:x.ls[k]=v at w hm;obtain⟨aq,dJ,ar,h5,c,hc,S,V⟩:=hs.pc v hm;have W:v.chunk.toNat<x.cs.length:=(b0.1 hc).1;have F:lY x.cs v.chunk=c.own:=by unfold lY;rw[ei,hc];rfl
  apply dO (f:=c6) (rs:=x.ls) uI (by omega) k rfl d w;refine Sa.go λi=>Sc.go ⟨rfl,rfl⟩ ?_;refine dV (α:=Unit) (λ_=>cl i (c6 v).toArray::MP D r m::cl aj (b' x X)::cl aa (cx s)::H) (λ_=>[.bool false]) (λG body=>?_) λ_=>?_
  ·apply a1 rfl
   apply aD (by simp;omega);refine a1 rfl (bW rfl ?_);apply aD (by simp;omega);apply a1 rfl;apply aD (by simp;omega);apply a1 rfl;apply aD (by simp;omega);refine a1 rfl (a1 rfl ?_);apply aD (by simp;omega);refine a1 rfl (a1 rfl (a1 rfl ?_));rw[bd (by omega)];apply aD (by simp;omega);exact body ()
  ·refine J.go (bW rfl (a1 rfl (dO (f:=dc) (rs:=x.cs) h6 (by omega) v.chunk.toNat (by omega) W hc (Sa.go λy=>Sc.go ⟨rfl,rfl⟩ (a1 rfl (J.go (J.go (dV (α:=Unit) (λ_=>cl y (dc c).toArray::cl i (c6 v).toArray::MP D r m::cl aj (b' x X)::cl aa (cx s)::H) (λ_=>[.bool false]) (λG body=>?_) λ_=>?_))))))))
   ·have body:T B (MP D r m::cl y (dc c).toArray::cl i (c6 v).toArray::cl aj (b' x X)::cl aa (cx s)::H) (G [.bool false]):=af (body ())
    refine a1 rfl (aD (by simp[S]) (a1 rfl (a1 rfl (aD (by simp[V]) ?_))))
    cases Z:aS m v.bT with
    |none=>exact aD rfl body
    |some o=>refine bk rfl (a1 rfl ?_);obtain⟨j,u,z,hu,A,C⟩:=q.2 _ _ Z;obtain⟨ac,ad⟩:=b0.1 hu;have l:=kJ.1 hs.pp j k ac d z;rw[E,ad]at l;have:=l.2 A;apply aD (by simp only[fC];rw[<-C,this,F];simp);exact body
   ·apply J.go
    apply a1 (b:=i) (cs:=(c6 v).toArray) (n:=v.bT) rfl;apply a1 (b:=y) (cs:=(dc c).toArray) (n:=c.own) rfl;apply J.go
    have ae:Da x (bE v.bT c.own m) (k+1):=⟨fA q.1,λg o p=>by
     rw[gR q.1]at p;by_cases e:g=v.bT
     ·subst e
      rw[ah rfl]at p;cases p;exact⟨k,v,by omega,w,rfl,F⟩
     ·rw[ak e]at p
      obtain⟨j,u,z,hu,A,C⟩:=q.2 _ _ p;exact⟨j,u,by omega,hu,A,C⟩⟩
    refine bW rfl (bj (by omega) (af (H':=MP D r (bE v.bT c.own m)::cl i (c6 v).toArray::cl aj (b' x X)::cl aa (cx s)::H) (DA k (by omega) (λj b Y=>b=false/\Y=MP D r (bE v.bT c.own m)::cl i (c6 v).toArray::cl aj (b' x X)::cl aa (cx s)::H) ⟨rfl,rfl⟩ ?_)));rintro j b Y ag z ⟨rfl,rfl⟩ ai;refine S2.go (λt=>?_) λt=>?_
    ·have t:j<k:=by omega
     have L:x.ls[j]?=some x.ls[j]:=ba (by omega);have M:x.ls[j]∈x.ls:=dz (by omega);have l:=kJ.1 hs.pp j k (by omega) d t;rw[E]at l;generalize x.ls[j]=u at L M l;obtain⟨d1,d2,d3,d4,c',eN,au,av⟩:=hs.pc u M;show T B _ (de (dh X.p5 5 0 X.pS) (Int.toNat (k:Int)-0) (j:Int) 5 5 _);rw[lf];refine dO (f:=c6) (rs:=x.ls) uI (by omega) j rfl (by omega) L (Sa.go λal=>Sc.go ⟨rfl,rfl⟩ ?_);have N:T B (cl al (c6 u).toArray::MP D r (bE v.bT c.own m)::cl i (c6 v).toArray::cl aj (b' x X)::cl aa (cx s)::H) (ag [.bool false,D (IntKind.wrap .i64 ((j:Int)+1))]):=af (ai t _ _ ⟨rfl,rfl⟩);refine a1 rfl (a1 rfl (S2.go (λO=>?_) λO=>?_))
     ·refine a1 rfl (a1 rfl (a1 rfl (a1 rfl ?_)))
      unfold aJ;refine BR (a:=u.sp) (b:=v.sp) ⟨by unfold aF;simp only;omega,by unfold aF;simp only;omega⟩ ⟨by unfold aF;simp only;omega,by unfold aF;simp only;omega⟩ ?_;rw[l.1 (by simpa using O)];exact J.go (aD rfl N)
     ·exact N
    ·exact af (Q d _ _ ⟨rfl,_,ae,rfl⟩)
 ·exact af I
def Zm(hs:ik s x)(I:T B (iG x X H) (K (D 0))):T B (iG x X H) (ab P 551 #[.agg (cx s),.agg (b' x X)] K):=by
 refine an (Rn _ _) (aN (ai 5 X.p5 x.ls.length X.pS) (A7 λg=>?_));refine af (H':=iG x X H) ?_;refine Sa.go λaa=>Sa.go λaj=>?_;unfold bX;apply an (Rx);iterate 5 refine bj rfl ?_
 refine Sa.go λf=>J.go (cF 5 (by omega) (λk Y=>Y=cl f #[Value.func (Fn.func 553) #[] #[],Value.func (Fn.func 554) #[] #[],Value.func (Fn.func 555) #[] #[],Value.func (Fn.func 556) #[] #[],Value.func (Fn.func 557) #[] #[]]::cl aj (b' x X)::cl aa (cx s)::iG x X H) rfl ?_);rintro k Y R l rfl c;have m:∀{a:Nat} {v:Value},k<5->T B (cl a #[v]::cl f #[Value.func (Fn.func 553) #[] #[],Value.func (Fn.func 554) #[] #[],Value.func (Fn.func 555) #[] #[],Value.func (Fn.func 556) #[] #[],Value.func (Fn.func 557) #[] #[]]::cl aj (b' x X)::cl aa (cx s)::iG x X H) (R [D (IntKind.wrap .i64 ((k:Int)+1))]):=λh=>af (c h _ rfl);by_cases i:k=5
 ·subst i
  exact aD (by decide) (af I)
 have d:k<5:=by omega
 obtain rfl|rfl|rfl|rfl|rfl:k=0\/k=1\/k=2\/k=3\/k=4:=by omega
 ·apply bk (by decide)
  unfold sM;refine J.go (bj (by omega) ?_);refine iS #[Value.func (Fn.func 553) #[] #[]] rfl (λj e=>by obtain rfl:j=0:=(by omega);rfl) ?_;refine Sa.go λa=>Sc.go ⟨rfl,rfl⟩ ?_;apply hM (b:=a) (v:=Value.func (Fn.func 553) #[] #[]) rfl;refine bI (b:=aa) (cs:=cx s) rfl ?_;refine bI (b:=aj) (cs:=b' x X) rfl ?_;apply nz (by kernel_rfl);apply Zn (x:=x) (X:=X) hs;apply J.go;apply aD rfl;exact af (c d _ rfl)
 ·apply bk (by decide)
  unfold sM;refine J.go (bj (by omega) ?_);refine iS #[Value.func (Fn.func 554) #[] #[]] rfl (λj e=>by obtain rfl:j=0:=(by omega);rfl) ?_;refine Sa.go λa=>Sc.go ⟨rfl,rfl⟩ ?_;apply hM (b:=a) (v:=Value.func (Fn.func 554) #[] #[]) rfl;refine bI (b:=aa) (cs:=cx s) rfl ?_;refine bI (b:=aj) (cs:=b' x X) rfl ?_;apply nz (by kernel_rfl);apply Zp (x:=x) (X:=X) hs;apply J.go;apply aD rfl;exact af (c d _ rfl)
 ·apply bk (by decide)
  unfold sM;refine J.go (bj (by omega) ?_);refine iS #[Value.func (Fn.func 555) #[] #[]] rfl (λj e=>by obtain rfl:j=0:=(by omega);rfl) ?_;refine Sa.go λa=>Sc.go ⟨rfl,rfl⟩ ?_;apply hM (b:=a) (v:=Value.func (Fn.func 555) #[] #[]) rfl;refine bI (b:=aa) (cs:=cx s) rfl ?_;refine bI (b:=aj) (cs:=b' x X) rfl ?_;apply nz (by kernel_rfl);apply Zr (x:=x) (X:=X) hs;apply J.go;apply aD rfl;exact af (c d _ rfl)
 ·apply bk (by decide)
  unfold sM;refine J.go (bj (by omega) ?_);refine iS #[Value.func (Fn.func 556) #[] #[]] rfl (λj e=>by obtain rfl:j=0:=(by omega);rfl) ?_;refine Sa.go λa=>Sc.go ⟨rfl,rfl⟩ ?_;apply hM (b:=a) (v:=Value.func (Fn.func 556) #[] #[]) rfl;refine bI (b:=aa) (cs:=cx s) rfl ?_;refine bI (b:=aj) (cs:=b' x X) rfl ?_;apply nz (by kernel_rfl);refine aN (ai 4 X.p3 x.ms.length X.c3) (Zu (x:=x) (X:=X) hs ?_);exact J.go (aD rfl (af (c d _ rfl)))
 ·apply bk (by decide)
  unfold sM;refine J.go (bj (by omega) ?_);refine iS #[Value.func (Fn.func 557) #[] #[]] rfl (λj e=>by obtain rfl:j=0:=(by omega);rfl) ?_;refine Sa.go λa=>Sc.go ⟨rfl,rfl⟩ ?_;apply hM (b:=a) (v:=Value.func (Fn.func 557) #[] #[]) rfl;refine bI (b:=aa) (cs:=cx s) rfl ?_;refine bI (b:=aj) (cs:=b' x X) rfl ?_;apply nz (by kernel_rfl);apply Zt (x:=x) (X:=X) hs g;apply J.go;apply aD rfl;exact af (c d _ rfl)
end
end
section
open Go.XS Go.bn
def gX(ts:List Tk)(ms:List Mem)(f w:Int):b4:=b4.ct ⟨[],ts,ms,f⟩ (h9 f w ts ms).toNat
section
variable {B:Heap}{H H0:au}{K:aK}{b:Nat}{R:b4}{w:Int}{ts:List Tk}{ms:List Mem}{q:aw}{l c:Nat}
def UC{f:Int}{p0 p1:aw}{c0 c1 n:Nat}(d:b4.Fit ⟨[],ts,ms,f⟩ n)(l:¬h9 f w ts ms<0)(I:∀x:qO,T B (ai 5 x.pl (gX ts ms f w).ls.length x.cl ((gX ts ms f w).ls.flatMap aE)::ai 4 x.pm (gX ts ms f w).ms.length x.cm (aW (gX ts ms f w).ms)::ai 5 p0 ts.length c0 (ts.flatMap aE)::ai 4 p1 ms.length c1 (aW ms)::H) (K (.tuple #[.agg #[.slice x.pg (gX ts ms f w).gs.length x.cv,.slice x.pl (gX ts ms f w).ls.length x.cl,.slice x.pm (gX ts ms f w).ms.length x.cm,D (gX ts ms f w).free],.bool true]))):T B (ai 5 p0 ts.length c0 (ts.flatMap aE)::ai 4 p1 ms.length c1 (aW ms)::H) (ab P 584 #[.slice p0 ts.length c0,D f,D w,.slice p1 ms.length c1] K):=by
 have U:=d.many;have Q:=d.n2;have A:=d.ms;simp only[gH]at U A;apply an (Nf _ _ _ _ _ _ _ _);refine Sa.go λaa=>Sa.go λaj=>?_;refine af (H':=ai 5 p0 ts.length c0 (ts.flatMap aE)::ai 4 p1 ms.length c1 (aW ms)::cl aj #[.bool false]::cl aa #[.slice none 0 0,.slice none 0 0,.slice none 0 0,D 0]::H) ?_;unfold bH;refine Fg (by omega) (by omega) λa c=>J.go (Sa.go λb=>Sc.go ⟨rfl,rfl⟩ (Sa.go λy=>?_));obtain⟨g,j⟩:=y;refine pK (by kernel_rfl) λro rr lp C=>dR 5 (af (H':=cl b #[.slice none 0 0,.slice (some ⟨a,0,none⟩) ts.length ts.length,.slice (some ⟨c,0,none⟩) ms.length ms.length,D f]::ai 5 none 0 0 []::ai 5 (some ⟨a,0,none⟩) ts.length ts.length (ts.flatMap aE)::ai 4 (some ⟨c,0,none⟩) ms.length ms.length (aW ms)::(lo lp ro .ready none::ob rr (.deferred (some []))::cl g #[pz b]::cl j #[D w]::ai 5 p0 ts.length c0 (ts.flatMap aE)::ai 4 p1 ms.length c1 (aW ms)::cl aj #[.bool false]::cl aa #[.slice none 0 0,.slice none 0 0,.slice none 0 0,D 0]::H)) ?_);generalize e:(⟨[],ts,ms,f⟩:b4)=R0 at d;have E:R0.gs=[]:=by subst e;rfl
 have k:R0.ls=ts:=by subst e;rfl
 have o:R0.ms=ms:=by subst e;rfl
 have r:R0.free=f:=by subst e;rfl
 generalize F:lo lp ro .ready none::ob rr (.deferred (some []))::cl g #[pz b]::cl j #[D w]::ai 5 p0 ts.length c0 (ts.flatMap aE)::ai 4 p1 ms.length c1 (aW ms)::cl aj #[.bool false]::cl aa #[.slice none 0 0,.slice none 0 0,.slice none 0 0,D 0]::H=G
 have L:∀{p:HP},T B (l8 b R0 ⟨none,0,some ⟨a,0,none⟩,ts.length,some ⟨c,0,none⟩,ms.length⟩ G) p->T B (cl b #[.slice none 0 0,.slice (some ⟨a,0,none⟩) ts.length ts.length,.slice (some ⟨c,0,none⟩) ms.length ms.length,D f]::ai 5 none 0 0 []::ai 5 (some ⟨a,0,none⟩) ts.length ts.length (ts.flatMap aE)::ai 4 (some ⟨c,0,none⟩) ms.length ms.length (aW ms)::G) p:=by subst e;exact λh=>h
 apply L;generalize(⟨none,0,some ⟨a,0,none⟩,ts.length,some ⟨c,0,none⟩,ms.length⟩:qO)=x0;subst F;refine an (D4 _ _ _) (uc (λm H'=>m=0/\H'=l8 b R0 x0 (lo lp ro .ready none::ob rr (.deferred (some []))::cl g #[pz b]::cl j #[D w]::ai 5 p0 ts.length c0 (ts.flatMap aE)::ai 4 p1 ms.length c1 (aW ms)::cl aj #[.bool false]::cl aa #[.slice none 0 0,.slice none 0 0,.slice none 0 0,D 0]::H)) 0 ⟨rfl,rfl⟩ ?_);rintro m H' R ⟨rfl,rfl⟩ M;clear M;repeat apply J.go
 refine af (H':=ai 5 x0.pl R0.ls.length x0.cl (R0.ls.flatMap aE)::ai 4 x0.pm R0.ms.length x0.cm (aW R0.ms)::cl b #[.slice x0.pg R0.gs.length x0.cv,.slice x0.pl R0.ls.length x0.cl,.slice x0.pm R0.ms.length x0.cm,D R0.free]::ai 5 x0.pg R0.gs.length x0.cv (R0.gs.flatMap aE)::lo lp ro .ready none::ob rr (.deferred (some []))::cl g #[pz b]::cl j #[D w]::ai 5 p0 ts.length c0 (ts.flatMap aE)::ai 4 p1 ms.length c1 (aW ms)::cl aj #[.bool false]::cl aa #[.slice none 0 0,.slice none 0 0,.slice none 0 0,D 0]::H) ?_;rw[<-k,<-o,<-r]at l;apply BN d.right d.ms (by rw[k];omega);refine J.go (aD (by simpa using l) ?_);obtain⟨i,hi,s,t⟩:=sX l;rw[hi];obtain⟨g1,g2⟩:=xa t;have N:=d.ct s t;have O:=N.free;simp only[b4.ct]at O;refine J.go (af (H':=l8 b R0 x0 (lo lp ro .ready none::ob rr (.deferred (some []))::cl g #[pz b]::cl j #[D w]::ai 5 p0 ts.length c0 (ts.flatMap aE)::ai 4 p1 ms.length c1 (aW ms)::cl aj #[.bool false]::cl aa #[.slice none 0 0,.slice none 0 0,.slice none 0 0,D 0]::H)) ?_);refine Fh s d.right g1 (by rw[k];omega) (by rw[E];show 0<10000;omega) d.ms d.u6 (by omega) λp c=>?_
 have u:gX ts ms f w=R0.ct i:=by unfold gX;rw[e];rw[k,o,r]at hi;rw[hi,a7]
 apply J.go;refine bL (q:=lo lp ro .ready none) (oI C ?_);refine J.go (oz ?_);generalize R0.ct i=R1 at u;refine bI rfl (hj rfl rfl ?_ ?_)
 ·intro v z;simp at z;rcases z with rfl|rfl|rfl|rfl<;>rfl
 refine J.go (bL (q:=lo lp ro .busy none) (Ju ?_));refine J.go (bk rfl (bL (q:=lo lp ro .done (some .ret)) (Jt (by simp) ?_)));refine bL (q:=ob rr (.deferred (some []))) (oG ?_);refine bI rfl (iT rfl ?_);have I:=I {x0 with pg:=p,cv:=c};rw[u]at I;exact af I
def Y7[hr:Rd B H q (ts.flatMap aE)](hl:l=ts.length)(hlen:l<1000000)(I:∀b c',T B (ai 5 b ts.length c' (ts.flatMap aE)::H) (K (.slice b ts.length c'))):T B H (ab P 582 #[.slice q l c] K):=by
 subst hl;apply an (Q0 _ _ _)
 cases q with
 |none=>
  apply bk rfl;by_cases hs:ts=[]
  ·subst hs
   exact dR 5 (I none 0)
  ·intro σ o
   exfalso;rcases hr.rd σ o with⟨_,h⟩|⟨a,h,_⟩
   ·have:=dr ep ts
    rw[h]at this;have d:=r1.2 hs;simp at this;omega
   ·cases h
 |some a=>apply aD rfl;refine Sa.go λaa=>?_;refine kf (l:=0) 5 rfl ?_;have e:Rd B (ai 5 (some ⟨aa,0,none⟩) 0 0 (#[]:ax).toList::H) (some a) (ts.flatMap aE):=⟨hr.rd.tail⟩;refine oy (by omega) (dr ep ts) λb c'=>?_;rw[bJ,kI];exact I b c'
instance acu{l:List Mem}:ka (l.flatMap fj).toArray:=⟨by intro v a;simp only[lC]at a;obtain⟨t,_,b⟩:=a;simp only[fj,cR,jH,ji]at b;rcases b with rfl|rfl|rfl|rfl<;>rfl⟩
def Y6[hr:Rd B H q (aW ms)](hl:l=ms.length)(hlen:l<1000000)(I:∀b c',T B (ai 4 b ms.length c' (aW ms)::H) (K (.slice b ms.length c'))):T B H (ab P 583 #[.slice q l c] K):=by
 subst hl;apply an (QY _ _ _)
 cases q with
 |none=>
  apply bk rfl;by_cases hs:ms=[]
  ·subst hs
   exact dR 4 (I none 0)
  ·intro σ o
   exfalso;rcases hr.rd σ o with⟨_,h⟩|⟨a,h,_⟩
   ·have:(aW ms).length=ms.length*4:=dr eP ms
    rw[h]at this;have d:=r1.2 hs;simp at this;omega
   ·cases h
 |some a=>apply aD rfl;refine Sa.go λaa=>?_;refine kf (l:=0) 4 rfl ?_;have e:Rd B (ai 4 (some ⟨aa,0,none⟩) 0 0 (#[]:ax).toList::H) (some a) (ms.flatMap fj):=⟨hr.rd.tail⟩;refine oy (by omega) (dr eP ms) λb c'=>?_;rw[bJ,kI];exact I b c'
end
end
section
open Go.XS Go.bn
structure Sh where
 ts:List Tk
 f:Int
 w:Int
 ms:List Mem
 gs:aO
structure fE where
 pt:aw
 dm:Nat
 pm:aw
 cm:Nat
 pg:aw
 cv:Nat
abbrev iF(s:Sh)(x:fE):aB:=[.slice x.pt s.ts.length x.dm,D s.f,D s.w,.slice x.pm s.ms.length x.cm,.slice x.pg s.gs.length x.cv]
def YU(y:Sh×fE):(iF y.1 y.2).length=5:=rfl
def qY(x:kd)(s:Setup):Int:=if 0>if s.q<(x.w.length:Int)then s.q else(x.w.length:Int)then 0 else if s.q<(x.w.length:Int)then s.q else(x.w.length:Int)
def dk(x:kd)(s:Setup):Sh:=⟨x.ts,cC x.cs 0+qY x s,x.w.length-qY x s,x.ms,[]⟩
def rf(w:Int):aO->List Tk->List Mem->Int->Bool
 |[],ts,ms,f=>decide (h9 f w ts ms<0)
 |g::gs,ts,ms,f=>!decide (h9 f w ts ms<0)&&((ts.getD (h9 f w ts ms).toNat dD).id==g)&&rf w gs (gX ts ms f w).ls (gX ts ms f w).ms (gX ts ms f w).free
def KD{x:kd}{s:Setup}:0<=qY x s/\qY x s<=x.w.length:=by unfold qY;split<;>split<;>omega
section
variable {B:Heap}{H H0:au}{K:aK}{b:Nat}{s:Setup}{x:kd}{X:qP}{S:Sh}{y:fE}
def T6(n1:x.cs.length<=1000)(n2:x.w.length<=1000)(n3:x.ms.length<=1000)(n4:x.ts.length<=1000)(I:∀y:fE,T B (ai 5 y.pt x.ts.length y.dm (x.ts.flatMap aE)::ai 4 y.pm x.ms.length y.cm (aW x.ms)::H) (K (.agg (iF (dk x s) {y with pg:=none,cv:=0}).toArray))):T B (iG x X H) (ab P 579 #[.agg (b' x X),.agg (cx s)] K):=by
 refine an (MV _ _) (Sa.go λaa=>Sa.go λaj=>Sa.go λb=>bW rfl ?_);have l:(D 0:Value)=D ((cC (x.cs.take 0) 0:Nat):Int):=by simp[cC]
 refine J2 x.cs.length (by omega) (λk n Y=>n=((cC (x.cs.take k) 0:Nat):Int)/\Y=cl b #[Value.slice none 0 0,D 0,D 0,Value.slice none 0 0,Value.slice none 0 0]::cl aj (cx s)::cl aa (b' x X)::iG x X H) ⟨by simp[cC],rfl⟩ ?_;rintro k n Y R m ⟨rfl,rfl⟩ d;have p:cC (x.cs.take k) 0<=k:=jL mn (by rw[ff];omega);refine S2.go (λa=>?_) λa=>?_
 ·have a:k<x.cs.length:=by omega
  have c:x.cs[k]?=some x.cs[k]:=ba a;generalize x.cs[k]=z at c;refine dO h6 (by omega) k rfl a c (Sa.go λr=>Sc.go ⟨rfl,rfl⟩ (a1 rfl ?_));have e:cC (x.cs.take (k+1)) 0=cC (x.cs.take k) 0+if z.ph==0 then 1 else 0:=by unfold cC;rw[dQ c,rY,rZ]
  refine S2.go (λh=>?_) λh=>?_
  ·rw[ah (by simpa using h)]at e
   rw[bd (by omega)];exact af (d a _ _ ⟨by rw[e];omega,rfl⟩)
  ·rw[ak (by simpa using h)]at e
   exact af (d a _ _ ⟨by rw[e];omega,rfl⟩)
 ·have hl:k=x.cs.length:=by omega
  subst hl;rw[gA]at*;have t:=KD (x:=x) (s:=s);refine bW rfl (a1 rfl (bW rfl (bW rfl (bW rfl ?_))));unfold bX;refine Y7 rfl (by omega) λpt dm=>J.go (fF (λσ o=>(inferInstance:bY B (ai 5 pt x.ts.length dm (x.ts.flatMap aE)::cl b #[Value.slice none 0 0,D 0,D 0,Value.slice none 0 0,Value.slice none 0 0]::cl aj (cx s)::cl aa (b' x X)::iG x X H) aa (b' x X)).cell o 3) (fF (λσ o=>(inferInstance:bY B (ai 5 pt x.ts.length dm (x.ts.flatMap aE)::cl b #[Value.slice none 0 0,D 0,D 0,Value.slice none 0 0,Value.slice none 0 0]::cl aj (cx s)::cl aa (b' x X)::iG x X H) aa (b' x X)).cell o 2) (Y6 rfl (by omega) λpm cm=>J.go (fF (λσ o=>(inferInstance:bY B (ai 4 pm x.ms.length cm (aW x.ms)::ai 5 pt x.ts.length dm (x.ts.flatMap aE)::cl b #[Value.slice none 0 0,D 0,D 0,Value.slice none 0 0,Value.slice none 0 0]::cl aj (cx s)::cl aa (b' x X)::iG x X H) aa (b' x X)).cell o 2) ?_))))
  have i:IntKind.wrap .i64 (((cC x.cs 0:Nat):Int)+if 0>if s.q<(x.w.length:Int)then s.q else(x.w.length:Int)then 0 else if s.q<(x.w.length:Int)then s.q else(x.w.length:Int))=(dk x s).f:=by show IntKind.wrap .i64 (((cC x.cs 0:Nat):Int)+qY x s)=_;rw[bd (by omega)];rfl
  have j:IntKind.wrap .i64 ((x.w.length:Int)-if 0>if s.q<(x.w.length:Int)then s.q else(x.w.length:Int)then 0 else if s.q<(x.w.length:Int)then s.q else(x.w.length:Int))=(dk x s).w:=by show IntKind.wrap .i64 ((x.w.length:Int)-qY x s)=_;rw[bd (by omega)];rfl
  rw[i,j];refine hj rfl rfl ?_ ?_
  ·intro v g;simp at g;rcases g with rfl|rfl|rfl|rfl|rfl<;>rfl
  exact bI rfl (af (I ⟨pt,dm,pm,cm,none,0⟩))
def T7{n:Nat}[l:Rd B (ai 5 y.pt S.ts.length y.dm (S.ts.flatMap aE)::ai 4 y.pm S.ms.length y.cm (aW S.ms)::H) y.pg (iv .i64 S.gs)](a:b4.Fit ⟨[],S.ts,S.ms,S.f⟩ n)(C:S.gs.length<1000)(hf:rf S.w S.gs S.ts S.ms S.f=true)(I:T B (ai 5 y.pt S.ts.length y.dm (S.ts.flatMap aE)::ai 4 y.pm S.ms.length y.cm (aW S.ms)::H) (K (.bool true))):T B (ai 5 y.pt S.ts.length y.dm (S.ts.flatMap aE)::ai 4 y.pm S.ms.length y.cm (aW S.ms)::H) (ab P 580 #[.agg (iF S y).toArray] K):=by
 refine an (MW _) (Sa.go λaa=>bW rfl (a1 rfl (bW rfl (bW rfl ?_))));generalize m:ai 5 y.pt S.ts.length y.dm (S.ts.flatMap aE)::ai 4 y.pm S.ms.length y.cm (aW S.ms)::H=u at l I
 refine J3 S.gs.length (by omega) (λk pt lt dm f pm lm cm Y=>∃ts ms Z,lt=ts.length/\lm=ms.length/\b4.Fit ⟨[],ts,ms,f⟩ n/\rf S.w (S.gs.drop k) ts ms f=true/\(∀p:HP,T B u p->T B (ai 5 pt ts.length dm (ts.flatMap aE)::ai 4 pm ms.length cm (aW ms)::Z) p)/\
  Y=cl aa (iF S y).toArray::ai 5 pt ts.length dm (ts.flatMap aE)::ai 4 pm ms.length cm (aW ms)::Z) ?_ ?_
 ·exact⟨S.ts,S.ms,H,rfl,rfl,a,hf,λp h=>by rw[m];exact h,by rw[<-m]⟩
 rintro k pt lt dm f pm lm cm Y R E ⟨ts,ms,Z,rfl,rfl,a,hf,d,rfl⟩ v;have F:Rd B (ai 5 pt ts.length dm (ts.flatMap aE)::ai 4 pm ms.length cm (aW ms)::Z) y.pg (iv .i64 S.gs):=⟨λσ o=>d (λσ=>_) (λσ o=>l.rd σ o) σ o⟩;have U:=a.many;have G:=a.n2;have q:=a.ms;simp only[gH]at U q
 have nx:∀{r:aK},T B (cl aa (iF S y).toArray::ai 5 pt ts.length dm (ts.flatMap aE)::ai 4 pm ms.length cm (aW ms)::Z) (r (D (h9 f S.w ts ms)))->T B (cl aa (iF S y).toArray::ai 5 pt ts.length dm (ts.flatMap aE)::ai 4 pm ms.length cm (aW ms)::Z) (ab P 372 #[Value.slice pt ts.length dm,D f,D S.w,Value.slice pm ms.length cm] r):=λh=>by refine af (H':=ai 5 pt ts.length dm (ts.flatMap aE)::ai 4 pm ms.length cm (aW ms)::cl aa (iF S y).toArray::Z) ?_;apply BN a.right q (by omega);exact af h
 refine S2.go (λb=>?_) λb=>?_
 ·have b:k<S.gs.length:=by omega
  have s:S.gs[k]?=some S.gs[k]:=ba b;rw[tI b]at hf;generalize S.gs[k]=g at s hf;simp only[rf,b9,ml,fN]at hf;obtain⟨⟨f1,f2⟩,f3⟩:=hf;refine e1 k rfl b s (a1 rfl ?_);unfold aU;apply nx;apply J.go;refine dV (α:=Unit) (λ_=>cl aa (iF S y).toArray::ai 5 pt ts.length dm (ts.flatMap aE)::ai 4 pm ms.length cm (aW ms)::Z) (λ_=>[]) (λL body=>?_) λ_=>?_
  ·apply aD (by simpa using f1)
   obtain⟨i,hi,c,_⟩:=sX (R:=⟨[],ts,ms,f⟩) f1;have hi:h9 f S.w ts ms=(i:Int):=hi;have c:i<ts.length:=c;rw[hi]at f2⊢;rw[a7]at f2;have j:ts[i]?=some ts[i]:=ba c;rw[ei,j]at f2;generalize ts[i]=t at j f2;apply eA i rfl c (dW ep ts i t j 0 (by omega));apply aD (by have f2:t.id=g:=(by simpa using f2);simp[f2]);exact body ()
  ·refine J.go (a1 rfl ?_)
   unfold mF;refine af (H':=ai 5 pt ts.length dm (ts.flatMap aE)::ai 4 pm ms.length cm (aW ms)::cl aa (iF S y).toArray::Z) (UC a f1 λx=>?_)
   have z:b4.Fit ⟨[],(gX ts ms f S.w).ls,(gX ts ms f S.w).ms,(gX ts ms f S.w).free⟩ n:=by
    obtain⟨i,hi,c,A⟩:=sX (R:=⟨[],ts,ms,f⟩) f1;have hi:h9 f S.w ts ms=(i:Int):=hi;have:=a.ct c A;have e:gX ts ms f S.w=b4.ct ⟨[],ts,ms,f⟩ i:=by unfold gX;rw[hi,a7]
    rw[e];exact⟨this.right,this.u6,this.free,this.ms,by have:=this.many;simp only[gH];omega,this.n2⟩
   exact J.go (Sa.go λM=>Sc.go ⟨rfl,rfl⟩ (bW rfl (a1 rfl (bW rfl (af (H':=cl aa (iF S y).toArray::ai 5 x.pl (gX ts ms f S.w).ls.length x.cl ((gX ts ms f S.w).ls.flatMap aE)::ai 4 x.pm (gX ts ms f S.w).ms.length x.cm (aW (gX ts ms f S.w).ms)::ai 5 pt ts.length dm (ts.flatMap aE)::ai 4 pm ms.length cm (aW ms)::Z) (v b _ _ _ _ _ _ _ _ ⟨_,_,_,rfl,rfl,z,f3,λp h=>af (d p h),rfl⟩))))))
 ·have hl:k=S.gs.length:=by omega
  subst hl;rw[List.drop_length]at hf;unfold rf at hf;apply a1 rfl;unfold aU;refine nx (J.go ?_);rw[hf];exact af (d _ I)
end
end
section
open Go.XS Go.bn
def GG(ts:List Tk)(m:ML Int)(g:Int):Option (ML Int):=
 if cJ (λt:Tk=>t.id==g) ts<0 then some m
 else if(aS m (ts.getD (cJ (λt:Tk=>t.id==g) ts).toNat dD).aM).isSome&&decide (g<=(aS m (ts.getD (cJ (λt:Tk=>t.id==g) ts).toNat dD).aM).getD 0)then none
 else some (bE (ts.getD (cJ (λt:Tk=>t.id==g) ts).toNat dD).aM g m)
def s4(ts:List Tk):aO->ML Int->(ML Int->Bool)->Bool
 |[],m,k=>k m
 |g::gs,m,k=>match GG ts m g with
  |none=>false
  |some a=>s4 ts gs a k
def qi:List Sh->ML Int->Bool
 |[],_=>true
 |s::l,m=>s4 s.ts s.gs m (qi l)
abbrev hS(ys:List (Sh×fE)):aB:=ys.flatMap λy=>iF y.1 y.2
section
variable {B:Heap}{H H0:au}{K:aK}{q:aw}{l c:Nat}{ts:List Tk}{n:Int}
def Zc{g:Nat}{ca:ax}{f:Tk->Bool}(o:gb P g=true)[hr:Rd B H q (ts.flatMap aE)](hl:l=ts.length)(hlen:l<1000000)(hf:∀m∈ts,∀n:aK,T B H (n (.bool (f m)))->T B H (ab P g (Array.mk (Array.toList #[]++[Value.agg (aE m).toArray]++Array.toList ca)) n))(I:T B H (K (D (cJ f ts)))):T B H (ab P 511 #[.slice q l c,.func (.func g) #[] ca] K):=by
 apply an (D8 _ _ _ _ _);subst hl;refine cF ts.length (by omega) (λk H'=>H'=H/\∀j x,j<k->ts[j]?=some x->f x=false) ⟨rfl,by simp⟩ ?_;rintro k H' R r ⟨rfl,d⟩ p;refine S2.go (λ_=>?_) λ_=>?_
 ·have b:k<ts.length:=by omega
  have h:ts[k]?=some ts[k]:=ba b;refine dO ep (by omega) k rfl b h (lI o (hf _ (dz b) _ ?_));repeat' first|apply J.go|refine S2.go (λ_=>?_) λ_=>?_|done
  ·rename_i i
   unfold cJ at I;rw[nD d h i]at I;exact I
  ·rename_i i
   refine p b _ ⟨rfl,λj x s a=>?_⟩;by_cases e:j=k
   ·subst e;rw[h]at a;cases a;exact i
   ·exact d j x (by omega) a
 ·unfold cJ at I
  rw[mI λj x a=>d j x (by have:=(b0.1 a).1;omega) a]at I;exact I
def T9{t:Tk}{k:Nat}[hc:bY B H k #[D n]](I:T B H (K (.bool (t.id==n)))):T B H (ab P 585 #[.agg (aE t).toArray,pz k] K):=by refine an (MY _ _) (Sa.go λaa=>a1 rfl ?_);unfold cw;apply J.go;rw[aQ];exact a1 rfl (af I)
def T8{ys:List (Sh×fE)}[hr:Rd B H q (hS ys)](hl:l=ys.length)(hlen:l<1000)(o:∀y∈ys,y.1.gs≠[]->bF B H y.2.pt (y.1.ts.flatMap aE)/\bF B H y.2.pg (iv .i64 y.1.gs))(p:∀y∈ys,y.1.gs.length<1000/\y.1.ts.length<1000)(z:qi (ys.map (·.1)) []=true)(I:T B H (K (.bool true))):T B H (ab P 581 #[.slice q l c] K):=by
 subst hl;refine an (MX _ _ _) (Sa.go λr=>iQ D (cF ys.length (by omega) (λk Y=>∃m,qi ((ys.drop k).map (·.1)) m=true/\Y=MP D r m::H) ⟨[],z,rfl⟩ ?_));rintro k Y R N ⟨m,hm,rfl⟩ A;refine S2.go (λd=>?_) λd=>?_
 ·have d:k<ys.length:=by omega
  have s:ys[k]?=some ys[k]:=ba d;have o:=o _ (dz d);have p:=p _ (dz d);rw[tI d,c4]at hm;unfold qi at hm;generalize ys[k]=y at s o p hm;refine dO YU (by omega) k rfl d s (Sa.go λu=>Sc.go ⟨rfl,rfl⟩ (bW rfl (cF y.1.gs.length (by omega) (λj Y=>∃m,s4 y.1.ts (y.1.gs.drop j) m (qi ((ys.drop (k+1)).map (·.1)))=true/\Y=cl u (iF y.1 y.2).toArray::MP D r m::H) ⟨m,hm,rfl⟩ ?_)));clear hm;rintro j Y C O ⟨m,hm,rfl⟩ v;refine S2.go (λb=>?_) λb=>?_
  ·have b:j<y.1.gs.length:=by omega
   obtain⟨E,F⟩:=o (λe=>by rw[e]at b;cases b);have Q:Rd B H y.2.pt (y.1.ts.flatMap aE):=⟨E⟩;have S:Rd B H y.2.pg (iv .i64 y.1.gs):=⟨F⟩;have w:y.1.gs[j]?=some y.1.gs[j]:=ba b;rw[tI b]at hm;generalize y.1.gs[j]=g at w hm;unfold s4 at hm;refine e1 j rfl b w (Sa.go λG=>J.go (bW rfl ?_));unfold aU;refine Zc (ts:=y.1.ts) (f:=λt:Tk=>t.id==g) (by kernel_rfl) rfl (by omega) (λt U V h=>?_) ?_
   ·exact T9 h
   apply J.go;unfold GG at hm;by_cases n:cJ (λt:Tk=>t.id==g) y.1.ts<0
   ·rw[ah n]at hm
    exact bk (by simpa using n) (af (v b _ ⟨m,hm,rfl⟩))
   ·rw[ak n]at hm
    apply aD (by simpa using n);obtain⟨i,a,hi,ha,_⟩:=ru n;rw[hi]at hm⊢;rw[a7,ei,ha]at hm;simp only[fC]at hm;refine bW rfl (eA i rfl (b0.1 ha).1 (dW ep y.1.ts i a ha 1 (by omega)) ?_);refine J.go (J.go ?_)
    have fin:(match some (bE a.aM g m)with
      |none=>false
      |some L=>s4 y.1.ts (y.1.gs.drop (j+1)) L (qi ((ys.drop (k+1)).map (·.1))))=true->T B (MP D r (bE a.aM g m)::cl G #[D g]::cl u (iF y.1 y.2).toArray::H) (C [D (IntKind.wrap .i64 ((j:Int)+1))]):=λh=>af (v b _ ⟨_,h,rfl⟩)
    cases x:aS m a.aM with
    |none=>simp only[x,Option.isSome_none,vJ,fM,ej]at hm;exact aD rfl (a1 rfl (J.go (af (fin hm))))
    |some M=>
     simp only[x,Option.isSome_some,e5,fC,bz]at hm;by_cases hw:g<=M
     ·rw[ah hw]at hm
      cases hm
     ·rw[ak hw]at hm
      exact bk rfl (a1 rfl (aD (by simpa using hw) (a1 rfl (J.go (af (fin hm))))))
  ·have hl:j=y.1.gs.length:=by omega
   subst hl;rw[List.drop_length]at hm;unfold s4 at hm;exact af (A d _ ⟨m,hm,rfl⟩)
 ·exact af I
end
end
open Go.XS Go.bn Go.RowKit Go.Lib
def Db{B σ:Heap}{H H':au}{q:aw}{ys:aB}(h:bF B H q ys)(o:Own B H σ):bF σ H' q ys:=λeI a=>h eI (Own.below o a.size a.base)
def join_le{sep:List UInt8}{m:Nat}:∀(ys:List (List UInt8)),(∀y∈ys,y.length<=m)->(Lib.join ys sep).length<=ys.length*(m+sep.length)
 |[],_=>by simp[Lib.join,List.intercalate]
 |[a],h=>by have:=h a (by simp);simp[Lib.join,List.intercalate,List.intersperse];omega
 |a::b::l,h=>by have U:=h a (by simp);have c:=join_le (sep:=sep) (b::l) λy d=>h y (by simp at d⊢;right;exact d);unfold Lib.join List.intercalate at c⊢;rw[List.intersperse_cons_cons];simp only[List.flatten_cons,cr,dd]at c⊢;have e:(l.length+1+1)*(m+sep.length)=(l.length+1)*(m+sep.length)+(m+sep.length):=pE _ _;rw[e];omega
def Jb{B:Heap}{H:au}{a b:ByteArray}{x y:Operand}{c:aK}(ha:a.size+b.size<=1000000)(h:T B H (c (.string (a++b)))):T B H (aI P (do eqGuard BinOp.add 9 x y (.string a) (.string b);binOp BinOp.add 9 (.string a) (.string b)) c):=by
 refine qU (.string (a++b)) (λσ o w hw=>?_) h
 have e:¬(((a.size+b.size:Nat):Int)>IntKind.i64.max):=by
  have:IntKind.i64.max=9223372036854775807:=by decide
  omega
 simp[eqGuard,binOp,Op.stringOp,e];omega
section
variable {B:Heap}{H H0:au}{K:aK}{p:aw}{c:Nat}
def Xv(I:∀t:ByteArray,t.size<=10->T B H (K (.string t))):T B H (ab P 134 #[.string (ByteArray.mk #[])] K):=by
 refine Dy λσ back _=>?_;have I:∀t:ByteArray,t.size<=10->T σ [] (K (.string t)):=λt a eI c=>I t a eI (back eI c);refine an (Po _) (Dj λb=>Di (by decide) (cF 0 (by omega) (λk Y=>Y=[kN b ([]++[.int .u8 34])]) rfl ?_));rintro k Y R d rfl f;have e:k=0:=by omega
 subst e;apply aD (by decide);apply Di (by decide);apply Dh (l:=[34,34]) rfl;apply J.go;exact I _ (by decide)
def X9{xs:aO}[hr:Rd B H p (iv .i64 xs)](g:Gl B)(i:∀x∈xs,aF x)(hl:xs.length<=100)(I:∀t:ByteArray,t.size<=3000->T B H (K (.string t))):T B H (ab P 133 #[.slice p xs.length c] K):=by
 apply an (Qi _ _ _);by_cases h0:xs.length=0
 ·exact bk (by simp[h0]) (I _ (by decide))
 apply aD (by simpa using h0);have q:P.bytesOf 9=16:=by kernel_rfl
 have r:P.cellsOf 9=1:=by kernel_rfl
 refine gC (by omega) (by omega) (by omega) (by rw[q];omega) (by kernel_rfl) (by kernel_rfl) λaa=>?_;rw[r,iM,a7];have l:(gx (zc P 9) xs.length).size=xs.length:=by unfold gx;simp
 generalize gx (zc P 9) xs.length=aZ at l;refine cF xs.length (by omega) (λk Y=>∃cs:ax,cs.size=xs.length/\(∀j x,j<k->xs[j]?=some x->cs[j]?=some (.string ⟨(itoa x).toArray⟩))/\Y=cl aa cs::H) ⟨aZ,l,λj x a=>by omega,rfl⟩ ?_;rintro k Y R w ⟨cs,hs,n,rfl⟩ s;refine S2.go (λb=>?_) λb=>?_
 ·have b:k<xs.length:=by omega
  have f:xs[k]?=some xs[k]:=ba b;have hi:=i _ (dz b);generalize xs[k]=v at f hi;apply e1 k rfl b f;unfold ir;refine zX g hi (J.go (bj (by omega) ?_));rw[aQ,a7,bJ];apply eB (by omega) rfl;refine s b _ ⟨_,by rw[Iz];exact hs,λj x a h=>?_,rfl⟩;rw[rV];by_cases e:k=j
  ·subst e
   rw[f]at h;cases h;rw[ah rfl,ah (by omega)]
  ·rw[ak e]
   exact n j x (by omega) h
 ·have e:k=xs.length:=by omega
  subst e;unfold ir;have hL:(xs.map λx=>(⟨(itoa x).toArray⟩:ByteArray)).length=xs.length:=by simp
  rw[<-hL]
  have z:(Lib.join ((xs.map λx=>(⟨(itoa x).toArray⟩:ByteArray)).map (·.data.toList)) (ByteArray.mk #[44]).data.toList).length<=2200:=by
   have:=join_le (sep:=(ByteArray.mk #[44]).data.toList) (m:=21) ((xs.map λx=>(⟨(itoa x).toArray⟩:ByteArray)).map (·.data.toList)) λy o=>by simp only[nj,bQ]at o;obtain⟨x,u,rfl⟩:=o;have:=i x u;unfold aF at this;simpa using itoa_length_le x this.1 this.2
   simp only[fe,dd,gH]at this⊢;omega
  refine De (λj x a=>?_) (by rw[hL];omega) (by omega) (by omega) ?_
  ·rw[fo]at a
   cases d:xs[j]? with
   |none=>rw[d]at a;cases a
   |some v=>rw[d]at a;cases a;exact n j v (by have:=(b0.1 d).1;omega) d
  ·apply J.go
   exact af (I _ (by show(Array.size (List.toArray _))<=_;rw[iL];omega))
abbrev Ij:ByteArray:=ByteArray.mk (List.toArray (List.append [111,107,32,107,105,110,100,32,97,114,103,32,99,108,105,101,110,116,32,115,116,97,108,101,32,115,105,122,101,32,111,118,101,114,32,99,108,97,105,109,32,119,97,105,116,32,100,114,121,32,102,117,108,108,32] [98,117,115,121,32,116,105,99,107,101,116,32,100,111,110,101,32,114,101,103,105,111,110,32,114,97,110,103,101,32,110,105,108,32,102,111,114,109,32,112,104,97,115,101,32,116,119,105,99,101,32,110,111,110,101]))
def aaT:(Lib.splitB ng 0 (Lib.countB Ij ng) Ij)[0]?=some (ByteArray.mk #[111,107]):=by kernel_rfl
def Yb(g:Gl B)(I:T B H (K (.string (ByteArray.mk #[111,107])))):T B H (ab P 130 #[D 0] K):=by apply an (Qk _);unfold bX;apply an (Ql);unfold bX;refine Df g (by decide) (by decide) λb=>J.go (J.go ?_);refine aD (by decide) (aD (by simp) ?_);unfold xl;refine J.go (bj (by omega) ?_);rw[aQ];exact iU (BV aaT) (af I)
structure jO where
 n:Int
 list:aO
 p:aw
 c:Nat
abbrev cQ(y:jO):aB:=[D 0,D y.n,.slice y.p y.list.length y.c,.string ⟨#[]⟩]
def Yo(y:jO):(cQ y).length=4:=rfl
def Ya{y:jO}[hr:Rd B H y.p (iv .i64 y.list)](g:Gl B)(a:aF y.n)(f:∀x∈y.list,aF x)(hl:y.list.length<=100)(I:∀t:ByteArray,t.size<=13000->T B H (K (.tuple #[.string t,.bool true]))):T B H (ab P 72 #[.agg (cQ y).toArray] K):=by
 apply an (Qj _);refine Sa.go λaa=>?_;apply a1 (b:=aa) (cs:=(cQ y).toArray) (n:=0) rfl;unfold ir;apply Yb g;apply J.go;have c:=ne_nil (s:=ByteArray.mk #[111,107]) (by decide);simp only[ml]at c;apply aD c;apply a1 (b:=aa) (cs:=(cQ y).toArray) (n:=y.n) rfl;apply bW (b:=aa) (cs:=(cQ y).toArray) rfl;apply iU (b:=aa) (cs:=(cQ y).toArray) (n:=ByteArray.mk #[]) rfl;apply zX g a;apply J.go;refine fF (λσ o=>(inferInstance:bY B (cl aa (cQ y).toArray::H) aa (cQ y).toArray).cell o 3) ?_;refine fF (λσ o=>(inferInstance:bY B (cl aa (cQ y).toArray::H) aa (cQ y).toArray).cell o 2) ?_;refine X9 (xs:=y.list) g f hl λt1 U=>?_;apply J.go;refine fF (λσ o=>(inferInstance:bY B (cl aa (cQ y).toArray::H) aa (cQ y).toArray).cell o 3) ?_;refine Xv λt2 i=>?_;apply J.go;refine Sa.go λh=>?_;apply an (MM _ _ _);unfold ir;have hi:=itoa_length_le y.n a.1 a.2
 have d:=join_le (sep:=ng.data.toList) (m:=3000) ([ByteArray.mk #[111,107],⟨(itoa y.n).toArray⟩,t1,t2].map (·.data.toList)) λz hz=>by
  simp only[c4,oj,cR,jH,ji]at hz;rcases hz with rfl|rfl|rfl|rfl
  ·decide
  ·show(itoa y.n).length<=3000
   omega
  ·have:t1.data.toList.length=t1.size:=kD
   omega
  ·have:t2.data.toList.length=t2.size:=kD
   omega
 have d:(Lib.join ([ByteArray.mk #[111,107],⟨(itoa y.n).toArray⟩,t1,t2].map (·.data.toList)) (ByteArray.mk #[32]).data.toList).length<=4*(3000+1):=d;refine De (b:=h) (xs:=[ByteArray.mk #[111,107],⟨(itoa y.n).toArray⟩,t1,t2]) (cs:=#[.string (ByteArray.mk #[111,107]),.string ⟨(itoa y.n).toArray⟩,.string t1,.string t2]) (λj x e=>?_) (by show 4<=1000;omega) (d' 4) (by omega) ?_
 ·have k:j<4:=(b0.1 e).1
  obtain rfl|rfl|rfl|rfl:j=0\/j=1\/j=2\/j=3:=by omega
  all_goals (cases e;rfl)
 ·refine J.go (J.go ?_)
  exact af (I _ (by show(Array.size (List.toArray _))<=_;rw[iL];omega))
def Yw{rs:List jO}[hr:Rd B H p (rs.flatMap cQ)](g:Gl B)(F:rs.length<=50)(d:∀y∈rs,bF B H y.p (iv .i64 y.list)/\aF y.n/\(∀x∈y.list,aF x)/\y.list.length<=100)(I:∀t,T B H (K (.string t))):T B H (ab P 32 #[.slice p rs.length c] K):=by
 refine Dy λσ back s=>?_;obtain⟨x0,e,u⟩:=s;rw[u]at e;have g:=g.G1 e;have hr:∀H',Rd σ H' p (rs.flatMap cQ):=λH'=>⟨Db hr.rd e⟩;have I:∀t,T σ [] (K (.string t)):=λt eI v=>I t eI (back eI v);have d:∀y∈rs,(∀H',bF σ H' y.p (iv .i64 y.list))/\aF y.n/\(∀x∈y.list,aF x)/\y.list.length<=100:=λy h=>⟨λH'=>Db (d y h).1 e,(d y h).2⟩;apply an (Qx _ _ _);refine Dj λb=>?_;refine cF rs.length (by omega) (λk Y=>∃l:List UInt8,l.length<=k*13001/\Y=[kN b (byteCells l)]) ⟨[],by simp,rfl⟩ ?_;rintro k Y R G ⟨l,hl,rfl⟩ w;refine S2.go (λa=>?_) λa=>?_
 ·have a:k<rs.length:=by omega
  have i:rs[k]?=some rs[k]:=ba a;obtain⟨j,m,o,q⟩:=d _ (dz a);generalize rs[k]=y at i j m o q;have:=hr [kN b (byteCells l)];show T σ _ (de p rs.length (k:Int) 4 4 _);apply dO (f:=cQ) (rs:=rs) Yo (by omega) k rfl a i;refine Sa.go λr=>Sc.go ⟨rfl,rfl⟩ ?_;apply bI (b:=r) (cs:=(cQ y).toArray) rfl;have:Rd σ (cl r (cQ y).toArray::[kN b (byteCells l)]) y.p (iv .i64 y.list):=⟨j _⟩;refine Ya (y:=y) g m o q λt L=>?_;refine λz A=>⟨t,true,rfl,?_⟩;refine Jb ?_ ?_ z A
  ·show t.size+1<=1000000
   omega
  ·apply J.go
   refine af (H':=[kN b (byteCells l)]) ?_
   have M:(t++ByteArray.mk #[10]).size<=13001:=by rw[ByteArray.size_append];show t.size+1<=_;omega
   have C:(byteCells l).length=l.length:=by unfold byteCells;simp
   apply I' (by rw[C];omega);refine λD E=>⟨_,_,rfl,?_⟩;refine w a _ ⟨l++(t++ByteArray.mk #[10]).data.toList,?_,?_⟩ D E
   ·have:(t++ByteArray.mk #[10]).data.toList.length=(t++ByteArray.mk #[10]).size:=kD
    rw[cr,pE];omega
   ·unfold byteCells strCells
    rw[e6]
 ·apply Dh rfl
  apply J.go;exact I _
end
