/- Lemmas that lead to TopWhole (their names made short by a program); no condition. -/
import Derived.Test.YtlmgompopkamfaaGreatDoorLF
import Derived.Tactics
import Derived.Tactics2
import Derived.Defers
import Derived.Laws.Pointers
import Derived.Laws.LoneSync
import Derived.RegionTactic
import Derived.RegionCalls
import Derived.ChangeAlike
set_option linter.all false
set_option maxRecDepth 100000
namespace Go.Proofs.YtlmgompopkamfaaGreatDoor
section
open Go.XS
open IntKind (wrap)
open Tryz
variable {K:aK}{σ:Heap}
variable (p0:aw)(l0:Nat)(c0:Nat)(n0:Int)(aZ:ax)(s0:ByteArray)(g0:Nat)(p1:aw)(l1:Nat)(c1:Nat)(n1:Int)(cg:ax)(g1:Nat)(fQ:ax)(p2:aw)(l2:Nat)(c2:Nat)(n2:Int)(cs2:ax)(n3:Int)(q6:ax)(p4:aw)(l4:Nat)(lP:Nat)(n4:Int)
def SX(h:(bc p1 0 λa=>cw p2 0 λb=>aJ 275 #[ad a,D b] λa=>ae (!a) (K (aq #[])) (cw p2 0 λa=>al #[D a] 3 λa=>cw p2 0 λb=>gj P g0 #[] #[] [D b,.bool true] λb=>dv b λb=>ae (!b) (K (aq #[])) (bc p1 0 λb=>cw p2 0 λc=>aU 402 #[ad b,D c] λb=>bm (j0 λa b c d e=>ae (decide ((↑b:Int)>0)) (bm (j0 λa b c d f=>ae (decide (d>=0)) (al #[D d] 3 λe=>cI P #[31,31] a b c (some (ag e 0)) 1 1 λa b c=>gj P g0 #[] #[] [D d,.bool true] λe=>dv e λe=>ae (!e) (K (aq #[])) (bc p1 0 λe=>aU 402 #[ad e,D d] λd=>f [.slice a b c,D d])) (eX a b (wrap .i64 ((↑b:Int)-(1:Int))) λf=>aR ((0<=wrap .i64 ((↑b:Int)-(1:Int)))/\(wrap .i64 ((↑b:Int)-(1:Int))<=(↑c:Int))) (gj P g0 #[] #[] [D f,.bool false] λg=>dv g λg=>ae (!g) (K (aq #[])) (ae (decide ((↑(Int.toNat (wrap .i64 ((↑b:Int)-1))-0):Int)>0)) (bc p1 0 λd=>aU 403 #[ad d,D f] λd=>e [.slice (dh a 1 0 c) (Int.toNat (wrap .i64 ((↑b:Int)-1))-0) (c-0),D d]) (e [.slice (dh a 1 0 c) (Int.toNat (wrap .i64 ((↑b:Int)-1))-0) (c-0),D d]))))) [.slice a b c,D d]) (K (aq #[]))) [.slice (some (ag a 0)) 1 1,D b]))) σ):ab P 401 #[.func (.yield g0) #[] #[],ad p1,ad p2] K σ:=mT ⟨[],[(1,[(4,.slice),(5,.int .i64)]),(3,[(4,.slice),(5,.int .i64)])],[],[]⟩ func401 h
def Ot(h:(aJ 275 #[ad p0,D n1] λa=>ae (!a) (K (D (-1))) (bc p0 1 λa=>aU 343 #[ad a,D n1] λa=>K (D a))) σ):ab P 402 #[ad p0,D n1] K σ:=ao h0 func402 h
def Ov(h:(aJ 257 #[ad p0] λa=>ae (!a) (K (D (-1))) (bc p0 1 λa=>aU 345 #[ad a,D n1] λa=>K (D a))) σ):ab P 403 #[ad p0,D n1] K σ:=ao h0 func403 h
def R9(h:(iZ 417 #[ad p0,D n1] λa b=>ae (b !=0) (K (D b)) (cw a 0 λb=>ae (b==0) (K (D 20)) (aA p0 λb=>aA a λc=>gu (b.add 1) λb=>bs .i64 (c.add 0) λc=>aI P (Instr.lookup 225 (.map b) (D c) false) λd=>di .i64 d λd=>aI P (Instr.mapUpdate 225 (.map b) (D c) (D (wrap .i64 (d-1)))) λ_=>aA p0 λb=>aA a λc=>gu (b.add 1) λb=>bs .i64 (c.add 0) λc=>aI P (Instr.lookup 225 (.map b) (D c) false) λb=>di .i64 b λb=>ae (b==0) (aA p0 λb=>aA a λc=>gu (b.add 1) λb=>bs .i64 (c.add 0) λc=>aI P (Builtin.delete_ #[225,3] 0 #[.map b,D c]) λb=>ex b (cO a 0 (D 0) (K (D 0)))) (cO a 0 (D 0) (K (D 0)))))) σ):ab P 404 #[ad p0,D n1] K σ:=ao ⟨[(6,[0,1,3,7,0,16,48,112,255,511,1023],(sp [0,1,2,4,5,6] (.l 3 (.l 7 (.s 8 (.ay []) (sp [9] (.s 10 (.ay []) .d))))))),(7,[0,1,3,7,0,16,48,112,255,511],(sp [0,1,2,4,5,6] (.l 3 (.l 7 (.s 8 (.ay []) (sp [9] .d)))))),(8,[0,1,3,7,0,16,48,112,255],(sp [0,1,2,4,5,6] (.l 3 (.l 7 (.s 8 (.ay []) .d)))))],[],[],[]⟩ func404 h
def Qq(h:(bq (jn (aA p0 λa=>aA p0 λb=>aT (a.add 0) λc d e=>bs .i64 (b.add 2) λb=>aU 396 #[ad p0,D b] λb=>bf (a.add 0) (.slice c d e) (oS c d b (D n1) (cw p0 2 λa=>cO p0 2 (D (wrap .i64 (a+1))) (K (.bool true)))))) λa=>ae (Option.isNone p0) (K (.bool false)) (aA p0 λb=>aA p0 λc=>bs .i64 (b.add 2) λb=>aT (c.add 0) λ_ c _=>ae (b==c) (K (.bool false)) (a []))) σ):ab P 405 #[ad p0,D n1] K σ:=ao ⟨[(1,[0,1,3,7,15,31,63,7,135,391,903,1927,4095,8191],(sp [0,1,2,3,4,5,7,8,9] (.l 6 (.l 10 (sp [11,12,13] (.d)))))),(3,[0,1,3,7,0,0,32,96,224,496,0,2047,4095],(sp [0,1,2,4,5,6,7,10] (.l 3 (.l 8 (.s 9 (.ay [3]) (sp [11] (.s 12 (.ay []) .d)))))))],[],[(1,[])],[]⟩ func405 h
def Qr(h:(fR 444 #[ad p0] λa b=>ae b (aU 396 #[ad p0,D 1] λc=>cO p0 1 (D c) (cw p0 2 λc=>cO p0 2 (D (wrap .i64 (c-1))) (K (aq #[D a,.bool b])))) (K (aq #[D a,.bool b]))) σ):ab P 406 #[ad p0] K σ:=ao h0 func406 h
def RQ(h:(iZ 149 #[ad p0,D n1] λa b=>ae (b !=0) (K (D b)) (aU 379 #[ad p0,ad a,D 3] λb=>ae (b !=0) (K (D b)) (bc a 4 λb=>dq 445 #[ad b] λb=>cO a 5 (ad b) (K (D 0))))) σ):ab P 407 #[ad p0,D n1] K σ:=ao h0 func407 h
def RW(h:(iZ 149 #[ad p0,D n1] λa b=>ae (b !=0) (K (aq #[.bool false,D b])) (ae (decide (n2<1)) (K (aq #[.bool false,D 2])) (cw a 3 λb=>ae (b !=3) (K (aq #[.bool false,D 18])) (bc a 5 λb=>c5 446 #[ad b,D n2] λ_ b=>ae (b !=0) (K (aq #[.bool false,D b])) (bc a 5 λb=>aJ 447 #[ad b] λb=>ae (!b) (K (aq #[.bool false,D 0])) (cO a 5 (ad none) (bc p0 0 λb=>aU 448 #[ad b,D n1] λb=>ae (b !=0) (K (aq #[.bool false,D b])) (bc p0 1 λb=>aJ 449 #[ad b,D n1] λ_=>aU 379 #[ad p0,ad a,D 4] λa=>K (aq #[.bool true,D a]))))))))) σ):ab P 408 #[ad p0,D n1,D n2] K σ:=ao h0 func408 h
def SM(h:(aA p1 λa=>bs .i64 a λa=>aA p1 λb=>bs .i64 b λb=>aA p1 λc=>st c (D (wrap .i64 (b-if 0>if a<n0 then a else n0 then 0 else if a<n0 then a else n0))) (K (D (if 0>if a<n0 then a else n0 then 0 else if a<n0 then a else n0)))) σ):ab P 410 #[D n0,ad p1] K σ:=ao h0 func410 h
def QJ(h:(aU 450 #[.slice p0 l0 c0,D n1,D n2,D n3,.slice p4 l4 lP] λa=>K (.bool (a==0))) σ):ab P 411 #[.slice p0 l0 c0,D n1,D n2,D n3,.slice p4 l4 lP] K σ:=ao h0 func411 h
def Q7(h:(aR ((0<=(↑l0:Int))/\((↑l0:Int)<=(↑c0:Int))) (aR ((0<=n2)/\(n2<=(↑(Int.toNat (↑l0:Int)):Int))) (aR ((0<=n1)/\(n1<=(↑n2.toNat:Int))) (ae (n1==n2) (K (.slice p0 l0 c0)) (aR ((0<=n1)/\(n1<=c0)) (aR ((0<=n2)/\(n2<=l0)) (cI P #[33,33] (dh p0 5 0 c0) (Int.toNat n1-0) (c0-0) (dh p0 5 n2.toNat c0) (l0-Int.toNat n2) (c0-Int.toNat n2) λa b c=>aR ((0<=(↑l0:Int))/\((↑l0:Int)<=(↑c:Int))) (aR ((0<=(↑b:Int))/\((↑b:Int)<=(↑(Int.toNat (↑l0:Int)):Int))) (aI P (Builtin.clear_ #[33] 0 #[.slice (dh a 5 (Int.toNat (↑b:Int)) c) (Int.toNat (↑l0:Int)-Int.toNat (↑b:Int)) (c-Int.toNat (↑b:Int))]) λd=>ex d (K (.slice a b c))))))))))) σ):ab P 412 #[.slice p0 l0 c0,D n1,D n2] K σ:=ao ⟨[(5,[0,0,3,0,0,24,63,127],(sp [0,1,2,3,4,5] (.s 6 (.ay []) (sp [7] .d))))],[],[],[]⟩ func412 h
def Nb(h:(al aZ 57 λa=>ar a 0 λa=>cw p1 1 λb=>K (.bool (a==b))) σ):ab P 413 #[.agg aZ,ad p1] K σ:=ao h0 func413 h
def Lo(h:(al aZ 55 λa=>al #[D 0,D 0,D 0] 55 λb=>az a 3 λa=>fH 451 #[.agg a,D n1,.agg #[.func (Fn.func 452) #[] #[],D 20]] λa c=>aC b a 3 (az b 3 λa=>K (aq #[.agg a,D c]))) σ):ab P 414 #[.agg aZ,D n1] K σ:=ao h0 func414 h
def M5(h:(aJ 453 #[ad p0] (λa=>ae (!a) (K (aq #[D 0,.bool false])) (aA p0 λa=>bx (a.add 0) λa=>ab P 454 #[ad a] λa b=>∃c d,(a=Value.tuple #[D c,.bool d])/\((K (aq #[D c,.bool d])) b)))) σ):ab P 415 #[ad p0] K σ:=ao h0 func415 h
def M6(h:(aJ 455 #[ad p0,D n1] (λa=>ae (!a) (K (.bool false)) (aA p0 λa=>bx (a.add 1) λa=>aJ 456 #[ad a,D n1] (λa=>ae a (aA p0 λa=>bx (a.add 0) λa=>aJ 457 #[ad a,D n1] (λa=>K (.bool a))) (K (.bool false)))))) σ):ab P 416 #[ad p0,D n1] K σ:=ao h0 func416 h
def Sg(h:(bq (jn (b5 p0 0 λa b _=>aA a λa=>cV n1 b (K (aq #[ad (some (Addr.add a (Int.toNat n1*2))),D 0])))) λa=>bq (hN λb=>ae b (K (aq #[ad none,D 16])) (aJ 237 #[ad p0,D n1] λb=>ae (!b) (K (aq #[ad none,D 2])) (a []))) λa=>ae (Option.isNone p0) (a [.bool true]) (cW p0 1 λb=>a [.bool (Option.isNone b)])) σ):ab P 417 #[ad p0,D n1] K σ:=ao ⟨[],[],[(100001,[(6,.bool)])],[(0,[])]⟩ func417 h
def O3(h:(al #[D 0,D 0,D 0,D 0] 50 λa=>aC a #[D 1,D 2,D 3,D 4] 4 (bq (hN λb=>ae b (K (aq #[D 0,D 2])) (cV n0 4 (bs .i64 (Addr.add (ag a 0) n0.toNat) λa=>ae (a !=n1) (K (aq #[D 0,D 18])) (aR ((4:Int)≠(0:Int)) (K (aq #[D (Int.tmod (wrap .i64 (n0+1)) 4),D 0])))))) λa=>aJ 458 #[D n0] λb=>ae (!b) (a [.bool true]) (ae (decide (n1<1)) (a [.bool true]) (a [.bool (decide (n1>4))])))) σ):ab P 418 #[D n0,D n1] K σ:=ao ⟨[],[],[(100002,[(8,.bool)])],[]⟩ func418 h
def Ls(h:(al aZ 55 λa=>al #[D 0,D 0,D 0] 55 λb=>az a 3 λa=>fH 451 #[.agg a,D n1,.agg #[.func (Fn.func 478) #[] #[],D 7]] λa c=>aC b a 3 (az b 3 λa=>K (aq #[.agg a,D c]))) σ):ab P 441 #[.agg aZ,D n1] K σ:=ao h0 func441 h
def Lj(h:(al aZ 55 λa=>al #[D 0,D 0,D 0] 55 λb=>az a 3 λa=>fH 451 #[.agg a,D n1,.agg #[.func (Fn.func 479) #[] #[],D 20]] λa c=>aC b a 3 (az b 3 λa=>K (aq #[.agg a,D c]))) σ):ab P 442 #[.agg aZ,D n1] K σ:=ao h0 func442 h
def Lm(h:(al aZ 55 λa=>al #[D 0,D 0,D 0] 55 λb=>az a 3 λa=>fH 451 #[.agg a,D n1,.agg #[.func (Fn.func 480) #[] #[],D 20]] λa c=>aC b a 3 (az b 3 λa=>K (aq #[.agg a,D c]))) σ):ab P 443 #[.agg aZ,D n1] K σ:=ao h0 func443 h
def Qn(h:(fR 333 #[ad p0,D 0] λa b=>K (aq #[D a,.bool b])) σ):ab P 444 #[ad p0] K σ:=ao h0 func444 h
def QD(h:(aU 481 #[ad p0] (λa=>ae (a==0) (K (ad none)) (al (#[ad p0,D 0]) 615 λa=>K (ad (some (ag a 0)))))) σ):ab P 445 #[ad p0] K σ:=ao h0 func445 h
def QH(h:(aJ 482 #[ad p0] (λa=>ae (!a) (K (aq #[D 0,D 16])) (ae (decide (n1<1)) (K (aq #[D 0,D 2])) (aU 483 #[ad p0] (λa=>aA p0 λb=>bx (b.add 0) λc=>aU 485 #[ad p0] (λd=>bf (b.add 0) (ad c) (aU 484 #[ad c,D d,D (if a<n1 then a else n1)] (λb=>ae (b !=0) (K (aq #[D 0,D b])) (aA p0 λb=>aU 368 #[ad (some (b.add 1)),D (if a<n1 then a else n1)] (λ_=>K (aq #[D (if a<n1 then a else n1),D 0]))))))))))) σ):ab P 446 #[ad p0,D n1] K σ:=ao ⟨[(6,[0,1,3,7,0,16,0,127,255],(sp [0,1,2,4,6] (.l 3 (.s 5 (.ay [3]) (.s 7 (.ay []) (sp [8] .d))))))],[],[],[]⟩ func446 h
def QE(h:(aJ 482 #[ad p0] (λa=>ae a (aU 483 #[ad p0] (λa=>K (.bool (a==0)))) (K (.bool false)))) σ):ab P 447 #[ad p0] K σ:=ao h0 func447 h
def Sf(h:(iZ 417 #[ad p0,D n1] λa b=>ae (b !=0) (K (D b)) (cw a 0 λb=>ae (b !=0) (K (D 19)) (cw a 1 λb=>ae (decide (b>=1048575)) (K (D 6)) (cw a 1 λb=>cO a 1 (D (wrap .i64 (b+1))) (K (D 0)))))) σ):ab P 448 #[ad p0,D n1] K σ:=ao h0 func448 h
def MZ(h:(aJ 453 #[ad p0] (λa=>ae a (aA p0 λa=>bx (a.add 1) λa=>aJ 231 #[ad a,D n1] (λa=>ae a (aA p0 λa=>bx (a.add 0) λa=>aJ 230 #[ad a,D n1] (λa=>K (.bool a))) (K (.bool false)))) (K (.bool false)))) σ):ab P 449 #[ad p0,D n1] K σ:=ao h0 func449 h
def QL(h:(al #[aG,aG,D 0,D 0] 617 λa=>aC a #[.slice p0 l0 c0,.slice p4 l4 lP,D n2,D n3] 4 (bX 486 #[] λb c _=>bm (cG λd e=>ae (decide (d<c)) (de b c d 2 2 λb=>al #[D 0,.nilFunc] 622 λc=>aC c b 2 (gN (ag c 1) λb=>az a 4 λa=>lx P b [.agg a,D n1] λa=>dv a λa=>ae a (ar c 0 λa=>K (D a)) (e [D (wrap .i64 (d+1))]))) (K (D 0))) [D 0])) σ):ab P 450 #[.slice p0 l0 c0,D n1,D n2,D n3,.slice p4 l4 lP] K σ:=ao ⟨[],[(1,[(21,.int .i64)])],[],[]⟩ func450 h
def Lw(h:(al aZ 55 λa=>al cs2 597 λb=>al #[D 0,D 0,D 0] 55 λc=>bq (jn (ae (decide (n1>1048576)) (ar b 1 λa=>aC c #[D 0,D 0,D 0] 3 (bf (ag b 1) (D a) (az c 3 λb=>K (aq #[.agg b,D a])))) (gN (ag b 0) λd=>az a 3 λa=>lx P d [.agg a,D n1] λa=>hk a λa=>al #[D 0,D 0,D 0] 55 λd=>aC d a 3 (az d 3 λa=>aJ 398 #[.agg a] λa=>ae (!a) (ar b 1 λa=>aC c #[D 0,D 0,D 0] 3 (bf (ag b 1) (D a) (az c 3 λb=>K (aq #[.agg b,D a])))) (az d 3 λa=>aC c a 3 (az c 3 λa=>K (aq #[.agg a,D 0]))))))) λb=>az a 3 λa=>aJ 398 #[.agg a] λa=>ae (!a) (aC c #[D 0,D 0,D 0] 3 (az c 3 λa=>K (aq #[.agg a,D 2]))) (ae (decide (n1<1)) (aC c #[D 0,D 0,D 0] 3 (az c 3 λa=>K (aq #[.agg a,D 2]))) (b []))) σ):ab P 451 #[.agg aZ,D n1,.agg cs2] K σ:=ao ⟨[(4,[0,0,2,1,15],(sp [0,1] (.l 2 (.s 3 (.ay [2]) (sp [4] .d))))),(7,[0,0,2,1,15],(sp [0,1] (.l 2 (.s 3 (.ay [2]) (sp [4] .d)))))],[],[(1,[])],[]⟩ func451 h
def Lp(h:(al aZ 55 λa=>al #[D 0,D 0,D 0] 55 λb=>ar a 2 λc=>st (ag a 2) (D (wrap .i64 (c-n1))) (ar a 1 λc=>st (ag a 1) (D (wrap .i64 (c+n1))) (az a 3 λa=>aC b a 3 (az b 3 λa=>K (.agg a))))) σ):ab P 452 #[.agg aZ,D n1] K σ:=ao h0 func452 h
def M8(h:(ae (!Option.isNone p0) (aA p0 λa=>bx (a.add 0) λa=>K (.bool !Option.isNone a)) (K (.bool false))) σ):ab P 453 #[ad p0] K σ:=ao h0 func453 h
def RN(h:(bq (λa b=>(a=[])->((aA p0 λa=>aA p0 λb=>aT (a.add 0) λa c _=>aT (b.add 0) λ_ b _=>aA a λa=>aR ((0<=wrap .i64 ((↑b:Int)-(1:Int)))/\(wrap .i64 ((↑b:Int)-(1:Int))<(↑c:Int))) (bs .i64 (Addr.add a (Int.toNat (wrap .i64 ((↑b:Int)-1)))) λa=>K (aq #[D a,.bool true]))) b)) λa=>ae (Option.isNone p0) (K (aq #[D 0,.bool false])) (aA p0 λb=>aT (b.add 0) λ_ b _=>ae ((↑b:Int)==0) (K (aq #[D 0,.bool false])) (a []))) σ):ab P 454 #[ad p0] K σ:=ao ⟨[(3,[0,1,3,7,0,16,48,112,240,496,1023,2047,4095,8191],(sp [0,1,2,4,5,6] (.l 3 (.l 7 (sp [8,9,10] (.l 11 (sp [12,13] (.d))))))))],[],[(1,[])],[]⟩ func454 h
def M3(h:(aJ 453 #[ad p0] (λa=>ae a (aA p0 λa=>bx (a.add 1) λa=>aJ 329 #[ad a,D n1] (λa=>K (.bool a))) (K (.bool false)))) σ):ab P 455 #[ad p0,D n1] K σ:=ao h0 func455 h
def LW(h:(aJ 329 #[ad p0,D n1] (λa=>ae (!a) (K (.bool false)) (aA p0 λa=>aR ((64:Int)≠(0:Int)) (aR ((64:Int)≠(0:Int)) (aR (0<=Int.tmod n1 (64:Int)) (aT (a.add 0) λa b _=>aA a λc=>aR ((0<=wrap .i64 (Int.tdiv n1 (64:Int)))/\(wrap .i64 (Int.tdiv n1 (64:Int))<(↑b:Int))) (bs .u64 (Addr.add c (Int.toNat (wrap .i64 (Int.tdiv n1 64)))) λc=>aA a λa=>aR ((0<=wrap .i64 (Int.tdiv n1 (64:Int)))/\(wrap .i64 (Int.tdiv n1 (64:Int))<(↑b:Int))) (st (Addr.add a (Int.toNat (wrap .i64 (Int.tdiv n1 64)))) (.int .u64 (bl .andNot .u64 c (nI .u64 1 (Int.tmod n1 64)))) (K (.bool true)))))))))) σ):ab P 456 #[ad p0,D n1] K σ:=ao ⟨[(3,[0,1,3,7,0,16,63,127,0,256,768,2047,4095,8191],(sp [0,1,2,4,5,8,9,10] (.l 3 (sp [6] (.l 7 (sp [11,12] (.s 13 (.ay []) .d)))))))],[],[],[]⟩ func456 h
def RJ(h:(aU 487 #[ad p0,D n1] (λa=>ae (decide (a<0)) (K (.bool false)) (aA p0 λb=>aT (b.add 0) λ_ b _=>aA p0 λc=>aT (c.add 0) λc d _=>aA c λc=>aR ((0<=wrap .i64 ((↑b:Int)-(1:Int)))/\(wrap .i64 ((↑b:Int)-(1:Int))<(↑d:Int))) (bs .i64 (Addr.add c (Int.toNat (wrap .i64 ((↑b:Int)-1)))) λc=>aA p0 λd=>aA p0 λe=>aT (d.add 0) λd f _=>aT (e.add 1) λe g _=>aA d λd=>cV a f (st (Addr.add d a.toNat) (D c) (aA e λd=>cV c g (st (Addr.add d c.toNat) (D a) (aA p0 λa=>aA p0 λc=>aT (a.add 1) λa d _=>aT (c.add 0) λc _ e=>aR ((0<=wrap .i64 ((↑b:Int)-(1:Int)))/\(wrap .i64 ((↑b:Int)-(1:Int))<=(↑e:Int))) (aA p0 λf=>st (f.add 0) (.slice (dh c 1 0 e) (Int.toNat (wrap .i64 ((↑b:Int)-1))-0) (e-0)) (aA a λa=>cV n1 d (st (Addr.add a n1.toNat) (D (-1)) (K (.bool true))))))))))))) σ):ab P 457 #[ad p0,D n1] K σ:=ao ⟨[(6,[0,1,3,7,0,0,32,96,224,0,0,0,1535,5631,16383,32767],(sp [0,1,2,4,5,6,7,9,10,11] (.l 3 (.l 8 (sp [12] (.s 13 (.ay []) (sp [14] (.s 15 (.ay []) .d)))))))),(7,[0,0,2,6,14,0,0,64,192,448,0,1984,4063,8159,16351,32767,65535],(sp [0,1,2,3,5,6,7,8,10] (.l 4 (.l 9 (sp [11,12,13] (.s 14 (.ay []) (sp [15] (.s 16 (.ay []) .d))))))))],[],[],[]⟩ func457 h
def O4(h:(ae (decide (n0>=0)) (K (.bool (decide (n0<4)))) (K (.bool false))) σ):ab P 458 #[D n0] K σ:=ao h0 func458 h
def Lt(h:(al aZ 55 λa=>al #[D 0,D 0,D 0] 55 λb=>ar a 2 λc=>st (ag a 2) (D (wrap .i64 (c+n1))) (az a 3 λa=>aC b a 3 (az b 3 λa=>K (.agg a)))) σ):ab P 478 #[.agg aZ,D n1] K σ:=ao h0 func478 h
def Ll(h:(al aZ 55 λa=>al #[D 0,D 0,D 0] 55 λb=>ar a 2 λc=>st (ag a 2) (D (wrap .i64 (c-n1))) (az a 3 λa=>aC b a 3 (az b 3 λa=>K (.agg a)))) σ):ab P 479 #[.agg aZ,D n1] K σ:=ao h0 func479 h
def Ln(h:(al aZ 55 λa=>al #[D 0,D 0,D 0] 55 λb=>ar a 1 λc=>st (ag a 1) (D (wrap .i64 (c-n1))) (az a 3 λa=>aC b a 3 (az b 3 λa=>K (.agg a)))) σ):ab P 480 #[.agg aZ,D n1] K σ:=ao h0 func480 h
def Mo(h:(ae (Option.isNone p0) (K (D 0)) (aA p0 λa=>bs .i64 (a.add 1) λa=>K (D a))) σ):ab P 481 #[ad p0] K σ:=ao h0 func481 h
def QI(h:(ae (!Option.isNone p0) (aA p0 λa=>bx (a.add 0) λa=>K (.bool !Option.isNone a)) (K (.bool false))) σ):ab P 482 #[ad p0] K σ:=ao h0 func482 h
def QF(h:(aJ 482 #[ad p0] (λa=>ae (!a) (K (D 0)) (aA p0 λa=>bx (a.add 0) λa=>aU 481 #[ad a] (λa=>aU 485 #[ad p0] (λb=>K (D (wrap .i64 (a-b)))))))) σ):ab P 483 #[ad p0] K σ:=ao h0 func483 h
def Mr(h:(aU 362 #[ad p0,D n1,D n2] (λa=>ae (a==0) (ab P 363 #[ad p0,D n1,D n2,.func (Fn.func 500) #[] #[]] λb c=>(b=Value.tuple #[])/\((K (D a)) c)) (K (D a)))) σ):ab P 484 #[ad p0,D n1,D n2] K σ:=ao h0 func484 h
def QG(h:(aJ 482 #[ad p0] (λa=>ae (!a) (K (D 0)) (aA p0 λa=>aU 148 #[ad (some (a.add 1))] (λa=>K (D a))))) σ):ab P 485 #[ad p0] K σ:=ao h0 func485 h
def QO(h:(aR (Array.size #[D 1,.func (Fn.func 501) #[] #[]]=2) (aR (Array.size #[D 2,.func (Fn.func 502) #[] #[]]=2) (aR (Array.size #[D 3,.func (Fn.func 504) #[] #[]]=2) (aR (Array.size #[D 4,.func (Fn.func 507) #[] #[]]=2) (aR (Array.size #[D 5,.func (Fn.func 509) #[] #[]]=2) (al #[D 1,.func (Fn.func 501) #[] #[],D 2,.func (Fn.func 502) #[] #[],D 3,.func (Fn.func 504) #[] #[],D 4,.func (Fn.func 507) #[] #[],D 5,.func (Fn.func 509) #[] #[]] 622 λa=>K (.slice (some (ag a 0)) 5 5))))))) σ):ab P 486 #[] K σ:=ao h0 func486 h
def RL(h:(bq (λa b=>(a=[])->((aA p0 λa=>aT (a.add 1) λa b _=>aA a λa=>cV n1 b (bs .i64 (Addr.add a n1.toNat) λa=>K (D a))) b)) λa=>ae (Option.isNone p0) (K (D (-1))) (ae (decide (n1<0)) (K (D (-1))) (aA p0 λb=>aT (b.add 1) λ_ b _=>ae (decide (n1>=b)) (K (D (-1))) (a [])))) σ):ab P 487 #[ad p0,D n1] K σ:=ao ⟨[],[],[(1,[])],[]⟩ func487 h
def Ms(h:(aI P (Builtin.clear_ #[178] 0 #[.slice p0 l0 c0]) λa b=>(a=Value.tuple #[])/\((K (aq #[])) b)) σ):ab P 500 #[.slice p0 l0 c0,D n1] K σ:=ao h0 func500 h
def QP(h:(al aZ 617 λa=>ae (decide (n1<0)) (K (.bool true)) (aT (ag a 0) λ_ a _=>K (.bool (decide (n1>=a))))) σ):ab P 501 #[.agg aZ,D n1] K σ:=ao h0 func501 h
def QQ(h:(al aZ 617 λa=>az a 4 λa=>aU 503 #[.agg a,D n1] λa=>K (.bool (decide (a<0)))) σ):ab P 502 #[.agg aZ,D n1] K σ:=ao h0 func502 h
def QM(h:(al aZ 617 λa=>al #[D n1] 3 λb=>aT (ag a 1) λc d e=>aU 353 #[.slice c d e,.func (Fn.func 510) #[] #[ad (some (ag a 0)),ad (some (ag b 0))]] λa=>K (D a)) σ):ab P 503 #[.agg aZ,D n1] K σ:=ao h0 func503 h
def QR(h:(al aZ 617 λa=>al #[D n1] 3 λb=>aT (ag a 0) λc _ d=>ar b 0 λe=>aR ((0<=e)/\(e<=d)) (aJ 506 #[.slice (dh c 5 0 d) (Int.toNat e-0) (d-0),.func (Fn.func 505) #[] #[ad (some (ag a 0)),ad (some (ag b 0))]] λa=>K (.bool a))) σ):ab P 504 #[.agg aZ,D n1] K σ:=ao h0 func504 h
def QS(h:(al aZ 160 λa=>aA p1 λb=>ar a 1 λa=>aT (b.add 0) λb c _=>cw p2 0 λd=>db b c d 5 1 λb=>K (.bool (a==b))) σ):ab P 505 #[.agg aZ,ad p1,ad p2] K σ:=ao ⟨[(1,[0,1,0,4,0,28,60,124,255,511],(sp [0,2] (.l 1 (.l 3 (.l 4 (sp [5,6] (.l 7 (sp [8,9] (.d)))))))))],[],[],[]⟩ func505 h
def Q4(h:(aU 511 #[.slice p0 l0 c0,.func (Fn.func g1) #[] fQ] λa=>K (.bool (decide (a>=0)))) σ):ab P 506 #[.slice p0 l0 c0,.func (.func g1) #[] fQ] K σ:=ao h0 func506 h
def QT(h:(al aZ 617 λa=>ar a 2 λb=>ar a 3 λc=>aT (ag a 1) λd e f=>az a 4 λg=>aT (ag a 0) λh i j=>aA h λk=>cV n1 i (bs .i64 (Addr.add (Addr.add k (Int.toNat n1*5)) 2) λl=>aU 503 #[.agg g,D n1] λg=>dA (λa=>cA a (Addr.add (Addr.add k (Int.toNat n1*5)) 2)=some (D l)) (bf (ag a 0) (.slice h i j) (bf (ag a 1) (.slice d e f) (bf (ag a 3) (D c) (bf (ag a 2) (D b) (aJ 508 #[D b,D c,.slice d e f,D g,D l] λa=>K (.bool !a)))))))) σ):ab P 507 #[.agg aZ,D n1] K σ:=ao ⟨[(1,[0,1,0,4,0,16,0,0,192,0,512,0,3584,7680,15872,32767,65535,131071],(sp [0,2,4,7,9,11] (.l 1 (.l 3 (.l 5 (.l 6 (.l 10 (sp [12,13] (.l 14 (.s 8 (.ay [14,10,5,3,1]) (.s 15 (.ay []) (sp [16,17] (.d)))))))))))))],[],[],[]⟩ func507 h
def LR(h:(fR 512 #[D n0,D n1] λ_ a=>ae (!a) (K (.bool false)) (ae (decide (n4>n0)) (K (.bool false)) (pU 513 #[.slice p2 l2 c2,D n3,D n4] λa b c d=>ae d (aJ 514 #[D (wrap .i64 (n0-n4)),D n1,.slice a b c] λa=>K (.bool a)) (K (.bool false))))) σ):ab P 508 #[D n0,D n1,.slice p2 l2 c2,D n3,D n4] K σ:=ao h0 func508 h
def QU(h:(al aZ 617 λa=>ae (decide (n1>0)) (aT (ag a 1) λb c d=>az a 4 λe=>aU 503 #[.agg e,D n1] λe=>bf (ag a 1) (.slice b c d) (db b c e 4 2 λb=>ae (b==0) (aT (ag a 0) λa b _=>aA a λa=>aR ((0<=(0:Int))/\((0:Int)<(↑b:Int))) (bs .i64 (Addr.add (Addr.add a (0*5)) 4) λa=>K (.bool (decide (a>=8))))) (K (.bool false)))) (dA (λ_=>True) (K (.bool false)))) σ):ab P 509 #[.agg aZ,D n1] K σ:=ao ⟨[(1,[0,1,3,7,15,7,7,103,255,511,1023,2047,4095,8191,16383,32767,65535,131071,262143,524287,1048575,2097151,4194303],(sp [0,1,2,3,6] (.l 4 (.l 5 (.s 7 (.ay [4]) (sp [8,9,10] (.l 11 (sp [12,13,14,15] (.l 16 (sp [17,18] (.l 19 (sp [20,21,22] (.d)))))))))))))],[],[],[]⟩ func509 h
def QN(h:(al aZ 57 λa=>aA p1 λb=>ar a 0 λa=>aT (b.add 0) λb c _=>cw p2 0 λd=>db b c d 5 1 λb=>K (.bool (a==b))) σ):ab P 510 #[.agg aZ,ad p1,ad p2] K σ:=ao ⟨[(1,[0,1,0,4,0,28,60,124,255,511],(sp [0,2] (.l 1 (.l 3 (.l 4 (sp [5,6] (.l 7 (sp [8,9] (.d)))))))))],[],[],[]⟩ func510 h
def D8(h:(bm (cG λa b=>ae (decide (a<l0)) (de p0 l0 a 5 5 λc=>kj P g1 (Array.mk (Array.toList #[]++[.agg c]++Array.toList fQ)) λc=>dv c λc=>ae c (K (D a)) (b [D (wrap .i64 (a+1))])) (K (D (-1)))) [D 0]) σ):ab P 511 #[.slice p0 l0 c0,.func (.func g1) #[] fQ] K σ:=ao ⟨[],[(1,[(8,.int .i64)])],[],[]⟩ func511 h
def LU(h:(ae (decide (n0<0)) (K (aq #[D 0,.bool false])) (ae (decide (n1<0)) (K (aq #[D 0,.bool false])) (ae (decide (n0>1048576)) (K (aq #[D 0,.bool false])) (ae (decide (n1>wrap .i64 (1048576-n0))) (K (aq #[D 0,.bool false])) (K (aq #[D (wrap .i64 (n0+n1)),.bool true])))))) σ):ab P 512 #[D n0,D n1] K σ:=ao h0 func512 h
def LQ(h:(bq (jn (rv p0 l0 n1 4 1 3 λa=>fH 414 #[.agg a,D n2] λa b=>al #[D 0,D 0,D 0] 55 λc=>aC c a 3 (ae (b !=0) (K (aq #[aG,.bool false])) (c7 P 57 (↑l0:Int) (↑l0:Int) λa=>aI P (Builtin.copy_ #[32,32] 3 #[.slice (some (ag a 0)) (Int.toNat (↑l0:Int)) (Int.toNat (↑l0:Int)),.slice p0 l0 c0]) λb=>di .i64 b λ_=>az c 3 λb=>aR ((0<=n1)/\(n1<(↑(Int.toNat (↑l0:Int)):Int))) (gW (Addr.add (Addr.add (ag a 0) (Int.toNat n1*4)) 1) b 3 (K (aq #[.slice (some (ag a 0)) (Int.toNat (↑l0:Int)) (Int.toNat (↑l0:Int)),.bool true]))))))) λa=>ae (decide (n1<0)) (K (aq #[aG,.bool false])) (ae (decide (n1>=l0)) (K (aq #[aG,.bool false])) (a []))) σ):ab P 513 #[.slice p0 l0 c0,D n1,D n2] K σ:=ao ⟨[],[],[(1,[])],[]⟩ func513 h
def LS(h:(fR 512 #[D n0,D n1] λa b=>ae b (aJ 515 #[D a,.slice p2 l2 c2] λa=>K (.bool a)) (K (.bool false))) σ):ab P 514 #[D n0,D n1,.slice p2 l2 c2] K σ:=ao h0 func514 h
def OQ(h:(pU 516 #[D n0,.slice p1 l1 c1] λ_ _ _ a=>K (.bool a)) σ):ab P 515 #[D n0,.slice p1 l1 c1] K σ:=ao h0 func515 h
def OP(h:(aJ 517 #[D n0,.slice p1 l1 c1] λa=>ae (!a) (K (aq #[aG,.bool false])) (c7 P 3 0 (↑l1:Int) λa=>al #[aG] 31 λb=>st (ag b 0) (.slice (some (ag a 0)) 0 (Int.toNat (↑l1:Int))) (ab P 518 #[D n0,.slice p1 l1 c1] λa=>nV P (ta λa c _ d=>iY a (aT (ag b 0) λe f g=>al #[D c] 3 λc=>cI P #[31,31] e f g (some (ag c 0)) 1 1 λc e f=>st (ag b 0) (.slice c e f) (fx a none (d (.bool true))))) a (λa=>aT (ag b 0) λ_ c _=>ae (decide ((↑c:Int)<(↑l1:Int))) (hU a (K (aq #[aG,.bool false]))) (aT (ag b 0) λb c d=>hU a (K (aq #[.slice b c d,.bool true])))) λa=>hU a (K (aq #[aG,.bool false]))))) σ):ab P 516 #[D n0,.slice p1 l1 c1] K σ:=mT ⟨[],[(900000,[(18,.int .i64),(19,.int .i64)])],[],[]⟩ func516 h
def OR(h:(ae (decide (n0>=0)) (ae (decide (n0<=1048576)) (aJ 520 #[.slice p1 l1 c1,.func (Fn.func 519) #[] #[]] λa=>K (.bool !a)) (K (.bool false))) (K (.bool false))) σ):ab P 517 #[D n0,.slice p1 l1 c1] K σ:=ao h0 func517 h
def OT(h:(al #[D n0] 3 λa=>al #[.slice p1 l1 c1] 32 λb=>K (.func (Fn.func 521) #[] #[ad (some (ag b 0)),ad (some (ag a 0))])) σ):ab P 518 #[D n0,.slice p1 l1 c1] K σ:=ao h0 func518 h
def OS(h:(al aZ 57 λa=>eY (ag a 1) 3 λa=>aJ 398 #[.agg a] λa=>K (.bool !a)) σ):ab P 519 #[.agg aZ] K σ:=ao h0 func519 h
def D7(h:(aU 353 #[.slice p0 l0 c0,.func (Fn.func g1) #[] fQ] λa=>K (.bool (decide (a>=0)))) σ):ab P 520 #[.slice p0 l0 c0,.func (.func g1) #[] fQ] K σ:=ao h0 func520 h
def OU(h:(b5 p1 0 λ_ a _=>c7 P 4 (↑a:Int) (↑a:Int) λb=>al #[aG] 60 λc=>st (ag c 0) (.slice (some (ag b 0)) (Int.toNat (↑a:Int)) (Int.toNat (↑a:Int))) (aU 522 #[ad p1,ad (some (ag c 0)),ad p2] λa=>bm (cG λa b=>ae (decide (a>=0)) (aT (ag c 0) λd e _=>oS d e a (.bool true) (cw p2 0 λd=>b5 p1 0 λe f _=>db e f a 4 2 λe=>cO p2 0 (D (wrap .i64 (d+e))) (cw p2 0 λd=>gj P g0 #[] #[] [D a,D d] λa=>dv a λa=>ae (!a) (K (aq #[])) (aU 522 #[ad p1,ad (some (ag c 0)),ad p2] λa=>b [D a])))) (K (aq #[]))) [D a])) σ):ab P 521 #[.func (.yield g0) #[] #[],ad p1,ad p2] K σ:=ao ⟨[(6,[0,0,0,6,14,30,62,127,255],(sp [2] (.l 0 (.l 1 (sp [3,4,5] (.l 6 (sp [7] (.s 8 (.ay []) .d))))))))],[(1,[(6,.int .i64)])],[],[]⟩ func521 h
def OV(h:(b5 p0 0 λa b _=>bm (cG λc d=>ae (decide (c<b)) (de a b c 4 4 λa=>al #[D 0,D 0,D 0,D 0] 57 λb=>aC b a 4 (b5 p1 0 λa e _=>Ay a e c λa=>ae (!a) (eY (ag b 1) 3 λa=>aA p2 λb=>bs .i64 b λe=>aU 523 #[.agg a] λa=>bf b (D e) (ae (decide (a<=e)) (K (D c)) (d [D (wrap .i64 (c+1))]))) (dA (λ_=>True) (d [D (wrap .i64 (c+1))])))) (K (D (-1)))) [D 0]) σ):ab P 522 #[ad p0,ad p1,ad p2] K σ:=ao ⟨[(4,[0,0,3,7,15,31,63,127,255,63,1023,2047],(sp [1] (.l 0 (sp [2] (.l 3 (sp [4,5,6] (.l 7 (.l 9 (.s 8 (.ay [9]) (sp [10,11] (.d)))))))))))],[(1,[(8,.int .i64)])],[],[]⟩ func522 h
def Lq(h:(al aZ 55 λa=>az a 3 λb=>aJ 398 #[.agg b] λb=>ae (!b) (K (D 0)) (ar a 0 λb=>ar a 1 λa=>K (D (wrap .i64 (b-a))))) σ):ab P 523 #[.agg aZ] K σ:=ao h0 func523 h
def NO(h:(al #[D 0,D 0,D 0,D 0] 23 λa=>ae (Option.isNone p0) (aC a #[D 0,D 0,D 0,D 0] 4 (az a 4 λa=>K (.agg a))) (jX p0 0 4 λb=>aC a b 4 (az a 4 λa=>K (.agg a)))) σ):ab P 542 #[ad p0] K σ:=ao h0 func542 h
def O6(h:(K (aq #[])) σ):ab P 545 #[ad p0,ad p1] K σ:=ao h0 func545 h
def O7(h:(al cs2 47 λa=>al q6 44 λb=>bq (jn (ar a 0 λa=>ae (a==12) (cw p0 1 λa=>cO p0 1 (D (wrap .i64 (a+1))) (cw p0 2 λa=>aT (ag b 2) λ_ b _=>cO p0 2 (D (wrap .i64 (a+(↑b:Int)))) (K (aq #[])))) (K (aq #[])))) λa=>ar b 0 λb=>ae (b !=0) (cw p0 3 λb=>cO p0 3 (D (wrap .i64 (b+1))) (a [])) (a [])) σ):ab P 546 #[ad p0,ad p1,.agg cs2,.agg q6] K σ:=ao ⟨[(5,[0,1,3,7,15,0,32,96,255,511,1023,2047,4095],(sp [0,1,2,3,5] (.l 4 (.l 6 (sp [7,8,9,10,11] (.s 12 (.ay []) .d))))))],[],[(1,[])],[]⟩ func546 h
def O8(h:(aA p0 λa=>aA p0 λb=>aA p0 λc=>bs .i64 (a.add 1) λd=>bs .i64 (b.add 2) λe=>bs .i64 (c.add 3) λf=>bH 8 #[ad p1] λg=>bf (c.add 3) (D f) (bf (b.add 2) (D e) (bf (a.add 1) (D d) (Bl g 4 λ_ a _=>cO p2 1 (D d) (cO p2 2 (D e) (cO p2 3 (D f) (cO p2 7 (D a) (K (aq #[]))))))))) σ):ab P 547 #[ad p0,ad p1,ad p2] K σ:=ao ⟨[(0,[0,0,0,0,0,16,48,112,240,0,512,1536,3584,7680,0,16384,49152,114688,245760,0,524288,1572864,3670016,2097137,10485745,27262961,60817395,127926259,262143987,530579447,1067450359,2141192183,4294967295,8589934591,17179869183],(sp [0,1,2,3,4,5,6,7,9,10,11,12,14,15,16,17,19] (.l 8 (.l 13 (.l 18 (.s 20 (.ay [18,13,8]) (sp [21,22,23,24] (.s 25 (.ay []) (sp [26,27] (.s 28 (.ay []) (sp [29,30] (.s 31 (.ay []) (sp [32,33] (.s 34 (.ay []) .d))))))))))))))],[],[],[]⟩ func547 h
def Pa(h:(cw p0 0 λa=>ae (a==0) (bH 542 #[ad p1] λa=>bH 8 #[ad p1] λb=>aU 551 #[.agg a,.agg b] λa=>cO p0 0 (D a) (K (aq #[]))) (K (aq #[]))) σ):ab P 548 #[ad p0,ad p1] K σ:=ao h0 func548 h
def Pb(h:(al cs2 47 λ_=>al q6 44 λ_=>ce 548 #[ad p0,ad p1] (K (aq #[]))) σ):ab P 549 #[ad p0,ad p1,.agg cs2,.agg q6] K σ:=ao h0 func549 h
def Pd(h:(cw p0 0 λa=>cO p2 4 (D a) (K (aq #[]))) σ):ab P 550 #[ad p0,ad p1,ad p2] K σ:=ao h0 func550 h
def Rn(h:(al aZ 23 λa=>al cg 36 λb=>bX 552 #[] λc d _=>bm (cG λe f=>ae (decide (e<d)) (sM c d e 1 λc=>al #[.nilFunc] 657 λd=>aC d c 1 (gN (ag d 0) λc=>az a 4 λa=>az b 6 λb=>lx P c [.agg a,.agg b] λa=>dv a λa=>ae a (K (D (wrap .i64 (e+1)))) (f [D (wrap .i64 (e+1))]))) (K (D 0))) [D 0]) σ):ab P 551 #[.agg aZ,.agg cg] K σ:=ao ⟨[],[(1,[(9,.int .i64)])],[],[]⟩ func551 h
def Rx(h:(aR (Array.size #[Value.func (Fn.func 553) #[] #[]]=1) (aR (Array.size #[Value.func (Fn.func 554) #[] #[]]=1) (aR (Array.size #[Value.func (Fn.func 555) #[] #[]]=1) (aR (Array.size #[Value.func (Fn.func 556) #[] #[]]=1) (aR (Array.size #[Value.func (Fn.func 557) #[] #[]]=1) (al #[.func (Fn.func 553) #[] #[],.func (Fn.func 554) #[] #[],.func (Fn.func 555) #[] #[],.func (Fn.func 556) #[] #[],.func (Fn.func 557) #[] #[]] 657 λa=>K (.slice (some (ag a 0)) 5 5))))))) σ):ab P 552 #[] K σ:=ao h0 func552 h
def Ro(h:(al aZ 23 λa=>al cg 36 λb=>aT (ag b 1) λ_ c _=>ar a 0 λa=>ae ((↑c:Int)!=a) (K (.bool true)) (aT (ag b 1) λa c d=>aT (ag b 2) λb e f=>aJ 558 #[.slice a c d,.slice b e f] λa=>K (.bool !a))) σ):ab P 553 #[.agg aZ,.agg cg] K σ:=ao h0 func553 h
def Rr(h:(al aZ 23 λ_=>al cg 36 λa=>aT (ag a 3) λb c _=>bm (kZ λd e f=>ae (decide (e<c)) (de b c e 4 4 λb=>al #[D 0,D 0,D 0,D 0] 57 λc=>aC c b 4 (ar c 0 λb=>ae (decide (b<=d)) (dA (λ_=>True) (K (.bool true))) (ar c 0 λb=>ae (decide (b>=64)) (dA (λ_=>True) (K (.bool true))) (eY (ag c 1) 3 λb=>aJ 398 #[.agg b] λb=>ae (!b) (dA (λ_=>True) (K (.bool true))) (aT (ag a 1) λa b d=>ar c 0 λg=>ar c 2 λh=>aU 559 #[.slice a b d,D (wrap .i64 (g+1))] λa=>bf (ag c 2) (D h) (ae (a !=h) (K (.bool true)) (ar c 0 λa=>f [D a,D (wrap .i64 (e+1))]))))))) (aT (ag a 1) λb c d=>bX 563 #[.slice b c d] λb c d=>aJ 562 #[.slice b c d,.func (Fn.func 560) #[] #[ad (some (ag a 0))]] λa=>K (.bool a))) [D (-1),D 0]) σ):ab P 554 #[.agg aZ,.agg cg] K σ:=ao ⟨[(5,[0,1,0,7,15,31,63,127,255,511,1023,2047,4095,8191,16383,32767,65535,131071,65535,327679,851967,2097151,65535,4259839,12648447,33554431,67108863],(sp [0,2] (.l 1 (sp [3,4,5] (.l 6 (sp [7,8,9,10] (.l 11 (.s 12 (.ay []) (sp [13,14,15,16,18,22,23] (.l 17 (.l 19 (sp [20] (.l 24 (.s 21 (.ay [24]) (sp [25,26] (.d))))))))))))))))],[(1,[(5,.int .i64),(12,.int .i64)])],[],[]⟩ func554 h
def Rt(h:(al aZ 23 λ_=>al cg 36 λa=>hD λb=>al #[.map none] 225 λc=>st (ag c 0) (.map (some b)) (aT (ag a 4) λb d _=>bm (kZ λe f g=>ae (decide (f<d)) (de b d f 5 5 λb=>al #[D 0,D 0,D 0,D 0,D 0] 160 λd=>aC d b 5 (bq (jn (ar d 0 λa=>gu (ag c 0) λb=>ar d 1 λc=>aI P (Instr.lookup 225 (.map b) (D c) false) λe=>di .i64 e λe=>ar d 2 λd=>aI P (Instr.mapUpdate 225 (.map b) (D c) (D (wrap .i64 (e+d)))) λ_=>g [D a,D (wrap .i64 (f+1))])) λb=>az d 5 λc=>aJ 347 #[.agg c] λc=>ae (!c) (K (.bool true)) (ar d 3 λc=>ae (c !=1) (K (.bool true)) (ar d 0 λc=>ae (decide (c<=e)) (K (.bool true)) (az a 6 λa=>ar d 1 λc=>dq 561 #[.agg a,D c] λa=>ae (Option.isNone a) (K (.bool true)) (b [])))))) (aT (ag a 3) λa b d=>aJ 520 #[.slice a b d,.func (Fn.func 564) #[] #[ad (some (ag c 0))]] λa=>K (.bool a))) [D 0,D 0])) σ):ab P 555 #[.agg aZ,.agg cg] K σ:=ao ⟨[],[(1,[(5,.int .i64),(13,.int .i64)])],[(6,[])],[]⟩ func555 h
def Rw(h:(al aZ 23 λ_=>al cg 36 λa=>aT (ag a 1) λb c d=>bH 565 #[.slice b c d] λb=>al #[D 0,D 0,D 0,D 0] 50 λc=>aC c b 4 (aR ((0<=(0:Int))/\((0:Int)<(4:Nat))) (ar c 0 λb=>aR ((0<=(2:Int))/\((2:Int)<(4:Nat))) (ar c 2 λd=>aR ((0<=(3:Int))/\((3:Int)<(4:Nat))) (ar c 3 λc=>aT (ag a 3) λa e f=>aJ 515 #[D (wrap .i64 (wrap .i64 (b+d)+c)),.slice a e f] λa=>K (.bool !a)))))) σ):ab P 556 #[.agg aZ,.agg cg] K σ:=ao h0 func556 h
def Rv(h:(al aZ 23 λa=>al cg 36 λb=>hD λc=>aT (ag b 5) λd e _=>bm (xv λf g h=>ae (decide (g<e)) (de d e g 5 5 λd=>al #[D 0,D 0,D 0,D 0,D 0] 62 λe=>aC e d 5 (bq (hN λa=>aT (ag b 1) λd f _=>ar e 0 λi=>de d f i 3 3 λd=>al #[D 0,D 0,D 0] 83 λf=>aC f d 3 (ar e 2 λd=>aI P (Instr.lookup 225 (.map (some c)) (D d) true) λd=>sE d λd i=>bq (hN λa=>ar e 2 λd=>ar f 1 λf=>aI P (Instr.mapUpdate 225 (.map (some c)) (D d) (D f)) λ_=>aT (ag b 5) λb _ c=>aR ((0<=g)/\(g<=c)) (bm (xv λa d f=>ae (decide (d<(↑(Int.toNat g-0):Int))) (aA (dh b 5 0 c) λb=>aR ((0<=d)/\(d<(↑(Int.toNat g-(0:Nat)):Int))) (eY (Addr.add b (Int.toNat d*5)) 5 λb=>al #[D 0,D 0,D 0,D 0,D 0] 62 λc=>aC c b 5 (ar c 0 λb=>ar e 0 λg=>ae (b==g) (ar c 3 λb=>ar c 4 λc=>ar e 3 λg=>ar e 4 λe=>aJ 284 #[.agg #[D b,D c],.agg #[D g,D e]] λb=>ae b (K (.bool true)) (f [.bool a,D (wrap .i64 (d+1))])) (f [.bool a,D (wrap .i64 (d+1))])))) (h [.bool a,D (wrap .i64 (g+1))])) [.bool a,D 0])) λb=>ar f 0 λc=>ae (c !=1) (K (.bool true)) (ar f 2 λc=>ar e 1 λe=>ae (c !=e) (K (.bool true)) (ae i (ar f 1 λc=>ae (d !=c) (K (.bool true)) (b [.bool a])) (b [.bool a]))))) λc=>ar e 0 λd=>ae (decide (d<0)) (K (.bool true)) (ar e 0 λd=>aT (ag b 1) λ_ b _=>ae (decide (d>=b)) (K (.bool true)) (ar e 3 λb=>ae (decide (b<0)) (K (.bool true)) (ar e 4 λb=>ae (decide (b<1)) (K (.bool true)) (ar e 3 λb=>ar a 1 λd=>ae (decide (b>d)) (K (.bool true)) (ar e 4 λb=>ar a 1 λa=>ar e 3 λd=>ae (decide (b>wrap .i64 (a-d))) (K (.bool true)) (c [.bool f])))))))) (K (.bool f))) [.bool false,D 0]) σ):ab P 557 #[.agg aZ,.agg cg] K σ:=mT ⟨[],[(1,[(5,.bool),(18,.int .i64)]),(3,[(5,.bool),(103,.int .i64)])],[(6,[(5,.bool)]),(10,[(5,.bool)])],[]⟩ func557 h
end
section
open Go.XS
open IntKind (wrap)
open Tryz
variable {K:aK}{σ:Heap}
variable (p0:aw)(l0:Nat)(c0:Nat)(n0:Int)(aZ:ax)(g0:Nat)(m0:Option Nat)(p1:aw)(l1:Nat)(c1:Nat)(n1:Int)(cg:ax)(g1:Nat)(fQ:ax)(p2:aw)(n2:Int)(cs2:ax)(p3:aw)(l3:Nat)(c3:Nat)(q6:ax)
def LK(h:(bq (jn (hD λa=>bm (cG λb c=>ae (decide (b<l1)) (eX p1 l1 b λd=>ae (decide (d<0)) (K (.bool false)) (ae (decide (d>=l0)) (K (.bool false)) (db p0 l0 d 3 0 λe=>ae (e !=2) (K (.bool false)) (aI P (Instr.mapUpdate 215 (.map (some a)) (D d) (.agg #[])) λ_=>c [D (wrap .i64 (b+1))])))) (aI P (Builtin.len_ #[215] 3 #[.map (some a)]) λa=>di .i64 a λa=>K (.bool (a==l1)))) [D 0])) λa=>aJ 568 #[.slice p0 l0 c0,.func (Fn.func 566) #[] #[]] λb=>ae b (K (.bool false)) (bH 565 #[.slice p0 l0 c0] λb=>aR ((0<=(2:Int))/\((2:Int)<(4:Nat))) (lZ .i64 b 2 λb=>ae ((↑l1:Int)!=b) (K (.bool false)) (a [])))) σ):ab P 558 #[.slice p0 l0 c0,.slice p1 l1 c1] K σ:=ao ⟨[],[(1,[(23,.int .i64)])],[(2,[])],[]⟩ func558 h
def LG(h:(sw 569 #[.slice p0 l0 c0] λa=>aI P (Instr.lookup 225 (.map a) (D n1) false) λa=>di .i64 a λa=>K (D a)) σ):ab P 559 #[.slice p0 l0 c0,D n1] K σ:=ao h0 func559 h
def Rs(h:(jX p1 0 6 λa=>dq 561 #[.agg a,D (wrap .i64 (n0-1))] λa=>K (.bool (Option.isNone a))) σ):ab P 560 #[D n0,ad p1] K σ:=ao h0 func560 h
def Rp(h:(al aZ 36 λa=>al #[D n1] 3 λb=>aT (ag a 3) λc d e=>aU 353 #[.slice c d e,.func (Fn.func 570) #[] #[ad (some (ag b 0))]] λb=>ae (decide (b<0)) (K (ad none)) (aT (ag a 3) λa c _=>aA a λa=>cV b c (K (ad (some (Addr.add a (Int.toNat b*4))))))) σ):ab P 561 #[.agg aZ,D n1] K σ:=ao h0 func561 h
def Q5(h:(aU 571 #[.slice p0 l0 c0,.func (Fn.func g1) #[] fQ] λa=>K (.bool (decide (a>=0)))) σ):ab P 562 #[.slice p0 l0 c0,.func (.func g1) #[] fQ] K σ:=ao h0 func562 h
def LJ(h:(sw 569 #[.slice p0 l0 c0] λa=>ab P 572 #[.map a] λa=>bX 43 #[a] λa b c=>K (.slice a b c)) σ):ab P 563 #[.slice p0 l0 c0] K σ:=ao h0 func563 h
def Ru(h:(al aZ 57 λa=>cW p1 0 λb=>ar a 0 λc=>aI P (Instr.lookup 225 (.map b) (D c) false) λb=>di .i64 b λb=>ar a 3 λa=>K (.bool (b !=a))) σ):ab P 564 #[.agg aZ,ad p1] K σ:=ao h0 func564 h
def LH(h:(al #[D 0,D 0,D 0,D 0] 50 λa=>al #[D 0,D 0,D 0,D 0] 50 λb=>bm (cG λc d=>ae (decide (c<l0)) (de p0 l0 c 3 3 λa=>al #[D 0,D 0,D 0] 83 λe=>aC e a 3 (ar e 0 λa=>aJ 573 #[D a] λa=>ae a (ar e 0 λa=>cV a 4 (bs .i64 (Addr.add (ag b 0) a.toNat) λe=>cV a 4 (st (Addr.add (ag b 0) a.toNat) (D (wrap .i64 (e+1))) (d [D (wrap .i64 (c+1))])))) (d [D (wrap .i64 (c+1))]))) (az b 4 λb=>aC a b 4 (az a 4 λa=>K (.agg a)))) [D 0]) σ):ab P 565 #[.slice p0 l0 c0] K σ:=ao ⟨[],[(1,[(8,.int .i64)])],[],[]⟩ func565 h
def LL(h:(al aZ 83 λa=>az a 3 λa=>aJ 567 #[.agg a] λa=>K (.bool !a)) σ):ab P 566 #[.agg aZ] K σ:=ao h0 func566 h
def LO(h:(al aZ 83 λa=>ar a 0 λb=>aJ 573 #[D b] λb=>ae b (ar a 1 λb=>ae (decide (b>=0)) (ar a 1 λb=>ar a 0 λc=>ae (decide (b>0)==(c==1)) (ar a 2 λb=>ae (decide (b>=0)) (ar a 2 λa=>K (.bool (decide (a<=1048575)))) (K (.bool false))) (K (.bool false))) (K (.bool false))) (K (.bool false))) σ):ab P 567 #[.agg aZ] K σ:=ao h0 func567 h
def Q3(h:(aU 574 #[.slice p0 l0 c0,.func (Fn.func g1) #[] fQ] λa=>K (.bool (decide (a>=0)))) σ):ab P 568 #[.slice p0 l0 c0,.func (.func g1) #[] fQ] K σ:=ao h0 func568 h
def LM(h:(hD λa=>bm (cG λb c=>ae (decide (b<l0)) (de p0 l0 b 3 3 λd=>al #[D 0,D 0,D 0] 83 λe=>aC e d 3 (ar e 1 λd=>ae (decide (d>0)) (ar e 1 λd=>aI P (Instr.lookup 225 (.map (some a)) (D d) false) λe=>di .i64 e λe=>aI P (Instr.mapUpdate 225 (.map (some a)) (D d) (D (wrap .i64 (e+1)))) λ_=>c [D (wrap .i64 (b+1))]) (c [D (wrap .i64 (b+1))]))) (K (.map (some a)))) [D 0]) σ):ab P 569 #[.slice p0 l0 c0] K σ:=ao ⟨[],[(1,[(9,.int .i64)])],[],[]⟩ func569 h
def Rq(h:(al aZ 57 λa=>ar a 0 λa=>cw p1 0 λb=>K (.bool (a==b))) σ):ab P 570 #[.agg aZ,ad p1] K σ:=ao h0 func570 h
def Rb(h:(bm (cG λa b=>ae (decide (a<l0)) (eX p0 l0 a λc=>kj P g1 (Array.mk (Array.toList #[]++[D c]++Array.toList fQ)) λc=>dv c λc=>ae c (K (D a)) (b [D (wrap .i64 (a+1))])) (K (D (-1)))) [D 0]) σ):ab P 571 #[.slice p0 l0 c0,.func (.func g1) #[] fQ] K σ:=ao ⟨[],[(1,[(8,.int .i64)])],[],[]⟩ func571 h
def Oc(h:(al #[.map m0] 225 λa=>K (.func (Fn.func 575) #[] #[ad (some (ag a 0))])) σ):ab P 572 #[.map m0] K σ:=ao h0 func572 h
def LN(h:(ae (decide (n0>=0)) (K (.bool (decide (n0<=3)))) (K (.bool false))) σ):ab P 573 #[D n0] K σ:=ao h0 func573 h
def Q9(h:(bm (cG λa b=>ae (decide (a<l0)) (de p0 l0 a 3 3 λc=>kj P g1 (Array.mk (Array.toList #[]++[.agg c]++Array.toList fQ)) λc=>dv c λc=>ae c (K (D a)) (b [D (wrap .i64 (a+1))])) (K (D (-1)))) [D 0]) σ):ab P 574 #[.slice p0 l0 c0,.func (.func g1) #[] fQ] K σ:=ao ⟨[],[(1,[(8,.int .i64)])],[],[]⟩ func574 h
def Od(h:(cW p1 0 λa=>aI P (Instr.range 225 (.map a)) λa=>im a λa=>bm (lp λb=>mU P (ad a) false 0 (ae false (kT P (ad a) λa _=>di .i64 a λa=>gj P g0 #[] #[] [D a] λa=>dv a λa=>ae (!a) (K (aq #[])) (b [])) (K (aq #[]))) λ_ _=>ae true (kT P (ad a) λa _=>di .i64 a λa=>gj P g0 #[] #[] [D a] λa=>dv a λa=>ae (!a) (K (aq #[])) (b [])) (K (aq #[]))) []) σ):ab P 575 #[.func (.yield g0) #[] #[],ad p1] K σ:=ao ⟨[],[(1,[])],[],[]⟩ func575 h
def O9(h:(bH 8 #[ad p1] λa=>bH 542 #[ad p1] λb=>bH 579 #[.agg a,.agg b] λa=>E5 p0 0 a 5 (K (aq #[]))) σ):ab P 576 #[ad p0,ad p1] K σ:=ao h0 func576 h
def D5(h:(al cs2 47 λa=>al q6 44 λb=>ar a 0 λa=>ae (a==12) (aT (ag b 2) λa b c=>cO p0 4 (.slice a b c) (aA p0 λa=>aA p0 λb=>aT (a.add 5) λc d e=>eY (b.add 0) 5 λb=>aR (Array.size b=5) (al (Array.mk (cX [aG,D 0,D 0,aG,aG] (0*5) (Array.toList b))) 111 λb=>bf (a.add 5) (.slice c d e) (cI P #[112,112] c d e (some (ag b 0)) 1 1 λa b c=>cO p0 5 (.slice a b c) (E4 p0 6 λa=>ae a (cO p0 6 (.bool true) (ce 576 #[ad p0,ad p1] (K (aq #[])))) (jX p0 0 5 λa=>aJ 580 #[.agg a] λa=>cO p0 6 (.bool !a) (ce 576 #[ad p0,ad p1] (K (aq #[]))))))))) (ce 576 #[ad p0,ad p1] (K (aq #[])))) σ):ab P 577 #[ad p0,ad p1,.agg cs2,.agg q6] K σ:=ao ⟨[(3,[0,0,2,6,14,0,32,96,224,480,1022,2047,4095,8191],(sp [0,1,2,3,5,6,7] (.l 4 (.l 8 (.s 9 (.ay [4]) (.s 10 (.ay []) (sp [11,12] (.s 13 (.ay []) .d))))))))],[],[],[]⟩ func577 h
def O'(h:(aA p0 λa=>aA p0 λb=>hA (a.add 6) λc=>aT (b.add 5) λb d e=>aJ 581 #[.slice b d e] λb=>bf (a.add 6) (.bool c) (cO p2 5 (.bool !c) (cO p2 6 (.bool b) (K (aq #[]))))) σ):ab P 578 #[ad p0,ad p1,ad p2] K σ:=ao ⟨[(0,[0,0,0,4,12,28,60,0,128,384,896,1920,4093,8189,16381,32767,65535,131071],(sp [0,1,2,3,4,7,8,9] (.l 5 (sp [6] (.l 10 (.s 11 (.ay [5]) (sp [12,13] (.s 14 (.ay []) (sp [15,16] (.s 17 (.ay []) .d))))))))))],[],[],[]⟩ func578 h
def MV(h:(al aZ 36 λa=>al cg 23 λb=>al #[aG,D 0,D 0,aG,aG] 111 λc=>aT (ag a 1) λd e _=>bm (kZ λf g h=>ae (decide (g<e)) (de d e g 3 3 λa=>al #[D 0,D 0,D 0] 83 λb=>aC b a 3 (ar b 0 λa=>ae (a==0) (h [D (wrap .i64 (f+1)),D (wrap .i64 (g+1))]) (h [D f,D (wrap .i64 (g+1))]))) (aT (ag a 2) λ_ d _=>ar b 2 λb=>aT (ag a 4) λe g h=>aT (ag a 2) λi j k=>aT (ag a 3) λl m n=>bX 582 #[.slice e g h] λe g h=>bf (ag a 3) (.slice l m n) (bf (ag a 2) (.slice i j k) (bX 583 #[.slice l m n] λl m n=>bf (ag a 2) (.slice i j k) (aC c #[.slice e g h,D (wrap .i64 (f+if 0>if b<d then b else(↑d:Int)then 0 else if b<d then b else(↑d:Int))),D (wrap .i64 ((↑j:Int)-if 0>if b<d then b else(↑d:Int)then 0 else if b<d then b else(↑d:Int))),.slice l m n,aG] 5 (az c 5 λa=>K (.agg a))))))) [D 0,D 0]) σ):ab P 579 #[.agg aZ,.agg cg] K σ:=ao ⟨[(9,[0,1,3,0,0,24,0,64,192,0,960,0,2048,6151,16383,32767],(sp [0,3,4,5,6,9,11] (.l 1 (.l 7 (sp [8,10] (.l 12 (.s 2 (.ay [12,7]) (.s 13 (.ay [7]) (sp [14] (.s 15 (.ay []) .d))))))))))],[(1,[(5,.int .i64),(12,.int .i64)])],[],[]⟩ func579 h
def MW(h:(al aZ 111 λa=>aT (ag a 0) λb c d=>ar a 1 λe=>aT (ag a 3) λf g h=>aT (ag a 4) λi j _=>bm (AL λb c d e f g h k l=>ae (decide (k<j)) (eX i j k λi=>ar a 2 λj=>aU 372 #[.slice b c d,D e,D j,.slice f g h] λj=>bq (jn (ar a 2 λa=>mF 584 #[.slice b c d,D e,D a,.slice f g h] λa _=>al #[aG,aG,aG,D 0] 360 λb=>aC b a 4 (aT (ag b 1) λa c d=>ar b 3 λe=>aT (ag b 2) λb f g=>l [.slice a c d,D e,.slice b f g,D (wrap .i64 (k+1))]))) λa=>ae (decide (j<0)) (K (.bool false)) (db b c j 5 0 λb=>ae (b !=i) (K (.bool false)) (a []))) (ar a 2 λa=>aU 372 #[.slice b c d,D e,D a,.slice f g h] λa=>K (.bool (decide (a<0))))) [.slice b c d,D e,.slice f g h,D 0]) σ):ab P 580 #[.agg aZ] K σ:=ao ⟨[(1,[0,1,0,4,0,16,3,79,255],(sp [0,2,4] (.l 1 (sp [6] (.l 3 (sp [7] (.l 5 (sp [8] .d)))))))),(9,[0,1,0,4,0,16,3,79,255],(sp [0,2,4] (.l 1 (sp [6] (.l 3 (sp [7] (.l 5 (sp [8] .d))))))))],[(1,[(3,.slice),(4,.int .i64),(5,.slice),(20,.int .i64)])],[(6,[])],[]⟩ func580 h
def MX(h:(hD λa=>bm (cG λb c=>ae (decide (b<l0)) (de p0 l0 b 5 5 λd=>al #[aG,D 0,D 0,aG,aG] 111 λe=>aC e d 5 (aT (ag e 4) λd f _=>bm (cG λg h=>ae (decide (g<f)) (eX d f g λb=>al #[D 0] 3 λc=>st (ag c 0) (D b) (aT (ag e 0) λb d f=>aU 511 #[.slice b d f,.func (Fn.func 585) #[] #[ad (some (ag c 0))]] λb=>ae (decide (b<0)) (h [D (wrap .i64 (g+1))]) (aT (ag e 0) λd e _=>db d e b 5 1 λb=>aI P (Instr.lookup 225 (.map (some a)) (D b) true) λd=>sE d λd e=>ae e (ar c 0 λe=>ae (decide (e<=d)) (K (.bool false)) (ar c 0 λc=>aI P (Instr.mapUpdate 225 (.map (some a)) (D b) (D c)) λ_=>h [D (wrap .i64 (g+1))])) (ar c 0 λc=>aI P (Instr.mapUpdate 225 (.map (some a)) (D b) (D c)) λ_=>h [D (wrap .i64 (g+1))])))) (c [D (wrap .i64 (b+1))])) [D 0])) (K (.bool true))) [D 0]) σ):ab P 581 #[.slice p0 l0 c0] K σ:=ao ⟨[],[(1,[(15,.int .i64)]),(3,[(22,.int .i64)])],[],[]⟩ func581 h
def Q0(h:(ae (Option.isNone p0) (K aG) (al #[] 160 λa=>cI P #[33,33] (some (ag a 0)) 0 0 p0 l0 c0 λa b c=>K (.slice a b c))) σ):ab P 582 #[.slice p0 l0 c0] K σ:=ao h0 func582 h
def QY(h:(ae (Option.isNone p0) (K aG) (al #[] 57 λa=>cI P #[32,32] (some (ag a 0)) 0 0 p0 l0 c0 λa b c=>K (.slice a b c))) σ):ab P 583 #[.slice p0 l0 c0] K σ:=ao h0 func583 h
def Nf(h:(al #[aG,aG,aG,D 0] 360 λa=>al #[.bool false] 4 λb=>bH 304 #[.slice p0 l0 c0,.slice p3 l3 c3,D n1] λc=>al #[aG,aG,aG,D 0] 360 λd=>aC d c 4 (ab P 305 #[ad (some (ag d 0)),D n2] λc=>nV P (x6 λc _ e=>iY c (az d 4 λd=>aC a d 4 (st (ag b 0) (.bool true) (fx c (some Code.ret) (e (.bool false)))))) c (λc=>az d 4 λd=>aC a d 4 (st (ag b 0) (.bool false) (hU c (az a 4 λa=>hA (ag b 0) λb=>K (aq #[.agg a,.bool b]))))) λc=>hU c (az a 4 λa=>hA (ag b 0) λb=>K (aq #[.agg a,.bool b])))) σ):ab P 584 #[.slice p0 l0 c0,D n1,D n2,.slice p3 l3 c3] K σ:=mT ⟨[],[(900000,[(17,.agg)])],[],[]⟩ func584 h
def MY(h:(al aZ 160 λa=>ar a 0 λa=>cw p1 0 λb=>K (.bool (a==b))) σ):ab P 585 #[.agg aZ,ad p1] K σ:=ao h0 func585 h
def R6(h:(aA p0 λa=>eF P (callFunc 236 #[ad (some (a.add 0))]) λa=>di .i64 a λa=>K (D a)) σ):ab P 148 #[ad p0] K σ:=ao h0 func148 h
def Oi(h:(aU 327 #[.int .u64 n0] (λa=>K (D a))) σ):ab P 227 #[.int .u64 n0] K σ:=ao h0 func227 h
def Oj(h:(aR (0<=(1:Int)) (aR (0<=(2:Int)) (aR (0<=(4:Int)) (aR (0<=(8:Int)) (aR (0<=(16:Int)) (aR (0<=(32:Int)) (K (D (bl .and .i64 (wrap .i64 (wrap .u64 (wrap .u64 (wrap .u64 (bl .and .u64 (wrap .u64 (bP .u64 (wrap .u64 (bl .and .u64 (bP .u64 (wrap .u64 (bl .and .u64 (bP .u64 n0 1) 6148914691236517205+bl .and .u64 n0 6148914691236517205)) 2) 3689348814741910323+bl .and .u64 (wrap .u64 (bl .and .u64 (bP .u64 n0 1) 6148914691236517205+bl .and .u64 n0 6148914691236517205)) 3689348814741910323)) 4+wrap .u64 (bl .and .u64 (bP .u64 (wrap .u64 (bl .and .u64 (bP .u64 n0 1) 6148914691236517205+bl .and .u64 n0 6148914691236517205)) 2) 3689348814741910323+bl .and .u64 (wrap .u64 (bl .and .u64 (bP .u64 n0 1) 6148914691236517205+bl .and .u64 n0 6148914691236517205)) 3689348814741910323))) 1085102592571150095+bP .u64 (bl .and .u64 (wrap .u64 (bP .u64 (wrap .u64 (bl .and .u64 (bP .u64 (wrap .u64 (bl .and .u64 (bP .u64 n0 1) 6148914691236517205+bl .and .u64 n0 6148914691236517205)) 2) 3689348814741910323+bl .and .u64 (wrap .u64 (bl .and .u64 (bP .u64 n0 1) 6148914691236517205+bl .and .u64 n0 6148914691236517205)) 3689348814741910323)) 4+wrap .u64 (bl .and .u64 (bP .u64 (wrap .u64 (bl .and .u64 (bP .u64 n0 1) 6148914691236517205+bl .and .u64 n0 6148914691236517205)) 2) 3689348814741910323+bl .and .u64 (wrap .u64 (bl .and .u64 (bP .u64 n0 1) 6148914691236517205+bl .and .u64 n0 6148914691236517205)) 3689348814741910323))) 1085102592571150095) 8)+bP .u64 (wrap .u64 (bl .and .u64 (wrap .u64 (bP .u64 (wrap .u64 (bl .and .u64 (bP .u64 (wrap .u64 (bl .and .u64 (bP .u64 n0 1) 6148914691236517205+bl .and .u64 n0 6148914691236517205)) 2) 3689348814741910323+bl .and .u64 (wrap .u64 (bl .and .u64 (bP .u64 n0 1) 6148914691236517205+bl .and .u64 n0 6148914691236517205)) 3689348814741910323)) 4+wrap .u64 (bl .and .u64 (bP .u64 (wrap .u64 (bl .and .u64 (bP .u64 n0 1) 6148914691236517205+bl .and .u64 n0 6148914691236517205)) 2) 3689348814741910323+bl .and .u64 (wrap .u64 (bl .and .u64 (bP .u64 n0 1) 6148914691236517205+bl .and .u64 n0 6148914691236517205)) 3689348814741910323))) 1085102592571150095+bP .u64 (bl .and .u64 (wrap .u64 (bP .u64 (wrap .u64 (bl .and .u64 (bP .u64 (wrap .u64 (bl .and .u64 (bP .u64 n0 1) 6148914691236517205+bl .and .u64 n0 6148914691236517205)) 2) 3689348814741910323+bl .and .u64 (wrap .u64 (bl .and .u64 (bP .u64 n0 1) 6148914691236517205+bl .and .u64 n0 6148914691236517205)) 3689348814741910323)) 4+wrap .u64 (bl .and .u64 (bP .u64 (wrap .u64 (bl .and .u64 (bP .u64 n0 1) 6148914691236517205+bl .and .u64 n0 6148914691236517205)) 2) 3689348814741910323+bl .and .u64 (wrap .u64 (bl .and .u64 (bP .u64 n0 1) 6148914691236517205+bl .and .u64 n0 6148914691236517205)) 3689348814741910323))) 1085102592571150095) 8)) 16)+bP .u64 (wrap .u64 (wrap .u64 (bl .and .u64 (wrap .u64 (bP .u64 (wrap .u64 (bl .and .u64 (bP .u64 (wrap .u64 (bl .and .u64 (bP .u64 n0 1) 6148914691236517205+bl .and .u64 n0 6148914691236517205)) 2) 3689348814741910323+bl .and .u64 (wrap .u64 (bl .and .u64 (bP .u64 n0 1) 6148914691236517205+bl .and .u64 n0 6148914691236517205)) 3689348814741910323)) 4+wrap .u64 (bl .and .u64 (bP .u64 (wrap .u64 (bl .and .u64 (bP .u64 n0 1) 6148914691236517205+bl .and .u64 n0 6148914691236517205)) 2) 3689348814741910323+bl .and .u64 (wrap .u64 (bl .and .u64 (bP .u64 n0 1) 6148914691236517205+bl .and .u64 n0 6148914691236517205)) 3689348814741910323))) 1085102592571150095+bP .u64 (bl .and .u64 (wrap .u64 (bP .u64 (wrap .u64 (bl .and .u64 (bP .u64 (wrap .u64 (bl .and .u64 (bP .u64 n0 1) 6148914691236517205+bl .and .u64 n0 6148914691236517205)) 2) 3689348814741910323+bl .and .u64 (wrap .u64 (bl .and .u64 (bP .u64 n0 1) 6148914691236517205+bl .and .u64 n0 6148914691236517205)) 3689348814741910323)) 4+wrap .u64 (bl .and .u64 (bP .u64 (wrap .u64 (bl .and .u64 (bP .u64 n0 1) 6148914691236517205+bl .and .u64 n0 6148914691236517205)) 2) 3689348814741910323+bl .and .u64 (wrap .u64 (bl .and .u64 (bP .u64 n0 1) 6148914691236517205+bl .and .u64 n0 6148914691236517205)) 3689348814741910323))) 1085102592571150095) 8)+bP .u64 (wrap .u64 (bl .and .u64 (wrap .u64 (bP .u64 (wrap .u64 (bl .and .u64 (bP .u64 (wrap .u64 (bl .and .u64 (bP .u64 n0 1) 6148914691236517205+bl .and .u64 n0 6148914691236517205)) 2) 3689348814741910323+bl .and .u64 (wrap .u64 (bl .and .u64 (bP .u64 n0 1) 6148914691236517205+bl .and .u64 n0 6148914691236517205)) 3689348814741910323)) 4+wrap .u64 (bl .and .u64 (bP .u64 (wrap .u64 (bl .and .u64 (bP .u64 n0 1) 6148914691236517205+bl .and .u64 n0 6148914691236517205)) 2) 3689348814741910323+bl .and .u64 (wrap .u64 (bl .and .u64 (bP .u64 n0 1) 6148914691236517205+bl .and .u64 n0 6148914691236517205)) 3689348814741910323))) 1085102592571150095+bP .u64 (bl .and .u64 (wrap .u64 (bP .u64 (wrap .u64 (bl .and .u64 (bP .u64 (wrap .u64 (bl .and .u64 (bP .u64 n0 1) 6148914691236517205+bl .and .u64 n0 6148914691236517205)) 2) 3689348814741910323+bl .and .u64 (wrap .u64 (bl .and .u64 (bP .u64 n0 1) 6148914691236517205+bl .and .u64 n0 6148914691236517205)) 3689348814741910323)) 4+wrap .u64 (bl .and .u64 (bP .u64 (wrap .u64 (bl .and .u64 (bP .u64 n0 1) 6148914691236517205+bl .and .u64 n0 6148914691236517205)) 2) 3689348814741910323+bl .and .u64 (wrap .u64 (bl .and .u64 (bP .u64 n0 1) 6148914691236517205+bl .and .u64 n0 6148914691236517205)) 3689348814741910323))) 1085102592571150095) 8)) 16)) 32))) 127))))))))) σ):ab P 327 #[.int .u64 n0] K σ:=ao h0 func327 h
def R5(h:(aA p0 λa=>eF P (callFunc 409 #[ad (some (a.add 0)),D n1]) λa=>di .i64 a λa=>K (D a)) σ):ab P 368 #[ad p0,D n1] K σ:=ao h0 func368 h
end
section
open Go.XS
section
variable {B:Heap}{H:au}{K:aK}
def dN{v w:Value}(h:T B H (K v))(e:v=w):T B H (K w):=e▸h
def U1(k:IntKind)(zs:aO):∀v∈iv k zs,v.oneCell'=true:=by intro v a;obtain⟨z,_,rfl⟩:=bQ.1 a;rfl
def Fw(k:IntKind)(xs ys:aO):iv k (xs++ys)=iv k xs++iv k ys:=by simp[iv]
def Xx{b:Nat}{zs:aO}{cs:ax}[h:bY B H b cs](hc:cs=(iv .i64 zs).toArray):bF B H (some ⟨b,0,none⟩) (iv .i64 zs):=by subst hc;refine bF.nP λi hi=>?_;simp
end
end
section
open Go.XS
def lR:P.cellsOf 3=1:=by kernel_rfl
def mj:zc P 3=#[.int .i64 0]:=by kernel_rfl
def kO:P.bytesOf 3=8:=by kernel_rfl
section
variable {B:Heap}{H:au}{K:aK}
end
end
section
open Go.XS
def posOf(xs:aO)(x:Int):Int:=if xs.idxOf x<xs.length then(xs.idxOf x:Int)else-1
def Wr{xs:aO}(h:∀(i j:Nat) (x:Int),xs[i]?=some x->xs[j]?=some x->i=j):xs.Nodup:=by rw[mw,kJ];intro i j hi a b he;have:=h i j xs[i] (ba hi) (by rw[ba a,he]);omega
def u0{xs:aO}(h:xs.Nodup){i j:Nat}{x:Int}(hi:xs[i]?=some x)(a:xs[j]?=some x):i=j:=(List.getElem?_inj (b0.1 hi).1 h).1 (hi.trans a.symm)
def vb{xs:aO}(h:xs.Nodup){i:Nat}{x:Int}(hi:xs[i]?=some x):posOf xs x=i:=by obtain⟨hl,rfl⟩:=b0.1 hi;unfold posOf;rw[h.idxOf_getElem i hl,ah hl]
def vd{xs:aO}{x:Int}(h:x∉xs):posOf xs x=-1:=by unfold posOf;rw[ak];rw[IL];exact h
def va{xs:aO}(x:Int):(∃i:Nat,xs[i]?=some x/\posOf xs x=(i:Int)/\i<xs.length)\/(x∉xs/\posOf xs x=-1):=by
 by_cases h:x∈xs
 ·have hl:=IL.2 h
  exact .inl ⟨xs.idxOf x,by rw[ba hl,List.getElem_idxOf],by unfold posOf;rw[ah hl],hl⟩
 ·exact .inr ⟨h,vd h⟩
def k6{xs:aO}{x:Int}:posOf xs x<0↔x∉xs:=by
 rcases va x with⟨i,h,a,hl⟩|⟨h,a⟩
 ·rw[a]
  have:=cz h;constructor
  ·intro;omega
  ·intro h;exact absurd this h
 ·rw[a]
  exact⟨λ_=>h,λ_=>by omega⟩
def A2:∀(n:Nat) (xs:aO),xs.Nodup->(∀x∈xs,0<=x/\x<n)->xs.length<=n
 |0,xs,_,h=>by
  cases xs with
  |nil=>simp
  |cons x xs=>have:=h x (by simp);omega
 |n+1,xs,b,h=>by
  by_cases hm:(n:Int)∈xs
  ·have U:=A2 n (xs.erase n) (b.erase _) (λx a=>by
    have c:=h x (r3 a)
    have d:x≠n:=by intro e;subst e;exact(CG b) a
    omega)
   rw[List.length_erase_of_mem hm]at U;omega
  ·have U:=A2 n xs b (λx a=>by
    have c:=h x a;have d:x≠n:=by intro e;subst e;exact hm a
    omega)
   omega
def Wt{n:Nat}{xs:aO}{x:Int}(b:xs.Nodup)(h:∀y∈xs,0<=y/\y<n)(c:x∉xs)(h0:0<=x)(U:x<n):xs.length+1<=n:=by
 have:=A2 n (x::xs) (by simp[c,b]) (by
  intro y a;rcases cR.1 a with rfl|a
  ·exact⟨h0,U⟩
  ·exact h y a)
 simpa using this
def Xd{xs:aO}{x:Int}(j:xs.Nodup)(k:x∉xs)(y:Int):posOf (xs++[x]) y=if y=x then(xs.length:Int)else posOf xs y:=by
 have f:(xs++[x]).Nodup:=by rw[dZ];refine⟨j,by simp,?_⟩;intro a ha b g e;simp at g;subst g;subst e;exact k ha
 by_cases c:y=x
 ·subst c
  rw[ah rfl];exact vb f (by simp)
 ·rw[ak c]
  rcases va (xs:=xs) y with⟨i,h,d,hl⟩|⟨h,d⟩
  ·rw[d]
   exact vb f (by rw[hb hl];exact h)
  ·rw[d]
   exact vd (by simp[h,c])
def Ws{xs:aO}{x:Int}(d:xs.Nodup)(f:x∉xs):(xs++[x]).Nodup:=by rw[dZ];refine⟨d,by simp,?_⟩;intro a ha b c e;simp at c;subst c;subst e;exact f ha
def jW(xs:aO)(i:Nat):aO:=(xs.set i (xs.getD (xs.length-1) 0)).take (xs.length-1)
def q9{xs:aO}{i j:Nat}(hi:i<xs.length)(a:j<xs.length-1):(jW xs i)[j]?=if j=i then xs[xs.length-1]? else xs[j]?:=by
 have hl:xs.length-1<xs.length:=by omega
 have c:j<xs.length:=by omega
 simp only[jW,oi,a,dT,kE];by_cases h:i=j
 ·subst h
  simp[hi,List.getD,ba hl]
 ·have b:¬j=i:=λe=>h e.symm
  simp[h,b]
def ra{xs:aO}{i:Nat}:(jW xs i).length=xs.length-1:=by simp[jW]
def EC{xs:aO}{i:Nat}(d:xs.Nodup)(hi:i<xs.length):(jW xs i).Nodup:=by
 refine Wr λa b x ha c=>?_;have e:a<xs.length-1:=by have:=(b0.1 ha).1;rwa [ra]at this
 have f:b<xs.length-1:=by have:=(b0.1 c).1;rwa [ra]at this
 rw[q9 hi e]at ha;rw[q9 hi f]at c;split at ha
 ·split at c
  ·omega
  ·have:=u0 d ha c;omega
 ·split at c
  ·have:=u0 d ha c;omega
  ·exact u0 d ha c
def EB{xs:aO}{i:Nat}{y:Int}(hi:i<xs.length)(h:y∈jW xs i):y∈xs:=by
 obtain⟨j,a,he⟩:=r2.1 h;have b:j<xs.length-1:=by rwa [ra]at a
 have U:=q9 hi b;rw[ba a,he]at U;split at U
 ·exact cz U.symm
 ·exact cz U.symm
def GR{xs:aO}{i:Nat}{x top:Int}(d:xs.Nodup)(a:xs[i]?=some x)(b:xs[xs.length-1]?=some top)(y:Int):posOf (jW xs i) y=if y=x then-1 else if y=top then(i:Int)else posOf xs y:=by
 have hi:i<xs.length:=(b0.1 a).1;have k:=EC d hi;by_cases c:y=x
 ·subst c
  rw[ah rfl];refine vd λhm=>?_;obtain⟨j,l,he⟩:=r2.1 hm;have m:j<xs.length-1:=by rwa [ra]at l
  have U:=q9 hi m;rw[ba l,he]at U;split at U
  ·have:=u0 d U.symm a;omega
  ·have:=u0 d U.symm a;omega
 ·rw[ak c]
  by_cases f:y=top
  ·subst f
   rw[ah rfl]
   have o:i≠xs.length-1:=by intro e;rw[e,b]at a;cases a;exact c rfl
   exact vb k (by rw[q9 hi (by omega),ah rfl];exact b)
  ·rw[ak f]
   rcases va (xs:=xs) y with⟨j,h,g,hl⟩|⟨h,g⟩
   ·rw[g]
    have n:j≠i:=by intro e;subst e;rw[h]at a;cases a;exact c rfl
    have p:j≠xs.length-1:=by intro e;subst e;rw[h]at b;cases b;exact f rfl
    exact vb k (by rw[q9 hi (by omega),ak n];exact h)
   ·rw[g]
    exact vd λhm=>h (EB hi hm)
end
section
open Go.XS
def cY(n:Nat)(xs:aO):aB:=(List.range n).map λ(y:Nat)=> .int .i64 (posOf xs (y:Int))
@[simp] theorem B0 (n:Nat) (xs:aO):(cY n xs).length=n:=by simp[cY]
theorem BZ{n:Nat}{xs:aO}{i:Nat}(h:i<n):(cY n xs)[i]?=some (.int .i64 (posOf xs (i:Int))):=by simp[cY,h]
def fl(n:Nat)(xs:aO)(junk:aB):aB:=cY n xs++(iv .i64 xs++junk)
def iH(rm n len:Nat):ax:=#[.slice (some ⟨rm,n,none⟩) len n,.slice (some ⟨rm,0,none⟩) n n]
def hG(s n:Nat)(xs:aO):bg:=
 fk (xs.Nodup/\(∀x∈xs,0<=x/\x<(n:Int))/\n<=1048576)<|eK λrm:Nat=>eK λjunk:aB=>fk (xs.length+junk.length=n)<|
  eG [cl s (iH rm n xs.length),cl rm (fl n xs junk).toArray]
section
variable {B:Heap}{H:au}{K:aK}{s n:Nat}{xs:aO}
def ym{p:HP}(t:xs.Nodup->(∀x∈xs,0<=x/\x<(n:Int))->n<=1048576->∀rm junk,xs.length+junk.length=n->T B (cl s (iH rm n xs.length)::cl rm (fl n xs junk).toArray::H) p):T B (hG s n xs::H) p:=gD λ⟨U,a,b⟩=>gn λrm=>gn λjunk=>gD λc=>lJ (t U a b rm junk c)
def tn{p:HP}(U:xs.Nodup)(a:∀x∈xs,0<=x/\x<(n:Int))(b:n<=1048576){rm:Nat}{junk:aB}(c:xs.length+junk.length=n)(t:T B (hG s n xs::H) p):T B (cl s (iH rm n xs.length)::cl rm (fl n xs junk).toArray::H) p:=jQ (Hs:=[cl s (iH rm n xs.length),cl rm (fl n xs junk).toArray]) (h4 c (gI (q:=λjunk=>fk (xs.length+junk.length=n) (eG [cl s (iH rm n xs.length),cl rm (fl n xs junk).toArray])) junk (gI rm (h4 ⟨U,a,b⟩ t))))
def Fe{junk:aB}{i:Nat}(h:i<n):(fl n xs junk).toArray[0+i]?=some (.int .i64 (posOf xs (i:Int))):=by simp only[dY,bJ,fl];rw[hb (by simpa using h)];exact BZ h
def Fc{junk:aB}{i:Nat}{z:Int}(h:xs[i]?=some z):(fl n xs junk).toArray[n+i]?=some (.int .i64 z):=by have hl:i<xs.length:=(b0.1 h).1;simp only[dY,fl];rw[iI (by simp),hb (by simpa using hl)];simp only[B0,y6];exact lT h
def ZF{m:Int}(h0:m=(n:Int))(U:n<=1048576)(I:∀s,T B (hG s n []::H) (K (pz s))):T B H (ab P 228 #[.int .i64 m] K):=by
 subst h0;apply an (RH _);refine gm (λvs H'=>vs=[]/\H=H') ?_ λR a=>aD (by simp) (aD (by simp;omega) (a _ _ ⟨rfl,rfl⟩));rintro vs H' ⟨rfl,rfl⟩;have hw:IntKind.wrap .i64 (2*(n:Int))=((2*n:Nat):Int):=by rw[bd (by omega)];omega
 simp only[fu,hw,a7];intro _;refine gC (by omega) (by omega) (by omega) (by rw[kO];omega) (by kernel_rfl) (by kernel_rfl) λrm=>?_;refine bj ⟨by omega,by omega⟩ (bj ⟨by omega,by omega⟩ (bj ⟨by omega,by omega⟩ (bj ⟨by omega,by omega⟩ (bj ⟨by omega,by omega⟩ ?_))));rw[lR,mj,k7,iM,a7]
 have b:dh (some ⟨rm,0,none⟩) 1 n (2*n)=some ⟨rm,n,none⟩:=by
  unfold dh;split
  ·have:n=0:=by omega
   subst this;rfl
  ·simp[aQ]
 rw[b,lf,lF,iN,show 2*n-n=n by omega];refine el λs=>?_;simp only[aQ];apply bW rfl
 refine se (λvs H'=>∃i:Nat,i<=n/\vs=[.int .i64 (i:Int)]/\H'=cl s (iH rm n 0)::cl rm (List.replicate i (Value.int .i64 (-1))++(List.replicate (n-i) (Value.int .i64 0)++List.replicate n (Value.int .i64 0))).toArray::H)
  (λvs=>match vs with|[.int _ i]=>n-i.toNat|_=>0) ⟨0,qK _,rfl,?_⟩ ?_
 ·simp only[tP,kI,iN,List.replicate_append_replicate]
  rw[show n+n=2*n by omega];rfl
 rintro vs H' R ⟨i,hi,rfl,rfl⟩ a;simp only[kM,fu];intro d heq;simp only[ly,Value.int.injEq,nk,kK]at heq;subst heq;refine cH (λhc=>?_) (λhc=>?_)
 ·have c:i<n:=by simpa using hc
  refine bW rfl (oD rfl c (by simp;omega) rfl ?_);rw[yE (by omega)];refine a _ _ ⟨i+1,by omega,rfl,?_⟩ (by simp only[a7];omega);congr 3;simp only[bJ,jI];congr 1;rw[pD _ _ (by simp),pC _ _ (by simp;omega)];simp only[jG,lF];rw[show n-i=(n-(i+1))+1 by omega,r4,jJ,List.replicate_succ'];simp
 ·have:i=n:=by simp at hc;omega
  subst this
  rw[show(List.replicate i (Value.int .i64 (-1))++(List.replicate (i-i) (Value.int .i64 0)++List.replicate i (Value.int .i64 0)))=fl i [] (List.replicate i (Value.int .i64 0)) by
   simp only[fl,lF,tP,kI,iv,oj];congr 1;apply jf;intro j;by_cases h:j<i
   ·simp[cY,h,posOf]
   ·simp[cY,h]]
  exact tn (by simp) (by simp) U (by simp) (I s)
def ZG{x:Int}(I:T B (hG s n xs::H) (K (.int .i64 (posOf xs x)))):T B (hG s n xs::H) (ab P 487 #[pz s,.int .i64 x] K):=by
 refine ym λU c e rm junk f=>?_;have a:=tn U c e (rm:=rm) (junk:=junk) f I;apply an (RL _ _);simp only[cT,aQ];have d:(x<0\/(n:Int)<=x)->posOf xs x=-1:=λh=>vd λhm=>by have:=c x hm;omega
 refine gm (λvs H'=>vs=[]/\H'=cl s (iH rm n xs.length)::cl rm (fl n xs junk).toArray::H/\0<=x/\x<(n:Int)) ?_ λR g=>?_
 ·rintro vs H' ⟨rfl,rfl,j,k⟩
  refine fu.2 λ_=>bW rfl (oC (i:=x.toNat) (by omega) (by omega) (Fe (by omega)) ?_);rw[rX j];exact a
 ·refine aD rfl (cH (λh=>dN a ?_) λh=>bW rfl (cH (λb=>dN a ?_) λb=>g _ _ ⟨rfl,rfl,?_,?_⟩))
  ·rw[d (.inl (by simpa using h))]
  ·rw[d (.inr (by simpa using b))]
  ·simpa using h
  ·simpa using b
def ZH(I:T B (hG s n xs::H) (K (.tuple #[.int .i64 (xs.getLast?.getD 0),.bool (decide (0<xs.length))]))):T B (hG s n xs::H) (ab P 454 #[pz s] K):=by
 refine ym λU b c rm junk d=>?_;have a:=tn U b c (rm:=rm) (junk:=junk) d I;apply an (RN _);simp only[cT,aQ];refine gm (λvs H'=>vs=[]/\H'=cl s (iH rm n xs.length)::cl rm (fl n xs junk).toArray::H/\0<xs.length) ?_ λR e=>?_
 ·rintro vs H' ⟨rfl,rfl,hl⟩
  obtain⟨z,hz⟩:∃z,xs[xs.length-1]?=some z:=⟨_,ba (by omega)⟩;have f:xs.getLast?.getD 0=z:=by rw[CM,hz];rfl
  have hw:IntKind.wrap .i64 ((xs.length:Int)-1)=((xs.length-1:Nat):Int):=by rw[bd (by omega)];omega
  refine fu.2 λ_=>bW rfl (bW rfl ?_);rw[hw];refine oC rfl (by omega) (Fc hz) (dN a ?_);simp[f,hl]
 ·refine aD rfl (bW rfl (cH (λh=>dN a ?_) λh=>e _ _ ⟨rfl,rfl,?_⟩))
  ·have:xs=[]:=by simpa using h
   simp[this]
  ·have:¬xs=[]:=by simpa using h
   exact r1.2 this
def YQ{n:Nat}{xs ys:aO}{i:Nat}{v:Int}(h:∀j:Nat,j<n->posOf ys (j:Int)=if j=i then v else posOf xs (j:Int)):(cY n xs).set i (.int .i64 v)=cY n ys:=by
 apply jf;intro j;rw[kE];by_cases a:j<n
 ·rw[BZ a,BZ a,h j a]
  by_cases e:i=j
  ·subst e;simp[a]
  ·have b:¬j=i:=λh=>e h.symm
   simp[e,b]
 ·have U:(cY n xs)[j]?=none:=by simp[cY];omega
  have c:(cY n ys)[j]?=none:=by simp[cY];omega
  rw[U,c];split
  ·split
   ·rename_i f d;simp at d;omega
   ·rfl
  ·rfl
def jy(n:Nat)(xs:aO)(x:Int):Bool:=decide (0<=x/\x<(n:Int)/\posOf xs x<0)
def l5(n:Nat)(xs:aO)(x:Int):aO:=if jy n xs x then xs++[x]else xs
def Xm{n:Nat}{xs:aO}{x:Nat}{junk:aB}(a:xs.Nodup)(b:(x:Int)∉xs)(c:x<n)(d:1<=junk.length):eH ((fl n xs junk).toArray.setIfInBounds (0+x) (.int .i64 (xs.length:Int))) (n+xs.length*1) [.int .i64 (x:Int)]=(fl n (xs++[(x:Int)]) (junk.drop 1)).toArray:=by
 apply g'
 have eW:((fl n xs junk).toArray.setIfInBounds (0+x) (.int .i64 (xs.length:Int))).toList=cY n (xs++[(x:Int)])++(iv .i64 xs++junk):=by
  simp only[bJ,jI,fl];rw[pC _ _ (by simpa using c)];rw[YQ λj d=>?_];rw[Xd a b];by_cases e:j=x
  ·subst e;simp
  ·have f:¬((j:Int)=(x:Int)):=by omega
   simp[e,f]
 rw[vq _ _ _ (by simp[fl];omega),eW];simp only[fl,iM,dd,gH];rw[CQ,tH];simp only[B0,y6,Fw];rw[j7 (by simp),oe (by simp;omega),show n+xs.length+(0+1)-n=xs.length+1 by omega];rw[CQ,tH];simp[iv];rw[oe (by simp),j7 (by simp)];simp
def HG{x:Int}(I:T B (hG s n (l5 n xs x)::H) (K (.bool (jy n xs x)))):T B (hG s n xs::H) (ab P 230 #[pz s,.int .i64 x] K):=by
 refine ym λU f m rm junk o=>an (RM _ _) ?_;simp only[cT,aQ]
 have g:jy n xs x=false->T B (cl s (iH rm n xs.length)::cl rm (fl n xs junk).toArray::H) (K (.bool false)):=by intro h;rw[l5,h]at I;exact tn U f m o I
 refine gm (λvs H'=>vs=[]/\H'=cl s (iH rm n xs.length)::cl rm (fl n xs junk).toArray::H/\0<=x/\x<(n:Int)/\x∉xs) ?_ λR p=>?_
 ·rintro vs H' ⟨rfl,rfl,a,c,d⟩
  obtain⟨y,rfl⟩:∃y:Nat,x=(y:Int):=⟨x.toNat,by omega⟩;have q:=Wt U f d a c
  have aP:jy n xs (y:Int)=true:=by refine cB ⟨a,c,?_⟩;exact k6.2 d
  rw[l5,aP,ah rfl]at I;refine fu.2 λ_=>bW rfl (bW rfl (oD rfl (by omega) (by simp[fl];omega) rfl (bW rfl (el λk=>?_))));refine cq (.trans (.swap _ _ _) (.cons _ (.swap _ _ _))) ?_
  refine zt (b:=rm) (ys:=[.int .i64 (y:Int)]) (s:=1) (t0:=31) (t1:=31) (elem:=3) rfl rfl (by kernel_rfl) (by kernel_rfl) (by kernel_rfl) (by kernel_rfl)
   (bF.tail (bF.tail (bF.nP λi hi=>by simp only[dd,gH]at hi;obtain rfl:i=0:=(by omega);rfl))) rfl (by simp[Value.oneCell']) (by omega) (by simp[fl];omega) ?_
  rw[Xm U d (by omega) (by omega)];refine eB (by simp[iH]) rfl (cq (.trans (.cons _ (.swap _ _ _)) (.trans (.swap _ _ _) (.refl _))) (ec ?_));have e:(iH rm n xs.length).setIfInBounds 0 (.slice (some ⟨rm,n,none⟩) (xs.length+1) n)=iH rm n (xs++[(y:Int)]).length:=by simp[iH]
  rw[e];refine tn (Ws U d) ?_ m (by simp;omega) I;intro z hz;rcases dL.1 hz with hz|hz
  ·exact f z hz
  ·simp at hz;subst hz;exact⟨a,c⟩
 ·refine aD rfl (cH (λh=>g ?_) λh=>bW rfl (cH (λj=>g ?_) λj=>bW rfl ?_))
  ·have:x<0:=by simpa using h
   simp[jy];omega
  ·have:(n:Int)<=x:=by simpa using j
   simp[jy];omega
  have a:0<=x:=by simpa using h
  have c:x<(n:Int):=by simpa using j
  apply oC (i:=x.toNat) (by omega) (by omega) (Fe (by omega));rw[rX a];refine cH (λl=>g ?_) λl=>p _ _ ⟨rfl,rfl,a,c,?_⟩
  ·have:posOf xs x>=0:=by simpa using l
   simp[jy];omega
  ·have:¬posOf xs x>=0:=by simpa using l
   exact k6.1 (by omega)
def mf(n:Nat)(f:Nat->Int):aB:=(List.range n).map λ(y:Nat)=> .int .i64 (f y)
def HT(n:Nat)(f:Nat->Int)(i:Nat)(v:Int):(mf n f).set i (.int .i64 v)=mf n λy=>if y=i then v else f y:=by
 apply jf;intro j;rw[kE];by_cases a:j<n
 ·by_cases e:i=j
  ·subst e;simp[mf,a]
  ·have b:¬j=i:=λh=>e h.symm
   simp[mf,e,b,a]
 ·have U:(mf n f)[j]?=none:=by simp[mf];omega
  by_cases e:i=j
  ·subst e;simp[mf,a]
  ·simp[mf,e,a]
def Z7{n:Nat}{f g:Nat->Int}(h:∀j,j<n->f j=g j):mf n f=mf n g:=by apply hX;intro j a;rw[h j (om.1 a)]
def dropped(xs:aO)(x:Int):aO:=if posOf xs x<0 then xs else jW xs (posOf xs x).toNat
def TN{n:Nat}{xs:aO}{x top i:Nat}{junk:aB}(d:xs.Nodup)(b:xs[i]?=some (x:Int))(a:xs[xs.length-1]?=some (top:Int))(f:x<n)(g:top<n):(((fl n xs junk).toArray.setIfInBounds (n+i) (.int .i64 (top:Int))).setIfInBounds (0+top) (.int .i64 (i:Int))).setIfInBounds (0+x) (.int .i64 (-1))=(fl n (jW xs i) (.int .i64 (top:Int)::junk)).toArray:=by
 have hi:i<xs.length:=(b0.1 b).1;simp only[bJ,jI,fl];congr 1;rw[pD _ _ (by simp),pC _ _ (by simpa using g),pC _ _ (by simpa using f),pC _ _ (by simp;omega)];simp only[B0,y6];congr 1
 ·show((mf n λy=>posOf xs (y:Int)).set top (.int .i64 (i:Int))).set x (.int .i64 (-1))=mf n λy=>posOf (jW xs i) (y:Int)
  rw[HT,HT];refine Z7 λj p=>?_;rw[GR d b a];by_cases e:j=x
  ·subst e;simp
  ·have h:¬((j:Int)=(x:Int)):=by omega
   simp only[e,h,ej];by_cases c:j=top
   ·subst c;simp
   ·have k:¬((j:Int)=(top:Int)):=by omega
    simp only[c,k,ej]
 ·have l:xs.getD (xs.length-1) 0=(top:Int):=by simp[List.getD,a]
  have U:(iv .i64 xs).set i (.int .i64 (top:Int))=iv .i64 (xs.set i (top:Int)):=by simp[iv,jh]
  have m:xs.set i (top:Int)=jW xs i++[(top:Int)]:=by
   have hl:xs.length-1<(xs.set i (top:Int)).length:=by simp;omega
   have o:(xs.set i (top:Int))[xs.length-1]?=some (top:Int):=by
    rw[kE];split
    ·rfl
    ·exact a
   rw[jW,l,<-dQ o,j7 (by simp;omega)]
  rw[U,m,Fw];simp[iv]
def ZE{x:Int}(I:T B (hG s n (dropped xs x)::H) (K (.bool (decide (¬posOf xs x<0))))):T B (hG s n xs::H) (ab P 457 #[pz s,.int .i64 x] K):=by
 apply an (RJ _ _);simp only[cT,aQ];apply ZG;simp only[gq];refine cH (λh=>?_) (λh=>?_)
 ·have h:posOf xs x<0:=by simpa using h
  rw[dropped,ah h]at I;exact dN I (by simp[h])
 have d:¬posOf xs x<0:=by simpa using h
 rw[dropped,ak d]at I;refine ym λU b f rm junk g=>?_;rcases va x with⟨i,hi,a,hl⟩|⟨_,a⟩
 ·rw[a,a7]at I
  rw[a];obtain⟨top,c⟩:∃z,xs[xs.length-1]?=some z:=⟨_,ba (by omega)⟩;have j:=b x (cz hi);have k:=b top (cz c);obtain⟨x,rfl⟩:∃y:Nat,x=(y:Int):=⟨x.toNat,by omega⟩;obtain⟨top,rfl⟩:∃y:Nat,top=(y:Int):=⟨top.toNat,by omega⟩;have hw:IntKind.wrap .i64 ((xs.length:Int)-1)=((xs.length-1:Nat):Int):=by rw[bd (by omega)];omega
  refine bW rfl (bW rfl ?_);simp only[hw];apply oC rfl (by omega) (Fc c);refine bW rfl (bW rfl (oD rfl (by omega) (by simp[fl];omega) rfl (oD rfl (by omega) (by simp[fl];omega) rfl ?_)));refine bW rfl (bW rfl (bj ⟨by omega,by omega⟩ ?_));simp only[lf,iN,a7];refine eB (by simp[iH]) rfl (oD rfl (by omega) (by simp[fl];omega) rfl ?_);rw[TN U hi c (by omega) (by omega)];have e:(iH rm n xs.length).setIfInBounds 0 (.slice (some ⟨rm,n,none⟩) (xs.length-1) n)=iH rm n (jW xs i).length:=by simp[iH,ra]
  rw[e];refine tn (EC U hl) (λz hz=>b z (EB hl hz)) f (by rw[ra,dd];omega) (dN I ?_);simp[a]
 ·omega
def last_pos{xs:aO}(b:xs.Nodup)(h:0<xs.length):posOf xs (xs.getLast?.getD 0)=((xs.length-1:Nat):Int)/\jW xs (xs.length-1)=xs.dropLast:=by
 obtain⟨z,hz⟩:∃z,xs[xs.length-1]?=some z:=⟨_,ba (by omega)⟩;have e:xs.getLast?.getD 0=z:=by rw[CM,hz];rfl
 refine⟨by rw[e];exact vb b hz,?_⟩;apply jf;intro j;by_cases a:j<xs.length-1
 ·rw[q9 (by omega) a,ak (by omega),List.getElem?_dropLast,ah a]
 ·rw[jg (by rw[ra];omega),jg (by simp;omega)]
end
end
section
open Go.XS
def wrap_u64{n:Nat}(h:n<2^64):IntKind.wrap .u64 (n:Int)=(n:Int):=by
 have:(2:Nat)^64=18446744073709551616:=by decide
 exact IntWalk.u64_in _ (by omega)
def k3(op:BinOp)(w v:Nat):Nat:=
 (match op with
  | .and=>BitVec.ofNat 64 w&&&BitVec.ofNat 64 v
  | .or=>BitVec.ofNat 64 w|||BitVec.ofNat 64 v
  | .xor=>BitVec.ofNat 64 w^^^BitVec.ofNat 64 v
  |_=>BitVec.ofNat 64 w&&&~~~BitVec.ofNat 64 v).toNat
def AZ(op:BinOp)(w v:Nat):k3 op w v<2^64:=by unfold k3;exact BitVec.isLt _
def As(op:BinOp)(w v:Nat):bl op .u64 (w:Int) (v:Int)=(k3 op w v:Int):=by have U:∀x:Nat,BitVec.ofInt IntKind.u64.bits (x:Int)=BitVec.ofNat 64 x:=λx=>BitVec.ofInt_natCast 64 x;unfold bl;rw[U,U];have:=AZ op w v;unfold k3 at this⊢;exact wrap_u64 this
def Wb{w v i:Nat}(hw:w<2^64)(a:v<2^64):(k3 .or w v).testBit i=(w.testBit i||v.testBit i):=by simp[k3,oq hw,oq a]
def Wa{w v i:Nat}(hw:w<2^64)(a:v<2^64):(k3 .andNot w v).testBit i=(w.testBit i&&!v.testBit i):=by
 have h:(k3 .andNot w v).testBit i=(BitVec.ofNat 64 w&&&~~~BitVec.ofNat 64 v).getLsbD i:=rfl;rw[h,BitVec.getLsbD_and,BitVec.getLsbD_not,BitVec.getLsbD_ofNat,BitVec.getLsbD_ofNat];by_cases hi:i<64
 ·simp[hi]
 ·have:w.testBit i=false:=Nat.testBit_lt_two_pow (Nat.lt_of_lt_of_le hw (Nat.pow_le_pow_right (by decide) (by omega)))
  simp[hi,this]
def Fv{j:Nat}(h:j<64):nI .u64 1 (j:Int)=((2^j:Nat):Int):=by
 unfold nI
 have e:min (j:Int).toNat IntKind.u64.bits=j:=by have:IntKind.u64.bits=64:=rfl;rw[this];simp;omega
 rw[e];have:(1:Int)*2^j=((2^j:Nat):Int):=by simp
 rw[this];exact wrap_u64 (CY (by decide) h)
def U0{w j:Nat}(h:j<64):bP .u64 (w:Int) (j:Int)=((w/2^j:Nat):Int):=by
 unfold bP
 have e:min (j:Int).toNat IntKind.u64.bits=j:=by have:IntKind.u64.bits=64:=rfl;rw[this];simp;omega
 rw[e];have:((2:Int)^j)=((2^j:Nat):Int):=by simp
 rw[this,CE _ (Int.natCast_nonneg _)];simp
def KE{w j:Nat}(hw:w<2^64)(h:j<64):(bl .and .u64 (bP .u64 (w:Int) (j:Int)) 1==1)=w.testBit j:=by
 rw[U0 h];have U:(1:Int)=((1:Nat):Int):=rfl;rw[U,As];have a:w/2^j<2^64:=Nat.lt_of_le_of_lt (Nat.div_le_self _ _) hw
 have e:k3 .and (w/2^j) 1=w/2^j%2:=by
  have:k3 .and (w/2^j) 1=(w/2^j)&&&1:=by simp only[k3,BitVec.toNat_and,BitVec.toNat_ofNat,oq a]
  rw[this,Nat.and_one_is_mod]
 rw[e,Nat.testBit_eq_decide_div_mod_eq];have:=r6 (w/2^j) (show 0<2 by decide);generalize w/2^j%2=r at*;by_cases hr:r=1
 ·subst hr;rfl
 ·have:r=0:=by omega
  subst this;rfl
structure ij(ws:List Nat)(n:Nat)(m:Nat->Bool):Prop where
 len:ws.length=(n+63)/64
 lt:∀w∈ws,w<2^64
 bit:∀k w,ws[k]?=some w->∀j,j<64->w.testBit j=m (64*k+j)
 out:∀i,n<=i->m i=false
def uv(ws:List Nat):aB:=ws.map λw:Nat=> .int .u64 (w:Int)
@[simp] theorem adF (ws:List Nat):(uv ws).length=ws.length:=by simp[uv]
theorem Cf{ws:List Nat}{i w:Nat}(h:ws[i]?=some w):(uv ws)[i]?=some (.int .u64 (w:Int)):=by simp[uv,h]
def H9(ws:List Nat)(i w:Nat):(uv ws).set i (.int .u64 (w:Int))=uv (ws.set i w):=by simp[uv,jh]
def ij.abj(n:Nat):ij (List.replicate ((n+63)/64) 0) n (λ_=>false)where
 len:=by simp
 lt:=by intro w hw;rw[lz hw];decide
 bit:=by intro k w I j a;rw[lz (cz I)];simp
 out:=λ_ _=>rfl
def ij.word{ws:List Nat}{n:Nat}{m:Nat->Bool}(h:ij ws n m){i:Nat}(hi:i<n):∃w,ws[i/64]?=some w/\w<2^64/\w.testBit (i%64)=m i:=by
 have hl:i/64<ws.length:=by rw[h.len];omega
 refine⟨ws[i/64],ba hl,h.lt _ (dz hl),?_⟩;rw[h.bit _ _ (ba hl) (i%64) (by omega)];congr 1;omega
def flip(m:Nat->Bool)(i:Nat)(v:Bool):Nat->Bool:=λj=>if j=i then v else m j
def ij.put{ws:List Nat}{n:Nat}{m:Nat->Bool}(h:ij ws n m){i w:Nat}{v:Bool}(hi:i<n){w':Nat}(hw:ws[i/64]?=some w)(e:w'<2^64)(f:∀j,j<64->w'.testBit j=if j=i%64 then v else w.testBit j):ij (ws.set (i/64) w') n (flip m i v)where
 len:=by simp[h.len]
 lt:=by
  intro x b;rcases j5 b with U|rfl
  ·exact h.lt x U
  ·exact e
 bit:=by
  intro k x I j a;rw[kE]at I;by_cases c:i/64=k
  ·rw[ah c]at I
   split at I
   ·have b:w'=x:=qL I
    subst b;rw[f j a];unfold flip;by_cases d:j=i%64
    ·rw[ah d,ah (by omega)]
    ·rw[ak d,ak (by omega),<-c]
     exact h.bit _ _ hw j a
   ·cases I
  ·rw[ak c]at I
   unfold flip;rw[ak (by omega)];exact h.bit k x I j a
 out:=by intro j a;unfold flip;rw[ak (by omega)];exact h.out j a
end
section
open Go.XS
def zcU:zc P 450=#[.int .u64 0]:=by kernel_rfl
def Te:P.cellsOf 450=1:=by kernel_rfl
def K9:P.bytesOf 450=8:=by kernel_rfl
def GP:Nat->Nat->Nat
 |0,_=>0
 |k+1,b=>b%2+GP k (b/2)
def WA(dn:Bool):aB:=if dn then(List.range 256).map (λb:Nat=> .int .u8 (GP 8 b:Int))else List.replicate 256 (.int .u8 0)
def qh(dn:Bool):aB:= .int .u32 (if dn then 1 else 0):: .int .i32 0:: .int .u32 0::WA dn
def pR(rwb a n:Nat)(b:aB):ax:=(.slice (some ⟨rwb,0,none⟩) a a:: .int .i64 (n:Int)::b).toArray
def ho(b n:Nat)(m:Nat->Bool):bg:=
 fk (n<=1048576)<|eK λrwb:Nat=>eK λws:List Nat=>eK λdn:Bool=>fk (ij ws n m)<|eG [cl b (pR rwb ws.length n (qh dn)),cl rwb (uv ws).toArray]
section
variable {B:Heap}{H:au}{K:aK}{b n rwb:Nat}{m:Nat->Bool}{ws:List Nat}{dn:Bool}
def wJ{p:HP}(t:n<=1048576->∀rwb ws dn,ij ws n m->T B (cl b (pR rwb ws.length n (qh dn))::cl rwb (uv ws).toArray::H) p):T B (ho b n m::H) p:=gD λU=>gn λrwb=>gn λws=>gn λdn=>gD λa=>lJ (t U rwb ws dn a)
def uj{p:HP}(U:n<=1048576)(a:ij ws n m)(t:T B (ho b n m::H) p):T B (cl b (pR rwb ws.length n (qh dn))::cl rwb (uv ws).toArray::H) p:=
 jQ (Hs:=[cl b (pR rwb ws.length n (qh dn)),cl rwb (uv ws).toArray]) (h4 a (gI (q:=λdn=>fk (ij ws n m) (eG [cl b (pR rwb ws.length n (qh dn)),cl rwb (uv ws).toArray])) dn
  (gI (q:=λws=>eK λdn=>fk (ij ws n m) (eG [cl b (pR rwb ws.length n (qh dn)),cl rwb (uv ws).toArray])) ws
   (gI (q:=λrwb=>eK λws=>eK λdn=>fk (ij ws n m) (eG [cl b (pR rwb ws.length n (qh dn)),cl rwb (uv ws).toArray])) rwb (h4 U t)))))
def Jc{cs cs':ax}{t:TypeId}{f:Nat->HP}(e:cs=cs')(h:∀b,T B (cl b cs'::H) (f b)):T B H (al cs t f):=el (by rw[e];exact h)
def KG(U:n<=1048576)(I:∀b,T B (ho b n (λ_=>false)::H) (K (pz b))):T B H (ab P 229 #[.int .i64 (n:Int)] K):=by
 apply an (LV _);refine gm (λvs H'=>vs=[]/\H=H') ?_ λR a=>aD (by simp) (aD (by simp;omega) (a _ _ ⟨rfl,rfl⟩));rintro vs H' ⟨rfl,rfl⟩
 have hw:IntKind.wrap .i64 (Int.tdiv (IntKind.wrap .i64 (IntKind.wrap .i64 ((n:Int)+64)-1)) 64)=(((n+63)/64:Nat):Int):=by rw[kC (n:=(n:Int)+64) (by omega) (by omega),kC (n:=(n:Int)+64-1) (by omega) (by omega),CF (by omega),bd (by omega)];omega
 simp only[fu,hw,a7];intro _;refine bj (by decide) (gC (by omega) (by omega) (by omega) (by rw[K9];omega) (by kernel_rfl) (by kernel_rfl) λrwb=>?_);rw[Te,zcU,k7,iM,a7];refine Jc (cs':=pR rwb ((n+63)/64) n (qh false)) (by kernel_rfl) λb=>?_;have e:List.replicate ((n+63)/64) (Value.int .u64 0)=uv (List.replicate ((n+63)/64) 0):=by simp[uv]
 rw[e];have:=uj (rwb:=rwb) (dn:=false) U (ij.abj n) (I b);rw[jG]at this;exact this
def bits_within{x:Int}(I:T B (ho b n m::H) (K (.bool (decide (0<=x/\x<(n:Int)))))):T B (ho b n m::H) (ab P 328 #[pz b,.int .i64 x] K):=by
 refine wJ λU rwb ws dn a=>?_;have I:=uj (rwb:=rwb) (dn:=dn) U a I;apply an (LZ _ _);simp only[cT,aQ];refine bk rfl (cH (λh=>a1 rfl (dN I ?_)) λh=>dN I ?_)
 ·have:0<=x:=by simpa using h
  simp[this]
 ·have:¬0<=x:=by simpa using h
  simp[this]
def nH(n:Nat)(m:Nat->Bool)(x:Int):Bool:=decide (0<=x/\x<(n:Int))&&m x.toNat
def zZ{x:Nat}(h:x<=1048576):IntKind.wrap .i64 (Int.tdiv (x:Int) 64)=((x/64:Nat):Int)/\Int.tmod (x:Int) 64=((x%64:Nat):Int):=by
 refine⟨?_,?_⟩
 ·rw[CF (by omega),bd (by omega)];omega
 ·rw[yS (by omega)];omega
def zy{x:Int}(I:T B (ho b n m::H) (K (.bool (nH n m x)))):T B (ho b n m::H) (ab P 329 #[pz b,.int .i64 x] K):=by
 refine an (LX _ _) (bits_within ?_);simp only[fv,cT,aQ];refine cH (λh=>?_) λh=>dN I ?_
 ·have c:=r8 h
  obtain⟨y,rfl⟩:∃y:Nat,x=(y:Int):=⟨x.toNat,by omega⟩;refine wJ λU rwb ws dn a=>?_;have I:=uj (rwb:=rwb) (dn:=dn) U a I;obtain⟨w,hw,d,e⟩:=a.word (i:=y) (by omega);obtain⟨f,g⟩:=zZ (x:=y) (by omega);have hl:y/64<ws.length:=(b0.1 hw).1;simp only[f,g];refine bW rfl (bj (by decide) (oC rfl hl (by rw[dY,bJ];exact Cf hw) (bj (by decide) (bj (by omega) (dN I ?_)))));rw[KE d (by omega),e];simp only[nH,a7,cB c,e5]
 ·simp only[nH,h,vJ]
def Um{ws:List Nat}{y w:Nat}(a:ij ws n m)(b:y<n)(hw:ws[y/64]?=some w)(c:w<2^64):ij (ws.set (y/64) (k3 .or w (2^(y%64)))) n (flip m y true):=by
 refine a.put b hw (AZ _ _ _) λj e=>?_;rw[Wb c (CY (by decide) (by omega)),CZ];by_cases h:j=y%64
 ·subst h;simp
 ·rw[ak h]
  have:¬y%64=j:=λd=>h d.symm;simp[this]
def Ul{ws:List Nat}{y w:Nat}(a:ij ws n m)(b:y<n)(hw:ws[y/64]?=some w)(c:w<2^64):ij (ws.set (y/64) (k3 .andNot w (2^(y%64)))) n (flip m y false):=by
 refine a.put b hw (AZ _ _ _) λj e=>?_;rw[Wa c (CY (by decide) (by omega)),CZ];by_cases h:j=y%64
 ·subst h;simp
 ·rw[ak h]
  have:¬y%64=j:=λd=>h d.symm;simp[this]
def nU(n:Nat)(m:Nat->Bool)(x:Int):Bool:=decide (0<=x/\x<(n:Int))&&!m x.toNat
def ve(n:Nat)(m:Nat->Bool)(x:Int):Nat->Bool:=if nU n m x then flip m x.toNat true else m
def uz(n:Nat)(m:Nat->Bool)(x:Int):Nat->Bool:=if nH n m x then flip m x.toNat false else m
def DR{x:Int}(I:T B (ho b n (ve n m x)::H) (K (.bool (nU n m x)))):T B (ho b n m::H) (ab P 231 #[pz b,.int .i64 x] K):=by
 apply an (LY _ _);simp only[cT,aQ];refine gm (λvs H'=>vs=[]/\ho b n m::H=H'/\nU n m x=true) ?_ λR e=>bits_within ?_
 ·rintro vs H' ⟨rfl,rfl,aP⟩
  simp only[fu];intro _;rw[ve,aP,ah rfl]at I
  have k:0<=x/\x<(n:Int):=by simp only[nU,b9,bz]at aP;exact aP.1
  obtain⟨y,rfl⟩:∃y:Nat,x=(y:Int):=⟨x.toNat,by omega⟩;refine wJ λU rwb ws dn c=>?_;obtain⟨w,hw,f,l⟩:=c.word (i:=y) (by omega);obtain⟨g,j⟩:=zZ (x:=y) (by omega);have hl:y/64<ws.length:=(b0.1 hw).1;simp only[g,j];refine bj (by decide) (bj (by decide) (bj (by omega) (bW rfl (oC rfl hl (by rw[dY,bJ];exact Cf hw) (oD rfl hl (by simp;omega) rfl ?_)))));rw[Fv (by omega),As];simp only[bJ,jI,H9];have:=uj (rwb:=rwb) (dn:=dn) U (Um c (by omega) hw f) I;rw[hg]at this;exact this
 ·simp only[fv]
  have d:nU n m x=false->T B (ho b n m::H) (K (.bool false)):=by intro h;rw[ve,h]at I;exact I
  refine cH (λh=>d ?_) λh=>zy ?_
  ·simp only[ml]at h
   simp only[nU,h,vJ]
  ·simp only[CA]at h
   simp only[fv];refine cH (λa=>d ?_) λa=>e _ _ ⟨rfl,rfl,?_⟩
   ·simp only[nH,h,e5]at a
    simp only[nU,h,a,Bool.not_true,Cz]
   ·simp only[nH,h,e5]at a
    simp only[nU,h,a,CC,yP]
def KF{x:Int}(I:T B (ho b n (uz n m x)::H) (K (.bool (nH n m x)))):T B (ho b n m::H) (ab P 456 #[pz b,.int .i64 x] K):=by
 apply an (LW _ _);simp only[cT,aQ];apply zy;simp only[fv];refine cH (λh=>?_) λh=>?_
 ·simp only[ml]at h
  rw[uz,h]at I;exact I
 ·simp only[CA]at h
  rw[uz,h,ah rfl]at I
  have f:0<=x/\x<(n:Int):=by simp only[nH,b9,bz]at h;exact h.1
  obtain⟨y,rfl⟩:∃y:Nat,x=(y:Int):=⟨x.toNat,by omega⟩;refine wJ λU rwb ws dn a=>?_;obtain⟨w,hw,c,g⟩:=a.word (i:=y) (by omega);obtain⟨d,e⟩:=zZ (x:=y) (by omega);have hl:y/64<ws.length:=(b0.1 hw).1;simp only[d,e];refine bj (by decide) (bj (by decide) (bj (by omega) (bW rfl (oC rfl hl (by rw[dY,bJ];exact Cf hw) (oD rfl hl (by simp;omega) rfl ?_)))));rw[Fv (by omega),As];simp only[bJ,jI,H9];have:=uj (rwb:=rwb) (dn:=dn) U (Ul a (by omega) hw c) I;rw[hg]at this;exact this
end
end
section
open Go.XS
def i'(xs:aO):Nat->Bool:=λi=>decide ((i:Int)∈xs)
def fI(f n:Nat)(xs:aO):bg:=
 eK λs:Nat=>eK λb:Nat=>eG [cl f #[pz s,pz b],hG s n xs,ho b n (i' xs)]
section
variable {B:Heap}{H:au}{K:aK}{f n:Nat}{xs:aO}
def sH{p:HP}(t:∀s b,T B (cl f #[pz s,pz b]::hG s n xs::ho b n (i' xs)::H) p):T B (fI f n xs::H) p:=gn λs=>gn λb=>lJ (t s b)
def pZ{p:HP}{s b:Nat}(t:T B (fI f n xs::H) p):T B (cl f #[pz s,pz b]::hG s n xs::ho b n (i' xs)::H) p:=
 jQ (Hs:=[cl f #[pz s,pz b],hG s n xs,ho b n (i' xs)])
  (gI (q:=λb=>eG [cl f #[pz s,pz b],hG s n xs,ho b n (i' xs)]) b
   (gI (q:=λs=>eK λb=>eG [cl f #[pz s,pz b],hG s n xs,ho b n (i' xs)]) s t))
def ZX{s n:Nat}{xs:aO}{p:HP}(t:xs.Nodup->(∀x∈xs,0<=x/\x<(n:Int))->n<=1048576->T B (hG s n xs::H) p):T B (hG s n xs::H) p:=gD λhf=>h4 hf (t hf.1 hf.2.1 hf.2.2)
def uB{p:HP}(t:xs.Nodup->(∀x∈xs,0<=x/\x<(n:Int))->n<=1048576->T B (fI f n xs::H) p):T B (fI f n xs::H) p:=sH λs b=>cq (cy _ _ _) (ZX λU a c=>cq (cy _ _ _) (pZ (t U a c)))
def Ax{x:Int}(a:∀x∈xs,0<=x/\x<(n:Int)):nH n (i' xs) x=decide (x∈xs):=by
 unfold nH i';by_cases h:x∈xs
 ·have:=a x h
  have e:((x.toNat:Nat):Int)=x:=by omega
  rw[e];simp[h,this]
 ·by_cases h0:0<=x/\x<(n:Int)
  ·have e:((x.toNat:Nat):Int)=x:=by omega
   rw[e];simp[h]
  ·rw[cD h0];simp[h]
def GQ{x:Int}:(decide (¬posOf xs x<0))=decide (x∈xs):=by apply hZ.2;rw[k6];exact rW
def GX{x:Int}(c:∀x∈xs,0<=x/\x<(n:Int)):nU n (i' xs) x=jy n xs x:=by
 unfold nU jy i';by_cases h0:0<=x/\x<(n:Int)
 ·have e:((x.toNat:Nat):Int)=x:=by omega
  rw[e,cB h0,e5];by_cases h:x∈xs
  ·rw[cB h,cD]
   ·rfl
   ·rintro⟨_,_,a⟩;exact k6.1 a h
  ·rw[cD h,cB]
   ·rfl
   ·exact⟨h0.1,h0.2,k6.2 h⟩
 ·rw[cD h0,vJ]
  symm;apply cD;rintro⟨U,b,_⟩;exact h0 ⟨U,b⟩
def F'{x:Int}(a:∀x∈xs,0<=x/\x<(n:Int)):ve n (i' xs) x=i' (l5 n xs x):=by
 unfold ve l5;rw[GX a];by_cases h:jy n xs x=true
 ·rw[ah h,ah h]
  have h0:0<=x:=(r8 h).1;funext i;unfold flip i';by_cases hi:i=x.toNat
  ·rw[ah hi]
   have:(i:Int)=x:=by omega
   simp[this]
  ·rw[ak hi]
   have:¬(i:Int)=x:=by omega
   simp[this]
 ·rw[ak h,ak h]
def V1{x:Int}(g:xs.Nodup)(c:∀x∈xs,0<=x/\x<(n:Int)):uz n (i' xs) x=i' (dropped xs x):=by
 unfold uz dropped;rw[Ax c];by_cases h:x∈xs
 ·rw[ah (by simpa using h),ak (by rw[k6];exact λb=>b h)]
  have h0:=(c x h).1;rcases va x with⟨k,I,d,hl⟩|⟨j,d⟩
  ·rw[d,a7]
   obtain⟨top,f⟩:∃z,xs[xs.length-1]?=some z:=⟨_,ba (by omega)⟩;funext i;unfold flip i';have hd:=GR g I f (i:Int);by_cases hi:i=x.toNat
   ·rw[ah hi]
    have e:(i:Int)=x:=by omega
    rw[ah e]at hd;symm;apply cD;rw[<-k6,hd];decide
   ·rw[ak hi]
    have e:¬(i:Int)=x:=by omega
    rw[ak e]at hd;apply hZ.2;rw[<-rW (a:=(i:Int)∈xs),<-k6,<-rW (a:=(i:Int)∈jW xs k),<-k6,hd];split
    ·rename_i l
     have:top∈xs:=cz f;have U:¬posOf xs (i:Int)<0:=by rw[k6,l];exact λb=>b this
     constructor
     ·intro _;omega
     ·intro _;exact U
    ·exact Iff.rfl
  ·exact absurd h j
 ·rw[ak (by simpa using h),ah (k6.2 h)]
def Af(I:T B (fI f n xs::H) (K (.bool true))):T B (fI f n xs::H) (ab P 453 #[pz f] K):=by refine sH λs b=>an (M8 _) ?_;simp only[cT,aQ];exact bk rfl (ke (n:=some ⟨s,0,none⟩) rfl (pZ I))
def Us{x:Int}(I:T B (fI f n xs::H) (K (.bool (decide (x∈xs))))):T B (fI f n xs::H) (ab P 455 #[pz f,.int .i64 x] K):=by refine uB λU a c=>an (M3 _ _) (Af ?_);simp only[fv,cT,aQ];refine bk rfl (sH λs b=>ke rfl (bh (.tail (.tail .head)) (zy ?_)));simp only[fv];refine cq (List.Perm.trans (cy _ _ _) (mm _ (cy _ _ _))) (pZ ?_);rw[Ax a];exact I
def Uv{x:Int}(I:T B (fI f n (dropped xs x)::H) (K (.bool (decide (x∈xs))))):T B (fI f n xs::H) (ab P 416 #[pz f,.int .i64 x] K):=by
 refine uB λU a c=>an (M6 _ _) (Us ?_);simp only[fv,cT,aQ];by_cases h:x∈xs
 ·rw[cB h]at*
  refine aD rfl (sH λs b=>ke rfl (bh (.tail (.tail .head)) (KF ?_)));rw[Ax a,cB h,V1 U a];simp only[fv];refine bk rfl (ke rfl (bh (.tail (.tail .head)) (ZE ?_)));rw[GQ,cB h];simp only[fv];exact cq (List.Perm.trans (mm _ (cy _ _ _)) (cy _ _ _)) (cq (mm _ (List.Perm.refl _)) (pZ I))
 ·rw[cD h]at*
  rw[dropped,ah (k6.2 h)]at I;exact bk rfl I
def Ur{x:Int}(I:T B (fI f n (l5 n xs x)::H) (K (.bool (jy n xs x)))):T B (fI f n xs::H) (ab P 449 #[pz f,.int .i64 x] K):=by
 refine uB λU a d=>an (MZ _ _) (Af ?_);simp only[fv,cT,aQ];refine bk rfl (sH λs b=>ke rfl (bh (.tail (.tail .head)) (DR ?_)));rw[GX a,F' a];simp only[fv];by_cases h:jy n xs x=true
 ·refine bk h (ke rfl (bh (.tail (.tail .head)) (HG ?_)))
  simp only[fv];exact cq (List.Perm.trans (mm _ (cy _ _ _)) (cy _ _ _)) (cq (mm _ (List.Perm.refl _)) (pZ I))
 ·have h:jy n xs x=false:=by simpa using h
  have c:l5 n xs x=xs:=by rw[l5,h];rfl
  rw[h,c]at I;rw[c];exact aD h (cq (List.Perm.trans (cy _ _ _) (mm _ (cy _ _ _))) (pZ I))
def Uu(I:T B (fI f n xs::H) (K (.tuple #[.int .i64 (xs.getLast?.getD 0),.bool (decide (0<xs.length))]))):T B (fI f n xs::H) (ab P 415 #[pz f] K):=by refine an (M5 _) (Af ?_);simp only[fv,cT,aQ];refine aD rfl (sH λs b=>ke rfl (cq (cy _ _ _) (ZH (cp _ (cp _ (dU rfl (cq (cy _ _ _) (pZ I))))))))
def Uw(I:T B (fI f n xs.dropLast::H) (K (.tuple #[.int .i64 (xs.getLast?.getD 0),.bool (decide (0<xs.length))]))):T B (fI f n xs::H) (ab P 375 #[pz f] K):=by
 refine uB λU b c=>an (M7 _) (Uu (cp _ (cp _ (dU rfl ?_))));by_cases h:0<xs.length
 ·rw[cB h]at*
  refine bk rfl (Uv ?_);obtain⟨a,hd⟩:=last_pos U h;rw[dropped,a,ak (by omega),a7,hd];simp only[fv];exact I
 ·rw[cD h]at*
  have:xs=[]:=kF.1 (by omega);subst this;exact aD rfl I
def ht(n i:Nat):aO:=((List.range' i (n-i)).reverse).map λk:Nat=>(k:Int)
def TI(n:Nat):ht n n=[]:=by simp[ht]
def TJ{n i:Nat}(h:i<n):ht n i=ht n (i+1)++[(i:Int)]:=by unfold ht;rw[show n-i=(n-(i+1))+1 by omega,List.range'_succ,CP,e6];rfl
def z1{n i:Nat}{x:Int}:x∈ht n i↔(i:Int)<=x/\x<(n:Int):=by
 simp only[ht,bQ,List.mem_reverse,List.mem_range'_1];constructor
 ·rintro⟨k,I,rfl⟩;omega
 ·intro h;exact⟨x.toNat,by omega,by omega⟩
def Ut(U:n<=1048576)(I:∀f,T B (fI f n (ht n 0)::H) (K (pz f))):T B H (ab P 138 #[.int .i64 (n:Int)] K):=by
 refine an (M9 _) (ZF rfl U λs=>?_);simp only[sj];refine KG U λb=>?_;simp only[sj];refine gm (λvs H'=>vs=[]/\ho b n (λ_=>false)::hG s n []::H=H') ?_ λR a=>aD rfl (aD rfl (a _ _ ⟨rfl,rfl⟩));rintro vs H' ⟨rfl,rfl⟩;simp only[fu];intro _
 refine se (λvs H'=>∃i:Nat,i<=n/\vs=[.int .i64 ((i:Int)-1)]/\ho b n (i' (ht n i))::hG s n (ht n i)::H=H')
  (λvs=>match vs with|[.int _ i]=>(i+1).toNat|_=>0) ⟨n,d' _,by rw[bd (by omega)],by rw[TI];rfl⟩ ?_
 rintro vs H' R ⟨i,hi,rfl,rfl⟩ a;simp only[kM,fu];intro g heq;simp only[ly,Value.int.injEq,nk,kK]at heq;subst heq;refine cH (λhc=>?_) λhc=>?_
 ·have hc:0<=(i:Int)-1:=by simpa using hc
  obtain⟨j,rfl⟩:∃j,i=j+1:=⟨i-1,by omega⟩;have e:((j+1:Nat):Int)-1=(j:Int):=by omega
  rw[e];have c:∀x∈ht n (j+1),0<=x/\x<(n:Int):=λx d=>by have:=z1.1 d;omega
  have aP:jy n (ht n (j+1)) (j:Int)=true:=by refine cB ⟨by omega,by omega,?_⟩;rw[k6,z1];omega
  refine cq (cy _ _ _) (HG ?_);simp only[fv];refine cq (cy _ _ _) (DR ?_);rw[F' c,l5,ah aP,<-TJ (by omega)];simp only[fv];rw[bd (by omega)];exact a _ _ ⟨j,by omega,rfl,rfl⟩ (by simp only;omega)
 ·have hc:¬0<=(i:Int)-1:=by simpa using hc
  have:i=0:=by omega
  subst this;refine el λf=>cq (mm _ (cy _ _ _)) (pZ (I f))
end
end
def disable(w:World):(callFunc 470 #[]).run Tryz.prog w= .ok (.value (.tuple #[])) w:=run_call_mark0 Tryz.func470 (by kernel_rfl) (by kernel_rfl) (by kernel_rfl) .disable (by kernel_rfl) w
def enable(w:World):(callFunc 472 #[]).run Tryz.prog w= .ok (.value (.tuple #[])) w:=run_call_mark0 Tryz.func472 (by kernel_rfl) (by kernel_rfl) (by kernel_rfl) .enable (by kernel_rfl) w
def acquire(a:Addr)(w:World):(callFunc 473 #[.pointer (some a)]).run Tryz.prog w= .ok (.value (.tuple #[])) w:=run_call_marked Tryz.func473 (by kernel_rfl) (by kernel_rfl) (by kernel_rfl) .acquire (by kernel_rfl) a w
def releaseMerge(a:Addr)(w:World):(callFunc 475 #[.pointer (some a)]).run Tryz.prog w= .ok (.value (.tuple #[])) w:=run_call_marked Tryz.func475 (by kernel_rfl) (by kernel_rfl) (by kernel_rfl) .releaseMerge (by kernel_rfl) a w
def HJ(a:Addr)(x:Value)(u:FrameMode)(w:World)(hc:w.cell? a=some x)(hz:w.frozen? a=false):CallsD Tryz.prog 395 #[.pointer (some a),.bool true] u w λe u' w'=>u'=u/\(e= .returned (.tuple #[])/\w'=w.drew.setCell a (.int .u32 1)):=by
 have eN:w.drew.cell? a=some x:=by go_simp
 have b:w.drew.frozen? a=false:=by go_simp
 have c:=run_call_store (P:=Tryz.prog) Tryz.func439 (by kernel_rfl) (by kernel_rfl) (by kernel_rfl) (by kernel_rfl) (k:= .u32) (y:=1) eN b
 go_enter_d Tryz.func395,Tryz.ntmps395
 go_wp2
 go_region_calls
 all_goals (go_end0;exact⟨rfl,rfl⟩)
set_option maxRecDepth 100000 in
set_option maxHeartbeats 1600000 in
def H6(a:Addr)(u:FrameMode)(w:World)(hc:w.cell? a=some (.int .i32 1))(hz:w.frozen? a=false):CallsD Tryz.prog 394 #[.pointer (some a)] u w λe u' w'=>u'=u/\(e= .returned (.tuple #[])/\w'=w.setCell a (.int .i32 0)):=by
 have hd:=disable;have he:=enable;have hr:=releaseMerge;have xg:=run_call_add (P:=Tryz.prog) Tryz.func476 (by kernel_rfl) (by kernel_rfl) (by kernel_rfl) .i32 (by kernel_rfl) (y:=-1) (s:=0) hc hz (by simp[go_sem];rfl);have UJ:=run_convert_to_unsafe Tryz.underlying608 Tryz.underlying262 (by kernel_rfl) hc
 go_enter_d Tryz.func394,Tryz.ntmps394
 go_wp2
 go_end0
 go_wp2
 go_end0
 exact⟨rfl,rfl⟩
set_option maxRecDepth 100000 in
set_option maxHeartbeats 1600000 in
def FQ(a:Addr)(w:World)(hc:w.cell? a=some (.int .i32 0))(hz:w.frozen? a=false):Calls Tryz.prog 393 #[.pointer (some a)] w λe w'=>e= .returned (.tuple #[])/\w'=w.setCell a (.int .i32 1):=by
 have hd:=disable;have he:=enable;have ha:=acquire;have abQ:=run_call_cas_hit (P:=Tryz.prog) Tryz.func471 (by kernel_rfl) (by kernel_rfl) (by kernel_rfl) .i32 (by kernel_rfl) (y:=1) hc hz;have eN:(w.setCell a (.int .i32 1)).cell? a=some (.int .i32 1):=World.cell?_setCell_same w a _ hc;have UJ:=run_convert_to_unsafe Tryz.underlying608 Tryz.underlying262 (by kernel_rfl) eN
 go_enter Tryz.func393,Tryz.ntmps393
 go_wp2
 first|go_end0|(simp only[Exit.inBlock,Exit.then];refine bodyPost_ret (results_none rfl _ _ _) rfl ?_)|refine bodyPost_ret (results_none rfl _ _ _) rfl ?_
 go_wp2
 go_end0
 exact⟨rfl,rfl⟩
set_option maxRecDepth 100000 in
set_option maxHeartbeats 1600000 in
def wI(a:Addr)(w:World)(hc:w.cell? a=some (.int .u32 0)):Calls Tryz.prog 330 #[.pointer (some a)] w λe w'=>e= .returned (.bool false)/\w'=w:=by
 have hl:=run_call_load Tryz.func392 (by kernel_rfl) (by kernel_rfl) (by kernel_rfl) .u32 (by kernel_rfl) hc
 go_enter Tryz.func330,Tryz.ntmps330
 go_wp2
 go_ret
 exact⟨rfl,rfl⟩
set_option maxRecDepth 100000 in
set_option maxHeartbeats 1600000 in
def KL(a:Addr)(w:World)(hc:w.cell? a=some (.int .u32 1)):Calls Tryz.prog 330 #[.pointer (some a)] w λe w'=>e= .returned (.bool true)/\w'=w:=by
 have hl:=run_call_load Tryz.func392 (by kernel_rfl) (by kernel_rfl) (by kernel_rfl) .u32 (by kernel_rfl) hc
 go_enter Tryz.func330,Tryz.ntmps330
 go_wp2
 go_ret
 exact⟨rfl,rfl⟩
open Go.XS
section
variable {B:Heap}{H:au}{K:aK}{b o:Nat}{cs:ax}{p:Addr}{α:Type}{cs2:α->ax}{H2:α->au}
def mW{w:World}{i:Nat}{v:Value}(ow:Own B (cl b cs::H) w.heap)(hc:cs[i]?=some v):w.cell? ⟨b,i,none⟩=some v:=by rw[kQ];exact((Fl).cell ow i).trans hc
def s5{w:World}{i:Nat}(ow:Own B (cl b cs::H) w.heap)(hi:i<cs.size):w.frozen? ⟨b,i,none⟩=false:=by obtain⟨l1,⟨a,fr,rfl,c⟩,hc⟩:=ow.head;have d:=(hc (b,.cells cs a fr) (by simp)).2;rw[Ag];simp only[xi,d];have:=c i hi;obtain⟨lo,e⟩:=fr;simpa using this
def s6{w:World}{i:Nat}{v:Value}(ow:Own B (cl b cs::H) w.heap):Own B (cl b (cs.setIfInBounds i v)::H) (w.setCell ⟨b,i,none⟩ v).heap:=by rw[setCell_eq];exact ow.set
set_option maxRecDepth 100000 in
set_option maxHeartbeats 1600000 in
def Wy(h0:cs[o]?=some (.int .u32 0))(U:cs[o+1]?=some (.int .i32 0))(kW:∀x,(cs2 x)[o]?=some (.int .u32 0))(gr:∀x,(cs2 x)[o+1]?=some (.int .i32 1))(hf:∀Kf:aK,(∀x,T B (cl b (cs2 x)::H2 x) (Kf (.tuple #[])))->T B (cl b (cs.setIfInBounds (o+1) (.int .i32 1))::H) (ab P 235 #[.pointer (some p)] Kf))(I:∀x,T B (cl b (((cs2 x).setIfInBounds o (.int .u32 1)).setIfInBounds (o+1) (.int .i32 0))::H2 x) (K (.tuple #[]))):T B (cl b cs::H) (ab P 331 #[.pointer (some ⟨b,o,none⟩),.func (.func 235) #[.pointer (some p)] #[]] K):=by
 intro σ ow w hw;subst hw;have s0:o<cs.size:=(gF.1 h0).1;have s1:o+1<cs.size:=(gF.1 U).1;have c1:=mW ow U;have f1:=s5 ow s1;have u3:=s6 (i:=o+1) (v:= .int .i32 1) ow;have Lf:(w.setCell ⟨b,o+1,none⟩ (.int .i32 1)).cell? ⟨b,o,none⟩=some (.int .u32 0):=mW u3 (by simp[rV,h0]);have hy:∀(x:Bool) (w:World),(Op.unary .not (.bool x)).run Tryz.prog w= .ok (.bool (!x)) w:=λ_ _=>rfl;have Ap:Calls Tryz.prog 235 #[.pointer (some p)] (w.setCell ⟨b,o+1,none⟩ (.int .i32 1)) _:=hf (λv eI=>v= .tuple #[]/\∃x,Own B (cl b (cs2 x)::H2 x) eI) (λx σ o=>⟨rfl,x,o⟩) _ u3 _ rfl
 go_enter_defers Tryz.func331,Tryz.ntmps331
 go_wp2_with (first|(go_at_call 393;refine(FQ ⟨b,o+1,none⟩ _ (by assumption) (by assumption)).mono ?_;rintro e w' ⟨rfl,rfl⟩)|(go_at_call 330;refine(wI ⟨b,o,none⟩ _ (by assumption)).mono ?_;rintro e w' ⟨rfl,rfl⟩)|(go_at_call 235;refine Ap.mono ?_;rintro e w2 ⟨v,rfl,⟨rfl,x,rC⟩,A9⟩))
 have kW:=kW x;have gr:=gr x;have BE:o<(cs2 x).size:=(gF.1 kW).1;have BF:o+1<(cs2 x).size:=(gF.1 gr).1;refine leaves_cons (by simp) (by simp[go_sem]) ((HJ ⟨b,o,none⟩ (.int .u32 0) .returning _ (mW rC kW) (s5 rC BE)).mono ?_);rintro e u' pr ⟨rfl,rfl,rfl⟩;have rD:Own B (cl b ((cs2 x).setIfInBounds o (.int .u32 1))::H2 x) (w2.drew.setCell ⟨b,o,none⟩ (.int .u32 1)).heap:=s6 rC;have A':=s6 (i:=o+1) (v:= .int .i32 0) rD;refine leaves_cons (by simp[settle]) (by simp[go_sem]) ((H6 ⟨b,o+1,none⟩ _ _ (mW rD (by simp[rV,gr])) (s5 rD (by simpa using BF))).mono ?_);rintro e u' pr ⟨rfl,rfl,rfl⟩;have hK:=I x _ A'
 have nF:ft w ((w2.drew.setCell ⟨b,o,none⟩ (.int .u32 1)).setCell ⟨b,o+1,none⟩ (.int .i32 0)):=by rw[setCell_eq,setCell_eq];obtain⟨q1,q2,q3⟩:=A9;rw[setCell_eq]at q1 q2 q3;exact⟨q1,q2,q3⟩
 simp only[Leaves,settle,results,Tryz.results331];exact⟨.tuple #[],by first|rfl|(simp[go_sem];done)|(simp[go_sem];rfl),.tuple #[],rfl,hK,nF⟩
set_option maxRecDepth 100000 in
set_option maxHeartbeats 1600000 in
def Ww(h0:cs[o]?=some (.int .u32 0))(U:cs[o+1]?=some (.int .i32 0))(kW:∀x,(cs2 x)[o]?=some (.int .u32 0))(gr:∀x,(cs2 x)[o+1]?=some (.int .i32 1))(hf:∀Kf:aK,(∀x,T B (cl b (cs2 x)::H2 x) (Kf (.tuple #[])))->T B (cl b (cs.setIfInBounds (o+1) (.int .i32 1))::H) (ab P 235 #[.pointer (some p)] Kf))(I:∀x,T B (cl b (((cs2 x).setIfInBounds o (.int .u32 1)).setIfInBounds (o+1) (.int .i32 0))::H2 x) (K (.tuple #[]))):T B (cl b cs::H) (ab P 234 #[.pointer (some ⟨b,o,none⟩),.func (.func 235) #[.pointer (some p)] #[]] K):=by
 intro σ ow w hw;subst hw;have c0:=mW ow h0;have hy:∀(x:Bool) (w:World),(Op.unary .not (.bool x)).run Tryz.prog w= .ok (.bool (!x)) w:=λ_ _=>rfl;have Aq:Calls Tryz.prog 331 #[.pointer (some ⟨b,o,none⟩),.func (.func 235) #[.pointer (some p)] #[]] w _:=Wy (K:=λv eI=>v= .tuple #[]/\K (.tuple #[]) eI) h0 U kW gr hf (λx=>dU rfl (I x)) _ ow w rfl
 go_enter Tryz.func234,Tryz.ntmps234
 go_wp2_with (first|(go_at_call 330;refine(wI ⟨b,o,none⟩ _ (by assumption)).mono ?_;rintro e w' ⟨rfl,rfl⟩)|(go_at_call 331;refine Aq.mono ?_;rintro e w' ⟨v,rfl,⟨rfl,hK⟩,nF⟩))
 go_end0
 exact⟨_,rfl,hK,nF⟩
set_option maxRecDepth 100000 in
set_option maxHeartbeats 1600000 in
def GA{rq:Value}(h0:cs[o]?=some (.int .u32 1))(I:T B (cl b cs::H) (K (.tuple #[]))):T B (cl b cs::H) (ab P 234 #[.pointer (some ⟨b,o,none⟩),rq] K):=by
 intro σ ow w hw;subst hw;have c0:=mW ow h0;have hy:∀(x:Bool) (w:World),(Op.unary .not (.bool x)).run Tryz.prog w= .ok (.bool (!x)) w:=λ_ _=>rfl;have hK:=I _ ow
 go_enter Tryz.func234,Tryz.ntmps234
 go_wp2_with (go_at_call 330;refine(KL ⟨b,o,none⟩ _ (by assumption)).mono ?_;rintro e w' ⟨rfl,rfl⟩)
 go_end0
 exact⟨_,rfl,hK,rfl,rfl,rfl⟩
end
