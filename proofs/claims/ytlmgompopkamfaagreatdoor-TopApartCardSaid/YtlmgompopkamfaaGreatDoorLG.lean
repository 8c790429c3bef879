/- Lemmas that lead to TopApart (their names made short by a program); no condition. -/
import Derived.Test.YtlmgompopkamfaaGreatDoorLF
import Derived.Tactics
import Derived.Tactics2
import Derived.Defers
import Derived.Laws.Pointers
import Derived.Laws.LoneSync
import Derived.RegionTactic
import Derived.RegionCalls
import Derived.ChangeAlike
set_option linter.all false
set_option maxRecDepth 100000
namespace Go.Proofs.YtlmgompopkamfaaGreatDoor
section
open Go.XS
open IntKind (wrap)
open Tryz
variable {K:aK}{σ:Heap}
variable (p0:av)(l0:Nat)(c0:Nat)(n0:Int)(bd:aw)(s0:ByteArray)(g0:Nat)(p1:av)(l1:Nat)(c1:Nat)(n1:Int)(cE:aw)(g1:Nat)(fJ:aw)(p2:av)(l2:Nat)(c2:Nat)(n2:Int)(cs2:aw)(n3:Int)(rf:aw)(p4:av)(l8:Nat)(lZ:Nat)(n4:Int)
def S5(h:(bb p1 0 λa=>cx p2 0 λb=>aS 275 #[ab a,J b] λa=>ae (!a) (K (aq #[])) (cx p2 0 λa=>al #[J a] 3 λa=>cx p2 0 λb=>ga P g0 #[] #[] [J b,.bool true] λb=>dq b λb=>ae (!b) (K (aq #[])) (bb p1 0 λb=>cx p2 0 λc=>aV 402 #[ab b,J c] λb=>bz (jZ λa b c d e=>ae (decide ((↑b:Int)>0)) (bz (jZ λa b c d f=>ae (decide (d>=0)) (al #[J d] 3 λe=>cC P #[31,31] a b c (some (ai e 0)) 1 1 λa b c=>ga P g0 #[] #[] [J d,.bool true] λe=>dq e λe=>ae (!e) (K (aq #[])) (bb p1 0 λe=>aV 402 #[ab e,J d] λd=>f [.slice a b c,J d])) (fs a b (wrap .i64 ((↑b:Int)-(1:Int))) λf=>aP ((0<=wrap .i64 ((↑b:Int)-(1:Int)))/\(wrap .i64 ((↑b:Int)-(1:Int))<=(↑c:Int))) (ga P g0 #[] #[] [J f,.bool false] λg=>dq g λg=>ae (!g) (K (aq #[])) (ae (decide ((↑(Int.toNat (wrap .i64 ((↑b:Int)-1))-0):Int)>0)) (bb p1 0 λd=>aV 403 #[ab d,J f] λd=>e [.slice (da a 1 0 c) (Int.toNat (wrap .i64 ((↑b:Int)-1))-0) (c-0),J d]) (e [.slice (da a 1 0 c) (Int.toNat (wrap .i64 ((↑b:Int)-1))-0) (c-0),J d]))))) [.slice a b c,J d]) (K (aq #[]))) [.slice (some (ai a 0)) 1 1,J b]))) σ):ad P 401 #[.func (.yield g0) #[] #[],ab p1,ab p2] K σ:=mX ⟨[],[(1,[(4,.slice),(5,.int .i64)]),(3,[(4,.slice),(5,.int .i64)])],[],[]⟩ func401 h
def OW(h:(aS 275 #[ab p0,J n1] λa=>ae (!a) (K (J (-1))) (bb p0 1 λa=>aV 343 #[ab a,J n1] λa=>K (J a))) σ):ad P 402 #[ab p0,J n1] K σ:=ao h0 func402 h
def OY(h:(aS 257 #[ab p0] λa=>ae (!a) (K (J (-1))) (bb p0 1 λa=>aV 345 #[ab a,J n1] λa=>K (J a))) σ):ad P 403 #[ab p0,J n1] K σ:=ao h0 func403 h
def Si(h:(i' 417 #[ab p0,J n1] λa b=>ae (b !=0) (K (J b)) (cx a 0 λb=>ae (b==0) (K (J 20)) (ay p0 λb=>ay a λc=>gm (b.add 1) λb=>bA .i64 (c.add 0) λc=>aH P (Instr.lookup 225 (.map b) (J c) false) λd=>db .i64 d λd=>aH P (Instr.mapUpdate 225 (.map b) (J c) (J (wrap .i64 (d-1)))) λ_=>ay p0 λb=>ay a λc=>gm (b.add 1) λb=>bA .i64 (c.add 0) λc=>aH P (Instr.lookup 225 (.map b) (J c) false) λb=>db .i64 b λb=>ae (b==0) (ay p0 λb=>ay a λc=>gm (b.add 1) λb=>bA .i64 (c.add 0) λc=>aH P (Builtin.delete_ #[225,3] 0 #[.map b,J c]) λb=>ex b (cJ a 0 (J 0) (K (J 0)))) (cJ a 0 (J 0) (K (J 0)))))) σ):ad P 404 #[ab p0,J n1] K σ:=ao ⟨[(6,[0,1,3,7,0,16,48,112,255,511,1023],(sp [0,1,2,4,5,6] (.l 3 (.l 7 (.s 8 (.ax []) (sp [9] (.s 10 (.ax []) .d))))))),(7,[0,1,3,7,0,16,48,112,255,511],(sp [0,1,2,4,5,6] (.l 3 (.l 7 (.s 8 (.ax []) (sp [9] .d)))))),(8,[0,1,3,7,0,16,48,112,255],(sp [0,1,2,4,5,6] (.l 3 (.l 7 (.s 8 (.ax []) .d)))))],[],[],[]⟩ func404 h
def Qv(h:(bu (jn (ay p0 λa=>ay p0 λb=>a8 (a.add 0) λc d e=>bA .i64 (b.add 2) λb=>aV 396 #[ab p0,J b] λb=>aY (a.add 0) (.slice c d e) (oW c d b (J n1) (cx p0 2 λa=>cJ p0 2 (J (wrap .i64 (a+1))) (K (.bool true)))))) λa=>ae (Option.isNone p0) (K (.bool false)) (ay p0 λb=>ay p0 λc=>bA .i64 (b.add 2) λb=>a8 (c.add 0) λ_ c _=>ae (b==c) (K (.bool false)) (a []))) σ):ad P 405 #[ab p0,J n1] K σ:=ao ⟨[(1,[0,1,3,7,15,31,63,7,135,391,903,1927,4095,8191],(sp [0,1,2,3,4,5,7,8,9] (.l 6 (.l 10 (sp [11,12,13] (.d)))))),(3,[0,1,3,7,0,0,32,96,224,496,0,2047,4095],(sp [0,1,2,4,5,6,7,10] (.l 3 (.l 8 (.s 9 (.ax [3]) (sp [11] (.s 12 (.ax []) .d)))))))],[],[(1,[])],[]⟩ func405 h
def Qw(h:(gk 444 #[ab p0] λa b=>ae b (aV 396 #[ab p0,J 1] λc=>cJ p0 1 (J c) (cx p0 2 λc=>cJ p0 2 (J (wrap .i64 (c-1))) (K (aq #[J a,.bool b])))) (K (aq #[J a,.bool b]))) σ):ad P 406 #[ab p0] K σ:=ao h0 func406 h
def RV(h:(i' 149 #[ab p0,J n1] λa b=>ae (b !=0) (K (J b)) (aV 379 #[ab p0,ab a,J 3] λb=>ae (b !=0) (K (J b)) (bb a 4 λb=>di 445 #[ab b] λb=>cJ a 5 (ab b) (K (J 0))))) σ):ad P 407 #[ab p0,J n1] K σ:=ao h0 func407 h
def R3(h:(i' 149 #[ab p0,J n1] λa b=>ae (b !=0) (K (aq #[.bool false,J b])) (ae (decide (n2<1)) (K (aq #[.bool false,J 2])) (cx a 3 λb=>ae (b !=3) (K (aq #[.bool false,J 18])) (bb a 5 λb=>c4 446 #[ab b,J n2] λ_ b=>ae (b !=0) (K (aq #[.bool false,J b])) (bb a 5 λb=>aS 447 #[ab b] λb=>ae (!b) (K (aq #[.bool false,J 0])) (cJ a 5 (ab none) (bb p0 0 λb=>aV 448 #[ab b,J n1] λb=>ae (b !=0) (K (aq #[.bool false,J b])) (bb p0 1 λb=>aS 449 #[ab b,J n1] λ_=>aV 379 #[ab p0,ab a,J 4] λa=>K (aq #[.bool true,J a]))))))))) σ):ad P 408 #[ab p0,J n1,J n2] K σ:=ao h0 func408 h
def SU(h:(ay p1 λa=>bA .i64 a λa=>ay p1 λb=>bA .i64 b λb=>ay p1 λc=>st c (J (wrap .i64 (b-if 0>if a<n0 then a else n0 then 0 else if a<n0 then a else n0))) (K (J (if 0>if a<n0 then a else n0 then 0 else if a<n0 then a else n0)))) σ):ad P 410 #[J n0,ab p1] K σ:=ao h0 func410 h
def QN(h:(aV 450 #[.slice p0 l0 c0,J n1,J n2,J n3,.slice p4 l8 lZ] λa=>K (.bool (a==0))) σ):ad P 411 #[.slice p0 l0 c0,J n1,J n2,J n3,.slice p4 l8 lZ] K σ:=ao h0 func411 h
def Ra(h:(aP ((0<=(↑l0:Int))/\((↑l0:Int)<=(↑c0:Int))) (aP ((0<=n2)/\(n2<=(↑(Int.toNat (↑l0:Int)):Int))) (aP ((0<=n1)/\(n1<=(↑n2.toNat:Int))) (ae (n1==n2) (K (.slice p0 l0 c0)) (aP ((0<=n1)/\(n1<=c0)) (aP ((0<=n2)/\(n2<=l0)) (cC P #[33,33] (da p0 5 0 c0) (Int.toNat n1-0) (c0-0) (da p0 5 n2.toNat c0) (l0-Int.toNat n2) (c0-Int.toNat n2) λa b c=>aP ((0<=(↑l0:Int))/\((↑l0:Int)<=(↑c:Int))) (aP ((0<=(↑b:Int))/\((↑b:Int)<=(↑(Int.toNat (↑l0:Int)):Int))) (aH P (Builtin.clear_ #[33] 0 #[.slice (da a 5 (Int.toNat (↑b:Int)) c) (Int.toNat (↑l0:Int)-Int.toNat (↑b:Int)) (c-Int.toNat (↑b:Int))]) λd=>ex d (K (.slice a b c))))))))))) σ):ad P 412 #[.slice p0 l0 c0,J n1,J n2] K σ:=ao ⟨[(5,[0,0,3,0,0,24,63,127],(sp [0,1,2,3,4,5] (.s 6 (.ax []) (sp [7] .d))))],[],[],[]⟩ func412 h
def NG(h:(al bd 57 λa=>aC a 0 λa=>cx p1 1 λb=>K (.bool (a==b))) σ):ad P 413 #[.agg bd,ab p1] K σ:=ao h0 func413 h
def LU(h:(al bd 55 λa=>al #[J 0,J 0,J 0] 55 λb=>aB a 3 λa=>fC 451 #[.agg a,J n1,.agg #[.func (Fn.func 452) #[] #[],J 20]] λa c=>aA b a 3 (aB b 3 λa=>K (aq #[.agg a,J c]))) σ):ad P 414 #[.agg bd,J n1] K σ:=ao h0 func414 h
def Nz(h:(aS 453 #[ab p0] (λa=>ae (!a) (K (aq #[J 0,.bool false])) (ay p0 λa=>bq (a.add 0) λa=>ad P 454 #[ab a] λa b=>∃c d,(a=Value.tuple #[J c,.bool d])/\((K (aq #[J c,.bool d])) b)))) σ):ad P 415 #[ab p0] K σ:=ao h0 func415 h
def NA(h:(aS 455 #[ab p0,J n1] (λa=>ae (!a) (K (.bool false)) (ay p0 λa=>bq (a.add 1) λa=>aS 456 #[ab a,J n1] (λa=>ae a (ay p0 λa=>bq (a.add 0) λa=>aS 457 #[ab a,J n1] (λa=>K (.bool a))) (K (.bool false)))))) σ):ad P 416 #[ab p0,J n1] K σ:=ao h0 func416 h
def Sm(h:(bu (jn (b6 p0 0 λa b _=>ay a λa=>cK n1 b (K (aq #[ab (some (Addr.add a (Int.toNat n1*2))),J 0])))) λa=>bu (iH λb=>ae b (K (aq #[ab none,J 16])) (aS 237 #[ab p0,J n1] λb=>ae (!b) (K (aq #[ab none,J 2])) (a []))) λa=>ae (Option.isNone p0) (a [.bool true]) (cU p0 1 λb=>a [.bool (Option.isNone b)])) σ):ad P 417 #[ab p0,J n1] K σ:=ao ⟨[],[],[(100001,[(6,.bool)])],[(0,[])]⟩ func417 h
def Py(h:(al #[J 0,J 0,J 0,J 0] 50 λa=>aA a #[J 1,J 2,J 3,J 4] 4 (bu (iH λb=>ae b (K (aq #[J 0,J 2])) (cK n0 4 (bA .i64 (Addr.add (ai a 0) n0.toNat) λa=>ae (a !=n1) (K (aq #[J 0,J 18])) (aP ((4:Int)≠(0:Int)) (K (aq #[J (Int.tmod (wrap .i64 (n0+1)) 4),J 0])))))) λa=>aS 458 #[J n0] λb=>ae (!b) (a [.bool true]) (ae (decide (n1<1)) (a [.bool true]) (a [.bool (decide (n1>4))])))) σ):ad P 418 #[J n0,J n1] K σ:=ao ⟨[],[],[(100002,[(8,.bool)])],[]⟩ func418 h
def LY(h:(al bd 55 λa=>al #[J 0,J 0,J 0] 55 λb=>aB a 3 λa=>fC 451 #[.agg a,J n1,.agg #[.func (Fn.func 478) #[] #[],J 7]] λa c=>aA b a 3 (aB b 3 λa=>K (aq #[.agg a,J c]))) σ):ad P 441 #[.agg bd,J n1] K σ:=ao h0 func441 h
def LP(h:(al bd 55 λa=>al #[J 0,J 0,J 0] 55 λb=>aB a 3 λa=>fC 451 #[.agg a,J n1,.agg #[.func (Fn.func 479) #[] #[],J 20]] λa c=>aA b a 3 (aB b 3 λa=>K (aq #[.agg a,J c]))) σ):ad P 442 #[.agg bd,J n1] K σ:=ao h0 func442 h
def LR(h:(al bd 55 λa=>al #[J 0,J 0,J 0] 55 λb=>aB a 3 λa=>fC 451 #[.agg a,J n1,.agg #[.func (Fn.func 480) #[] #[],J 20]] λa c=>aA b a 3 (aB b 3 λa=>K (aq #[.agg a,J c]))) σ):ad P 443 #[.agg bd,J n1] K σ:=ao h0 func443 h
def Qr(h:(gk 333 #[ab p0,J 0] λa b=>K (aq #[J a,.bool b])) σ):ad P 444 #[ab p0] K σ:=ao h0 func444 h
def QH(h:(aV 481 #[ab p0] (λa=>ae (a==0) (K (ab none)) (al (#[ab p0,J 0]) 615 λa=>K (ab (some (ai a 0)))))) σ):ad P 445 #[ab p0] K σ:=ao h0 func445 h
def QL(h:(aS 482 #[ab p0] (λa=>ae (!a) (K (aq #[J 0,J 16])) (ae (decide (n1<1)) (K (aq #[J 0,J 2])) (aV 483 #[ab p0] (λa=>ay p0 λb=>bq (b.add 0) λc=>aV 485 #[ab p0] (λd=>aY (b.add 0) (ab c) (aV 484 #[ab c,J d,J (if a<n1 then a else n1)] (λb=>ae (b !=0) (K (aq #[J 0,J b])) (ay p0 λb=>aV 368 #[ab (some (b.add 1)),J (if a<n1 then a else n1)] (λ_=>K (aq #[J (if a<n1 then a else n1),J 0]))))))))))) σ):ad P 446 #[ab p0,J n1] K σ:=ao ⟨[(6,[0,1,3,7,0,16,0,127,255],(sp [0,1,2,4,6] (.l 3 (.s 5 (.ax [3]) (.s 7 (.ax []) (sp [8] .d))))))],[],[],[]⟩ func446 h
def QI(h:(aS 482 #[ab p0] (λa=>ae a (aV 483 #[ab p0] (λa=>K (.bool (a==0)))) (K (.bool false)))) σ):ad P 447 #[ab p0] K σ:=ao h0 func447 h
def Sl(h:(i' 417 #[ab p0,J n1] λa b=>ae (b !=0) (K (J b)) (cx a 0 λb=>ae (b !=0) (K (J 19)) (cx a 1 λb=>ae (decide (b>=1048575)) (K (J 6)) (cx a 1 λb=>cJ a 1 (J (wrap .i64 (b+1))) (K (J 0)))))) σ):ad P 448 #[ab p0,J n1] K σ:=ao h0 func448 h
def Nx(h:(aS 453 #[ab p0] (λa=>ae a (ay p0 λa=>bq (a.add 1) λa=>aS 231 #[ab a,J n1] (λa=>ae a (ay p0 λa=>bq (a.add 0) λa=>aS 230 #[ab a,J n1] (λa=>K (.bool a))) (K (.bool false)))) (K (.bool false)))) σ):ad P 449 #[ab p0,J n1] K σ:=ao h0 func449 h
def QP(h:(al #[aG,aG,J 0,J 0] 617 λa=>aA a #[.slice p0 l0 c0,.slice p4 l8 lZ,J n2,J n3] 4 (b2 486 #[] λb c _=>bz (dr λd e=>ae (decide (d<c)) (dI b c d 2 2 λb=>al #[J 0,.nilFunc] 622 λc=>aA c b 2 (gN (ai c 1) λb=>aB a 4 λa=>lG P b [.agg a,J n1] λa=>dq a λa=>ae a (aC c 0 λa=>K (J a)) (e [J (wrap .i64 (d+1))]))) (K (J 0))) [J 0])) σ):ad P 450 #[.slice p0 l0 c0,J n1,J n2,J n3,.slice p4 l8 lZ] K σ:=ao ⟨[],[(1,[(21,.int .i64)])],[],[]⟩ func450 h
def L1(h:(al bd 55 λa=>al cs2 597 λb=>al #[J 0,J 0,J 0] 55 λc=>bu (jn (ae (decide (n1>1048576)) (aC b 1 λa=>aA c #[J 0,J 0,J 0] 3 (aY (ai b 1) (J a) (aB c 3 λb=>K (aq #[.agg b,J a])))) (gN (ai b 0) λd=>aB a 3 λa=>lG P d [.agg a,J n1] λa=>gi a λa=>al #[J 0,J 0,J 0] 55 λd=>aA d a 3 (aB d 3 λa=>aS 398 #[.agg a] λa=>ae (!a) (aC b 1 λa=>aA c #[J 0,J 0,J 0] 3 (aY (ai b 1) (J a) (aB c 3 λb=>K (aq #[.agg b,J a])))) (aB d 3 λa=>aA c a 3 (aB c 3 λa=>K (aq #[.agg a,J 0]))))))) λb=>aB a 3 λa=>aS 398 #[.agg a] λa=>ae (!a) (aA c #[J 0,J 0,J 0] 3 (aB c 3 λa=>K (aq #[.agg a,J 2]))) (ae (decide (n1<1)) (aA c #[J 0,J 0,J 0] 3 (aB c 3 λa=>K (aq #[.agg a,J 2]))) (b []))) σ):ad P 451 #[.agg bd,J n1,.agg cs2] K σ:=ao ⟨[(4,[0,0,2,1,15],(sp [0,1] (.l 2 (.s 3 (.ax [2]) (sp [4] .d))))),(7,[0,0,2,1,15],(sp [0,1] (.l 2 (.s 3 (.ax [2]) (sp [4] .d)))))],[],[(1,[])],[]⟩ func451 h
def LV(h:(al bd 55 λa=>al #[J 0,J 0,J 0] 55 λb=>aC a 2 λc=>st (ai a 2) (J (wrap .i64 (c-n1))) (aC a 1 λc=>st (ai a 1) (J (wrap .i64 (c+n1))) (aB a 3 λa=>aA b a 3 (aB b 3 λa=>K (.agg a))))) σ):ad P 452 #[.agg bd,J n1] K σ:=ao h0 func452 h
def NC(h:(ae (!Option.isNone p0) (ay p0 λa=>bq (a.add 0) λa=>K (.bool !Option.isNone a)) (K (.bool false))) σ):ad P 453 #[ab p0] K σ:=ao h0 func453 h
def RS(h:(bu (λa b=>(a=[])->((ay p0 λa=>ay p0 λb=>a8 (a.add 0) λa c _=>a8 (b.add 0) λ_ b _=>ay a λa=>aP ((0<=wrap .i64 ((↑b:Int)-(1:Int)))/\(wrap .i64 ((↑b:Int)-(1:Int))<(↑c:Int))) (bA .i64 (Addr.add a (Int.toNat (wrap .i64 ((↑b:Int)-1)))) λa=>K (aq #[J a,.bool true]))) b)) λa=>ae (Option.isNone p0) (K (aq #[J 0,.bool false])) (ay p0 λb=>a8 (b.add 0) λ_ b _=>ae ((↑b:Int)==0) (K (aq #[J 0,.bool false])) (a []))) σ):ad P 454 #[ab p0] K σ:=ao ⟨[(3,[0,1,3,7,0,16,48,112,240,496,1023,2047,4095,8191],(sp [0,1,2,4,5,6] (.l 3 (.l 7 (sp [8,9,10] (.l 11 (sp [12,13] (.d))))))))],[],[(1,[])],[]⟩ func454 h
def Ny(h:(aS 453 #[ab p0] (λa=>ae a (ay p0 λa=>bq (a.add 1) λa=>aS 329 #[ab a,J n1] (λa=>K (.bool a))) (K (.bool false)))) σ):ad P 455 #[ab p0,J n1] K σ:=ao h0 func455 h
def Mp(h:(aS 329 #[ab p0,J n1] (λa=>ae (!a) (K (.bool false)) (ay p0 λa=>aP ((64:Int)≠(0:Int)) (aP ((64:Int)≠(0:Int)) (aP (0<=Int.tmod n1 (64:Int)) (a8 (a.add 0) λa b _=>ay a λc=>aP ((0<=wrap .i64 (Int.tdiv n1 (64:Int)))/\(wrap .i64 (Int.tdiv n1 (64:Int))<(↑b:Int))) (bA .u64 (Addr.add c (Int.toNat (wrap .i64 (Int.tdiv n1 64)))) λc=>ay a λa=>aP ((0<=wrap .i64 (Int.tdiv n1 (64:Int)))/\(wrap .i64 (Int.tdiv n1 (64:Int))<(↑b:Int))) (st (Addr.add a (Int.toNat (wrap .i64 (Int.tdiv n1 64)))) (.int .u64 (bh .andNot .u64 c (iG .u64 1 (Int.tmod n1 64)))) (K (.bool true)))))))))) σ):ad P 456 #[ab p0,J n1] K σ:=ao ⟨[(3,[0,1,3,7,0,16,63,127,0,256,768,2047,4095,8191],(sp [0,1,2,4,5,8,9,10] (.l 3 (sp [6] (.l 7 (sp [11,12] (.s 13 (.ax []) .d)))))))],[],[],[]⟩ func456 h
def RP(h:(aV 487 #[ab p0,J n1] (λa=>ae (decide (a<0)) (K (.bool false)) (ay p0 λb=>a8 (b.add 0) λ_ b _=>ay p0 λc=>a8 (c.add 0) λc d _=>ay c λc=>aP ((0<=wrap .i64 ((↑b:Int)-(1:Int)))/\(wrap .i64 ((↑b:Int)-(1:Int))<(↑d:Int))) (bA .i64 (Addr.add c (Int.toNat (wrap .i64 ((↑b:Int)-1)))) λc=>ay p0 λd=>ay p0 λe=>a8 (d.add 0) λd f _=>a8 (e.add 1) λe g _=>ay d λd=>cK a f (st (Addr.add d a.toNat) (J c) (ay e λd=>cK c g (st (Addr.add d c.toNat) (J a) (ay p0 λa=>ay p0 λc=>a8 (a.add 1) λa d _=>a8 (c.add 0) λc _ e=>aP ((0<=wrap .i64 ((↑b:Int)-(1:Int)))/\(wrap .i64 ((↑b:Int)-(1:Int))<=(↑e:Int))) (ay p0 λf=>st (f.add 0) (.slice (da c 1 0 e) (Int.toNat (wrap .i64 ((↑b:Int)-1))-0) (e-0)) (ay a λa=>cK n1 d (st (Addr.add a n1.toNat) (J (-1)) (K (.bool true))))))))))))) σ):ad P 457 #[ab p0,J n1] K σ:=ao ⟨[(6,[0,1,3,7,0,0,32,96,224,0,0,0,1535,5631,16383,32767],(sp [0,1,2,4,5,6,7,9,10,11] (.l 3 (.l 8 (sp [12] (.s 13 (.ax []) (sp [14] (.s 15 (.ax []) .d)))))))),(7,[0,0,2,6,14,0,0,64,192,448,0,1984,4063,8159,16351,32767,65535],(sp [0,1,2,3,5,6,7,8,10] (.l 4 (.l 9 (sp [11,12,13] (.s 14 (.ax []) (sp [15] (.s 16 (.ax []) .d))))))))],[],[],[]⟩ func457 h
def PA(h:(ae (decide (n0>=0)) (K (.bool (decide (n0<4)))) (K (.bool false))) σ):ad P 458 #[J n0] K σ:=ao h0 func458 h
def LZ(h:(al bd 55 λa=>al #[J 0,J 0,J 0] 55 λb=>aC a 2 λc=>st (ai a 2) (J (wrap .i64 (c+n1))) (aB a 3 λa=>aA b a 3 (aB b 3 λa=>K (.agg a)))) σ):ad P 478 #[.agg bd,J n1] K σ:=ao h0 func478 h
def LQ(h:(al bd 55 λa=>al #[J 0,J 0,J 0] 55 λb=>aC a 2 λc=>st (ai a 2) (J (wrap .i64 (c-n1))) (aB a 3 λa=>aA b a 3 (aB b 3 λa=>K (.agg a)))) σ):ad P 479 #[.agg bd,J n1] K σ:=ao h0 func479 h
def LS(h:(al bd 55 λa=>al #[J 0,J 0,J 0] 55 λb=>aC a 1 λc=>st (ai a 1) (J (wrap .i64 (c-n1))) (aB a 3 λa=>aA b a 3 (aB b 3 λa=>K (.agg a)))) σ):ad P 480 #[.agg bd,J n1] K σ:=ao h0 func480 h
def MS(h:(ae (Option.isNone p0) (K (J 0)) (ay p0 λa=>bA .i64 (a.add 1) λa=>K (J a))) σ):ad P 481 #[ab p0] K σ:=ao h0 func481 h
def QM(h:(ae (!Option.isNone p0) (ay p0 λa=>bq (a.add 0) λa=>K (.bool !Option.isNone a)) (K (.bool false))) σ):ad P 482 #[ab p0] K σ:=ao h0 func482 h
def QJ(h:(aS 482 #[ab p0] (λa=>ae (!a) (K (J 0)) (ay p0 λa=>bq (a.add 0) λa=>aV 481 #[ab a] (λa=>aV 485 #[ab p0] (λb=>K (J (wrap .i64 (a-b)))))))) σ):ad P 483 #[ab p0] K σ:=ao h0 func483 h
def MV(h:(aV 362 #[ab p0,J n1,J n2] (λa=>ae (a==0) (ad P 363 #[ab p0,J n1,J n2,.func (Fn.func 500) #[] #[]] λb c=>(b=Value.tuple #[])/\((K (J a)) c)) (K (J a)))) σ):ad P 484 #[ab p0,J n1,J n2] K σ:=ao h0 func484 h
def QK(h:(aS 482 #[ab p0] (λa=>ae (!a) (K (J 0)) (ay p0 λa=>aV 148 #[ab (some (a.add 1))] (λa=>K (J a))))) σ):ad P 485 #[ab p0] K σ:=ao h0 func485 h
def QS(h:(aP (Array.size #[J 1,.func (Fn.func 501) #[] #[]]=2) (aP (Array.size #[J 2,.func (Fn.func 502) #[] #[]]=2) (aP (Array.size #[J 3,.func (Fn.func 504) #[] #[]]=2) (aP (Array.size #[J 4,.func (Fn.func 507) #[] #[]]=2) (aP (Array.size #[J 5,.func (Fn.func 509) #[] #[]]=2) (al #[J 1,.func (Fn.func 501) #[] #[],J 2,.func (Fn.func 502) #[] #[],J 3,.func (Fn.func 504) #[] #[],J 4,.func (Fn.func 507) #[] #[],J 5,.func (Fn.func 509) #[] #[]] 622 λa=>K (.slice (some (ai a 0)) 5 5))))))) σ):ad P 486 #[] K σ:=ao h0 func486 h
def RQ(h:(bu (λa b=>(a=[])->((ay p0 λa=>a8 (a.add 1) λa b _=>ay a λa=>cK n1 b (bA .i64 (Addr.add a n1.toNat) λa=>K (J a))) b)) λa=>ae (Option.isNone p0) (K (J (-1))) (ae (decide (n1<0)) (K (J (-1))) (ay p0 λb=>a8 (b.add 1) λ_ b _=>ae (decide (n1>=b)) (K (J (-1))) (a [])))) σ):ad P 487 #[ab p0,J n1] K σ:=ao ⟨[],[],[(1,[])],[]⟩ func487 h
def MW(h:(aH P (Builtin.clear_ #[178] 0 #[.slice p0 l0 c0]) λa b=>(a=Value.tuple #[])/\((K (aq #[])) b)) σ):ad P 500 #[.slice p0 l0 c0,J n1] K σ:=ao h0 func500 h
def QT(h:(al bd 617 λa=>ae (decide (n1<0)) (K (.bool true)) (a8 (ai a 0) λ_ a _=>K (.bool (decide (n1>=a))))) σ):ad P 501 #[.agg bd,J n1] K σ:=ao h0 func501 h
def QU(h:(al bd 617 λa=>aB a 4 λa=>aV 503 #[.agg a,J n1] λa=>K (.bool (decide (a<0)))) σ):ad P 502 #[.agg bd,J n1] K σ:=ao h0 func502 h
def QQ(h:(al bd 617 λa=>al #[J n1] 3 λb=>a8 (ai a 1) λc d e=>aV 353 #[.slice c d e,.func (Fn.func 510) #[] #[ab (some (ai a 0)),ab (some (ai b 0))]] λa=>K (J a)) σ):ad P 503 #[.agg bd,J n1] K σ:=ao h0 func503 h
def QV(h:(al bd 617 λa=>al #[J n1] 3 λb=>a8 (ai a 0) λc _ d=>aC b 0 λe=>aP ((0<=e)/\(e<=d)) (aS 506 #[.slice (da c 5 0 d) (Int.toNat e-0) (d-0),.func (Fn.func 505) #[] #[ab (some (ai a 0)),ab (some (ai b 0))]] λa=>K (.bool a))) σ):ad P 504 #[.agg bd,J n1] K σ:=ao h0 func504 h
def QW(h:(al bd 160 λa=>ay p1 λb=>aC a 1 λa=>a8 (b.add 0) λb c _=>cx p2 0 λd=>gA b c d 5 1 λb=>K (.bool (a==b))) σ):ad P 505 #[.agg bd,ab p1,ab p2] K σ:=ao ⟨[(1,[0,1,0,4,0,28,60,124,255,511],(sp [0,2] (.l 1 (.l 3 (.l 4 (sp [5,6] (.l 7 (sp [8,9] (.d)))))))))],[],[],[]⟩ func505 h
def Q8(h:(aV 511 #[.slice p0 l0 c0,.func (Fn.func g1) #[] fJ] λa=>K (.bool (decide (a>=0)))) σ):ad P 506 #[.slice p0 l0 c0,.func (.func g1) #[] fJ] K σ:=ao h0 func506 h
def QX(h:(al bd 617 λa=>aC a 2 λb=>aC a 3 λc=>a8 (ai a 1) λd e f=>aB a 4 λg=>a8 (ai a 0) λh i j=>ay h λk=>cK n1 i (bA .i64 (Addr.add (Addr.add k (Int.toNat n1*5)) 2) λl=>aV 503 #[.agg g,J n1] λg=>c7 (λa=>b0 a (Addr.add (Addr.add k (Int.toNat n1*5)) 2)=some (J l)) (aY (ai a 0) (.slice h i j) (aY (ai a 1) (.slice d e f) (aY (ai a 3) (J c) (aY (ai a 2) (J b) (aS 508 #[J b,J c,.slice d e f,J g,J l] λa=>K (.bool !a)))))))) σ):ad P 507 #[.agg bd,J n1] K σ:=ao ⟨[(1,[0,1,0,4,0,16,0,0,192,0,512,0,3584,7680,15872,32767,65535,131071],(sp [0,2,4,7,9,11] (.l 1 (.l 3 (.l 5 (.l 6 (.l 10 (sp [12,13] (.l 14 (.s 8 (.ax [14,10,5,3,1]) (.s 15 (.ax []) (sp [16,17] (.d)))))))))))))],[],[],[]⟩ func507 h
def Ml(h:(gk 512 #[J n0,J n1] λ_ a=>ae (!a) (K (.bool false)) (ae (decide (n4>n0)) (K (.bool false)) (sD 513 #[.slice p2 l2 c2,J n3,J n4] λa b c d=>ae d (aS 514 #[J (wrap .i64 (n0-n4)),J n1,.slice a b c] λa=>K (.bool a)) (K (.bool false))))) σ):ad P 508 #[J n0,J n1,.slice p2 l2 c2,J n3,J n4] K σ:=ao h0 func508 h
def QY(h:(al bd 617 λa=>ae (decide (n1>0)) (a8 (ai a 1) λb c d=>aB a 4 λe=>aV 503 #[.agg e,J n1] λe=>aY (ai a 1) (.slice b c d) (gA b c e 4 2 λb=>ae (b==0) (a8 (ai a 0) λa b _=>ay a λa=>aP ((0<=(0:Int))/\((0:Int)<(↑b:Int))) (bA .i64 (Addr.add (Addr.add a (0*5)) 4) λa=>K (.bool (decide (a>=8))))) (K (.bool false)))) (c7 (λ_=>True) (K (.bool false)))) σ):ad P 509 #[.agg bd,J n1] K σ:=ao ⟨[(1,[0,1,3,7,15,7,7,103,255,511,1023,2047,4095,8191,16383,32767,65535,131071,262143,524287,1048575,2097151,4194303],(sp [0,1,2,3,6] (.l 4 (.l 5 (.s 7 (.ax [4]) (sp [8,9,10] (.l 11 (sp [12,13,14,15] (.l 16 (sp [17,18] (.l 19 (sp [20,21,22] (.d)))))))))))))],[],[],[]⟩ func509 h
def QR(h:(al bd 57 λa=>ay p1 λb=>aC a 0 λa=>a8 (b.add 0) λb c _=>cx p2 0 λd=>gA b c d 5 1 λb=>K (.bool (a==b))) σ):ad P 510 #[.agg bd,ab p1,ab p2] K σ:=ao ⟨[(1,[0,1,0,4,0,28,60,124,255,511],(sp [0,2] (.l 1 (.l 3 (.l 4 (sp [5,6] (.l 7 (sp [8,9] (.d)))))))))],[],[],[]⟩ func510 h
def Ez(h:(bz (dr λa b=>ae (decide (a<l0)) (dI p0 l0 a 5 5 λc=>kn P g1 (Array.mk (Array.toList #[]++[.agg c]++Array.toList fJ)) λc=>dq c λc=>ae c (K (J a)) (b [J (wrap .i64 (a+1))])) (K (J (-1)))) [J 0]) σ):ad P 511 #[.slice p0 l0 c0,.func (.func g1) #[] fJ] K σ:=ao ⟨[],[(1,[(8,.int .i64)])],[],[]⟩ func511 h
def Mn(h:(ae (decide (n0<0)) (K (aq #[J 0,.bool false])) (ae (decide (n1<0)) (K (aq #[J 0,.bool false])) (ae (decide (n0>1048576)) (K (aq #[J 0,.bool false])) (ae (decide (n1>wrap .i64 (1048576-n0))) (K (aq #[J 0,.bool false])) (K (aq #[J (wrap .i64 (n0+n1)),.bool true])))))) σ):ad P 512 #[J n0,J n1] K σ:=ao h0 func512 h
def Mk(h:(bu (jn (xw p0 l0 n1 4 1 3 λa=>fC 414 #[.agg a,J n2] λa b=>al #[J 0,J 0,J 0] 55 λc=>aA c a 3 (ae (b !=0) (K (aq #[aG,.bool false])) (c5 P 57 (↑l0:Int) (↑l0:Int) λa=>aH P (Builtin.copy_ #[32,32] 3 #[.slice (some (ai a 0)) (Int.toNat (↑l0:Int)) (Int.toNat (↑l0:Int)),.slice p0 l0 c0]) λb=>db .i64 b λ_=>aB c 3 λb=>aP ((0<=n1)/\(n1<(↑(Int.toNat (↑l0:Int)):Int))) (gW (Addr.add (Addr.add (ai a 0) (Int.toNat n1*4)) 1) b 3 (K (aq #[.slice (some (ai a 0)) (Int.toNat (↑l0:Int)) (Int.toNat (↑l0:Int)),.bool true]))))))) λa=>ae (decide (n1<0)) (K (aq #[aG,.bool false])) (ae (decide (n1>=l0)) (K (aq #[aG,.bool false])) (a []))) σ):ad P 513 #[.slice p0 l0 c0,J n1,J n2] K σ:=ao ⟨[],[],[(1,[])],[]⟩ func513 h
def Mm(h:(gk 512 #[J n0,J n1] λa b=>ae b (aS 515 #[J a,.slice p2 l2 c2] λa=>K (.bool a)) (K (.bool false))) σ):ad P 514 #[J n0,J n1,.slice p2 l2 c2] K σ:=ao h0 func514 h
def Pk(h:(sD 516 #[J n0,.slice p1 l1 c1] λ_ _ _ a=>K (.bool a)) σ):ad P 515 #[J n0,.slice p1 l1 c1] K σ:=ao h0 func515 h
def Pj(h:(aS 517 #[J n0,.slice p1 l1 c1] λa=>ae (!a) (K (aq #[aG,.bool false])) (c5 P 3 0 (↑l1:Int) λa=>al #[aG] 31 λb=>st (ai b 0) (.slice (some (ai a 0)) 0 (Int.toNat (↑l1:Int))) (ad P 518 #[J n0,.slice p1 l1 c1] λa=>n5 P (tq λa c _ d=>i7 a (a8 (ai b 0) λe f g=>al #[J c] 3 λc=>cC P #[31,31] e f g (some (ai c 0)) 1 1 λc e f=>st (ai b 0) (.slice c e f) (fp a none (d (.bool true))))) a (λa=>a8 (ai b 0) λ_ c _=>ae (decide ((↑c:Int)<(↑l1:Int))) (h5 a (K (aq #[aG,.bool false]))) (a8 (ai b 0) λb c d=>h5 a (K (aq #[.slice b c d,.bool true])))) λa=>h5 a (K (aq #[aG,.bool false]))))) σ):ad P 516 #[J n0,.slice p1 l1 c1] K σ:=mX ⟨[],[(900000,[(18,.int .i64),(19,.int .i64)])],[],[]⟩ func516 h
def Pm(h:(ae (decide (n0>=0)) (ae (decide (n0<=1048576)) (aS 520 #[.slice p1 l1 c1,.func (Fn.func 519) #[] #[]] λa=>K (.bool !a)) (K (.bool false))) (K (.bool false))) σ):ad P 517 #[J n0,.slice p1 l1 c1] K σ:=ao h0 func517 h
def Po(h:(al #[J n0] 3 λa=>al #[.slice p1 l1 c1] 32 λb=>K (.func (Fn.func 521) #[] #[ab (some (ai b 0)),ab (some (ai a 0))])) σ):ad P 518 #[J n0,.slice p1 l1 c1] K σ:=ao h0 func518 h
def Pn(h:(al bd 57 λa=>eQ (ai a 1) 3 λa=>aS 398 #[.agg a] λa=>K (.bool !a)) σ):ad P 519 #[.agg bd] K σ:=ao h0 func519 h
def Ey(h:(aV 353 #[.slice p0 l0 c0,.func (Fn.func g1) #[] fJ] λa=>K (.bool (decide (a>=0)))) σ):ad P 520 #[.slice p0 l0 c0,.func (.func g1) #[] fJ] K σ:=ao h0 func520 h
def Pp(h:(b6 p1 0 λ_ a _=>c5 P 4 (↑a:Int) (↑a:Int) λb=>al #[aG] 60 λc=>st (ai c 0) (.slice (some (ai b 0)) (Int.toNat (↑a:Int)) (Int.toNat (↑a:Int))) (aV 522 #[ab p1,ab (some (ai c 0)),ab p2] λa=>bz (dr λa b=>ae (decide (a>=0)) (a8 (ai c 0) λd e _=>oW d e a (.bool true) (cx p2 0 λd=>b6 p1 0 λe f _=>gA e f a 4 2 λe=>cJ p2 0 (J (wrap .i64 (d+e))) (cx p2 0 λd=>ga P g0 #[] #[] [J a,J d] λa=>dq a λa=>ae (!a) (K (aq #[])) (aV 522 #[ab p1,ab (some (ai c 0)),ab p2] λa=>b [J a])))) (K (aq #[]))) [J a])) σ):ad P 521 #[.func (.yield g0) #[] #[],ab p1,ab p2] K σ:=ao ⟨[(6,[0,0,0,6,14,30,62,127,255],(sp [2] (.l 0 (.l 1 (sp [3,4,5] (.l 6 (sp [7] (.s 8 (.ax []) .d))))))))],[(1,[(6,.int .i64)])],[],[]⟩ func521 h
def Pq(h:(b6 p0 0 λa b _=>bz (dr λc d=>ae (decide (c<b)) (dI a b c 4 4 λa=>al #[J 0,J 0,J 0,J 0] 57 λb=>aA b a 4 (b6 p1 0 λa e _=>AW a e c λa=>ae (!a) (eQ (ai b 1) 3 λa=>ay p2 λb=>bA .i64 b λe=>aV 523 #[.agg a] λa=>aY b (J e) (ae (decide (a<=e)) (K (J c)) (d [J (wrap .i64 (c+1))]))) (c7 (λ_=>True) (d [J (wrap .i64 (c+1))])))) (K (J (-1)))) [J 0]) σ):ad P 522 #[ab p0,ab p1,ab p2] K σ:=ao ⟨[(4,[0,0,3,7,15,31,63,127,255,63,1023,2047],(sp [1] (.l 0 (sp [2] (.l 3 (sp [4,5,6] (.l 7 (.l 9 (.s 8 (.ax [9]) (sp [10,11] (.d)))))))))))],[(1,[(8,.int .i64)])],[],[]⟩ func522 h
def LW(h:(al bd 55 λa=>aB a 3 λb=>aS 398 #[.agg b] λb=>ae (!b) (K (J 0)) (aC a 0 λb=>aC a 1 λa=>K (J (wrap .i64 (b-a))))) σ):ad P 523 #[.agg bd] K σ:=ao h0 func523 h
def Og(h:(al #[J 0,J 0,J 0,J 0] 23 λa=>ae (Option.isNone p0) (aA a #[J 0,J 0,J 0,J 0] 4 (aB a 4 λa=>K (.agg a))) (jW p0 0 4 λb=>aA a b 4 (aB a 4 λa=>K (.agg a)))) σ):ad P 542 #[ab p0] K σ:=ao h0 func542 h
def PC(h:(K (aq #[])) σ):ad P 545 #[ab p0,ab p1] K σ:=ao h0 func545 h
def PD(h:(al cs2 47 λa=>al rf 44 λb=>bu (jn (aC a 0 λa=>ae (a==12) (cx p0 1 λa=>cJ p0 1 (J (wrap .i64 (a+1))) (cx p0 2 λa=>a8 (ai b 2) λ_ b _=>cJ p0 2 (J (wrap .i64 (a+(↑b:Int)))) (K (aq #[])))) (K (aq #[])))) λa=>aC b 0 λb=>ae (b !=0) (cx p0 3 λb=>cJ p0 3 (J (wrap .i64 (b+1))) (a [])) (a [])) σ):ad P 546 #[ab p0,ab p1,.agg cs2,.agg rf] K σ:=ao ⟨[(5,[0,1,3,7,15,0,32,96,255,511,1023,2047,4095],(sp [0,1,2,3,5] (.l 4 (.l 6 (sp [7,8,9,10,11] (.s 12 (.ax []) .d))))))],[],[(1,[])],[]⟩ func546 h
def PG(h:(ay p0 λa=>ay p0 λb=>ay p0 λc=>bA .i64 (a.add 1) λd=>bA .i64 (b.add 2) λe=>bA .i64 (c.add 3) λf=>bH 8 #[ab p1] λg=>aY (c.add 3) (J f) (aY (b.add 2) (J e) (aY (a.add 1) (J d) (BE g 4 λ_ a _=>cJ p2 1 (J d) (cJ p2 2 (J e) (cJ p2 3 (J f) (cJ p2 7 (J a) (K (aq #[]))))))))) σ):ad P 547 #[ab p0,ab p1,ab p2] K σ:=ao ⟨[(0,[0,0,0,0,0,16,48,112,240,0,512,1536,3584,7680,0,16384,49152,114688,245760,0,524288,1572864,3670016,2097137,10485745,27262961,60817395,127926259,262143987,530579447,1067450359,2141192183,4294967295,8589934591,17179869183],(sp [0,1,2,3,4,5,6,7,9,10,11,12,14,15,16,17,19] (.l 8 (.l 13 (.l 18 (.s 20 (.ax [18,13,8]) (sp [21,22,23,24] (.s 25 (.ax []) (sp [26,27] (.s 28 (.ax []) (sp [29,30] (.s 31 (.ax []) (sp [32,33] (.s 34 (.ax []) .d))))))))))))))],[],[],[]⟩ func547 h
def PK(h:(cx p0 0 λa=>ae (a==0) (bH 542 #[ab p1] λa=>bH 8 #[ab p1] λb=>aV 551 #[.agg a,.agg b] λa=>cJ p0 0 (J a) (K (aq #[]))) (K (aq #[]))) σ):ad P 548 #[ab p0,ab p1] K σ:=ao h0 func548 h
def PL(h:(al cs2 47 λ_=>al rf 44 λ_=>ce 548 #[ab p0,ab p1] (K (aq #[]))) σ):ad P 549 #[ab p0,ab p1,.agg cs2,.agg rf] K σ:=ao h0 func549 h
def PM(h:(cx p0 0 λa=>cJ p2 4 (J a) (K (aq #[]))) σ):ad P 550 #[ab p0,ab p1,ab p2] K σ:=ao h0 func550 h
def Rr(h:(al bd 23 λa=>al cE 36 λb=>b2 552 #[] λc d _=>bz (dr λe f=>ae (decide (e<d)) (sW c d e 1 λc=>al #[.nilFunc] 657 λd=>aA d c 1 (gN (ai d 0) λc=>aB a 4 λa=>aB b 6 λb=>lG P c [.agg a,.agg b] λa=>dq a λa=>ae a (K (J (wrap .i64 (e+1)))) (f [J (wrap .i64 (e+1))]))) (K (J 0))) [J 0]) σ):ad P 551 #[.agg bd,.agg cE] K σ:=ao ⟨[],[(1,[(9,.int .i64)])],[],[]⟩ func551 h
def RD(h:(aP (Array.size #[Value.func (Fn.func 553) #[] #[]]=1) (aP (Array.size #[Value.func (Fn.func 554) #[] #[]]=1) (aP (Array.size #[Value.func (Fn.func 555) #[] #[]]=1) (aP (Array.size #[Value.func (Fn.func 556) #[] #[]]=1) (aP (Array.size #[Value.func (Fn.func 557) #[] #[]]=1) (al #[.func (Fn.func 553) #[] #[],.func (Fn.func 554) #[] #[],.func (Fn.func 555) #[] #[],.func (Fn.func 556) #[] #[],.func (Fn.func 557) #[] #[]] 657 λa=>K (.slice (some (ai a 0)) 5 5))))))) σ):ad P 552 #[] K σ:=ao h0 func552 h
def Rt(h:(al bd 23 λa=>al cE 36 λb=>a8 (ai b 1) λ_ c _=>aC a 0 λa=>ae ((↑c:Int)!=a) (K (.bool true)) (a8 (ai b 1) λa c d=>a8 (ai b 2) λb e f=>aS 558 #[.slice a c d,.slice b e f] λa=>K (.bool !a))) σ):ad P 553 #[.agg bd,.agg cE] K σ:=ao h0 func553 h
def Rw(h:(al bd 23 λ_=>al cE 36 λa=>a8 (ai a 3) λb c _=>bz (o0 λd e f=>ae (decide (e<c)) (dI b c e 4 4 λb=>al #[J 0,J 0,J 0,J 0] 57 λc=>aA c b 4 (aC c 0 λb=>ae (decide (b<=d)) (c7 (λ_=>True) (K (.bool true))) (aC c 0 λb=>ae (decide (b>=64)) (c7 (λ_=>True) (K (.bool true))) (eQ (ai c 1) 3 λb=>aS 398 #[.agg b] λb=>ae (!b) (c7 (λ_=>True) (K (.bool true))) (a8 (ai a 1) λa b d=>aC c 0 λg=>aC c 2 λh=>aV 559 #[.slice a b d,J (wrap .i64 (g+1))] λa=>aY (ai c 2) (J h) (ae (a !=h) (K (.bool true)) (aC c 0 λa=>f [J a,J (wrap .i64 (e+1))]))))))) (a8 (ai a 1) λb c d=>b2 563 #[.slice b c d] λb c d=>aS 562 #[.slice b c d,.func (Fn.func 560) #[] #[ab (some (ai a 0))]] λa=>K (.bool a))) [J (-1),J 0]) σ):ad P 554 #[.agg bd,.agg cE] K σ:=ao ⟨[(5,[0,1,0,7,15,31,63,127,255,511,1023,2047,4095,8191,16383,32767,65535,131071,65535,327679,851967,2097151,65535,4259839,12648447,33554431,67108863],(sp [0,2] (.l 1 (sp [3,4,5] (.l 6 (sp [7,8,9,10] (.l 11 (.s 12 (.ax []) (sp [13,14,15,16,18,22,23] (.l 17 (.l 19 (sp [20] (.l 24 (.s 21 (.ax [24]) (sp [25,26] (.d))))))))))))))))],[(1,[(5,.int .i64),(12,.int .i64)])],[],[]⟩ func554 h
def Ry(h:(al bd 23 λ_=>al cE 36 λa=>hE λb=>al #[.map none] 225 λc=>st (ai c 0) (.map (some b)) (a8 (ai a 4) λb d _=>bz (o0 λe f g=>ae (decide (f<d)) (dI b d f 5 5 λb=>al #[J 0,J 0,J 0,J 0,J 0] 160 λd=>aA d b 5 (bu (jn (aC d 0 λa=>gm (ai c 0) λb=>aC d 1 λc=>aH P (Instr.lookup 225 (.map b) (J c) false) λe=>db .i64 e λe=>aC d 2 λd=>aH P (Instr.mapUpdate 225 (.map b) (J c) (J (wrap .i64 (e+d)))) λ_=>g [J a,J (wrap .i64 (f+1))])) λb=>aB d 5 λc=>aS 347 #[.agg c] λc=>ae (!c) (K (.bool true)) (aC d 3 λc=>ae (c !=1) (K (.bool true)) (aC d 0 λc=>ae (decide (c<=e)) (K (.bool true)) (aB a 6 λa=>aC d 1 λc=>di 561 #[.agg a,J c] λa=>ae (Option.isNone a) (K (.bool true)) (b [])))))) (a8 (ai a 3) λa b d=>aS 520 #[.slice a b d,.func (Fn.func 564) #[] #[ab (some (ai c 0))]] λa=>K (.bool a))) [J 0,J 0])) σ):ad P 555 #[.agg bd,.agg cE] K σ:=ao ⟨[],[(1,[(5,.int .i64),(13,.int .i64)])],[(6,[])],[]⟩ func555 h
def RC(h:(al bd 23 λ_=>al cE 36 λa=>a8 (ai a 1) λb c d=>bH 565 #[.slice b c d] λb=>al #[J 0,J 0,J 0,J 0] 50 λc=>aA c b 4 (aP ((0<=(0:Int))/\((0:Int)<(4:Nat))) (aC c 0 λb=>aP ((0<=(2:Int))/\((2:Int)<(4:Nat))) (aC c 2 λd=>aP ((0<=(3:Int))/\((3:Int)<(4:Nat))) (aC c 3 λc=>a8 (ai a 3) λa e f=>aS 515 #[J (wrap .i64 (wrap .i64 (b+d)+c)),.slice a e f] λa=>K (.bool !a)))))) σ):ad P 556 #[.agg bd,.agg cE] K σ:=ao h0 func556 h
def RA(h:(al bd 23 λa=>al cE 36 λb=>hE λc=>a8 (ai b 5) λd e _=>bz (xF λf g h=>ae (decide (g<e)) (dI d e g 5 5 λd=>al #[J 0,J 0,J 0,J 0,J 0] 62 λe=>aA e d 5 (bu (iH λa=>a8 (ai b 1) λd f _=>aC e 0 λi=>dI d f i 3 3 λd=>al #[J 0,J 0,J 0] 83 λf=>aA f d 3 (aC e 2 λd=>aH P (Instr.lookup 225 (.map (some c)) (J d) true) λd=>sN d λd i=>bu (iH λa=>aC e 2 λd=>aC f 1 λf=>aH P (Instr.mapUpdate 225 (.map (some c)) (J d) (J f)) λ_=>a8 (ai b 5) λb _ c=>aP ((0<=g)/\(g<=c)) (bz (xF λa d f=>ae (decide (d<(↑(Int.toNat g-0):Int))) (ay (da b 5 0 c) λb=>aP ((0<=d)/\(d<(↑(Int.toNat g-(0:Nat)):Int))) (eQ (Addr.add b (Int.toNat d*5)) 5 λb=>al #[J 0,J 0,J 0,J 0,J 0] 62 λc=>aA c b 5 (aC c 0 λb=>aC e 0 λg=>ae (b==g) (aC c 3 λb=>aC c 4 λc=>aC e 3 λg=>aC e 4 λe=>aS 284 #[.agg #[J b,J c],.agg #[J g,J e]] λb=>ae b (K (.bool true)) (f [.bool a,J (wrap .i64 (d+1))])) (f [.bool a,J (wrap .i64 (d+1))])))) (h [.bool a,J (wrap .i64 (g+1))])) [.bool a,J 0])) λb=>aC f 0 λc=>ae (c !=1) (K (.bool true)) (aC f 2 λc=>aC e 1 λe=>ae (c !=e) (K (.bool true)) (ae i (aC f 1 λc=>ae (d !=c) (K (.bool true)) (b [.bool a])) (b [.bool a]))))) λc=>aC e 0 λd=>ae (decide (d<0)) (K (.bool true)) (aC e 0 λd=>a8 (ai b 1) λ_ b _=>ae (decide (d>=b)) (K (.bool true)) (aC e 3 λb=>ae (decide (b<0)) (K (.bool true)) (aC e 4 λb=>ae (decide (b<1)) (K (.bool true)) (aC e 3 λb=>aC a 1 λd=>ae (decide (b>d)) (K (.bool true)) (aC e 4 λb=>aC a 1 λa=>aC e 3 λd=>ae (decide (b>wrap .i64 (a-d))) (K (.bool true)) (c [.bool f])))))))) (K (.bool f))) [.bool false,J 0]) σ):ad P 557 #[.agg bd,.agg cE] K σ:=mX ⟨[],[(1,[(5,.bool),(18,.int .i64)]),(3,[(5,.bool),(103,.int .i64)])],[(6,[(5,.bool)]),(10,[(5,.bool)])],[]⟩ func557 h
end
section
open Go.XS
open IntKind (wrap)
open Tryz
variable {K:aK}{σ:Heap}
variable (p0:av)(l0:Nat)(c0:Nat)(n0:Int)(bd:aw)(g0:Nat)(m0:Option Nat)(p1:av)(l1:Nat)(c1:Nat)(n1:Int)(cE:aw)(g1:Nat)(fJ:aw)(p2:av)(n2:Int)(cs2:aw)(p3:av)(l3:Nat)(c3:Nat)(rf:aw)
def Me(h:(bu (jn (hE λa=>bz (dr λb c=>ae (decide (b<l1)) (fs p1 l1 b λd=>ae (decide (d<0)) (K (.bool false)) (ae (decide (d>=l0)) (K (.bool false)) (gA p0 l0 d 3 0 λe=>ae (e !=2) (K (.bool false)) (aH P (Instr.mapUpdate 215 (.map (some a)) (J d) (.agg #[])) λ_=>c [J (wrap .i64 (b+1))])))) (aH P (Builtin.len_ #[215] 3 #[.map (some a)]) λa=>db .i64 a λa=>K (.bool (a==l1)))) [J 0])) λa=>aS 568 #[.slice p0 l0 c0,.func (Fn.func 566) #[] #[]] λb=>ae b (K (.bool false)) (bH 565 #[.slice p0 l0 c0] λb=>aP ((0<=(2:Int))/\((2:Int)<(4:Nat))) (mc .i64 b 2 λb=>ae ((↑l1:Int)!=b) (K (.bool false)) (a [])))) σ):ad P 558 #[.slice p0 l0 c0,.slice p1 l1 c1] K σ:=ao ⟨[],[(1,[(23,.int .i64)])],[(2,[])],[]⟩ func558 h
def Ma(h:(sF 569 #[.slice p0 l0 c0] λa=>aH P (Instr.lookup 225 (.map a) (J n1) false) λa=>db .i64 a λa=>K (J a)) σ):ad P 559 #[.slice p0 l0 c0,J n1] K σ:=ao h0 func559 h
def Rx(h:(jW p1 0 6 λa=>di 561 #[.agg a,J (wrap .i64 (n0-1))] λa=>K (.bool (Option.isNone a))) σ):ad P 560 #[J n0,ab p1] K σ:=ao h0 func560 h
def Ru(h:(al bd 36 λa=>al #[J n1] 3 λb=>a8 (ai a 3) λc d e=>aV 353 #[.slice c d e,.func (Fn.func 570) #[] #[ab (some (ai b 0))]] λb=>ae (decide (b<0)) (K (ab none)) (a8 (ai a 3) λa c _=>ay a λa=>cK b c (K (ab (some (Addr.add a (Int.toNat b*4))))))) σ):ad P 561 #[.agg bd,J n1] K σ:=ao h0 func561 h
def Q9(h:(aV 571 #[.slice p0 l0 c0,.func (Fn.func g1) #[] fJ] λa=>K (.bool (decide (a>=0)))) σ):ad P 562 #[.slice p0 l0 c0,.func (.func g1) #[] fJ] K σ:=ao h0 func562 h
def Mc(h:(sF 569 #[.slice p0 l0 c0] λa=>ad P 572 #[.map a] λa=>b2 43 #[a] λa b c=>K (.slice a b c)) σ):ad P 563 #[.slice p0 l0 c0] K σ:=ao h0 func563 h
def Rz(h:(al bd 57 λa=>cU p1 0 λb=>aC a 0 λc=>aH P (Instr.lookup 225 (.map b) (J c) false) λb=>db .i64 b λb=>aC a 3 λa=>K (.bool (b !=a))) σ):ad P 564 #[.agg bd,ab p1] K σ:=ao h0 func564 h
def Mb(h:(al #[J 0,J 0,J 0,J 0] 50 λa=>al #[J 0,J 0,J 0,J 0] 50 λb=>bz (dr λc d=>ae (decide (c<l0)) (dI p0 l0 c 3 3 λa=>al #[J 0,J 0,J 0] 83 λe=>aA e a 3 (aC e 0 λa=>aS 573 #[J a] λa=>ae a (aC e 0 λa=>cK a 4 (bA .i64 (Addr.add (ai b 0) a.toNat) λe=>cK a 4 (st (Addr.add (ai b 0) a.toNat) (J (wrap .i64 (e+1))) (d [J (wrap .i64 (c+1))])))) (d [J (wrap .i64 (c+1))]))) (aB b 4 λb=>aA a b 4 (aB a 4 λa=>K (.agg a)))) [J 0]) σ):ad P 565 #[.slice p0 l0 c0] K σ:=ao ⟨[],[(1,[(8,.int .i64)])],[],[]⟩ func565 h
def Mf(h:(al bd 83 λa=>aB a 3 λa=>aS 567 #[.agg a] λa=>K (.bool !a)) σ):ad P 566 #[.agg bd] K σ:=ao h0 func566 h
def Mi(h:(al bd 83 λa=>aC a 0 λb=>aS 573 #[J b] λb=>ae b (aC a 1 λb=>ae (decide (b>=0)) (aC a 1 λb=>aC a 0 λc=>ae (decide (b>0)==(c==1)) (aC a 2 λb=>ae (decide (b>=0)) (aC a 2 λa=>K (.bool (decide (a<=1048575)))) (K (.bool false))) (K (.bool false))) (K (.bool false))) (K (.bool false))) σ):ad P 567 #[.agg bd] K σ:=ao h0 func567 h
def Q7(h:(aV 574 #[.slice p0 l0 c0,.func (Fn.func g1) #[] fJ] λa=>K (.bool (decide (a>=0)))) σ):ad P 568 #[.slice p0 l0 c0,.func (.func g1) #[] fJ] K σ:=ao h0 func568 h
def Mg(h:(hE λa=>bz (dr λb c=>ae (decide (b<l0)) (dI p0 l0 b 3 3 λd=>al #[J 0,J 0,J 0] 83 λe=>aA e d 3 (aC e 1 λd=>ae (decide (d>0)) (aC e 1 λd=>aH P (Instr.lookup 225 (.map (some a)) (J d) false) λe=>db .i64 e λe=>aH P (Instr.mapUpdate 225 (.map (some a)) (J d) (J (wrap .i64 (e+1)))) λ_=>c [J (wrap .i64 (b+1))]) (c [J (wrap .i64 (b+1))]))) (K (.map (some a)))) [J 0]) σ):ad P 569 #[.slice p0 l0 c0] K σ:=ao ⟨[],[(1,[(9,.int .i64)])],[],[]⟩ func569 h
def Rv(h:(al bd 57 λa=>aC a 0 λa=>cx p1 0 λb=>K (.bool (a==b))) σ):ad P 570 #[.agg bd,ab p1] K σ:=ao h0 func570 h
def Rg(h:(bz (dr λa b=>ae (decide (a<l0)) (fs p0 l0 a λc=>kn P g1 (Array.mk (Array.toList #[]++[J c]++Array.toList fJ)) λc=>dq c λc=>ae c (K (J a)) (b [J (wrap .i64 (a+1))])) (K (J (-1)))) [J 0]) σ):ad P 571 #[.slice p0 l0 c0,.func (.func g1) #[] fJ] K σ:=ao ⟨[],[(1,[(8,.int .i64)])],[],[]⟩ func571 h
def OJ(h:(al #[.map m0] 225 λa=>K (.func (Fn.func 575) #[] #[ab (some (ai a 0))])) σ):ad P 572 #[.map m0] K σ:=ao h0 func572 h
def Mh(h:(ae (decide (n0>=0)) (K (.bool (decide (n0<=3)))) (K (.bool false))) σ):ad P 573 #[J n0] K σ:=ao h0 func573 h
def Rc(h:(bz (dr λa b=>ae (decide (a<l0)) (dI p0 l0 a 3 3 λc=>kn P g1 (Array.mk (Array.toList #[]++[.agg c]++Array.toList fJ)) λc=>dq c λc=>ae c (K (J a)) (b [J (wrap .i64 (a+1))])) (K (J (-1)))) [J 0]) σ):ad P 574 #[.slice p0 l0 c0,.func (.func g1) #[] fJ] K σ:=ao ⟨[],[(1,[(8,.int .i64)])],[],[]⟩ func574 h
def OK(h:(cU p1 0 λa=>aH P (Instr.range 225 (.map a)) λa=>iA a λa=>bz (lp λb=>mY P (ab a) false 0 (ae false (k4 P (ab a) λa _=>db .i64 a λa=>ga P g0 #[] #[] [J a] λa=>dq a λa=>ae (!a) (K (aq #[])) (b [])) (K (aq #[]))) λ_ _=>ae true (k4 P (ab a) λa _=>db .i64 a λa=>ga P g0 #[] #[] [J a] λa=>dq a λa=>ae (!a) (K (aq #[])) (b [])) (K (aq #[]))) []) σ):ad P 575 #[.func (.yield g0) #[] #[],ab p1] K σ:=ao ⟨[],[(1,[])],[],[]⟩ func575 h
def PH(h:(bH 8 #[ab p1] λa=>bH 542 #[ab p1] λb=>bH 579 #[.agg a,.agg b] λa=>Fw p0 0 a 5 (K (aq #[]))) σ):ad P 576 #[ab p0,ab p1] K σ:=ao h0 func576 h
def Ew(h:(al cs2 47 λa=>al rf 44 λb=>aC a 0 λa=>ae (a==12) (a8 (ai b 2) λa b c=>cJ p0 4 (.slice a b c) (ay p0 λa=>ay p0 λb=>a8 (a.add 5) λc d e=>eQ (b.add 0) 5 λb=>aP (Array.size b=5) (al (Array.mk (cV [aG,J 0,J 0,aG,aG] (0*5) (Array.toList b))) 111 λb=>aY (a.add 5) (.slice c d e) (cC P #[112,112] c d e (some (ai b 0)) 1 1 λa b c=>cJ p0 5 (.slice a b c) (Fv p0 6 λa=>ae a (cJ p0 6 (.bool true) (ce 576 #[ab p0,ab p1] (K (aq #[])))) (jW p0 0 5 λa=>aS 580 #[.agg a] λa=>cJ p0 6 (.bool !a) (ce 576 #[ab p0,ab p1] (K (aq #[]))))))))) (ce 576 #[ab p0,ab p1] (K (aq #[])))) σ):ad P 577 #[ab p0,ab p1,.agg cs2,.agg rf] K σ:=ao ⟨[(3,[0,0,2,6,14,0,32,96,224,480,1022,2047,4095,8191],(sp [0,1,2,3,5,6,7] (.l 4 (.l 8 (.s 9 (.ax [4]) (.s 10 (.ax []) (sp [11,12] (.s 13 (.ax []) .d))))))))],[],[],[]⟩ func577 h
def PJ(h:(ay p0 λa=>ay p0 λb=>gB (a.add 6) λc=>a8 (b.add 5) λb d e=>aS 581 #[.slice b d e] λb=>aY (a.add 6) (.bool c) (cJ p2 5 (.bool !c) (cJ p2 6 (.bool b) (K (aq #[]))))) σ):ad P 578 #[ab p0,ab p1,ab p2] K σ:=ao ⟨[(0,[0,0,0,4,12,28,60,0,128,384,896,1920,4093,8189,16381,32767,65535,131071],(sp [0,1,2,3,4,7,8,9] (.l 5 (sp [6] (.l 10 (.s 11 (.ax [5]) (sp [12,13] (.s 14 (.ax []) (sp [15,16] (.s 17 (.ax []) .d))))))))))],[],[],[]⟩ func578 h
def Nt(h:(al bd 36 λa=>al cE 23 λb=>al #[aG,J 0,J 0,aG,aG] 111 λc=>a8 (ai a 1) λd e _=>bz (o0 λf g h=>ae (decide (g<e)) (dI d e g 3 3 λa=>al #[J 0,J 0,J 0] 83 λb=>aA b a 3 (aC b 0 λa=>ae (a==0) (h [J (wrap .i64 (f+1)),J (wrap .i64 (g+1))]) (h [J f,J (wrap .i64 (g+1))]))) (a8 (ai a 2) λ_ d _=>aC b 2 λb=>a8 (ai a 4) λe g h=>a8 (ai a 2) λi j k=>a8 (ai a 3) λl m n=>b2 582 #[.slice e g h] λe g h=>aY (ai a 3) (.slice l m n) (aY (ai a 2) (.slice i j k) (b2 583 #[.slice l m n] λl m n=>aY (ai a 2) (.slice i j k) (aA c #[.slice e g h,J (wrap .i64 (f+if 0>if b<d then b else(↑d:Int)then 0 else if b<d then b else(↑d:Int))),J (wrap .i64 ((↑j:Int)-if 0>if b<d then b else(↑d:Int)then 0 else if b<d then b else(↑d:Int))),.slice l m n,aG] 5 (aB c 5 λa=>K (.agg a))))))) [J 0,J 0]) σ):ad P 579 #[.agg bd,.agg cE] K σ:=ao ⟨[(9,[0,1,3,0,0,24,0,64,192,0,960,0,2048,6151,16383,32767],(sp [0,3,4,5,6,9,11] (.l 1 (.l 7 (sp [8,10] (.l 12 (.s 2 (.ax [12,7]) (.s 13 (.ax [7]) (sp [14] (.s 15 (.ax []) .d))))))))))],[(1,[(5,.int .i64),(12,.int .i64)])],[],[]⟩ func579 h
def Nu(h:(al bd 111 λa=>a8 (ai a 0) λb c d=>aC a 1 λe=>a8 (ai a 3) λf g h=>a8 (ai a 4) λi j _=>bz (A7 λb c d e f g h k l=>ae (decide (k<j)) (fs i j k λi=>aC a 2 λj=>aV 372 #[.slice b c d,J e,J j,.slice f g h] λj=>bu (jn (aC a 2 λa=>mJ 584 #[.slice b c d,J e,J a,.slice f g h] λa _=>al #[aG,aG,aG,J 0] 360 λb=>aA b a 4 (a8 (ai b 1) λa c d=>aC b 3 λe=>a8 (ai b 2) λb f g=>l [.slice a c d,J e,.slice b f g,J (wrap .i64 (k+1))]))) λa=>ae (decide (j<0)) (K (.bool false)) (gA b c j 5 0 λb=>ae (b !=i) (K (.bool false)) (a []))) (aC a 2 λa=>aV 372 #[.slice b c d,J e,J a,.slice f g h] λa=>K (.bool (decide (a<0))))) [.slice b c d,J e,.slice f g h,J 0]) σ):ad P 580 #[.agg bd] K σ:=ao ⟨[(1,[0,1,0,4,0,16,3,79,255],(sp [0,2,4] (.l 1 (sp [6] (.l 3 (sp [7] (.l 5 (sp [8] .d)))))))),(9,[0,1,0,4,0,16,3,79,255],(sp [0,2,4] (.l 1 (sp [6] (.l 3 (sp [7] (.l 5 (sp [8] .d))))))))],[(1,[(3,.slice),(4,.int .i64),(5,.slice),(20,.int .i64)])],[(6,[])],[]⟩ func580 h
def Nv(h:(hE λa=>bz (dr λb c=>ae (decide (b<l0)) (dI p0 l0 b 5 5 λd=>al #[aG,J 0,J 0,aG,aG] 111 λe=>aA e d 5 (a8 (ai e 4) λd f _=>bz (dr λg h=>ae (decide (g<f)) (fs d f g λb=>al #[J 0] 3 λc=>st (ai c 0) (J b) (a8 (ai e 0) λb d f=>aV 511 #[.slice b d f,.func (Fn.func 585) #[] #[ab (some (ai c 0))]] λb=>ae (decide (b<0)) (h [J (wrap .i64 (g+1))]) (a8 (ai e 0) λd e _=>gA d e b 5 1 λb=>aH P (Instr.lookup 225 (.map (some a)) (J b) true) λd=>sN d λd e=>ae e (aC c 0 λe=>ae (decide (e<=d)) (K (.bool false)) (aC c 0 λc=>aH P (Instr.mapUpdate 225 (.map (some a)) (J b) (J c)) λ_=>h [J (wrap .i64 (g+1))])) (aC c 0 λc=>aH P (Instr.mapUpdate 225 (.map (some a)) (J b) (J c)) λ_=>h [J (wrap .i64 (g+1))])))) (c [J (wrap .i64 (b+1))])) [J 0])) (K (.bool true))) [J 0]) σ):ad P 581 #[.slice p0 l0 c0] K σ:=ao ⟨[],[(1,[(15,.int .i64)]),(3,[(22,.int .i64)])],[],[]⟩ func581 h
def Q4(h:(ae (Option.isNone p0) (K aG) (al #[] 160 λa=>cC P #[33,33] (some (ai a 0)) 0 0 p0 l0 c0 λa b c=>K (.slice a b c))) σ):ad P 582 #[.slice p0 l0 c0] K σ:=ao h0 func582 h
def Q2(h:(ae (Option.isNone p0) (K aG) (al #[] 57 λa=>cC P #[32,32] (some (ai a 0)) 0 0 p0 l0 c0 λa b c=>K (.slice a b c))) σ):ad P 583 #[.slice p0 l0 c0] K σ:=ao h0 func583 h
def NK(h:(al #[aG,aG,aG,J 0] 360 λa=>al #[.bool false] 4 λb=>bH 304 #[.slice p0 l0 c0,.slice p3 l3 c3,J n1] λc=>al #[aG,aG,aG,J 0] 360 λd=>aA d c 4 (ad P 305 #[ab (some (ai d 0)),J n2] λc=>n5 P (yh λc _ e=>i7 c (aB d 4 λd=>aA a d 4 (st (ai b 0) (.bool true) (fp c (some Code.ret) (e (.bool false)))))) c (λc=>aB d 4 λd=>aA a d 4 (st (ai b 0) (.bool false) (h5 c (aB a 4 λa=>gB (ai b 0) λb=>K (aq #[.agg a,.bool b]))))) λc=>h5 c (aB a 4 λa=>gB (ai b 0) λb=>K (aq #[.agg a,.bool b])))) σ):ad P 584 #[.slice p0 l0 c0,J n1,J n2,.slice p3 l3 c3] K σ:=mX ⟨[],[(900000,[(17,.agg)])],[],[]⟩ func584 h
def Nw(h:(al bd 160 λa=>aC a 0 λa=>cx p1 0 λb=>K (.bool (a==b))) σ):ad P 585 #[.agg bd,ab p1] K σ:=ao h0 func585 h
def Se(h:(ay p0 λa=>ey P (callFunc 236 #[ab (some (a.add 0))]) λa=>db .i64 a λa=>K (J a)) σ):ad P 148 #[ab p0] K σ:=ao h0 func148 h
def OP(h:(aV 327 #[.int .u64 n0] (λa=>K (J a))) σ):ad P 227 #[.int .u64 n0] K σ:=ao h0 func227 h
def OQ(h:(aP (0<=(1:Int)) (aP (0<=(2:Int)) (aP (0<=(4:Int)) (aP (0<=(8:Int)) (aP (0<=(16:Int)) (aP (0<=(32:Int)) (K (J (bh .and .i64 (wrap .i64 (wrap .u64 (wrap .u64 (wrap .u64 (bh .and .u64 (wrap .u64 (bO .u64 (wrap .u64 (bh .and .u64 (bO .u64 (wrap .u64 (bh .and .u64 (bO .u64 n0 1) 6148914691236517205+bh .and .u64 n0 6148914691236517205)) 2) 3689348814741910323+bh .and .u64 (wrap .u64 (bh .and .u64 (bO .u64 n0 1) 6148914691236517205+bh .and .u64 n0 6148914691236517205)) 3689348814741910323)) 4+wrap .u64 (bh .and .u64 (bO .u64 (wrap .u64 (bh .and .u64 (bO .u64 n0 1) 6148914691236517205+bh .and .u64 n0 6148914691236517205)) 2) 3689348814741910323+bh .and .u64 (wrap .u64 (bh .and .u64 (bO .u64 n0 1) 6148914691236517205+bh .and .u64 n0 6148914691236517205)) 3689348814741910323))) 1085102592571150095+bO .u64 (bh .and .u64 (wrap .u64 (bO .u64 (wrap .u64 (bh .and .u64 (bO .u64 (wrap .u64 (bh .and .u64 (bO .u64 n0 1) 6148914691236517205+bh .and .u64 n0 6148914691236517205)) 2) 3689348814741910323+bh .and .u64 (wrap .u64 (bh .and .u64 (bO .u64 n0 1) 6148914691236517205+bh .and .u64 n0 6148914691236517205)) 3689348814741910323)) 4+wrap .u64 (bh .and .u64 (bO .u64 (wrap .u64 (bh .and .u64 (bO .u64 n0 1) 6148914691236517205+bh .and .u64 n0 6148914691236517205)) 2) 3689348814741910323+bh .and .u64 (wrap .u64 (bh .and .u64 (bO .u64 n0 1) 6148914691236517205+bh .and .u64 n0 6148914691236517205)) 3689348814741910323))) 1085102592571150095) 8)+bO .u64 (wrap .u64 (bh .and .u64 (wrap .u64 (bO .u64 (wrap .u64 (bh .and .u64 (bO .u64 (wrap .u64 (bh .and .u64 (bO .u64 n0 1) 6148914691236517205+bh .and .u64 n0 6148914691236517205)) 2) 3689348814741910323+bh .and .u64 (wrap .u64 (bh .and .u64 (bO .u64 n0 1) 6148914691236517205+bh .and .u64 n0 6148914691236517205)) 3689348814741910323)) 4+wrap .u64 (bh .and .u64 (bO .u64 (wrap .u64 (bh .and .u64 (bO .u64 n0 1) 6148914691236517205+bh .and .u64 n0 6148914691236517205)) 2) 3689348814741910323+bh .and .u64 (wrap .u64 (bh .and .u64 (bO .u64 n0 1) 6148914691236517205+bh .and .u64 n0 6148914691236517205)) 3689348814741910323))) 1085102592571150095+bO .u64 (bh .and .u64 (wrap .u64 (bO .u64 (wrap .u64 (bh .and .u64 (bO .u64 (wrap .u64 (bh .and .u64 (bO .u64 n0 1) 6148914691236517205+bh .and .u64 n0 6148914691236517205)) 2) 3689348814741910323+bh .and .u64 (wrap .u64 (bh .and .u64 (bO .u64 n0 1) 6148914691236517205+bh .and .u64 n0 6148914691236517205)) 3689348814741910323)) 4+wrap .u64 (bh .and .u64 (bO .u64 (wrap .u64 (bh .and .u64 (bO .u64 n0 1) 6148914691236517205+bh .and .u64 n0 6148914691236517205)) 2) 3689348814741910323+bh .and .u64 (wrap .u64 (bh .and .u64 (bO .u64 n0 1) 6148914691236517205+bh .and .u64 n0 6148914691236517205)) 3689348814741910323))) 1085102592571150095) 8)) 16)+bO .u64 (wrap .u64 (wrap .u64 (bh .and .u64 (wrap .u64 (bO .u64 (wrap .u64 (bh .and .u64 (bO .u64 (wrap .u64 (bh .and .u64 (bO .u64 n0 1) 6148914691236517205+bh .and .u64 n0 6148914691236517205)) 2) 3689348814741910323+bh .and .u64 (wrap .u64 (bh .and .u64 (bO .u64 n0 1) 6148914691236517205+bh .and .u64 n0 6148914691236517205)) 3689348814741910323)) 4+wrap .u64 (bh .and .u64 (bO .u64 (wrap .u64 (bh .and .u64 (bO .u64 n0 1) 6148914691236517205+bh .and .u64 n0 6148914691236517205)) 2) 3689348814741910323+bh .and .u64 (wrap .u64 (bh .and .u64 (bO .u64 n0 1) 6148914691236517205+bh .and .u64 n0 6148914691236517205)) 3689348814741910323))) 1085102592571150095+bO .u64 (bh .and .u64 (wrap .u64 (bO .u64 (wrap .u64 (bh .and .u64 (bO .u64 (wrap .u64 (bh .and .u64 (bO .u64 n0 1) 6148914691236517205+bh .and .u64 n0 6148914691236517205)) 2) 3689348814741910323+bh .and .u64 (wrap .u64 (bh .and .u64 (bO .u64 n0 1) 6148914691236517205+bh .and .u64 n0 6148914691236517205)) 3689348814741910323)) 4+wrap .u64 (bh .and .u64 (bO .u64 (wrap .u64 (bh .and .u64 (bO .u64 n0 1) 6148914691236517205+bh .and .u64 n0 6148914691236517205)) 2) 3689348814741910323+bh .and .u64 (wrap .u64 (bh .and .u64 (bO .u64 n0 1) 6148914691236517205+bh .and .u64 n0 6148914691236517205)) 3689348814741910323))) 1085102592571150095) 8)+bO .u64 (wrap .u64 (bh .and .u64 (wrap .u64 (bO .u64 (wrap .u64 (bh .and .u64 (bO .u64 (wrap .u64 (bh .and .u64 (bO .u64 n0 1) 6148914691236517205+bh .and .u64 n0 6148914691236517205)) 2) 3689348814741910323+bh .and .u64 (wrap .u64 (bh .and .u64 (bO .u64 n0 1) 6148914691236517205+bh .and .u64 n0 6148914691236517205)) 3689348814741910323)) 4+wrap .u64 (bh .and .u64 (bO .u64 (wrap .u64 (bh .and .u64 (bO .u64 n0 1) 6148914691236517205+bh .and .u64 n0 6148914691236517205)) 2) 3689348814741910323+bh .and .u64 (wrap .u64 (bh .and .u64 (bO .u64 n0 1) 6148914691236517205+bh .and .u64 n0 6148914691236517205)) 3689348814741910323))) 1085102592571150095+bO .u64 (bh .and .u64 (wrap .u64 (bO .u64 (wrap .u64 (bh .and .u64 (bO .u64 (wrap .u64 (bh .and .u64 (bO .u64 n0 1) 6148914691236517205+bh .and .u64 n0 6148914691236517205)) 2) 3689348814741910323+bh .and .u64 (wrap .u64 (bh .and .u64 (bO .u64 n0 1) 6148914691236517205+bh .and .u64 n0 6148914691236517205)) 3689348814741910323)) 4+wrap .u64 (bh .and .u64 (bO .u64 (wrap .u64 (bh .and .u64 (bO .u64 n0 1) 6148914691236517205+bh .and .u64 n0 6148914691236517205)) 2) 3689348814741910323+bh .and .u64 (wrap .u64 (bh .and .u64 (bO .u64 n0 1) 6148914691236517205+bh .and .u64 n0 6148914691236517205)) 3689348814741910323))) 1085102592571150095) 8)) 16)) 32))) 127))))))))) σ):ad P 327 #[.int .u64 n0] K σ:=ao h0 func327 h
def Sd(h:(ay p0 λa=>ey P (callFunc 409 #[ab (some (a.add 0)),J n1]) λa=>db .i64 a λa=>K (J a)) σ):ad P 368 #[ab p0,J n1] K σ:=ao h0 func368 h
end
section
open Go.XS
section
variable {B:Heap}{H:au}{K:aK}
def dK{v w:Value}(h:T B H (K v))(e:v=w):T B H (K w):=e▸h
def U7(k:IntKind)(zs:aN):∀v∈iv k zs,v.oneCell'=true:=by intro v a;obtain⟨z,_,rfl⟩:=bP.1 a;rfl
def F0(k:IntKind)(xs ys:aN):iv k (xs++ys)=iv k xs++iv k ys:=by simp[iv]
def XN{b:Nat}{zs:aN}{cs:aw}[h:bZ B H b cs](hc:cs=(iv .i64 zs).toArray):bF B H (some ⟨b,0,none⟩) (iv .i64 zs):=by subst hc;refine bF.nU λi hi=>?_;simp
end
end
section
open Go.XS
def l5:P.cellsOf 3=1:=by kernel_rfl
def mr:zc P 3=#[.int .i64 0]:=by kernel_rfl
def kZ:P.bytesOf 3=8:=by kernel_rfl
section
variable {B:Heap}{H:au}{K:aK}
end
end
section
open Go.XS
def posOf(xs:aN)(x:Int):Int:=if xs.idxOf x<xs.length then(xs.idxOf x:Int)else-1
def WG{xs:aN}(h:∀(i j:Nat) (x:Int),xs[i]?=some x->xs[j]?=some x->i=j):xs.Nodup:=by rw[mx,mz];intro i j hi a b he;have:=h i j xs[i] (bj hi) (by rw[bj a,he]);omega
def vf{xs:aN}(h:xs.Nodup){i j:Nat}{x:Int}(hi:xs[i]?=some x)(a:xs[j]?=some x):i=j:=(List.getElem?_inj (bY.1 hi).1 h).1 (hi.trans a.symm)
def vq{xs:aN}(h:xs.Nodup){i:Nat}{x:Int}(hi:xs[i]?=some x):posOf xs x=i:=by obtain⟨hl,rfl⟩:=bY.1 hi;unfold posOf;rw[h.idxOf_getElem i hl,ag hl]
def vr{xs:aN}{x:Int}(h:x∉xs):posOf xs x=-1:=by unfold posOf;rw[aj];rw[Jc];exact h
def vp{xs:aN}(x:Int):(∃i:Nat,xs[i]?=some x/\posOf xs x=(i:Int)/\i<xs.length)\/(x∉xs/\posOf xs x=-1):=by
 by_cases h:x∈xs
 ·have hl:=Jc.2 h
  exact .inl ⟨xs.idxOf x,by rw[bj hl,List.getElem_idxOf],by unfold posOf;rw[ag hl],hl⟩
 ·exact .inr ⟨h,vr h⟩
def ll{xs:aN}{x:Int}:posOf xs x<0↔x∉xs:=by
 rcases vp x with⟨i,h,a,hl⟩|⟨h,a⟩
 ·rw[a]
  have:=cr h;constructor
  ·intro;omega
  ·intro h;exact absurd this h
 ·rw[a]
  exact⟨λ_=>h,λ_=>by omega⟩
def Bj:∀(n:Nat) (xs:aN),xs.Nodup->(∀x∈xs,0<=x/\x<n)->xs.length<=n
 |0,xs,_,h=>by
  cases xs with
  |nil=>simp
  |cons x xs=>have:=h x (by simp);omega
 |n+1,xs,b,h=>by
  by_cases hm:(n:Int)∈xs
  ·have h1:=Bj n (xs.erase n) (b.erase _) (λx a=>by
    have c:=h x (sd a)
    have d:x≠n:=by intro e;subst e;exact(CZ b) a
    omega)
   rw[List.length_erase_of_mem hm]at h1;omega
  ·have h1:=Bj n xs b (λx a=>by
    have c:=h x a;have d:x≠n:=by intro e;subst e;exact hm a
    omega)
   omega
def WI{n:Nat}{xs:aN}{x:Int}(b:xs.Nodup)(h:∀y∈xs,0<=y/\y<n)(c:x∉xs)(h0:0<=x)(h1:x<n):xs.length+1<=n:=by
 have:=Bj n (x::xs) (by simp[c,b]) (by
  intro y a;rcases cL.1 a with rfl|a
  ·exact⟨h0,h1⟩
  ·exact h y a)
 simpa using this
def Xr{xs:aN}{x:Int}(j:xs.Nodup)(k:x∉xs)(y:Int):posOf (xs++[x]) y=if y=x then(xs.length:Int)else posOf xs y:=by
 have f:(xs++[x]).Nodup:=by rw[dP];refine⟨j,by simp,?_⟩;intro a ha b g e;simp at g;subst g;subst e;exact k ha
 by_cases c:y=x
 ·subst c
  rw[ag rfl];exact vq f (by simp)
 ·rw[aj c]
  rcases vp (xs:=xs) y with⟨i,h,d,hl⟩|⟨h,d⟩
  ·rw[d]
   exact vq f (by rw[gx hl];exact h)
  ·rw[d]
   exact vr (by simp[h,c])
def WH{xs:aN}{x:Int}(d:xs.Nodup)(f:x∉xs):(xs++[x]).Nodup:=by rw[dP];refine⟨d,by simp,?_⟩;intro a ha b c e;simp at c;subst c;subst e;exact f ha
def jV(xs:aN)(i:Nat):aN:=(xs.set i (xs.getD (xs.length-1) 0)).take (xs.length-1)
def rl{xs:aN}{i j:Nat}(hi:i<xs.length)(a:j<xs.length-1):(jV xs i)[j]?=if j=i then xs[xs.length-1]? else xs[j]?:=by
 have hl:xs.length-1<xs.length:=by omega
 have c:j<xs.length:=by omega
 simp only[jV,ny,a,eb,lK];by_cases h:i=j
 ·subst h
  simp[hi,List.getD,bj hl]
 ·have b:¬j=i:=λe=>h e.symm
  simp[h,b]
def rp{xs:aN}{i:Nat}:(jV xs i).length=xs.length-1:=by simp[jV]
def E3{xs:aN}{i:Nat}(d:xs.Nodup)(hi:i<xs.length):(jV xs i).Nodup:=by
 refine WG λa b x ha c=>?_;have e:a<xs.length-1:=by have:=(bY.1 ha).1;rwa [rp]at this
 have f:b<xs.length-1:=by have:=(bY.1 c).1;rwa [rp]at this
 rw[rl hi e]at ha;rw[rl hi f]at c;split at ha
 ·split at c
  ·omega
  ·have:=vf d ha c;omega
 ·split at c
  ·have:=vf d ha c;omega
  ·exact vf d ha c
def E2{xs:aN}{i:Nat}{y:Int}(hi:i<xs.length)(h:y∈jV xs i):y∈xs:=by
 obtain⟨j,a,he⟩:=sc.1 h;have b:j<xs.length-1:=by rwa [rp]at a
 have h1:=rl hi b;rw[bj a,he]at h1;split at h1
 ·exact cr h1.symm
 ·exact cr h1.symm
def Hk{xs:aN}{i:Nat}{x top:Int}(d:xs.Nodup)(a:xs[i]?=some x)(b:xs[xs.length-1]?=some top)(y:Int):posOf (jV xs i) y=if y=x then-1 else if y=top then(i:Int)else posOf xs y:=by
 have hi:i<xs.length:=(bY.1 a).1;have k:=E3 d hi;by_cases c:y=x
 ·subst c
  rw[ag rfl];refine vr λhm=>?_;obtain⟨j,l,he⟩:=sc.1 hm;have m:j<xs.length-1:=by rwa [rp]at l
  have h1:=rl hi m;rw[bj l,he]at h1;split at h1
  ·have:=vf d h1.symm a;omega
  ·have:=vf d h1.symm a;omega
 ·rw[aj c]
  by_cases f:y=top
  ·subst f
   rw[ag rfl]
   have o:i≠xs.length-1:=by intro e;rw[e,b]at a;cases a;exact c rfl
   exact vq k (by rw[rl hi (by omega),ag rfl];exact b)
  ·rw[aj f]
   rcases vp (xs:=xs) y with⟨j,h,g,hl⟩|⟨h,g⟩
   ·rw[g]
    have n:j≠i:=by intro e;subst e;rw[h]at a;cases a;exact c rfl
    have p:j≠xs.length-1:=by intro e;subst e;rw[h]at b;cases b;exact f rfl
    exact vq k (by rw[rl hi (by omega),aj n];exact h)
   ·rw[g]
    exact vr λhm=>h (E2 hi hm)
end
section
open Go.XS
def cW(n:Nat)(xs:aN):az:=(List.range n).map λ(y:Nat)=> .int .i64 (posOf xs (y:Int))
@[simp] theorem Ci (n:Nat) (xs:aN):(cW n xs).length=n:=by simp[cW]
theorem Cg{n:Nat}{xs:aN}{i:Nat}(h:i<n):(cW n xs)[i]?=some (.int .i64 (posOf xs (i:Int))):=by simp[cW,h]
def fc(n:Nat)(xs:aN)(junk:az):az:=cW n xs++(iv .i64 xs++junk)
def iM(rm n len:Nat):aw:=#[.slice (some ⟨rm,n,none⟩) len n,.slice (some ⟨rm,0,none⟩) n n]
def hM(s n:Nat)(xs:aN):bc:=
 fa (xs.Nodup/\(∀x∈xs,0<=x/\x<(n:Int))/\n<=1048576)<|eF λrm:Nat=>eF λjunk:az=>fa (xs.length+junk.length=n)<|
  eA [cl s (iM rm n xs.length),cl rm (fc n xs junk).toArray]
section
variable {B:Heap}{H:au}{K:aK}{s n:Nat}{xs:aN}
def yz{p:HP}(t:xs.Nodup->(∀x∈xs,0<=x/\x<(n:Int))->n<=1048576->∀rm junk,xs.length+junk.length=n->T B (cl s (iM rm n xs.length)::cl rm (fc n xs junk).toArray::H) p):T B (hM s n xs::H) p:=gz λ⟨h1,a,b⟩=>gg λrm=>gg λjunk=>gz λc=>lS (t h1 a b rm junk c)
def tC{p:HP}(h1:xs.Nodup)(a:∀x∈xs,0<=x/\x<(n:Int))(b:n<=1048576){rm:Nat}{junk:az}(c:xs.length+junk.length=n)(t:T B (hM s n xs::H) p):T B (cl s (iM rm n xs.length)::cl rm (fc n xs junk).toArray::H) p:=jQ (Hs:=[cl s (iM rm n xs.length),cl rm (fc n xs junk).toArray]) (ic c (gI (q:=λjunk=>fa (xs.length+junk.length=n) (eA [cl s (iM rm n xs.length),cl rm (fc n xs junk).toArray])) junk (gI rm (ic ⟨h1,a,b⟩ t))))
def FH{junk:az}{i:Nat}(h:i<n):(fc n xs junk).toArray[0+i]?=some (.int .i64 (posOf xs (i:Int))):=by simp only[dE,bI,fc];rw[gx (by simpa using h)];exact Cg h
def FG{junk:az}{i:Nat}{z:Int}(h:xs[i]?=some z):(fc n xs junk).toArray[n+i]?=some (.int .i64 z):=by have hl:i<xs.length:=(bY.1 h).1;simp only[dE,fc];rw[iu (by simp),gx (by simpa using hl)];simp only[Ci,zn];exact mP h
def ZE{m:Int}(h0:m=(n:Int))(h1:n<=1048576)(U:∀s,T B (hM s n []::H) (K (pz s))):T B H (ad P 228 #[.int .i64 m] K):=by
 subst h0;apply an (RO _);refine gf (λvs H'=>vs=[]/\H=H') ?_ λR a=>aI (by simp) (aI (by simp;omega) (a _ _ ⟨rfl,rfl⟩));rintro vs H' ⟨rfl,rfl⟩;have hw:IntKind.wrap .i64 (2*(n:Int))=((2*n:Nat):Int):=by rw[br (by omega)];omega
 simp only[fk,hw,aZ];intro _;refine gy (by omega) (by omega) (by omega) (by rw[kZ];omega) (by kernel_rfl) (by kernel_rfl) λrm=>?_;refine ba ⟨by omega,by omega⟩ (ba ⟨by omega,by omega⟩ (ba ⟨by omega,by omega⟩ (ba ⟨by omega,by omega⟩ (ba ⟨by omega,by omega⟩ ?_))));rw[l5,mr,lq,iP,aZ]
 have b:da (some ⟨rm,0,none⟩) 1 n (2*n)=some ⟨rm,n,none⟩:=by
  unfold da;split
  ·have:n=0:=by omega
   subst this;rfl
  ·simp[aR]
 rw[b,lx,kS,iQ,show 2*n-n=n by omega];refine eg λs=>?_;simp only[aR];apply bU rfl
 refine sq (λvs H'=>∃i:Nat,i<=n/\vs=[.int .i64 (i:Int)]/\H'=cl s (iM rm n 0)::cl rm (List.replicate i (Value.int .i64 (-1))++(List.replicate (n-i) (Value.int .i64 0)++List.replicate n (Value.int .i64 0))).toArray::H)
  (λvs=>match vs with|[.int _ i]=>n-i.toNat|_=>0) ⟨0,nA _,rfl,?_⟩ ?_
 ·simp only[tZ,kQ,iQ,List.replicate_append_replicate]
  rw[show n+n=2*n by omega];rfl
 rintro vs H' R ⟨i,hi,rfl,rfl⟩ a;simp only[kX,fk];intro d heq;simp only[lH,Value.int.injEq,nB,kT]at heq;subst heq;refine cZ (λhc=>?_) (λhc=>?_)
 ·have c:i<n:=by simpa using hc
  refine bU rfl (oG rfl c (by simp;omega) rfl ?_);rw[yS (by omega)];refine a _ _ ⟨i+1,by omega,rfl,?_⟩ (by simp only[aZ];omega);congr 3;simp only[bI,jK];congr 1;rw[pI _ _ (by simp),pH _ _ (by simp;omega)];simp only[g',kS];rw[show n-i=(n-(i+1))+1 by omega,se,jL,C8];simp
 ·have:i=n:=by simp at hc;omega
  subst this
  rw[show(List.replicate i (Value.int .i64 (-1))++(List.replicate (i-i) (Value.int .i64 0)++List.replicate i (Value.int .i64 0)))=fc i [] (List.replicate i (Value.int .i64 0)) by
   simp only[fc,kS,tZ,kQ,iv,ot];congr 1;apply ji;intro j;by_cases h:j<i
   ·simp[cW,h,posOf]
   ·simp[cW,h]]
  exact tC (by simp) (by simp) h1 (by simp) (U s)
def ZF{x:Int}(U:T B (hM s n xs::H) (K (.int .i64 (posOf xs x)))):T B (hM s n xs::H) (ad P 487 #[pz s,.int .i64 x] K):=by
 refine yz λh1 c e rm junk f=>?_;have a:=tC h1 c e (rm:=rm) (junk:=junk) f U;apply an (RQ _ _);simp only[cR,aR];have d:(x<0\/(n:Int)<=x)->posOf xs x=-1:=λh=>vr λhm=>by have:=c x hm;omega
 refine gf (λvs H'=>vs=[]/\H'=cl s (iM rm n xs.length)::cl rm (fc n xs junk).toArray::H/\0<=x/\x<(n:Int)) ?_ λR g=>?_
 ·rintro vs H' ⟨rfl,rfl,j,k⟩
  refine fk.2 λ_=>bU rfl (oF (i:=x.toNat) (by omega) (by omega) (FH (by omega)) ?_);rw[r5 j];exact a
 ·refine aI rfl (cZ (λh=>dK a ?_) λh=>bU rfl (cZ (λb=>dK a ?_) λb=>g _ _ ⟨rfl,rfl,?_,?_⟩))
  ·rw[d (.inl (by simpa using h))]
  ·rw[d (.inr (by simpa using b))]
  ·simpa using h
  ·simpa using b
def ZG(U:T B (hM s n xs::H) (K (.tuple #[.int .i64 (xs.getLast?.getD 0),.bool (decide (0<xs.length))]))):T B (hM s n xs::H) (ad P 454 #[pz s] K):=by
 refine yz λh1 b c rm junk d=>?_;have a:=tC h1 b c (rm:=rm) (junk:=junk) d U;apply an (RS _);simp only[cR,aR];refine gf (λvs H'=>vs=[]/\H'=cl s (iM rm n xs.length)::cl rm (fc n xs junk).toArray::H/\0<xs.length) ?_ λR e=>?_
 ·rintro vs H' ⟨rfl,rfl,hl⟩
  obtain⟨z,hz⟩:∃z,xs[xs.length-1]?=some z:=⟨_,bj (by omega)⟩;have f:xs.getLast?.getD 0=z:=by rw[C5,hz];rfl
  have hw:IntKind.wrap .i64 ((xs.length:Int)-1)=((xs.length-1:Nat):Int):=by rw[br (by omega)];omega
  refine fk.2 λ_=>bU rfl (bU rfl ?_);rw[hw];refine oF rfl (by omega) (FG hz) (dK a ?_);simp[f,hl]
 ·refine aI rfl (bU rfl (cZ (λh=>dK a ?_) λh=>e _ _ ⟨rfl,rfl,?_⟩))
  ·have:xs=[]:=by simpa using h
   simp[this]
  ·have:¬xs=[]:=by simpa using h
   exact r9.2 this
def YP{n:Nat}{xs ys:aN}{i:Nat}{v:Int}(h:∀j:Nat,j<n->posOf ys (j:Int)=if j=i then v else posOf xs (j:Int)):(cW n xs).set i (.int .i64 v)=cW n ys:=by
 apply ji;intro j;rw[lK];by_cases a:j<n
 ·rw[Cg a,Cg a,h j a]
  by_cases e:i=j
  ·subst e;simp[a]
  ·have b:¬j=i:=λh=>e h.symm
   simp[e,b]
 ·have h1:(cW n xs)[j]?=none:=by simp[cW];omega
  have c:(cW n ys)[j]?=none:=by simp[cW];omega
  rw[h1,c];split
  ·split
   ·rename_i f d;simp at d;omega
   ·rfl
  ·rfl
def jC(n:Nat)(xs:aN)(x:Int):Bool:=decide (0<=x/\x<(n:Int)/\posOf xs x<0)
def mf(n:Nat)(xs:aN)(x:Int):aN:=if jC n xs x then xs++[x]else xs
def XA{n:Nat}{xs:aN}{x:Nat}{junk:az}(a:xs.Nodup)(b:(x:Int)∉xs)(c:x<n)(d:1<=junk.length):eB ((fc n xs junk).toArray.setIfInBounds (0+x) (.int .i64 (xs.length:Int))) (n+xs.length*1) [.int .i64 (x:Int)]=(fc n (xs++[(x:Int)]) (junk.drop 1)).toArray:=by
 apply gE
 have eP:((fc n xs junk).toArray.setIfInBounds (0+x) (.int .i64 (xs.length:Int))).toList=cW n (xs++[(x:Int)])++(iv .i64 xs++junk):=by
  simp only[bI,jK,fc];rw[pH _ _ (by simpa using c)];rw[YP λj d=>?_];rw[Xr a b];by_cases e:j=x
  ·subst e;simp
  ·have f:¬((j:Int)=(x:Int)):=by omega
   simp[e,f]
 rw[vH _ _ _ (by simp[fc];omega),eP];simp only[fc,iP,c8,gH];rw[C',tS];simp only[Ci,zn,F0];rw[ke (by simp),om (by simp;omega),show n+xs.length+(0+1)-n=xs.length+1 by omega];rw[C',tS];simp[iv];rw[om (by simp),ke (by simp)];simp
def Ia{x:Int}(U:T B (hM s n (mf n xs x)::H) (K (.bool (jC n xs x)))):T B (hM s n xs::H) (ad P 230 #[pz s,.int .i64 x] K):=by
 refine yz λh1 f m rm junk o=>an (RR _ _) ?_;simp only[cR,aR]
 have g:jC n xs x=false->T B (cl s (iM rm n xs.length)::cl rm (fc n xs junk).toArray::H) (K (.bool false)):=by intro h;rw[mf,h]at U;exact tC h1 f m o U
 refine gf (λvs H'=>vs=[]/\H'=cl s (iM rm n xs.length)::cl rm (fc n xs junk).toArray::H/\0<=x/\x<(n:Int)/\x∉xs) ?_ λR p=>?_
 ·rintro vs H' ⟨rfl,rfl,a,c,d⟩
  obtain⟨y,rfl⟩:∃y:Nat,x=(y:Int):=⟨x.toNat,by omega⟩;have q:=WI h1 f d a c
  have aM:jC n xs (y:Int)=true:=by refine cM ⟨a,c,?_⟩;exact ll.2 d
  rw[mf,aM,ag rfl]at U;refine fk.2 λ_=>bU rfl (bU rfl (oG rfl (by omega) (by simp[fc];omega) rfl (bU rfl (eg λk=>?_))));refine cp (.trans (.swap _ _ _) (.cons _ (.swap _ _ _))) ?_
  refine zN (b:=rm) (ys:=[.int .i64 (y:Int)]) (s:=1) (t0:=31) (t1:=31) (elem:=3) rfl rfl (by kernel_rfl) (by kernel_rfl) (by kernel_rfl) (by kernel_rfl)
   (bF.tail (bF.tail (bF.nU λi hi=>by simp only[c8,gH]at hi;obtain rfl:i=0:=(by omega);rfl))) rfl (by simp[Value.oneCell']) (by omega) (by simp[fc];omega) ?_
  rw[XA h1 d (by omega) (by omega)];refine eE (by simp[iM]) rfl (cp (.trans (.cons _ (.swap _ _ _)) (.trans (.swap _ _ _) (.refl _))) (dY ?_));have e:(iM rm n xs.length).setIfInBounds 0 (.slice (some ⟨rm,n,none⟩) (xs.length+1) n)=iM rm n (xs++[(y:Int)]).length:=by simp[iM]
  rw[e];refine tC (WH h1 d) ?_ m (by simp;omega) U;intro z hz;rcases dO.1 hz with hz|hz
  ·exact f z hz
  ·simp at hz;subst hz;exact⟨a,c⟩
 ·refine aI rfl (cZ (λh=>g ?_) λh=>bU rfl (cZ (λj=>g ?_) λj=>bU rfl ?_))
  ·have:x<0:=by simpa using h
   simp[jC];omega
  ·have:(n:Int)<=x:=by simpa using j
   simp[jC];omega
  have a:0<=x:=by simpa using h
  have c:x<(n:Int):=by simpa using j
  apply oF (i:=x.toNat) (by omega) (by omega) (FH (by omega));rw[r5 a];refine cZ (λl=>g ?_) λl=>p _ _ ⟨rfl,rfl,a,c,?_⟩
  ·have:posOf xs x>=0:=by simpa using l
   simp[jC];omega
  ·have:¬posOf xs x>=0:=by simpa using l
   exact ll.1 (by omega)
def mn(n:Nat)(f:Nat->Int):az:=(List.range n).map λ(y:Nat)=> .int .i64 (f y)
def Io(n:Nat)(f:Nat->Int)(i:Nat)(v:Int):(mn n f).set i (.int .i64 v)=mn n λy=>if y=i then v else f y:=by
 apply ji;intro j;rw[lK];by_cases a:j<n
 ·by_cases e:i=j
  ·subst e;simp[mn,a]
  ·have b:¬j=i:=λh=>e h.symm
   simp[mn,e,b,a]
 ·have h1:(mn n f)[j]?=none:=by simp[mn];omega
  by_cases e:i=j
  ·subst e;simp[mn,a]
  ·simp[mn,e,a]
def Z9{n:Nat}{f g:Nat->Int}(h:∀j,j<n->f j=g j):mn n f=mn n g:=by apply h8;intro j a;rw[h j (ou.1 a)]
def dropped(xs:aN)(x:Int):aN:=if posOf xs x<0 then xs else jV xs (posOf xs x).toNat
def TV{n:Nat}{xs:aN}{x top i:Nat}{junk:az}(d:xs.Nodup)(b:xs[i]?=some (x:Int))(a:xs[xs.length-1]?=some (top:Int))(f:x<n)(g:top<n):(((fc n xs junk).toArray.setIfInBounds (n+i) (.int .i64 (top:Int))).setIfInBounds (0+top) (.int .i64 (i:Int))).setIfInBounds (0+x) (.int .i64 (-1))=(fc n (jV xs i) (.int .i64 (top:Int)::junk)).toArray:=by
 have hi:i<xs.length:=(bY.1 b).1;simp only[bI,jK,fc];congr 1;rw[pI _ _ (by simp),pH _ _ (by simpa using g),pH _ _ (by simpa using f),pH _ _ (by simp;omega)];simp only[Ci,zn];congr 1
 ·show((mn n λy=>posOf xs (y:Int)).set top (.int .i64 (i:Int))).set x (.int .i64 (-1))=mn n λy=>posOf (jV xs i) (y:Int)
  rw[Io,Io];refine Z9 λj p=>?_;rw[Hk d b a];by_cases e:j=x
  ·subst e;simp
  ·have h:¬((j:Int)=(x:Int)):=by omega
   simp only[e,h,ep];by_cases c:j=top
   ·subst c;simp
   ·have k:¬((j:Int)=(top:Int)):=by omega
    simp only[c,k,ep]
 ·have l:xs.getD (xs.length-1) 0=(top:Int):=by simp[List.getD,a]
  have h1:(iv .i64 xs).set i (.int .i64 (top:Int))=iv .i64 (xs.set i (top:Int)):=by simp[iv,jj]
  have m:xs.set i (top:Int)=jV xs i++[(top:Int)]:=by
   have hl:xs.length-1<(xs.set i (top:Int)).length:=by simp;omega
   have o:(xs.set i (top:Int))[xs.length-1]?=some (top:Int):=by
    rw[lK];split
    ·rfl
    ·exact a
   rw[jV,l,<-ef o,ke (by simp;omega)]
  rw[h1,m,F0];simp[iv]
def ZD{x:Int}(U:T B (hM s n (dropped xs x)::H) (K (.bool (decide (¬posOf xs x<0))))):T B (hM s n xs::H) (ad P 457 #[pz s,.int .i64 x] K):=by
 apply an (RP _ _);simp only[cR,aR];apply ZF;simp only[gj];refine cZ (λh=>?_) (λh=>?_)
 ·have h:posOf xs x<0:=by simpa using h
  rw[dropped,ag h]at U;exact dK U (by simp[h])
 have d:¬posOf xs x<0:=by simpa using h
 rw[dropped,aj d]at U;refine yz λh1 b f rm junk g=>?_;rcases vp x with⟨i,hi,a,hl⟩|⟨_,a⟩
 ·rw[a,aZ]at U
  rw[a];obtain⟨top,c⟩:∃z,xs[xs.length-1]?=some z:=⟨_,bj (by omega)⟩;have j:=b x (cr hi);have k:=b top (cr c);obtain⟨x,rfl⟩:∃y:Nat,x=(y:Int):=⟨x.toNat,by omega⟩;obtain⟨top,rfl⟩:∃y:Nat,top=(y:Int):=⟨top.toNat,by omega⟩;have hw:IntKind.wrap .i64 ((xs.length:Int)-1)=((xs.length-1:Nat):Int):=by rw[br (by omega)];omega
  refine bU rfl (bU rfl ?_);simp only[hw];apply oF rfl (by omega) (FG c);refine bU rfl (bU rfl (oG rfl (by omega) (by simp[fc];omega) rfl (oG rfl (by omega) (by simp[fc];omega) rfl ?_)));refine bU rfl (bU rfl (ba ⟨by omega,by omega⟩ ?_));simp only[lx,iQ,aZ];refine eE (by simp[iM]) rfl (oG rfl (by omega) (by simp[fc];omega) rfl ?_);rw[TV h1 hi c (by omega) (by omega)];have e:(iM rm n xs.length).setIfInBounds 0 (.slice (some ⟨rm,n,none⟩) (xs.length-1) n)=iM rm n (jV xs i).length:=by simp[iM,rp]
  rw[e];refine tC (E3 h1 hl) (λz hz=>b z (E2 hl hz)) f (by rw[rp,c8];omega) (dK U ?_);simp[a]
 ·omega
def last_pos{xs:aN}(b:xs.Nodup)(h:0<xs.length):posOf xs (xs.getLast?.getD 0)=((xs.length-1:Nat):Int)/\jV xs (xs.length-1)=xs.dropLast:=by
 obtain⟨z,hz⟩:∃z,xs[xs.length-1]?=some z:=⟨_,bj (by omega)⟩;have e:xs.getLast?.getD 0=z:=by rw[C5,hz];rfl
 refine⟨by rw[e];exact vq b hz,?_⟩;apply ji;intro j;by_cases a:j<xs.length-1
 ·rw[rl (by omega) a,aj (by omega),List.getElem?_dropLast,ag a]
 ·rw[iN (by rw[rp];omega),iN (by simp;omega)]
end
end
section
open Go.XS
def wrap_u64{n:Nat}(h:n<2^64):IntKind.wrap .u64 (n:Int)=(n:Int):=by
 have:(2:Nat)^64=18446744073709551616:=by decide
 exact IntWalk.u64_in _ (by omega)
def lh(op:BinOp)(w v:Nat):Nat:=
 (match op with
  | .and=>BitVec.ofNat 64 w&&&BitVec.ofNat 64 v
  | .or=>BitVec.ofNat 64 w|||BitVec.ofNat 64 v
  | .xor=>BitVec.ofNat 64 w^^^BitVec.ofNat 64 v
  |_=>BitVec.ofNat 64 w&&&~~~BitVec.ofNat 64 v).toNat
def Bg(op:BinOp)(w v:Nat):lh op w v<2^64:=by unfold lh;exact BitVec.isLt _
def AQ(op:BinOp)(w v:Nat):bh op .u64 (w:Int) (v:Int)=(lh op w v:Int):=by have h1:∀x:Nat,BitVec.ofInt IntKind.u64.bits (x:Int)=BitVec.ofNat 64 x:=λx=>BitVec.ofInt_natCast 64 x;unfold bh;rw[h1,h1];have:=Bg op w v;unfold lh at this⊢;exact wrap_u64 this
def Wq{w v i:Nat}(hw:w<2^64)(a:v<2^64):(lh .or w v).testBit i=(w.testBit i||v.testBit i):=by simp[lh,ov hw,ov a]
def Wp{w v i:Nat}(hw:w<2^64)(a:v<2^64):(lh .andNot w v).testBit i=(w.testBit i&&!v.testBit i):=by
 have h:(lh .andNot w v).testBit i=(BitVec.ofNat 64 w&&&~~~BitVec.ofNat 64 v).getLsbD i:=rfl;rw[h,BitVec.getLsbD_and,BitVec.getLsbD_not,BitVec.getLsbD_ofNat,BitVec.getLsbD_ofNat];by_cases hi:i<64
 ·simp[hi]
 ·have:w.testBit i=false:=Nat.testBit_lt_two_pow (Nat.lt_of_lt_of_le hw (Nat.pow_le_pow_right (by decide) (by omega)))
  simp[hi,this]
def FZ{j:Nat}(h:j<64):iG .u64 1 (j:Int)=((2^j:Nat):Int):=by
 unfold iG
 have e:min (j:Int).toNat IntKind.u64.bits=j:=by have:IntKind.u64.bits=64:=rfl;rw[this];simp;omega
 rw[e];have:(1:Int)*2^j=((2^j:Nat):Int):=by simp
 rw[this];exact wrap_u64 (Dg (by decide) h)
def U6{w j:Nat}(h:j<64):bO .u64 (w:Int) (j:Int)=((w/2^j:Nat):Int):=by
 unfold bO
 have e:min (j:Int).toNat IntKind.u64.bits=j:=by have:IntKind.u64.bits=64:=rfl;rw[this];simp;omega
 rw[e];have:((2:Int)^j)=((2^j:Nat):Int):=by simp
 rw[this,CX _ (Int.natCast_nonneg _)];simp
def K6{w j:Nat}(hw:w<2^64)(h:j<64):(bh .and .u64 (bO .u64 (w:Int) (j:Int)) 1==1)=w.testBit j:=by
 rw[U6 h];have h1:(1:Int)=((1:Nat):Int):=rfl;rw[h1,AQ];have a:w/2^j<2^64:=zo (Nat.div_le_self _ _) hw
 have e:lh .and (w/2^j) 1=w/2^j%2:=by
  have:lh .and (w/2^j) 1=(w/2^j)&&&1:=by simp only[lh,BitVec.toNat_and,BitVec.toNat_ofNat,ov a]
  rw[this,Nat.and_one_is_mod]
 rw[e,Nat.testBit_eq_decide_div_mod_eq];have:=pJ (w/2^j) (show 0<2 by decide);generalize w/2^j%2=r at*;by_cases hr:r=1
 ·subst hr;rfl
 ·have:r=0:=by omega
  subst this;rfl
structure iz(ws:List Nat)(n:Nat)(m:Nat->Bool):Prop where
 len:ws.length=(n+63)/64
 lt:∀w∈ws,w<2^64
 bit:∀k w,ws[k]?=some w->∀j,j<64->w.testBit j=m (64*k+j)
 out:∀i,n<=i->m i=false
def uv(ws:List Nat):az:=ws.map λw:Nat=> .int .u64 (w:Int)
@[simp] theorem adM (ws:List Nat):(uv ws).length=ws.length:=by simp[uv]
theorem Cy{ws:List Nat}{i w:Nat}(h:ws[i]?=some w):(uv ws)[i]?=some (.int .u64 (w:Int)):=by simp[uv,h]
def IB(ws:List Nat)(i w:Nat):(uv ws).set i (.int .u64 (w:Int))=uv (ws.set i w):=by simp[uv,jj]
def iz.abp(n:Nat):iz (List.replicate ((n+63)/64) 0) n (λ_=>false)where
 len:=by simp
 lt:=by intro w hw;rw[lI hw];decide
 bit:=by intro k w U j a;rw[lI (cr U)];simp
 out:=λ_ _=>rfl
def iz.word{ws:List Nat}{n:Nat}{m:Nat->Bool}(h:iz ws n m){i:Nat}(hi:i<n):∃w,ws[i/64]?=some w/\w<2^64/\w.testBit (i%64)=m i:=by
 have hl:i/64<ws.length:=by rw[h.len];omega
 refine⟨ws[i/64],bj hl,h.lt _ (eK hl),?_⟩;rw[h.bit _ _ (bj hl) (i%64) (by omega)];congr 1;omega
def flip(m:Nat->Bool)(i:Nat)(v:Bool):Nat->Bool:=λj=>if j=i then v else m j
def iz.put{ws:List Nat}{n:Nat}{m:Nat->Bool}(h:iz ws n m){i w:Nat}{v:Bool}(hi:i<n){w':Nat}(hw:ws[i/64]?=some w)(e:w'<2^64)(f:∀j,j<64->w'.testBit j=if j=i%64 then v else w.testBit j):iz (ws.set (i/64) w') n (flip m i v)where
 len:=by simp[h.len]
 lt:=by
  intro x b;rcases ka b with h1|rfl
  ·exact h.lt x h1
  ·exact e
 bit:=by
  intro k x U j a;rw[lK]at U;by_cases c:i/64=k
  ·rw[ag c]at U
   split at U
   ·have b:w'=x:=qQ U
    subst b;rw[f j a];unfold flip;by_cases d:j=i%64
    ·rw[ag d,ag (by omega)]
    ·rw[aj d,aj (by omega),<-c]
     exact h.bit _ _ hw j a
   ·cases U
  ·rw[aj c]at U
   unfold flip;rw[aj (by omega)];exact h.bit k x U j a
 out:=by intro j a;unfold flip;rw[aj (by omega)];exact h.out j a
end
section
open Go.XS
def zcU:zc P 450=#[.int .u64 0]:=by kernel_rfl
def Tm:P.cellsOf 450=1:=by kernel_rfl
def LD:P.bytesOf 450=8:=by kernel_rfl
def Hi:Nat->Nat->Nat
 |0,_=>0
 |k+1,b=>b%2+Hi k (b/2)
def WQ(dn:Bool):az:=if dn then(List.range 256).map (λb:Nat=> .int .u8 (Hi 8 b:Int))else List.replicate 256 (.int .u8 0)
def qo(dn:Bool):az:= .int .u32 (if dn then 1 else 0):: .int .i32 0:: .int .u32 0::WQ dn
def pY(rwb a n:Nat)(b:az):aw:=(.slice (some ⟨rwb,0,none⟩) a a:: .int .i64 (n:Int)::b).toArray
def hn(b n:Nat)(m:Nat->Bool):bc:=
 fa (n<=1048576)<|eF λrwb:Nat=>eF λws:List Nat=>eF λdn:Bool=>fa (iz ws n m)<|eA [cl b (pY rwb ws.length n (qo dn)),cl rwb (uv ws).toArray]
section
variable {B:Heap}{H:au}{K:aK}{b n rwb:Nat}{m:Nat->Bool}{ws:List Nat}{dn:Bool}
def wX{p:HP}(t:n<=1048576->∀rwb ws dn,iz ws n m->T B (cl b (pY rwb ws.length n (qo dn))::cl rwb (uv ws).toArray::H) p):T B (hn b n m::H) p:=gz λh1=>gg λrwb=>gg λws=>gg λdn=>gz λa=>lS (t h1 rwb ws dn a)
def uB{p:HP}(h1:n<=1048576)(a:iz ws n m)(t:T B (hn b n m::H) p):T B (cl b (pY rwb ws.length n (qo dn))::cl rwb (uv ws).toArray::H) p:=
 jQ (Hs:=[cl b (pY rwb ws.length n (qo dn)),cl rwb (uv ws).toArray]) (ic a (gI (q:=λdn=>fa (iz ws n m) (eA [cl b (pY rwb ws.length n (qo dn)),cl rwb (uv ws).toArray])) dn
  (gI (q:=λws=>eF λdn=>fa (iz ws n m) (eA [cl b (pY rwb ws.length n (qo dn)),cl rwb (uv ws).toArray])) ws
   (gI (q:=λrwb=>eF λws=>eF λdn=>fa (iz ws n m) (eA [cl b (pY rwb ws.length n (qo dn)),cl rwb (uv ws).toArray])) rwb (ic h1 t)))))
def JA{cs cs':aw}{t:TypeId}{f:Nat->HP}(e:cs=cs')(h:∀b,T B (cl b cs'::H) (f b)):T B H (al cs t f):=eg (by rw[e];exact h)
def K8(h1:n<=1048576)(U:∀b,T B (hn b n (λ_=>false)::H) (K (pz b))):T B H (ad P 229 #[.int .i64 (n:Int)] K):=by
 apply an (Mo _);refine gf (λvs H'=>vs=[]/\H=H') ?_ λR a=>aI (by simp) (aI (by simp;omega) (a _ _ ⟨rfl,rfl⟩));rintro vs H' ⟨rfl,rfl⟩
 have hw:IntKind.wrap .i64 (Int.tdiv (IntKind.wrap .i64 (IntKind.wrap .i64 ((n:Int)+64)-1)) 64)=(((n+63)/64:Nat):Int):=by rw[jh (n:=(n:Int)+64) (by omega) (by omega),jh (n:=(n:Int)+64-1) (by omega) (by omega),CY (by omega),br (by omega)];omega
 simp only[fk,hw,aZ];intro _;refine ba (by decide) (gy (by omega) (by omega) (by omega) (by rw[LD];omega) (by kernel_rfl) (by kernel_rfl) λrwb=>?_);rw[Tm,zcU,lq,iP,aZ];refine JA (cs':=pY rwb ((n+63)/64) n (qo false)) (by kernel_rfl) λb=>?_;have e:List.replicate ((n+63)/64) (Value.int .u64 0)=uv (List.replicate ((n+63)/64) 0):=by simp[uv]
 rw[e];have:=uB (rwb:=rwb) (dn:=false) h1 (iz.abp n) (U b);rw[g']at this;exact this
def bits_within{x:Int}(U:T B (hn b n m::H) (K (.bool (decide (0<=x/\x<(n:Int)))))):T B (hn b n m::H) (ad P 328 #[pz b,.int .i64 x] K):=by
 refine wX λh1 rwb ws dn a=>?_;have U:=uB (rwb:=rwb) (dn:=dn) h1 a U;apply an (Ms _ _);simp only[cR,aR];refine bo rfl (cZ (λh=>bg rfl (dK U ?_)) λh=>dK U ?_)
 ·have:0<=x:=by simpa using h
  simp[this]
 ·have:¬0<=x:=by simpa using h
  simp[this]
def nO(n:Nat)(m:Nat->Bool)(x:Int):Bool:=decide (0<=x/\x<(n:Int))&&m x.toNat
def Ao{x:Nat}(h:x<=1048576):IntKind.wrap .i64 (Int.tdiv (x:Int) 64)=((x/64:Nat):Int)/\Int.tmod (x:Int) 64=((x%64:Nat):Int):=by
 refine⟨?_,?_⟩
 ·rw[CY (by omega),br (by omega)];omega
 ·rw[y5 (by omega)];omega
def zR{x:Int}(U:T B (hn b n m::H) (K (.bool (nO n m x)))):T B (hn b n m::H) (ad P 329 #[pz b,.int .i64 x] K):=by
 refine an (Mq _ _) (bits_within ?_);simp only[fl,cR,aR];refine cZ (λh=>?_) λh=>dK U ?_
 ·have c:=sg h
  obtain⟨y,rfl⟩:∃y:Nat,x=(y:Int):=⟨x.toNat,by omega⟩;refine wX λh1 rwb ws dn a=>?_;have U:=uB (rwb:=rwb) (dn:=dn) h1 a U;obtain⟨w,hw,d,e⟩:=a.word (i:=y) (by omega);obtain⟨f,g⟩:=Ao (x:=y) (by omega);have hl:y/64<ws.length:=(bY.1 hw).1;simp only[f,g];refine bU rfl (ba (by decide) (oF rfl hl (by rw[dE,bI];exact Cy hw) (ba (by decide) (ba (by omega) (dK U ?_)))));rw[K6 d (by omega),e];simp only[nO,aZ,cM c,ff]
 ·simp only[nO,h,v7]
def Ut{ws:List Nat}{y w:Nat}(a:iz ws n m)(b:y<n)(hw:ws[y/64]?=some w)(c:w<2^64):iz (ws.set (y/64) (lh .or w (2^(y%64)))) n (flip m y true):=by
 refine a.put b hw (Bg _ _ _) λj e=>?_;rw[Wq c (Dg (by decide) (by omega)),Dh];by_cases h:j=y%64
 ·subst h;simp
 ·rw[aj h]
  have:¬y%64=j:=λd=>h d.symm;simp[this]
def Us{ws:List Nat}{y w:Nat}(a:iz ws n m)(b:y<n)(hw:ws[y/64]?=some w)(c:w<2^64):iz (ws.set (y/64) (lh .andNot w (2^(y%64)))) n (flip m y false):=by
 refine a.put b hw (Bg _ _ _) λj e=>?_;rw[Wp c (Dg (by decide) (by omega)),Dh];by_cases h:j=y%64
 ·subst h;simp
 ·rw[aj h]
  have:¬y%64=j:=λd=>h d.symm;simp[this]
def nZ(n:Nat)(m:Nat->Bool)(x:Int):Bool:=decide (0<=x/\x<(n:Int))&&!m x.toNat
def vt(n:Nat)(m:Nat->Bool)(x:Int):Nat->Bool:=if nZ n m x then flip m x.toNat true else m
def uK(n:Nat)(m:Nat->Bool)(x:Int):Nat->Bool:=if nO n m x then flip m x.toNat false else m
def Eh{x:Int}(U:T B (hn b n (vt n m x)::H) (K (.bool (nZ n m x)))):T B (hn b n m::H) (ad P 231 #[pz b,.int .i64 x] K):=by
 apply an (Mr _ _);simp only[cR,aR];refine gf (λvs H'=>vs=[]/\hn b n m::H=H'/\nZ n m x=true) ?_ λR e=>bits_within ?_
 ·rintro vs H' ⟨rfl,rfl,aM⟩
  simp only[fk];intro _;rw[vt,aM,ag rfl]at U
  have k:0<=x/\x<(n:Int):=by simp only[nZ,cg,bJ]at aM;exact aM.1
  obtain⟨y,rfl⟩:∃y:Nat,x=(y:Int):=⟨x.toNat,by omega⟩;refine wX λh1 rwb ws dn c=>?_;obtain⟨w,hw,f,l⟩:=c.word (i:=y) (by omega);obtain⟨g,j⟩:=Ao (x:=y) (by omega);have hl:y/64<ws.length:=(bY.1 hw).1;simp only[g,j];refine ba (by decide) (ba (by decide) (ba (by omega) (bU rfl (oF rfl hl (by rw[dE,bI];exact Cy hw) (oG rfl hl (by simp;omega) rfl ?_)))));rw[FZ (by omega),AQ];simp only[bI,jK,IB];have:=uB (rwb:=rwb) (dn:=dn) h1 (Ut c (by omega) hw f) U;rw[hb]at this;exact this
 ·simp only[fl]
  have d:nZ n m x=false->T B (hn b n m::H) (K (.bool false)):=by intro h;rw[vt,h]at U;exact U
  refine cZ (λh=>d ?_) λh=>zR ?_
  ·simp only[ns]at h
   simp only[nZ,h,v7]
  ·simp only[CR]at h
   simp only[fl];refine cZ (λa=>d ?_) λa=>e _ _ ⟨rfl,rfl,?_⟩
   ·simp only[nO,h,ff]at a
    simp only[nZ,h,a,Bool.not_true,CP]
   ·simp only[nO,h,ff]at a
    simp only[nZ,h,a,CU,y3]
def K7{x:Int}(U:T B (hn b n (uK n m x)::H) (K (.bool (nO n m x)))):T B (hn b n m::H) (ad P 456 #[pz b,.int .i64 x] K):=by
 apply an (Mp _ _);simp only[cR,aR];apply zR;simp only[fl];refine cZ (λh=>?_) λh=>?_
 ·simp only[ns]at h
  rw[uK,h]at U;exact U
 ·simp only[CR]at h
  rw[uK,h,ag rfl]at U
  have f:0<=x/\x<(n:Int):=by simp only[nO,cg,bJ]at h;exact h.1
  obtain⟨y,rfl⟩:∃y:Nat,x=(y:Int):=⟨x.toNat,by omega⟩;refine wX λh1 rwb ws dn a=>?_;obtain⟨w,hw,c,g⟩:=a.word (i:=y) (by omega);obtain⟨d,e⟩:=Ao (x:=y) (by omega);have hl:y/64<ws.length:=(bY.1 hw).1;simp only[d,e];refine ba (by decide) (ba (by decide) (ba (by omega) (bU rfl (oF rfl hl (by rw[dE,bI];exact Cy hw) (oG rfl hl (by simp;omega) rfl ?_)))));rw[FZ (by omega),AQ];simp only[bI,jK,IB];have:=uB (rwb:=rwb) (dn:=dn) h1 (Us a (by omega) hw c) U;rw[hb]at this;exact this
end
end
section
open Go.XS
def jd(xs:aN):Nat->Bool:=λi=>decide ((i:Int)∈xs)
def fD(f n:Nat)(xs:aN):bc:=
 eF λs:Nat=>eF λb:Nat=>eA [cl f #[pz s,pz b],hM s n xs,hn b n (jd xs)]
section
variable {B:Heap}{H:au}{K:aK}{f n:Nat}{xs:aN}
def sQ{p:HP}(t:∀s b,T B (cl f #[pz s,pz b]::hM s n xs::hn b n (jd xs)::H) p):T B (fD f n xs::H) p:=gg λs=>gg λb=>lS (t s b)
def qa{p:HP}{s b:Nat}(t:T B (fD f n xs::H) p):T B (cl f #[pz s,pz b]::hM s n xs::hn b n (jd xs)::H) p:=
 jQ (Hs:=[cl f #[pz s,pz b],hM s n xs,hn b n (jd xs)])
  (gI (q:=λb=>eA [cl f #[pz s,pz b],hM s n xs,hn b n (jd xs)]) b
   (gI (q:=λs=>eF λb=>eA [cl f #[pz s,pz b],hM s n xs,hn b n (jd xs)]) s t))
def ZW{s n:Nat}{xs:aN}{p:HP}(t:xs.Nodup->(∀x∈xs,0<=x/\x<(n:Int))->n<=1048576->T B (hM s n xs::H) p):T B (hM s n xs::H) p:=gz λhf=>ic hf (t hf.1 hf.2.1 hf.2.2)
def uM{p:HP}(t:xs.Nodup->(∀x∈xs,0<=x/\x<(n:Int))->n<=1048576->T B (fD f n xs::H) p):T B (fD f n xs::H) p:=sQ λs b=>cp (cA _ _ _) (ZW λh1 a c=>cp (cA _ _ _) (qa (t h1 a c)))
def AV{x:Int}(a:∀x∈xs,0<=x/\x<(n:Int)):nO n (jd xs) x=decide (x∈xs):=by
 unfold nO jd;by_cases h:x∈xs
 ·have:=a x h
  have e:((x.toNat:Nat):Int)=x:=by omega
  rw[e];simp[h,this]
 ·by_cases h0:0<=x/\x<(n:Int)
  ·have e:((x.toNat:Nat):Int)=x:=by omega
   rw[e];simp[h]
  ·rw[cP h0];simp[h]
def Hj{x:Int}:(decide (¬posOf xs x<0))=decide (x∈xs):=by apply jl.2;rw[ll];exact r4
def Ho{x:Int}(c:∀x∈xs,0<=x/\x<(n:Int)):nZ n (jd xs) x=jC n xs x:=by
 unfold nZ jC jd;by_cases h0:0<=x/\x<(n:Int)
 ·have e:((x.toNat:Nat):Int)=x:=by omega
  rw[e,cM h0,ff];by_cases h:x∈xs
  ·rw[cM h,cP]
   ·rfl
   ·rintro⟨_,_,a⟩;exact ll.1 a h
  ·rw[cP h,cM]
   ·rfl
   ·exact⟨h0.1,h0.2,ll.2 h⟩
 ·rw[cP h0,v7]
  symm;apply cP;rintro⟨h1,b,_⟩;exact h0 ⟨h1,b⟩
def GC{x:Int}(a:∀x∈xs,0<=x/\x<(n:Int)):vt n (jd xs) x=jd (mf n xs x):=by
 unfold vt mf;rw[Ho a];by_cases h:jC n xs x=true
 ·rw[ag h,ag h]
  have h0:0<=x:=(sg h).1;funext i;unfold flip jd;by_cases hi:i=x.toNat
  ·rw[ag hi]
   have:(i:Int)=x:=by omega
   simp[this]
  ·rw[aj hi]
   have:¬(i:Int)=x:=by omega
   simp[this]
 ·rw[aj h,aj h]
def V9{x:Int}(g:xs.Nodup)(c:∀x∈xs,0<=x/\x<(n:Int)):uK n (jd xs) x=jd (dropped xs x):=by
 unfold uK dropped;rw[AV c];by_cases h:x∈xs
 ·rw[ag (by simpa using h),aj (by rw[ll];exact λb=>b h)]
  have h0:=(c x h).1;rcases vp x with⟨k,U,d,hl⟩|⟨j,d⟩
  ·rw[d,aZ]
   obtain⟨top,f⟩:∃z,xs[xs.length-1]?=some z:=⟨_,bj (by omega)⟩;funext i;unfold flip jd;have hd:=Hk g U f (i:Int);by_cases hi:i=x.toNat
   ·rw[ag hi]
    have e:(i:Int)=x:=by omega
    rw[ag e]at hd;symm;apply cP;rw[<-ll,hd];decide
   ·rw[aj hi]
    have e:¬(i:Int)=x:=by omega
    rw[aj e]at hd;apply jl.2;rw[<-r4 (a:=(i:Int)∈xs),<-ll,<-r4 (a:=(i:Int)∈jV xs k),<-ll,hd];split
    ·rename_i l
     have:top∈xs:=cr f;have h1:¬posOf xs (i:Int)<0:=by rw[ll,l];exact λb=>b this
     constructor
     ·intro _;omega
     ·intro _;exact h1
    ·exact Iff.rfl
  ·exact absurd h j
 ·rw[aj (by simpa using h),ag (ll.2 h)]
def AA(U:T B (fD f n xs::H) (K (.bool true))):T B (fD f n xs::H) (ad P 453 #[pz f] K):=by refine sQ λs b=>an (NC _) ?_;simp only[cR,aR];exact bo rfl (iX (n:=some ⟨s,0,none⟩) rfl (qa U))
def Uz{x:Int}(U:T B (fD f n xs::H) (K (.bool (decide (x∈xs))))):T B (fD f n xs::H) (ad P 455 #[pz f,.int .i64 x] K):=by refine uM λh1 a c=>an (Ny _ _) (AA ?_);simp only[fl,cR,aR];refine bo rfl (sQ λs b=>iX rfl (bf (.tail (.tail .head)) (zR ?_)));simp only[fl];refine cp (List.Perm.trans (cA _ _ _) (mu _ (cA _ _ _))) (qa ?_);rw[AV a];exact U
def UC{x:Int}(U:T B (fD f n (dropped xs x)::H) (K (.bool (decide (x∈xs))))):T B (fD f n xs::H) (ad P 416 #[pz f,.int .i64 x] K):=by
 refine uM λh1 a c=>an (NA _ _) (Uz ?_);simp only[fl,cR,aR];by_cases h:x∈xs
 ·rw[cM h]at*
  refine aI rfl (sQ λs b=>iX rfl (bf (.tail (.tail .head)) (K7 ?_)));rw[AV a,cM h,V9 h1 a];simp only[fl];refine bo rfl (iX rfl (bf (.tail (.tail .head)) (ZD ?_)));rw[Hj,cM h];simp only[fl];exact cp (List.Perm.trans (mu _ (cA _ _ _)) (cA _ _ _)) (cp (mu _ (List.Perm.refl _)) (qa U))
 ·rw[cP h]at*
  rw[dropped,ag (ll.2 h)]at U;exact bo rfl U
def Uy{x:Int}(U:T B (fD f n (mf n xs x)::H) (K (.bool (jC n xs x)))):T B (fD f n xs::H) (ad P 449 #[pz f,.int .i64 x] K):=by
 refine uM λh1 a d=>an (Nx _ _) (AA ?_);simp only[fl,cR,aR];refine bo rfl (sQ λs b=>iX rfl (bf (.tail (.tail .head)) (Eh ?_)));rw[Ho a,GC a];simp only[fl];by_cases h:jC n xs x=true
 ·refine bo h (iX rfl (bf (.tail (.tail .head)) (Ia ?_)))
  simp only[fl];exact cp (List.Perm.trans (mu _ (cA _ _ _)) (cA _ _ _)) (cp (mu _ (List.Perm.refl _)) (qa U))
 ·have h:jC n xs x=false:=by simpa using h
  have c:mf n xs x=xs:=by rw[mf,h];rfl
  rw[h,c]at U;rw[c];exact aI h (cp (List.Perm.trans (cA _ _ _) (mu _ (cA _ _ _))) (qa U))
def UB(U:T B (fD f n xs::H) (K (.tuple #[.int .i64 (xs.getLast?.getD 0),.bool (decide (0<xs.length))]))):T B (fD f n xs::H) (ad P 415 #[pz f] K):=by refine an (Nz _) (AA ?_);simp only[fl,cR,aR];refine aI rfl (sQ λs b=>iX rfl (cp (cA _ _ _) (ZG (ct _ (ct _ (dS rfl (cp (cA _ _ _) (qa U))))))))
def UD(U:T B (fD f n xs.dropLast::H) (K (.tuple #[.int .i64 (xs.getLast?.getD 0),.bool (decide (0<xs.length))]))):T B (fD f n xs::H) (ad P 375 #[pz f] K):=by
 refine uM λh1 b c=>an (NB _) (UB (ct _ (ct _ (dS rfl ?_))));by_cases h:0<xs.length
 ·rw[cM h]at*
  refine bo rfl (UC ?_);obtain⟨a,hd⟩:=last_pos h1 h;rw[dropped,a,aj (by omega),aZ,hd];simp only[fl];exact U
 ·rw[cP h]at*
  have:xs=[]:=kO.1 (by omega);subst this;exact aI rfl U
def hq(n i:Nat):aN:=((List.range' i (n-i)).reverse).map λk:Nat=>(k:Int)
def TQ(n:Nat):hq n n=[]:=by simp[hq]
def TR{n i:Nat}(h:i<n):hq n i=hq n (i+1)++[(i:Int)]:=by unfold hq;rw[show n-i=(n-(i+1))+1 by omega,List.range'_succ,C9,eY];rfl
def Ap{n i:Nat}{x:Int}:x∈hq n i↔(i:Int)<=x/\x<(n:Int):=by
 simp only[hq,bP,List.mem_reverse,List.mem_range'_1];constructor
 ·rintro⟨k,U,rfl⟩;omega
 ·intro h;exact⟨x.toNat,by omega,by omega⟩
def UA(h1:n<=1048576)(U:∀f,T B (fD f n (hq n 0)::H) (K (pz f))):T B H (ad P 138 #[.int .i64 (n:Int)] K):=by
 refine an (ND _) (ZE rfl h1 λs=>?_);simp only[sw];refine K8 h1 λb=>?_;simp only[sw];refine gf (λvs H'=>vs=[]/\hn b n (λ_=>false)::hM s n []::H=H') ?_ λR a=>aI rfl (aI rfl (a _ _ ⟨rfl,rfl⟩));rintro vs H' ⟨rfl,rfl⟩;simp only[fk];intro _
 refine sq (λvs H'=>∃i:Nat,i<=n/\vs=[.int .i64 ((i:Int)-1)]/\hn b n (jd (hq n i))::hM s n (hq n i)::H=H')
  (λvs=>match vs with|[.int _ i]=>(i+1).toNat|_=>0) ⟨n,dQ _,by rw[br (by omega)],by rw[TQ];rfl⟩ ?_
 rintro vs H' R ⟨i,hi,rfl,rfl⟩ a;simp only[kX,fk];intro g heq;simp only[lH,Value.int.injEq,nB,kT]at heq;subst heq;refine cZ (λhc=>?_) λhc=>?_
 ·have hc:0<=(i:Int)-1:=by simpa using hc
  obtain⟨j,rfl⟩:∃j,i=j+1:=⟨i-1,by omega⟩;have e:((j+1:Nat):Int)-1=(j:Int):=by omega
  rw[e];have c:∀x∈hq n (j+1),0<=x/\x<(n:Int):=λx d=>by have:=Ap.1 d;omega
  have aM:jC n (hq n (j+1)) (j:Int)=true:=by refine cM ⟨by omega,by omega,?_⟩;rw[ll,Ap];omega
  refine cp (cA _ _ _) (Ia ?_);simp only[fl];refine cp (cA _ _ _) (Eh ?_);rw[GC c,mf,ag aM,<-TR (by omega)];simp only[fl];rw[br (by omega)];exact a _ _ ⟨j,by omega,rfl,rfl⟩ (by simp only;omega)
 ·have hc:¬0<=(i:Int)-1:=by simpa using hc
  have:i=0:=by omega
  subst this;refine eg λf=>cp (mu _ (cA _ _ _)) (qa (U f))
end
end
def disable(w:World):(callFunc 470 #[]).run Tryz.prog w= .ok (.value (.tuple #[])) w:=run_call_mark0 Tryz.func470 (by kernel_rfl) (by kernel_rfl) (by kernel_rfl) .disable (by kernel_rfl) w
def enable(w:World):(callFunc 472 #[]).run Tryz.prog w= .ok (.value (.tuple #[])) w:=run_call_mark0 Tryz.func472 (by kernel_rfl) (by kernel_rfl) (by kernel_rfl) .enable (by kernel_rfl) w
def acquire(a:Addr)(w:World):(callFunc 473 #[.pointer (some a)]).run Tryz.prog w= .ok (.value (.tuple #[])) w:=run_call_marked Tryz.func473 (by kernel_rfl) (by kernel_rfl) (by kernel_rfl) .acquire (by kernel_rfl) a w
def releaseMerge(a:Addr)(w:World):(callFunc 475 #[.pointer (some a)]).run Tryz.prog w= .ok (.value (.tuple #[])) w:=run_call_marked Tryz.func475 (by kernel_rfl) (by kernel_rfl) (by kernel_rfl) .releaseMerge (by kernel_rfl) a w
def Ie(a:Addr)(x:Value)(u:FrameMode)(w:World)(hc:w.cell? a=some x)(hz:w.frozen? a=false):CallsD Tryz.prog 395 #[.pointer (some a),.bool true] u w λe u' w'=>u'=u/\(e= .returned (.tuple #[])/\w'=w.drew.setCell a (.int .u32 1)):=by
 have e':w.drew.cell? a=some x:=by go_simp
 have b:w.drew.frozen? a=false:=by go_simp
 have c:=run_call_store (P:=Tryz.prog) Tryz.func439 (by kernel_rfl) (by kernel_rfl) (by kernel_rfl) (by kernel_rfl) (k:= .u32) (y:=1) e' b
 go_enter_d Tryz.func395,Tryz.ntmps395
 go_wp2
 go_region_calls
 all_goals (go_end0;exact⟨rfl,rfl⟩)
set_option maxRecDepth 100000 in
set_option maxHeartbeats 1600000 in
def Iy(a:Addr)(u:FrameMode)(w:World)(hc:w.cell? a=some (.int .i32 1))(hz:w.frozen? a=false):CallsD Tryz.prog 394 #[.pointer (some a)] u w λe u' w'=>u'=u/\(e= .returned (.tuple #[])/\w'=w.setCell a (.int .i32 0)):=by
 have hd:=disable;have he:=enable;have hr:=releaseMerge;have FM:=run_call_add (P:=Tryz.prog) Tryz.func476 (by kernel_rfl) (by kernel_rfl) (by kernel_rfl) .i32 (by kernel_rfl) (y:=-1) (s:=0) hc hz (by simp[go_sem];rfl);have UQ:=run_convert_to_unsafe Tryz.underlying608 Tryz.underlying262 (by kernel_rfl) hc
 go_enter_d Tryz.func394,Tryz.ntmps394
 go_wp2
 go_end0
 go_wp2
 go_end0
 exact⟨rfl,rfl⟩
set_option maxRecDepth 100000 in
set_option maxHeartbeats 1600000 in
def Gm(a:Addr)(w:World)(hc:w.cell? a=some (.int .i32 0))(hz:w.frozen? a=false):Calls Tryz.prog 393 #[.pointer (some a)] w λe w'=>e= .returned (.tuple #[])/\w'=w.setCell a (.int .i32 1):=by
 have hd:=disable;have he:=enable;have ha:=acquire;have abW:=run_call_cas_hit (P:=Tryz.prog) Tryz.func471 (by kernel_rfl) (by kernel_rfl) (by kernel_rfl) .i32 (by kernel_rfl) (y:=1) hc hz;have e':(w.setCell a (.int .i32 1)).cell? a=some (.int .i32 1):=World.cell?_setCell_same w a _ hc;have UQ:=run_convert_to_unsafe Tryz.underlying608 Tryz.underlying262 (by kernel_rfl) e'
 go_enter Tryz.func393,Tryz.ntmps393
 go_wp2
 first|go_end0|(simp only[Exit.inBlock,Exit.then];refine bodyPost_ret (results_none rfl _ _ _) rfl ?_)|refine bodyPost_ret (results_none rfl _ _ _) rfl ?_
 go_wp2
 go_end0
 exact⟨rfl,rfl⟩
set_option maxRecDepth 100000 in
set_option maxHeartbeats 1600000 in
def wW(a:Addr)(w:World)(hc:w.cell? a=some (.int .u32 0)):Calls Tryz.prog 330 #[.pointer (some a)] w λe w'=>e= .returned (.bool false)/\w'=w:=by
 have hl:=run_call_load Tryz.func392 (by kernel_rfl) (by kernel_rfl) (by kernel_rfl) .u32 (by kernel_rfl) hc
 go_enter Tryz.func330,Tryz.ntmps330
 go_wp2
 go_ret
 exact⟨rfl,rfl⟩
set_option maxRecDepth 100000 in
set_option maxHeartbeats 1600000 in
def Lc(a:Addr)(w:World)(hc:w.cell? a=some (.int .u32 1)):Calls Tryz.prog 330 #[.pointer (some a)] w λe w'=>e= .returned (.bool true)/\w'=w:=by
 have hl:=run_call_load Tryz.func392 (by kernel_rfl) (by kernel_rfl) (by kernel_rfl) .u32 (by kernel_rfl) hc
 go_enter Tryz.func330,Tryz.ntmps330
 go_wp2
 go_ret
 exact⟨rfl,rfl⟩
open Go.XS
section
variable {B:Heap}{H:au}{K:aK}{b o:Nat}{cs:aw}{p:Addr}{α:Type}{cs2:α->aw}{H2:α->au}
def na{w:World}{i:Nat}{v:Value}(ow:Own B (cl b cs::H) w.heap)(hc:cs[i]?=some v):w.cell? ⟨b,i,none⟩=some v:=by rw[k1];exact((FO).cell ow i).trans hc
def ti{w:World}{i:Nat}(ow:Own B (cl b cs::H) w.heap)(hi:i<cs.size):w.frozen? ⟨b,i,none⟩=false:=by obtain⟨l1,⟨a,fr,rfl,c⟩,hc⟩:=ow.head;have d:=(hc (b,.cells cs a fr) (by simp)).2;rw[AB];simp only[xt,d];have:=c i hi;obtain⟨lo,e⟩:=fr;simpa using this
def tj{w:World}{i:Nat}{v:Value}(ow:Own B (cl b cs::H) w.heap):Own B (cl b (cs.setIfInBounds i v)::H) (w.setCell ⟨b,i,none⟩ v).heap:=by rw[setCell_eq];exact ow.set
set_option maxRecDepth 100000 in
set_option maxHeartbeats 1600000 in
def WN(h0:cs[o]?=some (.int .u32 0))(h1:cs[o+1]?=some (.int .i32 0))(k6:∀x,(cs2 x)[o]?=some (.int .u32 0))(gl:∀x,(cs2 x)[o+1]?=some (.int .i32 1))(hf:∀Kf:aK,(∀x,T B (cl b (cs2 x)::H2 x) (Kf (.tuple #[])))->T B (cl b (cs.setIfInBounds (o+1) (.int .i32 1))::H) (ad P 235 #[.pointer (some p)] Kf))(U:∀x,T B (cl b (((cs2 x).setIfInBounds o (.int .u32 1)).setIfInBounds (o+1) (.int .i32 0))::H2 x) (K (.tuple #[]))):T B (cl b cs::H) (ad P 331 #[.pointer (some ⟨b,o,none⟩),.func (.func 235) #[.pointer (some p)] #[]] K):=by
 intro σ ow w hw;subst hw;have s0:o<cs.size:=(gF.1 h0).1;have s1:o+1<cs.size:=(gF.1 h1).1;have c1:=na ow h1;have f1:=ti ow s1;have vi:=tj (i:=o+1) (v:= .int .i32 1) ow;have LL:(w.setCell ⟨b,o+1,none⟩ (.int .i32 1)).cell? ⟨b,o,none⟩=some (.int .u32 0):=na vi (by simp[r3,h0]);have hy:∀(x:Bool) (w:World),(Op.unary .not (.bool x)).run Tryz.prog w= .ok (.bool (!x)) w:=λ_ _=>rfl;have AN:Calls Tryz.prog 235 #[.pointer (some p)] (w.setCell ⟨b,o+1,none⟩ (.int .i32 1)) _:=hf (λv eC=>v= .tuple #[]/\∃x,Own B (cl b (cs2 x)::H2 x) eC) (λx σ o=>⟨rfl,x,o⟩) _ vi _ rfl
 go_enter_defers Tryz.func331,Tryz.ntmps331
 go_wp2_with (first|(go_at_call 393;refine(Gm ⟨b,o+1,none⟩ _ (by assumption) (by assumption)).mono ?_;rintro e w' ⟨rfl,rfl⟩)|(go_at_call 330;refine(wW ⟨b,o,none⟩ _ (by assumption)).mono ?_;rintro e w' ⟨rfl,rfl⟩)|(go_at_call 235;refine AN.mono ?_;rintro e w2 ⟨v,rfl,⟨rfl,x,rH⟩,Bq⟩))
 have k6:=k6 x;have gl:=gl x;have BW:o<(cs2 x).size:=(gF.1 k6).1;have BY:o+1<(cs2 x).size:=(gF.1 gl).1;refine leaves_cons (by simp) (by simp[go_sem]) ((Ie ⟨b,o,none⟩ (.int .u32 0) .returning _ (na rH k6) (ti rH BW)).mono ?_);rintro e u' pA ⟨rfl,rfl,rfl⟩;have rI:Own B (cl b ((cs2 x).setIfInBounds o (.int .u32 1))::H2 x) (w2.drew.setCell ⟨b,o,none⟩ (.int .u32 1)).heap:=tj rH;have Br:=tj (i:=o+1) (v:= .int .i32 0) rI;refine leaves_cons (by simp[settle]) (by simp[go_sem]) ((Iy ⟨b,o+1,none⟩ _ _ (na rI (by simp[r3,gl])) (ti rI (by simpa using BY))).mono ?_);rintro e u' pA ⟨rfl,rfl,rfl⟩;have hK:=U x _ Br
 have iF:fj w ((w2.drew.setCell ⟨b,o,none⟩ (.int .u32 1)).setCell ⟨b,o+1,none⟩ (.int .i32 0)):=by rw[setCell_eq,setCell_eq];obtain⟨q1,q2,q3⟩:=Bq;rw[setCell_eq]at q1 q2 q3;exact⟨q1,q2,q3⟩
 simp only[Leaves,settle,results,Tryz.results331];exact⟨.tuple #[],by first|rfl|(simp[go_sem];done)|(simp[go_sem];rfl),.tuple #[],rfl,hK,iF⟩
set_option maxRecDepth 100000 in
set_option maxHeartbeats 1600000 in
def WL(h0:cs[o]?=some (.int .u32 0))(h1:cs[o+1]?=some (.int .i32 0))(k6:∀x,(cs2 x)[o]?=some (.int .u32 0))(gl:∀x,(cs2 x)[o+1]?=some (.int .i32 1))(hf:∀Kf:aK,(∀x,T B (cl b (cs2 x)::H2 x) (Kf (.tuple #[])))->T B (cl b (cs.setIfInBounds (o+1) (.int .i32 1))::H) (ad P 235 #[.pointer (some p)] Kf))(U:∀x,T B (cl b (((cs2 x).setIfInBounds o (.int .u32 1)).setIfInBounds (o+1) (.int .i32 0))::H2 x) (K (.tuple #[]))):T B (cl b cs::H) (ad P 234 #[.pointer (some ⟨b,o,none⟩),.func (.func 235) #[.pointer (some p)] #[]] K):=by
 intro σ ow w hw;subst hw;have c0:=na ow h0;have hy:∀(x:Bool) (w:World),(Op.unary .not (.bool x)).run Tryz.prog w= .ok (.bool (!x)) w:=λ_ _=>rfl;have AO:Calls Tryz.prog 331 #[.pointer (some ⟨b,o,none⟩),.func (.func 235) #[.pointer (some p)] #[]] w _:=WN (K:=λv eC=>v= .tuple #[]/\K (.tuple #[]) eC) h0 h1 k6 gl hf (λx=>dS rfl (U x)) _ ow w rfl
 go_enter Tryz.func234,Tryz.ntmps234
 go_wp2_with (first|(go_at_call 330;refine(wW ⟨b,o,none⟩ _ (by assumption)).mono ?_;rintro e w' ⟨rfl,rfl⟩)|(go_at_call 331;refine AO.mono ?_;rintro e w' ⟨v,rfl,⟨rfl,hK⟩,iF⟩))
 go_end0
 exact⟨_,rfl,hK,iF⟩
set_option maxRecDepth 100000 in
set_option maxHeartbeats 1600000 in
def G4{rA:Value}(h0:cs[o]?=some (.int .u32 1))(U:T B (cl b cs::H) (K (.tuple #[]))):T B (cl b cs::H) (ad P 234 #[.pointer (some ⟨b,o,none⟩),rA] K):=by
 intro σ ow w hw;subst hw;have c0:=na ow h0;have hy:∀(x:Bool) (w:World),(Op.unary .not (.bool x)).run Tryz.prog w= .ok (.bool (!x)) w:=λ_ _=>rfl;have hK:=U _ ow
 go_enter Tryz.func234,Tryz.ntmps234
 go_wp2_with (go_at_call 330;refine(Lc ⟨b,o,none⟩ _ (by assumption)).mono ?_;rintro e w' ⟨rfl,rfl⟩)
 go_end0
 exact⟨_,rfl,hK,rfl,rfl,rfl⟩
end
