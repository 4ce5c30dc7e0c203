import Derived.Test.YthjiifomjmdjbaaGreatDoorAtGJ
import Derived.Test.YthjiifomjmdjbaaGreatDoorAtGI
import Derived.Test.YthjiifomjmdjbaaGreatDoorAtGM
import Derived.Test.YthjiifomjmdjbaaGreatDoorRnGH
set_option maxRecDepth 100000
set_option maxHeartbeats 8000000
set_option linter.unusedSimpArgs false
set_option linter.unusedVariables false
section
open Go Go.Rn Go.RowKit Go.Proofs
namespace zK
open cq cz cO cT eH fx gY dj uo nh m7 tP qp
variable {k N L N0 L0:Nat} {v:AV} {dp i bN n0 c:Int} {B:aJ}
noncomputable section
def rN(f:Ex->Int×Bool):List Ex->Int->Int×Bool
 |[],m=>(m,false)
 |a::r,m=>if(f a).2=true then(0,true) else if m+(f a).1>1000 then(0,true) else rN f r (m+(f a).1)
def dI:Nat->Ex->Int×Bool
 |0,_=>(0,true)
 |k+1,.mk _ _ args=>if k=0\/args.length>10 then(0,true) else rN (dI k) args 1
def pa(k:Nat)(args:List AV)(v:AV):Prop:=∃e:Ex,args=[.agg<|aB e,.int .i64<|22 - (k:Int)]/\(1<=k/\k<=22)/\v= .tuple [.int .i64 (dI k e).1,.bool (dI k e).2]
theorem pa.bT(args:List AV)(v v':AV)(h:pa k args v)(h':pa k args v'):v=v':=by obtain⟨e,rfl,_,rfl⟩:=h;obtain⟨e',h1,_,rfl⟩:=h';simp only[List.cons.injEq,AV.agg.injEq,_root_.and_true] at h1;rw[nu _ _ h1]
def ov(k:Nat):FuncId×KE:=(27,.val<|aU<|pa k)
def km(f:List St->Int×Bool):List St->Int->Int×Bool
  |[],m=>(m,false)
  | s::r,m=>if(dI 22<|iq s).2=true\/(dI 22<|ir s).2=true\/(f<|bF s).2=true\/(f<|bB s).2=true then(0,true)
    else if m+1+(dI 22<|iq s).1+(dI 22<|ir s).1+(f<|bF s).1+(f<|bB s).1>3000 then(0,true)
    else km f r (m+1+(dI 22<|iq s).1+(dI 22<|ir s).1+(f<|bF s).1+(f<|bB s).1)
def cU:Nat->List St->Int×Bool
 |0,_=>(0,true)
 |k+1,l=>if k=0\/l.length>500 then(0,true) else km (cU k) l 0
def nd(k:Nat)(args:List AV)(v:AV):Prop:=∃l:List St,args=[.U (nm<|bw l) 0 l.length,.int .i64<|22 - (k:Int)]/\(1<=k/\k<=22)/\v= .tuple [.int .i64 (cU k l).1,.bool (cU k l).2]
theorem nd.bT(args:List AV)(v v':AV)(h:nd k args v)(h':nd k args v'):v=v':=by obtain⟨e,rfl,_,rfl⟩:=h;obtain⟨e',h1,_,rfl⟩:=h';simp only[List.cons.injEq,AV.U.injEq,true_and,_root_.and_true] at h1;rw[ss _ _<|sR (lL _) (lL _) h1.1]
def vp(k:Nat):FuncId×KE:=(11,.val<|aU<|nd k)
def D5(dp m i:Int):List<|Nat×AV:=[(1,(i6 dp)),(2,(.ptr<|some (270,0))),(6,(i6 m)),(7,(i6 i))]
def rO(dp m i:Int):AF:=⟨27,aS<|D5 dp m i,(max Tryz.f27.ntmps 2),[.code<|a9 pg 27 [1,1,1,0,1,0,0],.inLoop<|a9 pg 27 [1,1,1,0,1,0,0],.inBlock 0,.code<|a9 pg 27 [1,1,1,1]],[],none⟩
def nq(op n:Int)(N L:Nat):List<|Nat×Option ae:=(ar++[(270,some<|.cells 3 (Tr.fill [(u8<|op),(i6 n),(.U N 0 L)] 0 .nil) [])])
theorem aiU(dp m i op n:Int)(N L:Nat):((D5 dp m i).map (fun q=>some q.2)=(D5 dp m i).map (fun q=>some q.2))/\((nq op n N L).map (fun q=>q.2)=(nq op n N L).map (fun q=>q.2))/\(rO dp m i=rO dp m i/\aq (nq op n N L) 271=aq (nq op n N L) 271):=⟨rfl,rfl,rfl,rfl⟩
theorem sdT{op n m:Int}(mc:Mt [ov k] B)(hn:top<=N)(hi:0<=i)(hL:L<=10)(hm:0<=m/\m<=1000)(iM:0<=c/\c<=1000)(hd:0<=dp/\dp<=20)(hx:cX FU N (0+i.toNat*3+0) 3=some [(u8<|bN),(i6 n0),(.U N0 0 L0)])(h1:i<(L:Int))(hc:bf (aU<|pa k) [(.agg [(u8<|bN),(i6 n0),(.U N0 0 L0)]),.int .i64<|dp+1]=some (.tuple [.int .i64 c,.bool true]))(hv:(.tuple [.int .i64 0,.bool true])=v):au pg B 270 (Fin pg (az Tryz.f27) fun y _=>y=v) (rO dp m i)<|aq (nq op n N L) 271:=by exact wS mc (.st 2<|.rg<|.go 4<|.fk (.en<|.st 5<|.rg<|.go 3<|.fF<|.fG [(u8<|bN),(i6 n0),(.U N0 0 L0)]<|.go 1<|.vl (i6<|dp+1)<|.kn (.tuple [(i6 c),(.bool true)])<|.go 5<|.en<|.st 1<|.rg<|.go 2<|.vl (i6<|m+c)<|.go 1<|.en<|.rt 6 .no)<|.no)<|ax (i<(L:Int)) (fun _=>(dq i (L:Int)<|ai hn<|ai hx<|ai (wI<|dp+1)<|ai hc<|ai (wI<|m+c) (show(.tuple [i0,(.bool true)])=v from hv))) bh
theorem sdF{op n m:Int}(mc:Mt [ov k] B)(hn:top<=N)(hi:0<=i)(hL:L<=10)(hm:0<=m/\m<=1000)(iM:0<=c/\c<=1000)(hd:0<=dp/\dp<=20)(hx:cX FU N (0+i.toNat*3+0) 3=some [(u8<|bN),(i6 n0),(.U N0 0 L0)])(h1:i<(L:Int))(hc:bf (aU<|pa k) [(.agg [(u8<|bN),(i6 n0),(.U N0 0 L0)]),.int .i64<|dp+1]=some (.tuple [.int .i64 c,.bool false]))(hv:m+c>1000->(.tuple [.int .i64 0,.bool true])=v)(H:¬((m+c)>(1000:Int))->au pg B 270 (Fin pg (az Tryz.f27) fun y _=>y=v) (rO dp (m+c)<|i+1) (aq (nq op n N L) 271)):au pg B 270 (Fin pg (az Tryz.f27) fun y _=>y=v) (rO dp m i)<|aq (nq op n N L) 271:=by exact wC mc (C:=(fun fr s1 _=>fr=rO dp (m+c) (i+1)/\s1=aq (nq op n N L) 271/\¬((m+c)>(1000:Int)))) (fun fr s1 p hC=>by obtain⟨rfl,rfl,hq⟩:=hC;exact H hq) (.st 2<|.rg<|.go 4<|.fk (.en<|.st 5<|.rg<|.go 3<|.fF<|.fG [(u8<|bN),(i6 n0),(.U N0 0 L0)]<|.go 1<|.vl (i6<|dp+1)<|.kn (.tuple [(i6 c),(.bool false)])<|.go 5<|.en<|.st 1<|.rg<|.go 2<|.vl (i6<|m+c)<|.go 1<|.en<|.st 1<|.rg<|.go 3<|.fk (.go 1<|.en<|.rt 4 .no)<|.go 1<|.en<|.st 3<|.rg<|.go 1<|.vl (i6<|i+1)<|.go 1<|.en<|.st 1<|.ls (D5 dp (m+c)<|i+1) (nq op n N L) 271 .no)<|.no)<|ax (i<(L:Int)) (fun _=>(dq i (L:Int)<|ai hn<|ai hx<|ai (wI<|dp+1)<|ai hc<|ai (wI<|m+c)<|ax ((m+c)>1000) (fun _=>(show(.tuple [i0,(.bool true)])=v from hv ab)) fun _=>(ai (wI<|i+1)<|ai (mS<|D5 dp (m+c)<|i+1)<|ai (mO<|nq op n N L) (show(rO dp (m+c)<|i+1)=(rO dp (m+c)<|i+1)/\(aq (nq op n N L) 271)=(aq (nq op n N L) 271)/\¬((m+c)>(1000:Int)) from⟨rfl,rfl,by omega⟩)))) bh
theorem sdE{op n m:Int}(mc:Mt [ov k] B)(h1:(L:Int)<=i)(hv:(.tuple [.int .i64 m,.bool false])=v):au pg B 270 (Fin pg (az Tryz.f27) fun y _=>y=v) (rO dp m i)<|aq (nq op n N L) 271:=by exact wS mc (.st 2<|.rg<|.go 4<|.fk (.no)<|.en<|.rt 5 .no) Wv
theorem sdG{op n:Int}(mc:Mt [ov k] B)(hd:dp<=20)(hL:L<=10)(H:au pg B 270 (Fin pg (az Tryz.f27) fun y _=>y=v) (rO dp 1 0)<|aq (nq op n N L) 271):au pg B 270 (Fin pg (az Tryz.f27) fun y _=>y=v) (sF 27 Tryz.f27 [(.agg [(u8<|op),(i6 n),(.U N 0 L)]),(i6 dp)])<|aq ar 270:=by exact wC mc (C:=(fun fr s1 _=>fr=rO dp 1 0/\s1=aq (nq op n N L) 271)) np (.st 4<|.rg<|.go 1<|.fk (.no)<|.go 4<|.fk (.no)<|.go 1<|.en<|.st 9<|.ls (D5 dp 1 0) (nq op n N L) 271 .no)<|ax (dp>20) bh fun _=>(ax ((L:Int)>10) bh fun _=>(aiU dp 1 0 op n N L))
theorem sdB{op n:Int}(mc:Mt [ov k] B)(hd:dp>20\/(L:Int)>10)(hv:(.tuple [.int .i64 0,.bool true])=v):au pg B 270 (Fin pg (az Tryz.f27) fun y _=>y=v) (sF 27 Tryz.f27 [(.agg [(u8<|op),(i6 n),(.U N 0 L)]),(i6 dp)])<|aq ar 270:=by exact wS mc (.st 4<|.rg<|.go 1<|.fk (.go 6<|.en<|.rt 4 .no)<|.go 4<|.fk (.go 1<|.en<|.rt 4 .no)<|.no)<|ax (dp>20) (fun _=>(show(.tuple [i0,(.bool true)])=v from hv)) fun _=>(ax ((L:Int)>10) (fun _=>(show(.tuple [i0,(.bool true)])=v from hv)) bh)
def D6(N L:Nat)(dp m i:Int):List<|Nat×AV:=[(0,(.U N 0 L)),(1,(i6 dp)),(6,(i6 m)),(7,(i6 i))]
def rP(N L:Nat)(dp m i:Int):AF:=⟨11,aS<|D6 N L dp m i,(max Tryz.f11.ntmps 2),[.code<|a9 pg 11 [1,1,1,0,1,0,0],.inLoop<|a9 pg 11 [1,1,1,0,1,0,0],.inBlock 0,.code<|a9 pg 11 [1,1,1,1]],[],none⟩
theorem aiV(N L:Nat)(dp m i:Int):((D6 N L dp m i).map (fun q=>some q.2)=(D6 N L dp m i).map (fun q=>some q.2))/\(ar.map (fun q=>q.2)=ar.map (fun q=>q.2))/\(rP N L dp m i=rP N L dp m i/\aq ar 270=aq ar 270):=⟨rfl,rfl,rfl,rfl⟩
theorem Lc{B:aJ}{k N L Na La Nb Lb Nd Ld Ne Le:Nat}{jN na jO nb dp m i a b c d:Int}{x y z w:Bool}{v:AV}(hk:x=true\/(x=false/\y=true)\/(x=false/\y=false/\z=true)\/(x=false/\y=false/\z=false/\w=true))(mc:Mt [ov 22,vp k] B)(hn:top<=N)(hi:0<=i)(hL:L<=500)(hm:0<=m/\m<=3000)(hb:(0<=a/\a<=1000)/\(0<=b/\b<=1000)/\(0<=c/\c<=3000)/\(0<=d/\d<=3000))(hd:0<=dp/\dp<=20)(QJ:cX FU N (0+i.toNat*10+2) 3=some [(u8<|jN),(i6 na),(.U Na 0 La)])(QK:cX FU N (0+i.toNat*10+5) 3=some [(u8<|jO),(i6 nb),(.U Nb 0 Lb)])(QL:cX FU N (0+i.toNat*10+8) 1=some [.U Nd 0 Ld])(QM:cX FU N (0+i.toNat*10+9) 1=some [.U Ne 0 Le])(h1:i<(L:Int))(ha:bf (aU<|pa 22) [(.agg [(u8<|jN),(i6 na),(.U Na 0 La)]),.int .i64 0]=some (.tuple [.int .i64 a,.bool x]))(QN:bf (aU<|pa 22) [(.agg [(u8<|jO),(i6 nb),(.U Nb 0 Lb)]),.int .i64 0]=some (.tuple [.int .i64 b,.bool y]))(QO:bf (aU<|nd k) [.U Nd 0 Ld,.int .i64<|dp+1]=some (.tuple [.int .i64 c,.bool z]))(QP:bf (aU<|nd k) [.U Ne 0 Le,.int .i64<|dp+1]=some (.tuple [.int .i64 d,.bool w]))(hv:(.tuple [.int .i64 0,.bool true])=v):au pg B 270 (Fin pg (az Tryz.f11) fun y _=>y=v) (rP N L dp m i)<|aq ar 270:=by
 have TT:=(ax (i<(L:Int)) (fun _=>(dq i (L:Int)<|ai hn<|ai QJ<|ai ha<|dq i (L:Int)<|ai hn<|ai QK<|ai QN<|dq i (L:Int)<|ai hn<|ai QL<|ai (wI<|dp+1)<|ai QO<|dq i (L:Int)<|ai hn<|ai QM<|ai (wI<|dp+1)<|ai QP<|ai (wI<|m+1)<|ai (wI<|(m+1)+a)<|ai (wI<|((m+1)+a)+b)<|ai (wI<|(((m+1)+a)+b)+c)<|ai (wI<|((((m+1)+a)+b)+c)+d) (show(.tuple [i0,(.bool true)])=v from hv))) fun _=>(oF ab));let P:Pl:=(.st 2<|.rg<|.go 3<|.fk (.en<|.st 5<|.rg<|.go 2<|.fF<|.go 1<|.fG [(u8<|jN),(i6 na),(.U Na 0 La)]<|.kn (.tuple [(i6 a),(.bool x)])<|.go 5<|.en<|.st 1<|.rg<|.go 2<|.fF<|.go 1<|.fG [(u8<|jO),(i6 nb),(.U Nb 0 Lb)]<|.kn (.tuple [(i6 b),(.bool y)])<|.go 5<|.en<|.st 1<|.rg<|.go 2<|.fF<|.go 1<|.fG [(.U Nd 0 Ld)]<|.go 1<|.vl (i6<|dp+1)<|.kn (.tuple [(i6 c),(.bool z)])<|.go 5<|.en<|.st 1<|.rg<|.go 2<|.fF<|.go 1<|.fG [(.U Ne 0 Le)]<|.go 1<|.vl (i6<|dp+1)<|.kn (.tuple [(i6 d),(.bool w)])<|.go 5<|.en<|.st 1<|.rg<|.go 1<|.vl (i6<|m+1)<|.go 1<|.vl (i6<|(m+1)+a)<|.go 1<|.vl (i6<|((m+1)+a)+b)<|.go 1<|.vl (i6<|(((m+1)+a)+b)+c)<|.go 1<|.vl (i6<|((((m+1)+a)+b)+c)+d)<|.go 1<|.en<|.rt 6 .no)<|.no);rcases hk with rfl|⟨rfl,rfl⟩|⟨rfl,rfl,rfl⟩|⟨rfl,rfl,rfl,rfl⟩
 all_goals exact mh (E:=en [ov 22,vp k]) eY rfl bV mc.2.2.1 mc.2.2.2 900 P TT aW
theorem muN{B:aJ}{k N L Na La Nb Lb Nd Ld Ne Le:Nat}{jN na jO nb dp m i a b c d:Int}{x y z w:Bool}{v:AV}(mc:Mt [ov 22,vp k] B)(hn:top<=N)(hi:0<=i)(hL:L<=500)(hm:0<=m/\m<=3000)(hb:(0<=a/\a<=1000)/\(0<=b/\b<=1000)/\(0<=c/\c<=3000)/\(0<=d/\d<=3000))(hd:0<=dp/\dp<=20)(QJ:cX FU N (0+i.toNat*10+2) 3=some [(u8<|jN),(i6 na),(.U Na 0 La)])(QK:cX FU N (0+i.toNat*10+5) 3=some [(u8<|jO),(i6 nb),(.U Nb 0 Lb)])(QL:cX FU N (0+i.toNat*10+8) 1=some [.U Nd 0 Ld])(QM:cX FU N (0+i.toNat*10+9) 1=some [.U Ne 0 Le])(h1:i<(L:Int))(ha:bf (aU<|pa 22) [(.agg [(u8<|jN),(i6 na),(.U Na 0 La)]),.int .i64 0]=some (.tuple [.int .i64 a,.bool false]))(QN:bf (aU<|pa 22) [(.agg [(u8<|jO),(i6 nb),(.U Nb 0 Lb)]),.int .i64 0]=some (.tuple [.int .i64 b,.bool false]))(QO:bf (aU<|nd k) [.U Nd 0 Ld,.int .i64<|dp+1]=some (.tuple [.int .i64 c,.bool false]))(QP:bf (aU<|nd k) [.U Ne 0 Le,.int .i64<|dp+1]=some (.tuple [.int .i64 d,.bool false]))(hv:(((((m+1)+a)+b)+c)+d)>3000->(.tuple [.int .i64 0,.bool true])=v)(H:¬((((((m+1)+a)+b)+c)+d)>(3000:Int))->au pg B 270 (Fin pg (az Tryz.f11) fun y _=>y=v) (rP N L dp (((((m+1)+a)+b)+c)+d)<|i+1) (aq ar 270)):au pg B 270 (Fin pg (az Tryz.f11) fun y _=>y=v) (rP N L dp m i)<|aq ar 270:=by exact wC mc (C:=(fun fr s1 _=>fr=rP N L dp (((((m+1)+a)+b)+c)+d) (i+1)/\s1=aq ar 270/\¬((((((m+1)+a)+b)+c)+d)>(3000:Int)))) (fun fr s1 p hC=>by obtain⟨rfl,rfl,hq⟩:=hC;exact H hq) (.st 2<|.rg<|.go 3<|.fk (.en<|.st 5<|.rg<|.go 2<|.fF<|.go 1<|.fG [(u8<|jN),(i6 na),(.U Na 0 La)]<|.kn (.tuple [(i6 a),(.bool false)])<|.go 5<|.en<|.st 1<|.rg<|.go 2<|.fF<|.go 1<|.fG [(u8<|jO),(i6 nb),(.U Nb 0 Lb)]<|.kn (.tuple [(i6 b),(.bool false)])<|.go 5<|.en<|.st 1<|.rg<|.go 2<|.fF<|.go 1<|.fG [(.U Nd 0 Ld)]<|.go 1<|.vl (i6<|dp+1)<|.kn (.tuple [(i6 c),(.bool false)])<|.go 5<|.en<|.st 1<|.rg<|.go 2<|.fF<|.go 1<|.fG [(.U Ne 0 Le)]<|.go 1<|.vl (i6<|dp+1)<|.kn (.tuple [(i6 d),(.bool false)])<|.go 5<|.en<|.st 1<|.rg<|.go 1<|.vl (i6<|m+1)<|.go 1<|.vl (i6<|(m+1)+a)<|.go 1<|.vl (i6<|((m+1)+a)+b)<|.go 1<|.vl (i6<|(((m+1)+a)+b)+c)<|.go 1<|.vl (i6<|((((m+1)+a)+b)+c)+d)<|.go 1<|.en<|.st 1<|.rg<|.go 12<|.fk (.go 1<|.en<|.rt 4 .no)<|.go 1<|.en<|.st 3<|.rg<|.go 1<|.vl (i6<|i+1)<|.go 1<|.en<|.st 1<|.ls (D6 N L dp (((((m+1)+a)+b)+c)+d)<|i+1) ar 270 .no)<|.no)<|ax (i<(L:Int)) (fun _=>(dq i (L:Int)<|ai hn<|ai QJ<|ai ha<|dq i (L:Int)<|ai hn<|ai QK<|ai QN<|dq i (L:Int)<|ai hn<|ai QL<|ai (wI<|dp+1)<|ai QO<|dq i (L:Int)<|ai hn<|ai QM<|ai (wI<|dp+1)<|ai QP<|ai (wI<|m+1)<|ai (wI<|(m+1)+a)<|ai (wI<|((m+1)+a)+b)<|ai (wI<|(((m+1)+a)+b)+c)<|ai (wI<|((((m+1)+a)+b)+c)+d)<|ax ((((((m+1)+a)+b)+c)+d)>3000) (fun _=>(show(.tuple [i0,(.bool true)])=v from hv ab)) fun _=>(ai (wI<|i+1)<|ai (mS<|D6 N L dp (((((m+1)+a)+b)+c)+d)<|i+1)<|ai (mO ar) (show(rP N L dp (((((m+1)+a)+b)+c)+d)<|i+1)=(rP N L dp (((((m+1)+a)+b)+c)+d)<|i+1)/\(aq ar 270)=(aq ar 270)/\¬((((((m+1)+a)+b)+c)+d)>(3000:Int)) from⟨rfl,rfl,by omega⟩)))) bh
theorem muE{m:Int}(mc:Mt [ov 22,vp k] B)(h1:(L:Int)<=i)(hv:(.tuple [.int .i64 m,.bool false])=v):au pg B 270 (Fin pg (az Tryz.f11) fun y _=>y=v) (rP N L dp m i)<|aq ar 270:=by exact wS mc (.st 2<|.rg<|.go 3<|.fk (.no)<|.en<|.rt 5 .no) Wv
theorem muG(mc:Mt [ov 22,vp k] B)(hd:dp<=20)(hL:L<=500)(H:au pg B 270 (Fin pg (az Tryz.f11) fun y _=>y=v) (rP N L dp 0 0)<|aq ar 270):au pg B 270 (Fin pg (az Tryz.f11) fun y _=>y=v) (sF 11 Tryz.f11 [(.U N 0 L),(i6 dp)])<|aq ar 270:=by exact wC mc (C:=(fun fr s1 _=>fr=rP N L dp 0 0/\s1=aq ar 270)) np (.st 4<|.rg<|.go 1<|.fk (.no)<|.go 3<|.fk (.no)<|.go 1<|.en<|.st 9<|.ls (D6 N L dp 0 0) ar 270 .no)<|ax (dp>20) bh fun _=>(ax ((L:Int)>500) bh fun _=>(aiV N L dp 0 0))
theorem muB(mc:Mt [ov 22,vp k] B)(hd:dp>20\/(L:Int)>500)(hv:(.tuple [.int .i64 0,.bool true])=v):au pg B 270 (Fin pg (az Tryz.f11) fun y _=>y=v) (sF 11 Tryz.f11 [(.U N 0 L),(i6 dp)])<|aq ar 270:=by exact wS mc (.st 4<|.rg<|.go 1<|.fk (.go 5<|.en<|.rt 4 .no)<|.go 3<|.fk (.go 1<|.en<|.rt 4 .no)<|.no)<|ax (dp>20) (fun _=>(show(.tuple [i0,(.bool true)])=v from hv)) fun _=>(ax ((L:Int)>500) (fun _=>(show(.tuple [i0,(.bool true)])=v from hv)) bh)
end
end zK
end
section
open Go Go.Rn Go.RowKit Go.Proofs
namespace By
open cq cz cO cT eH fx xR gY dj uo nh m7 tP qp zK
variable {k i:Nat} {L:bY}
theorem UQ{f:Ex->Int×Bool}(hf:∀e,0<=(f e).1/\(f e).1<=1000):∀(l:List Ex) (m:Int),0<=m/\m<=1000->0<=(rN f l m).1/\(rN f l m).1<=1000
 |[],m,h=>h
 |a::r,m,h=>by
  unfold rN;have:=hf a;split
  ·show(0:Int)<=0/\(0:Int)<=1000;omega
  ·split
   ·show(0:Int)<=0/\(0:Int)<=1000;omega
   ·exact UQ hf r _ ab
theorem uC:∀(k:Nat) (e:Ex),0<=(dI k e).1/\(dI k e).1<=1000
 |0,_=>by show(0:Int)<=0/\(0:Int)<=1000;omega
 |k+1,.mk _ _ args=>by
  unfold dI;split
  ·show(0:Int)<=0/\(0:Int)<=1000;omega
  ·exact UQ (uC k) args 1 ab
theorem UR{α:Type}{l r:List α}{a:α}(hr:l.drop i=a::r):i<l.length/\l[i]? =some a/\a∈l/\l.drop (i+1)=r:=by
 have ha:l[i]? =some a:=by have:=congrArg (fun q=>q[0]?) hr;simp only[List.getElem?_drop,List.getElem?_cons_zero,Nat.add_zero] at this;exact this
 refine⟨(List.getElem?_eq_some_iff.1 ha).1,ha,List.mem_of_getElem? ha,?_⟩;have:=congrArg (List.drop 1) hr;rw[List.drop_drop] at this;exact this
theorem Z5(hP:bE pg)(h':aV [ov k])(h:aV L):aV<|ov (k+1)::L:=by
 refine ig hP h h' Tryz.func27 fun args v e=>?_;obtain⟨⟨op,n,l⟩,rfl,hk,rfl⟩:=gI e;refine⟨aL.1 aW,fun B mc=>?_⟩;rw[←gX,aB];have ed:(22:Int) - ((k+1:Nat):Int)=21 - (k:Int):=by omega
 rw[ed];unfold dI;by_cases c:k=0\/l.length>10
 ·rw[if_pos c];exact sdB mc ab rfl
 ·rw[if_neg c];have Xf:k≠0:=fun q=>c<|.inl q;have hl:l.length<=10:=by
   by_cases q:l.length<=10
   ·exact q
   ·exact absurd (.inr ab) c
  have key:∀(r:List Ex) (i:Nat) (m:Int),l.drop i=r->0<=m/\m<=1000->
   au pg B 270 (Fin pg (az Tryz.f27) fun y _=>y= .tuple [.int .i64 (rN (dI k) r m).1,.bool (rN (dI k) r m).2]) (rO (21 - (k:Int)) m i) (aq (nq op n (nm<|cI l) l.length) 271):=by
   intro r;induction r with
   |nil=>intro i m hr hm;have hi:l.length<=i:=List.drop_eq_nil_iff.1 hr;exact sdE mc ab rfl
   |cons a r ih=>
    intro i m hr hm;obtain⟨hi,ha,qy,lF⟩:=UR hr;obtain⟨bN,n0,l0⟩:=a;have hx:=yK ha (z:=(i:Int)) ab;have iK:=uC k<|.mk bN n0 l0;have bC:bf (aU<|pa k) [.agg<|aB<|.mk bN n0 l0,.int .i64<|21 - (k:Int)+1]=some (.tuple [.int .i64 (dI k<|.mk bN n0 l0).1,.bool (dI k<|.mk bN n0 l0).2]):=fA (eZ pa.bT ⟨.mk bN n0 l0,by rw[show(21:Int) - (k:Int)+1=22 - (k:Int) by omega],by omega,rfl⟩) rF rfl;rw[aB] at hx bC;unfold rN;cases hb:(dI k<|.mk bN n0 l0).2 with
    |true=>rw[hb] at bC;rw[if_pos rfl];exact sdT mc (dU _) ab hl hm iK ab hx ab bC rfl
    |false=>
     rw[hb] at bC;rw[if_neg (by intro q;cases q)];refine sdF mc (dU _) ab hl hm iK ab hx ab bC (fun q=>?_) fun q=>?_
     ·rw[if_pos q]
     ·rw[if_neg q];exact ih (i+1) _ lF ab
  exact sdG mc ab hl<|key l 0 1 (by rw[List.drop_zero]) ab
theorem S2(hP:bE pg):∀(k:Nat) {L:bY},aV L->aV (ov k::L)
 |0,L,h=>by refine ig hP h cP Tryz.func27 fun args v e=>?_;obtain⟨_,_,hk,_⟩:=gI e;omega
 |k+1,L,h=>Z5 hP (S2 hP k cP) h
theorem US{f:List St->Int×Bool}(hf:∀l,0<=(f l).1/\(f l).1<=3000):∀(l:List St) (m:Int),0<=m/\m<=3000->0<=(km f l m).1/\(km f l m).1<=3000
 |[],m,h=>h
 |s::r,m,h=>by
  unfold km;have h1:=uC 22<|iq s;have h2:=uC 22<|ir s;have h3:=hf<|bF s;have h4:=hf<|bB s;split
  ·show(0:Int)<=0/\(0:Int)<=3000;omega
  ·split
   ·show(0:Int)<=0/\(0:Int)<=3000;omega
   ·exact US hf r _ ab
theorem wQ:∀(k:Nat) (l:List St),0<=(cU k l).1/\(cU k l).1<=3000
 |0,_=>by show(0:Int)<=0/\(0:Int)<=3000;omega
 |k+1,l=>by
  unfold cU;split
  ·show(0:Int)<=0/\(0:Int)<=3000;omega
  ·exact US (wQ k) l 0 ab
theorem IV{l:List St}{s:St}(h:l[i]? =some s){z:Int}(hz:z.toNat=i)(j k:Nat)(hk:j+k<=10):cX FU (nm<|bw l) (0+z.toNat*10+j) k=some (((aM s).drop j).take k):=by rw[uA,hz,Nat.zero_add,C4 mB h j k hk]
theorem aa8(hP:bE pg)(h':aV [ov 22,vp k])(h:aV L):aV<|vp (k+1)::L:=by
 refine ig hP h h' Tryz.func11 fun args v e=>?_;obtain⟨l,rfl,hk,rfl⟩:=gI e;refine⟨aL.1 aW,fun B mc=>?_⟩;rw[←gX];have ed:(22:Int) - ((k+1:Nat):Int)=21 - (k:Int):=by omega
 rw[ed];unfold cU;by_cases c:k=0\/l.length>500
 ·rw[if_pos c];exact muB mc ab rfl
 ·rw[if_neg c];have Xf:k≠0:=fun q=>c<|.inl q;have hl:l.length<=500:=by
   by_cases q:l.length<=500
   ·exact q
   ·exact absurd (.inr ab) c
  have key:∀(r:List St) (i:Nat) (m:Int),l.drop i=r->0<=m/\m<=3000->
   au pg B 270 (Fin pg (az Tryz.f11) fun y _=>y= .tuple [.int .i64 (km (cU k) r m).1,.bool (km (cU k) r m).2]) (rP (nm<|bw l) l.length (21 - (k:Int)) m i) (aq ar 270):=by
   intro r;induction r with
   |nil=>intro i m hr hm;have hi:l.length<=i:=List.drop_eq_nil_iff.1 hr;exact muE mc ab rfl
   |cons s r ih=>
    intro i m hr hm;obtain⟨hi,ha,qy,lF⟩:=UR hr;have p1:=IV ha (z:=(i:Int)) ab 2 3 ab;have p2:=IV ha (z:=(i:Int)) ab 5 3 ab;have p3:=IV ha (z:=(i:Int)) ab 8 1 ab;have p4:=IV ha (z:=(i:Int)) ab 9 1 ab;obtain⟨kind,to,⟨jN,na,la⟩,⟨jO,nb,lb⟩,bd,el⟩:=s;have e1:((aM<|.mk kind to (.mk jN na la) (.mk jO nb lb) bd el).drop 2).take 3=aB (.mk jN na la):=by rw[aM,aB,aB];rfl
    have e2:((aM<|.mk kind to (.mk jN na la) (.mk jO nb lb) bd el).drop 5).take 3=aB (.mk jO nb lb):=by rw[aM,aB,aB];rfl
    have e3:((aM<|.mk kind to (.mk jN na la) (.mk jO nb lb) bd el).drop 8).take 1=[.U (nm<|bw bd) 0 bd.length]:=by rw[aM,aB,aB];rfl
    have e4:((aM<|.mk kind to (.mk jN na la) (.mk jO nb lb) bd el).drop 9).take 1=[.U (nm<|bw el) 0 el.length]:=by rw[aM,aB,aB];rfl
    rw[e1] at p1;rw[e2] at p2;rw[e3] at p3;rw[e4] at p4;have ua:=uC 22<|.mk jN na la;have tZ:=uC 22<|.mk jO nb lb;have jK:=wQ k bd;have Qd:=wQ k el;have hS:∀e:Ex,bf (aU<|pa 22) [.agg<|aB e,.int .i64 0]=some (.tuple [.int .i64 (dI 22 e).1,.bool (dI 22 e).2]):=fun e=>fA (eZ pa.bT ⟨e,rfl,by omega,rfl⟩) rF rfl;have hM:∀q:List St,bf (aU<|nd k) [.U (nm<|bw q) 0 q.length,.int .i64<|21 - (k:Int)+1]=some (.tuple [.int .i64 (cU k q).1,.bool (cU k q).2]):=fun q=>fA (eZ nd.bT ⟨q,by rw[show(21:Int) - (k:Int)+1=22 - (k:Int) by omega],by omega,rfl⟩) (by rw[List.all_cons,sY];rfl) rfl;have s1:=hS<|.mk jN na la;have s2:=hS<|.mk jO nb lb;have m1:=hM bd;have m2:=hM el;rw[aB] at p1 p2 s1 s2;have hb:(0<=(dI 22<|.mk jN na la).1/\(dI 22<|.mk jN na la).1<=1000)/\(0<=(dI 22<|.mk jO nb lb).1/\(dI 22<|.mk jO nb lb).1<=1000)/\(0<=(cU k bd).1/\(cU k bd).1<=3000)/\(0<=(cU k el).1/\(cU k el).1<=3000):=⟨ua,tZ,jK,Qd⟩;show au pg B 270 (Fin pg (az Tryz.f11) fun y _=>y= .tuple [.int .i64 (km (cU k) (.mk kind to (.mk jN na la) (.mk jO nb lb) bd el::r) m).1,.bool (km (cU k) (.mk kind to (.mk jN na la) (.mk jO nb lb) bd el::r) m).2]) _ _;unfold km;show au pg B 270 (Fin pg (az Tryz.f11) fun y _=>y= .tuple [.int .i64 (if(dI 22<|.mk jN na la).2=true\/(dI 22<|.mk jO nb lb).2=true\/(cU k bd).2=true\/(cU k el).2=true then(0,true) else if m+1+(dI 22<|.mk jN na la).1+(dI 22<|.mk jO nb lb).1+(cU k bd).1+(cU k el).1>3000 then(0,true) else km (cU k) r (m+1+(dI 22<|.mk jN na la).1+(dI 22<|.mk jO nb lb).1+(cU k bd).1+(cU k el).1)).1,.bool (if(dI 22<|.mk jN na la).2=true\/(dI 22<|.mk jO nb lb).2=true\/(cU k bd).2=true\/(cU k el).2=true then(0,true) else if m+1+(dI 22<|.mk jN na la).1+(dI 22<|.mk jO nb lb).1+(cU k bd).1+(cU k el).1>3000 then(0,true) else km (cU k) r (m+1+(dI 22<|.mk jN na la).1+(dI 22<|.mk jO nb lb).1+(cU k bd).1+(cU k el).1)).2]) _ _;cases x:(dI 22<|.mk jN na la).2 with
    |true=>rw[x] at s1;rw[if_pos<|.inl rfl];exact Lc (x:=true) (.inl rfl) mc (dU _) ab hl hm hb ab p1 p2 p3 p4 ab s1 s2 m1 m2 rfl
    |false=>
     rw[x] at s1;cases y:(dI 22<|.mk jO nb lb).2 with
     |true=>rw[y] at s2;rw[if_pos<|.inr<|.inl rfl];exact Lc (x:=false) (y:=true) (.inr<|.inl ⟨rfl,rfl⟩) mc (dU _) ab hl hm hb ab p1 p2 p3 p4 ab s1 s2 m1 m2 rfl
     |false=>
      rw[y] at s2;cases z:(cU k bd).2 with
      |true=>rw[z] at m1;rw[if_pos<|.inr<|.inr<|.inl rfl];exact Lc (x:=false) (y:=false) (z:=true) (.inr<|.inr<|.inl ⟨rfl,rfl,rfl⟩) mc (dU _) ab hl hm hb ab p1 p2 p3 p4 ab s1 s2 m1 m2 rfl
      |false=>
       rw[z] at m1;cases w:(cU k el).2 with
       |true=>rw[w] at m2;rw[if_pos<|.inr<|.inr<|.inr rfl];exact Lc (x:=false) (y:=false) (z:=false) (w:=true) (.inr<|.inr<|.inr ⟨rfl,rfl,rfl,rfl⟩) mc (dU _) ab hl hm hb ab p1 p2 p3 p4 ab s1 s2 m1 m2 rfl
       |false=>
        rw[w] at m2;rw[if_neg<|by simp];refine muN (x:=false) (y:=false) (z:=false) (w:=false) mc (dU _) ab hl hm hb ab p1 p2 p3 p4 ab s1 s2 m1 m2 (fun q=>?_) fun q=>?_
        ·rw[if_pos q]
        ·rw[if_neg q];exact ih (i+1) _ lF ab
  exact muG mc ab hl<|key l 0 0 (by rw[List.drop_zero]) ab
theorem TQ(hP:bE pg):∀(k:Nat) {L:bY},aV L->aV (vp k::L)
 |0,L,h=>by refine ig hP h cP Tryz.func11 fun args v e=>?_;obtain⟨_,_,hk,_⟩:=gI e;omega
 |k+1,L,h=>aa8 hP (S2 hP 22<|TQ hP k cP) h
end By
end
section
open Go Go.Rn Go.RowKit Go.Proofs
namespace DL
open cq gw eH BK gU nh m7 xS zm qE tF eX cz dj Ch vC xo uo tP qp Gv JV cO cT fm eR fM fO fU gh fV gi gO gP gZ hU iH iX jI jJ fx gY lV pC pE rL rM zI DK xy zK By
variable {k:Nat}
theorem R4{f:Ex->Int×Bool}:∀(l:List Ex) (m:Int),(rN f l m).2=false->(∀a∈l,(f a).2=false)/\(rN f l m).1=l.foldl (fun n a=>n+(f a).1) m/\(m<=1000->(rN f l m).1<=1000)
 |[],m,_=>⟨fun a h=>(by cases h),rfl,fun h=>h⟩
 |a::r,m,h=>by
  unfold rN at h ⊢;by_cases c1:(f a).2=true
  ·rw[if_pos c1] at h;cases h
  ·rw[if_neg c1] at h ⊢;by_cases c2:m+(f a).1>1000
   ·rw[if_pos c2] at h;cases h
   ·rw[if_neg c2] at h ⊢;obtain⟨h1,h2,h3⟩:=R4 r _ h;refine⟨fun b hb=>?_,by rw[h2,List.foldl_cons],fun _=>h3 ab⟩;rcases List.mem_cons.1 hb with rfl|hb
    ·exact Bool.eq_false_iff.2 c1
    ·exact h1 b hb
theorem fold_congr{f g:Ex->Int}:∀(l:List Ex) (m:Int),(∀a∈l,f a=g a)->l.foldl (fun n a=>n+f a) m=l.foldl (fun n a=>n+g a) m
 |[],_,_=>rfl
 |a::l,m,h=>by rw[List.foldl_cons,List.foldl_cons,h a List.mem_cons_self];exact fold_congr l _ fun b hb=>h b<|List.mem_cons_of_mem _ hb
theorem Hv:∀(k j:Nat) (e:Ex),k<=j->(dI k e).2=false->tD j e=true/\lu j e=(dI k e).1
 |0,_,_,_,h=>by cases h
 |k+1,0,_,hj,_=>by omega
 |k+1,j+1,.mk op n l,hj,h=>by
  unfold dI at h ⊢;by_cases c:k=0\/l.length>10
  ·rw[if_pos c] at h;cases h
  ·rw[if_neg c] at h ⊢;obtain⟨h1,h2,_⟩:=R4 l 1 h;refine⟨List.all_eq_true.2 fun a ha=>(Hv k j a ab<|h1 a ha).1,?_⟩;rw[h2];exact fold_congr l 1 fun a ha=>(Hv k j a ab<|h1 a ha).2
theorem HE{f:List St->Int×Bool}(hf:∀l,0<=(f l).1):∀(l:List St) (m:Int),(km f l m).2=false->m<=(km f l m).1/\∀s∈l,(dI 22<|iq s).2=false/\(dI 22<|ir s).2=false/\(f<|bF s).2=false/\(f<|bB s).2=false
 |[],m,_=>⟨Int.le_refl _,fun s h=>by cases h⟩
 |t::r,m,h=>by
  unfold km at h ⊢;have a1:=uC 22<|iq t;have a2:=uC 22<|ir t;have a3:=hf<|bF t;have a4:=hf<|bB t;by_cases c1:(dI 22<|iq t).2=true\/(dI 22<|ir t).2=true\/(f<|bF t).2=true\/(f<|bB t).2=true
  ·rw[if_pos c1] at h;cases h
  ·rw[if_neg c1] at h ⊢;by_cases c2:m+1+(dI 22<|iq t).1+(dI 22<|ir t).1+(f<|bF t).1+(f<|bB t).1>3000
   ·rw[if_pos c2] at h;cases h
   ·rw[if_neg c2] at h ⊢;obtain⟨h1,h2⟩:=HE hf r _ h;refine⟨by omega,fun s hs=>?_⟩;rcases List.mem_cons.1 hs with rfl|hs
    ·refine⟨Bool.eq_false_iff.2 fun q=>c1<|.inl q,Bool.eq_false_iff.2 fun q=>c1<|.inr<|.inl q,Bool.eq_false_iff.2 fun q=>c1<|.inr<|.inr<|.inl q,Bool.eq_false_iff.2 fun q=>c1<|.inr<|.inr<|.inr q⟩
    ·exact h2 s hs
theorem Z6{l:List St}:cU (k+1) l=if k=0\/l.length>500 then(0,true) else km (cU k) l 0:=rfl
theorem LV{l:List St}(h:(cU (k+1) l).2=false):l.length<=500/\(cU (k+1) l).1=(km (cU k) l 0).1/\(km (cU k) l 0).2=false/\∀s∈l,(dI 22<|iq s).2=false/\(dI 22<|ir s).2=false/\(cU k<|bF s).2=false/\(cU k<|bB s).2=false:=by
 rw[Z6] at h ⊢;by_cases c:k=0\/l.length>500
 ·rw[if_pos c] at h;cases h
 ·rw[if_neg c] at h ⊢;refine⟨?_,rfl,h,(HE (fun l=>(wQ k l).1) l 0 h).2⟩;by_cases q:l.length<=500
  ·exact q
  ·exact absurd (.inr ab) c
theorem CC:∀(k j:Nat) (l:List St),k<=j->(cU k l).2=false->lh j l=true/\ru j l=true
 |0,_,_,_,h=>by cases h
 |k+1,0,_,hj,_=>by omega
 |k+1,j+1,l,hj,h=>by
  obtain⟨h1,_,_,h4⟩:=LV h;have hl:decide (l.length<=1000000)=true:=decide_eq_true ab;constructor
  ·show(decide (l.length<=1000000)&&l.all fun s=>lh j (bF s)&&lh j (bB s))=true;rw[hl];exact List.all_eq_true.2 fun s hs=>and_true.2 ⟨(CC k j _ ab (h4 s hs).2.2.1).1,(CC k j _ ab (h4 s hs).2.2.2).1⟩
  ·show(decide (l.length<=1000000)&&l.all fun s=>((bF s).isEmpty||ru j (bF s))&&((bB s).isEmpty||ru j (bB s)))=true;rw[hl];exact List.all_eq_true.2 fun s hs=>and_true.2 ⟨by rw[(CC k j _ ab (h4 s hs).2.2.1).2,Bool.or_true],by rw[(CC k j _ ab (h4 s hs).2.2.2).2,Bool.or_true]⟩
theorem TS{k j:Nat}(he:∀l n1 n2,(cU j l).2=false->0<=n1/\n1+(cU j l).1<=1000000000->0<=n2/\n2+(cU j l).1<=1000000000->∃m1 m2,fD (oQ 60) k l (.int .i64 n1) (.int .i64 n2)=some ⟨true,.int .i64 m1,.int .i64 m2,none⟩/\(n1<=m1/\m1<=n1+(cU j l).1)/\n2<=m2/\m2<=n2+(cU j l).1):
 ∀(r:List St) (m n1 n2:Int),(km (cU j) r m).2=false->0<=m->m<=3000->0<=n1->0<=n2->n1+((km (cU j) r m).1 - m)<=1000000000->n2+((km (cU j) r m).1 - m)<=1000000000->∃m1 m2,kL (fD (oQ 60) k) (oQ 60) r (.int .i64 n1) (.int .i64 n2)=some ⟨true,.int .i64 m1,.int .i64 m2,none⟩/\(n1<=m1/\m1<=n1+((km (cU j) r m).1 - m))/\n2<=m2/\m2<=n2+((km (cU j) r m).1 - m)
 |[],m,n1,n2,_,_,_,_,_,_,_=>⟨n1,n2,rfl,by show n1<=n1/\n1<=n1+(m - m);omega,by show n2<=n2/\n2<=n2+(m - m);omega⟩
 |t::r,m,n1,n2,h,hm,cQ,h1,h2,h3,h4=>by
  unfold km at h h3 h4 ⊢;have a1:=uC 22<|iq t;have a2:=uC 22<|ir t;have a3:=wQ j<|bF t;have a4:=wQ j<|bB t;by_cases c1:(dI 22<|iq t).2=true\/(dI 22<|ir t).2=true\/(cU j<|bF t).2=true\/(cU j<|bB t).2=true
  ·rw[if_pos c1] at h;cases h
  ·rw[if_neg c1] at h h3 h4 ⊢;by_cases c2:m+1+(dI 22<|iq t).1+(dI 22<|ir t).1+(cU j<|bF t).1+(cU j<|bB t).1>3000
   ·rw[if_pos c2] at h;cases h
   ·rw[if_neg c2] at h h3 h4 ⊢;have g:=(HE (fun l=>(wQ j l).1) r _ h).1;obtain⟨d1,e1⟩:=Hv 22 60 (iq t) ab<|Bool.eq_false_iff.2 fun q=>c1<|.inl q;obtain⟨d2,e2⟩:=Hv 22 60 (ir t) ab<|Bool.eq_false_iff.2 fun q=>c1<|.inr<|.inl q;have z1:0<=mj 60 (iq t)/\mj 60 (iq t)<=(dI 22<|iq t).1:=by have:=EX 60 (iq t) d1;unfold mj;split<;>omega
    have z2:0<=mj 60 (ir t)/\mj 60 (ir t)<=(dI 22<|ir t).1:=by have:=EX 60 (ir t) d2;unfold mj;split<;>omega
    have hc:OZ 60 t n1 n2:=⟨by omega,by omega,d1,d2,by rw[e1];omega,by rw[e2];omega⟩;have hr:oQ 60 t (.int .i64 n1) (.int .i64 n2)=some ⟨true,.int .i64<|n1+1,.int .i64<|n2+(mj 60 (iq t)+mj 60 (ir t)),none⟩:=if_pos hc;obtain⟨p1,p2,q1,q2,q3⟩:=he (bF t) (n1+1) (n2+(mj 60 (iq t)+mj 60 (ir t))) (Bool.eq_false_iff.2 fun q=>c1<|.inr<|.inr<|.inl q) ab ab;obtain⟨u1,u2,w1,w2,w3⟩:=he (bB t) p1 p2 (Bool.eq_false_iff.2 fun q=>c1<|.inr<|.inr<|.inr q) ab ab;obtain⟨y1,y2,x1,x2,x3⟩:=TS he r _ u1 u2 h ab ab ab ab ab ab;refine⟨y1,y2,?_,by omega,by omega⟩;unfold kL;rw[hr];simp only[q1,w1];exact x1
theorem R5:∀(k j:Nat) (l:List St) (n1 n2:Int),j<=k->(cU j l).2=false->0<=n1/\n1+(cU j l).1<=1000000000->0<=n2/\n2+(cU j l).1<=1000000000->∃m1 m2,fD (oQ 60) k l (.int .i64 n1) (.int .i64 n2)=some ⟨true,.int .i64 m1,.int .i64 m2,none⟩/\(n1<=m1/\m1<=n1+(cU j l).1)/\n2<=m2/\m2<=n2+(cU j l).1
 |_,0,_,_,_,_,h,_,_=>by cases h
 |0,j+1,_,_,_,hj,_,_,_=>by omega
 |k+1,j+1,l,n1,n2,hj,h,h1,h2=>by obtain⟨g1,g2,g3,_⟩:=LV h;rw[g2] at h1 h2 ⊢;have g4:=(HE (fun l=>(wQ j l).1) l 0 g3).1;obtain⟨m1,m2,e,a,b⟩:=TS (k:=k) (fun l n1 n2 x y z=>R5 k j l n1 n2 ab x y z) l 0 n1 n2 g3 ab ab h1.1 h2.1 ab ab;refine⟨m1,m2,?_,by omega,by omega⟩;unfold fD;rw[show decide (l.length<=1000000)=true from decide_eq_true ab];exact e
def rB:Nat->List St->Prop
 |0,_=>True
 |k+1,l=>∀s∈l,(0<=fB s/\fB s<256)/\rB k (bF s)/\rB k (bB s)
theorem Nm:∀{k:Nat} {l:List St},rB k l->GC k l
 |0,_,_=>trivial
 |k+1,l,h=>fun s hs=>⟨(h s hs).1.1,Nm (h s hs).2.1,Nm (h s hs).2.2⟩
theorem TU{k:Nat}{n:Int}(he:∀l,lh k l=true->rB k l->∃p,fD gu k l (.int .i64 n) (.bool false)=some p):∀r:List St,(∀s∈r,(lh k (bF s)=true/\lh k (bB s)=true)/\(0<=fB s/\fB s<256)/\rB k (bF s)/\rB k (bB s))->∃p,kL (fD gu k) gu r (.int .i64 n) (.bool false)=some p
 |[],_=>⟨_,rfl⟩
 |t::r,h=>by
  obtain⟨⟨d1,d2⟩,k1,k2,k3⟩:=h t List.mem_cons_self;unfold kL;have e1:gu t (.int .i64 n) (.bool false)=some (if mF t n=true then pY n else pN n):=by
   show(if 0<=fB t/\fB t<256 then(match mF t n with
    |true=>some (⟨true,.int .i64 n,.bool false,none⟩:fw)
    |false=>some ⟨false,.int .i64 n,.bool false,some .ret⟩) else none)=_
   rw[if_pos k1];cases mF t n<;>rfl
  rw[e1];cases hs:mF t n with
  |false=>exact⟨_,rfl⟩
  |true=>
   rw[if_pos rfl];show ∃p,(match fD gu k (bF t) (.int .i64 n) (.bool false) with
    |none=>none
    |some q=>match q.ret with
     |false=>some q
     |true=>match fD gu k (bB t) q.v1 q.v2 with
      |none=>none
      |some u=>match u.ret with
       |false=>some u
       |true=>kL (fD gu k) gu r u.v1 u.v2)=some p
   obtain⟨q1,w1⟩:=he _ d1 k2;rw[w1];rcases Aq k _ _ w1 with rfl|rfl
   ·show ∃p,(match fD gu k (bB t) (.int .i64 n) (.bool false) with
     |none=>none
     |some u=>match u.ret with
      |false=>some u
      |true=>kL (fD gu k) gu r u.v1 u.v2)=some p
    obtain⟨q2,w2⟩:=he _ d2 k3;rw[w2];rcases Aq k _ _ w2 with rfl|rfl
    ·exact TU he r fun s hs=>h s<|List.mem_cons_of_mem _ hs
    ·exact⟨_,rfl⟩
   ·exact⟨_,rfl⟩
theorem R6{n:Int}:∀(k:Nat) (l:List St),lh k l=true->rB k l->∃p,fD gu k l (.int .i64 n) (.bool false)=some p
 |0,_,h,_=>by cases h
 |k+1,l,hd,hk=>by obtain⟨c1,c2⟩:=and_true.1 (show(decide (l.length<=1000000)&&l.all fun s=>lh k (bF s)&&lh k (bB s))=true from hd);unfold fD;rw[c1];exact TU (R6 k) l fun s hs=>⟨and_true.1<|List.all_eq_true.1 c2 s hs,hk s hs⟩
theorem Z7{s:St}{n:Int}(h:mF s n=true):oS 6 (iq s)=true/\oS 6 (ir s)=true:=by
 obtain⟨kind,to,a,b,bd,el⟩:=s;have h:z8 (pQ kind) to a b bd el n=true:=h;have fit:∀(q:Bool) (e:Ex),tS q e n=true->oS 6 e=true:=fun q e h=>by
  cases q with
  |true=>have h:(eM 6 e&&rh 6 e n)=true:=h;exact Oa (and_true.1 h).1
  |false=>have h:decide (DD e)=true:=h;have h:=of_decide_eq_true h;obtain⟨op,m,l⟩:=e;have hl:l=[]:=List.length_eq_zero_iff.1 h.2.2;subst hl;show(eM 6 (.mk op m [])||true)=true;rw[Bool.or_true]
 unfold z8 at h;split at h
 ·obtain⟨_,h⟩:=and_true.1 h;obtain⟨_,h⟩:=and_true.1 h;obtain⟨_,h⟩:=and_true.1 h;obtain⟨h1,h⟩:=and_true.1 h;obtain⟨h2,_⟩:=and_true.1 h;exact⟨fit _ _ h1,fit _ _ h2⟩
 ·cases h
theorem NS{n:Int}:∀(k j i:Nat) (l:List St),k<=j->(cU k l).2=false->zJ i n l->k<=i->qq j l=true
 |0,_,_,_,_,h,_,_=>by cases h
 |k+1,0,_,_,hj,_,_,_=>by omega
 |k+1,j+1,0,_,_,_,h,_=>by cases h
 |k+1,j+1,i+1,l,hj,h,ha,hi=>by obtain⟨h1,_,_,h4⟩:=LV h;show(decide (l.length<=10000)&&l.all fun s=>oS 6 (iq s)&&(oS 6 (ir s)&&(qq j (bF s)&&qq j (bB s))))=true;rw[decide_eq_true (show l.length<=10000 by omega)];refine List.all_eq_true.2 fun s hs=>?_;obtain⟨a1,a2,a3⟩:=ha s hs;obtain⟨w1,w2⟩:=Z7 a1;rw[w1,w2,NS k j i _ ab (h4 s hs).2.2.1 a2 ab,NS k j i _ ab (h4 s hs).2.2.2 a3 ab];rfl
theorem acx{tx:List St}{n:Nat}(h:(cU 22 tx).2=false)(hk:rB 60 tx):∃b,xT tx (n:Int) b/\(b=true->qq 60 tx=true/\ma 6 tx):=by obtain⟨d1,d2⟩:=CC 22 60 tx ab h;have iK:=wQ 22 tx;obtain⟨m1,m2,e1,_,_⟩:=R5 60 22 tx 0 0 ab h ab ab;obtain⟨p,e2⟩:=R6 (n:=(n:Int)) 60 tx d1 hk;have hm:xT tx (n:Int)<|decide (0<=(n:Int)/\(n:Int)<6/\fc 60 tx<=6/\fK 60 tx<=2000)&&(p.ret&&decide (m1<=40/\m2<=300)):=⟨m1,m2,p,e1,e2,rfl⟩;refine⟨_,hm,fun hb=>?_⟩;have hp:p.ret=true:=(and_true.1 (and_true.1 hb).2).1;refine⟨NS 22 60 60 tx ab h (AE 60 tx p e2 hp) ab,?_⟩;rw[hb] at hm;exact afL hm d1<|Nm hk
end DL
end
section
open Go Go.Rn Go.RowKit Go.Proofs
namespace GF
open cq gw eH gU Bu qF qE tF eX cz dj cO cT fm eR fM fO fU gh fV gi gO gP gZ hU iH iX jI jJ fx gY Bs lD lU kF my lV pC pE rL rM z6 F7 xy GB G2 zK By
variable {tl T xl gl X G nt f:Nat} {B:aJ} {ns tq seen nv mo i xn an xq s kq x ra c:Int} {uh um us eG dh:AV} {t:Tr AV} {K:List Item}
noncomputable section
def tg(args:List AV)(v:AV):Prop:=args=[]/\v= .bool true
theorem tg.bT(args:List AV)(v v':AV)(h:tg args v)(h':tg args v'):v=v':=by rw[h.2,h'.2]
def Vt:FuncId×KE:=(5,.val<|aU tg)
abbrev LL:bY:=[vp 22,Vt,Wb,Wa,Ur,ji 60,TP,UL,SZ,UM,UN,Vq,S0,Vp,V9,WX,VM,WA]
def yq(i mo:Int)(T tl:Nat):List<|Nat×AV:=[(1,(.U T 0 tl)),(9,(.ptr<|some (270,0))),(11,(.ptr<|some (273,0))),(13,(i6 mo)),(14,(i6 i))]
def oe(i mo:Int)(T tl:Nat):AF:=⟨3,aS<|yq i mo T tl,(max Tryz.f3.ntmps 5),[.code<|a9 pg 3 [1,1,1,1,1,1,0,1,0,0],.inLoop<|a9 pg 3 [1,1,1,1,1,1,0,1,0,0],.inBlock 0,.code<|a9 pg 3 [1,1,1,1,1,1,1]],[],none⟩
def Cp(uh um us:AV)(w seen tq nv ns:Int):List<|Nat×Option ae:=[(270,(some<|.tok 2 uh)),(271,(some<|.tok 4 um)),(272,(some<|.tok 1 us)),(273,some<|.cells 8 (Tr.fill [i0,(i6 tq),(i6 nv),(i6 ns),(u8<|w),(.ptr<|some (271,0)),(.ptr<|some (272,0)),(i6 seen)] 0 .nil) [])]
def X5(uh um us:AV)(w seen tq nv ns:Int):List<|Nat×Option ae:=[(270,(some<|.tok 2 uh)),(271,(some<|.tok 4 um)),(273,some<|.cells 8 (Tr.fill [i0,(i6 tq),(i6 nv),(i6 ns),(u8<|w),(.ptr<|some (271,0)),(.ptr<|some (277,0)),(i6 seen)] 0 .nil) []),(277,(some<|.tok 1 us))]
abbrev yr(B:aJ)(fr:AF)(s:AS):Prop:=au pg B 270 (Fin pg (az Tryz.f3) fun y _=>y= .bool true) fr s
abbrev EC(uh um us:AV)(w seen tq nv ns:Int):AS:=aq (ar++Cp uh um us w seen tq nv ns) 274
abbrev iO(B:aJ)(uh um us:AV)(w seen tq nv ns i mo:Int)(T tl:Nat):Prop:=yr B (oe i mo T tl)<|EC uh um us w seen tq nv ns
abbrev tG(n:Nat):AS->AS:=W0 270 dV eK n
abbrev tQ(k n:Nat)(u:AV):AS->Prop:=WZ 270 dV eK k n u
theorem tR{T:Prop}(L:bY)(g k n:Nat)(val:AV->List AV->Option AV)(rest:List AV)(v y:AV)(hv:val v rest=some y)(t:T)(h1:sp L g=some (lW k val 270 eK dV):=by as_aux_lemma=>kernel_rfl)(h2:(rest.all AV.hi&&Nat.ble 270 n)=true:=by as_aux_lemma=>kernel_rfl)(h3:Nat.blt n top=true:=by as_aux_lemma=>kernel_rfl)(h4:y.hi=true:=by as_aux_lemma=>kernel_rfl):
 (∀s,tQ k n v s->bg pg (sp L) FU 6 (.fn g) (.ptr (some (n,0))::rest) s= .ok y (tG n s))/\(true=true/\true=true/\some (ae.tok k v)=some (.tok k v))/\T:=
 ⟨aea (P:=pg) (F:=FU) (m:=5) h1 h2 h3 hv h4,⟨rfl,rfl,rfl⟩,t⟩
theorem pT(mc:Mt LL B){s:AS}{FR:AF}{S1:AS}(H:yr B FR S1)(p:Pl){T:Prop}(x:T)(h:T=wp (en LL) 900 6 (.fr f nt K t s) p (az Tryz.f3) (fun v s _=>v= .bool true) (fun fr s1 _=>fr=FR/\s1=S1):=by as_aux_lemma=>kernel_rfl)(h0:Nat.ble 270 s.nx=true:=by as_aux_lemma=>kernel_rfl):yr B ⟨f,t,nt,K,[],none⟩ s:=wC mc (C:=fun fr s1 _=>fr=FR/\s1=S1) np p x h h0
theorem EE(mc:Mt LL B){s:AS}(p:Pl){T:Prop}(x:T)(h:T=wp (en LL) 900 6 (.fr f nt K t s) p (az Tryz.f3) (fun v s _=>v= .bool true) (fun _ _ _=>False):=by as_aux_lemma=>kernel_rfl)(h0:Nat.ble 270 s.nx=true:=by as_aux_lemma=>kernel_rfl):yr B ⟨f,t,nt,K,[],none⟩ s:=mh (E:=en LL) eY rfl bV mc.2.2.1 mc.2.2.2 900 p x h h0
abbrev wj(uh um us:AV)(w seen tq nv ns i mo:Int)(T tl bQ:Nat):Pl:=.rn (yq i mo T tl) (ar++Cp uh um us w seen tq nv ns) (yq i mo T tl) (ar++Cp uh um us w seen tq nv ns) bQ 274 .no
abbrev Lf(uh um us:AV)(w seen tq nv ns i mo:Int)(T tl bQ:Nat):Pl:=.rn (yq i mo T tl) (ar++X5 uh um us w seen tq nv ns) (yq i mo T tl) (ar++Cp uh um us w seen tq nv ns) bQ 274 .no
abbrev X6(o0:List<|Nat×Option ae)(uh um us:AV)(w seen tq nv ns i mo:Int)(T tl bQ:Nat)(f:Int->Int->Nat->Nat->AF):Prop:=((yq i mo T tl).map (fun q=>some q.2)=(yq i mo T tl).map (fun q=>some q.2))/\((ar++o0).map (fun q=>q.2)=(ar++o0).map (fun q=>q.2))/\jF FU 270 bQ (yq i mo T tl) (ar++o0) (yq i mo T tl) (ar++Cp uh um us w seen tq nv ns) 274/\(f i mo T tl=f i mo T tl/\EC uh um us w seen tq nv ns=EC uh um us w seen tq nv ns)
theorem wk(f:Int->Int->Nat->Nat->AF)(uh um us:AV)(w seen tq nv ns i mo:Int)(bQ:Nat)(hT:(AV.U T 0 tl).bZ=true)(h:wc [(270,270),(271,271),(272,272),(273,273)] 270 bQ 274 [270,271,272,273]=true:=by as_aux_lemma=>kernel_rfl):X6 (Cp uh um us w seen tq nv ns) uh um us w seen tq nv ns i mo T tl bQ f:=⟨rfl,rfl,Bv (ps:=[(270,270),(271,271),(272,272),(273,273)]) (lo:=270) (bQ:=bQ) ab h cN (fun r hr ht=>⟨⟨by unfold top;omega,_,(mi 0),((FH ht Pv)).z⟩,⟨⟨by unfold top;omega,_,(mi 1),((bR.ptr<|rq hr)).z⟩,⟨⟨by unfold top;omega,_,(mi 2),((bR.ptr<|rq hr)).z⟩,⟨⟨by unfold top;omega,_,(mi 3),vi⟩,⟨⟨by unfold top;omega,_,(mi 4),vi⟩,trivial⟩⟩⟩⟩⟩) fun r hr ht=>⟨kP (mi 0) (rq hr) (iv.refl _) yM,⟨kP (mi 1) (rq hr) (iv.refl _) yM,⟨kP (mi 2) (rq hr) (iv.refl _) yM,⟨kP (mi 3) (rq hr) qX<|Jl (l:=[i0,(i6 tq),(i6 nv),(i6 ns),(u8<|w),(.ptr<|some (271,0)),(.ptr<|some (272,0)),(i6 seen)]) (m:=[i0,(i6 tq),(i6 nv),(i6 ns),(u8<|w),(.ptr<|some (271,0)),(.ptr<|some (272,0)),(i6 seen)]) ⟨vi,⟨vi,⟨vi,⟨vi,⟨vi,⟨((bR.ptr<|rq hr)).z,⟨((bR.ptr<|rq hr)).z,⟨vi,trivial⟩⟩⟩⟩⟩⟩⟩⟩,trivial⟩⟩⟩⟩,rfl,rfl⟩
theorem Lg(f:Int->Int->Nat->Nat->AF)(uh um us:AV)(w seen tq nv ns i mo:Int)(bQ:Nat)(hT:(AV.U T 0 tl).bZ=true)(h:wc [(270,270),(271,271),(272,277),(273,273)] 270 bQ 274 [270,271,272,273]=true:=by as_aux_lemma=>kernel_rfl):X6 (X5 uh um us w seen tq nv ns) uh um us w seen tq nv ns i mo T tl bQ f:=⟨rfl,rfl,Bv (ps:=[(270,270),(271,271),(272,277),(273,273)]) (lo:=270) (bQ:=bQ) ab h cN (fun r hr ht=>⟨⟨by unfold top;omega,_,(mi 0),((FH ht Pv)).z⟩,⟨⟨by unfold top;omega,_,(mi 1),((bR.ptr<|rq hr)).z⟩,⟨⟨by unfold top;omega,_,(mi 2),((bR.ptr<|rq hr)).z⟩,⟨⟨by unfold top;omega,_,(mi 3),vi⟩,⟨⟨by unfold top;omega,_,(mi 4),vi⟩,trivial⟩⟩⟩⟩⟩) fun r hr ht=>⟨kP (mi 0) (rq hr) (iv.refl _) yM,⟨kP (mi 1) (rq hr) (iv.refl _) yM,⟨kP (mi 3) (rq hr) (iv.refl _) yM,⟨kP (mi 2) (rq hr) qX<|Jl (l:=[i0,(i6 tq),(i6 nv),(i6 ns),(u8<|w),(.ptr<|some (271,0)),(.ptr<|some (277,0)),(i6 seen)]) (m:=[i0,(i6 tq),(i6 nv),(i6 ns),(u8<|w),(.ptr<|some (271,0)),(.ptr<|some (272,0)),(i6 seen)]) ⟨vi,⟨vi,⟨vi,⟨vi,⟨vi,⟨((bR.ptr<|rq hr)).z,⟨((bR.ptr<|rq hr)).z,⟨vi,trivial⟩⟩⟩⟩⟩⟩⟩⟩,trivial⟩⟩⟩⟩,rfl,rfl⟩
theorem aiW{w:Int}(mc:Mt LL B)(hT:(AV.U T 0 tl).bZ=true)(h0:0<=i)(hl:i<=mo)(hm:mo<=5000):iO B uh um us 5 seen tq nv ns i mo T tl:=by exact EE mc (.st 2<|.rg<|.go 2<|.fk (.en<|.st 5<|.rg<|.go 1<|.il<|.rt 10<|.go 1<|.en<|.rt 7 .no)<|.no)<|ax (i<=mo) (fun _=>(show((.bool true):AV)= .bool true from rfl)) bh
theorem aiX{w:Int}(mc:Mt LL B)(hT:(AV.U T 0 tl).bZ=true)(h0:0<=i)(hl:i<=mo)(hm:mo<=5000):iO B uh um us 6 seen tq nv ns i mo T tl:=by exact EE mc (.st 2<|.rg<|.go 2<|.fk (.en<|.st 5<|.rg<|.go 1<|.il<|.rt 10<|.go 1<|.en<|.rt 7 .no)<|.no)<|ax (i<=mo) (fun _=>(show((.bool true):AV)= .bool true from rfl)) bh
noncomputable abbrev xC(an xn:Int):AV:=.agg [(u8<|.ofNat 1),(i6 an),(i6 xn)]
theorem aiY{w:Int}(mc:Mt LL B)(hT:(AV.U T 0 tl).bZ=true)(h0:0<=i)(hl:i<=mo)(hm:mo<=5000)(k0:aR aC iF uh []=some (i6 nv))(k1:aR aC iC uh []=some (i6 ns))(k2:aR aC ou uh []=some (i6 c))(k3:kj wM [(i6 c),(i6 ns)]=some (some eG,fun p=>.tuple [p,.int .i64 0]))(k4:aR bU (fun a rest=>(eT a rest).map (·.1)) um []=some (xC an xn))(H:iO B uh um eG 2 seen tq nv ns (i+1) mo T tl):iO B uh um us 1 seen tq nv ns i mo T tl:=by exact pT mc H (.st 2<|.rg<|.go 2<|.fk (.en<|.st 5<|.rg<|.go 1<|.il<|.rt 10<|.go 1<|.en<|.st 6<|.rg<|.go 2<|.il<|.st 11<|.rg<|.go 1<|.cg (i6 nv) (tG 270) (tQ 2 270 uh)<|.go 4<|.fk (.no)<|.go 2<|.cg (i6 ns) (tG 270) (tQ 2 270 uh)<|.go 4<|.fk (.no)<|.go 2<|.en<|.st 6<|.rg<|.go 8<|.il<|.st 4<|.rg<|.go 1<|.cg (i6 c) (tG 270) (tQ 2 270 uh)<|.go 4<|.nt (some eG) (fun p=>.tuple [p,.int .i64 0])<|.go 5<|.en<|.st 5<|.rg<|.go 1<|.il<|.rg<|.go 6<|.cg (xC an xn) (tG 271) (tQ 4 271 um)<|.go 5<|.en<|.rt 1<|.en<|.st 1<|.rg<|.go 6<|.cg (i6 c) (tG 270) (tQ 2 270 uh)<|.go 1<|.il<|.rt 7<|.go 4<|.en<|.rt 1<|.go 5<|.en<|.rt 3<|.go 8<|.en<|.st 5<|.rg<|.go 1<|.vl (i6<|i+1)<|.go 1<|.en<|.st 1<|(Lf uh um eG 2 seen tq nv ns (i+1) mo T tl 281))<|.no)<|ax (i<=mo) (fun _=>(tR LL 21 2 270 (aR aC iF) [] uh (i6 nv) k0<|ax (nv≠nv) bh fun _=>(tR LL 22 2 270 (aR aC iC) [] uh (i6 ns) k1<|ax (ns≠ns) bh fun _=>(tR LL 38 2 270 (aR aC ou) [] uh (i6 c) k2<|ai k3<|tR LL 28 4 271 (aR bU fun a rest=>(eT a rest).map (·.1)) [] um (xC an xn) k4<|tR LL 38 2 270 (aR aC ou) [] uh (i6 c) k2<|ai (wI<|i+1)<|Lg oe uh um eG 2 seen tq nv ns (i+1) mo 281 hT)))) bh
theorem aiZ{w:Int}(mc:Mt LL B)(hT:(AV.U T 0 tl).bZ=true)(h0:0<=i)(hl:i<=mo)(hm:mo<=5000)(k0:aR aC iF uh []=some (i6 nv))(k1:aR aC iC uh []=some (i6 ns))(k2:fj (dX bU xw) um []=some (i0,dh))(k3:aR bU (fun a rest=>(eT a rest).map (·.1)) dh []=some (xC an xn))(H:iO B uh dh us 2 seen tq nv ns (i+1) mo T tl):iO B uh um us 2 seen tq nv ns i mo T tl:=by exact pT mc H (.st 2<|.rg<|.go 2<|.fk (.en<|.st 5<|.rg<|.go 1<|.il<|.rt 10<|.go 1<|.en<|.st 6<|.rg<|.go 2<|.il<|.st 11<|.rg<|.go 1<|.cg (i6 nv) (tG 270) (tQ 2 270 uh)<|.go 4<|.fk (.no)<|.go 2<|.cg (i6 ns) (tG 270) (tQ 2 270 uh)<|.go 4<|.fk (.no)<|.go 2<|.en<|.st 6<|.rg<|.go 8<|.il<|.st 3<|.rg<|.go 4<|.kt i0 dh<|.en<|.st 1<|.rg<|.go 1<|.il<|.rg<|.go 6<|.cg (xC an xn) (tG 271) (tQ 4 271 dh)<|.go 5<|.en<|.rt 1<|.en<|.rt 3<|.go 5<|.en<|.rt 3<|.go 8<|.en<|.st 5<|.rg<|.go 1<|.vl (i6<|i+1)<|.go 1<|.en<|.st 1<|(wj uh dh us 2 seen tq nv ns (i+1) mo T tl 278))<|.no)<|ax (i<=mo) (fun _=>(tR LL 21 2 270 (aR aC iF) [] uh (i6 nv) k0<|ax (nv≠nv) bh fun _=>(tR LL 22 2 270 (aR aC iC) [] uh (i6 ns) k1<|ax (ns≠ns) bh fun _=>(ai k2<|tR LL 28 4 271 (aR bU fun a rest=>(eT a rest).map (·.1)) [] dh (xC an xn) k3<|ai (wI<|i+1)<|wk oe uh dh us 2 seen tq nv ns (i+1) mo 278 hT)))) bh
noncomputable abbrev xD(an xn:Int):AV:=.agg [(u8<|.ofNat 2),(i6 an),(i6 xn)]
theorem ai0{w:Int}(mc:Mt LL B)(hT:(AV.U T 0 tl).bZ=true)(h0:0<=i)(hl:i<=mo)(hm:mo<=5000)(k0:aR aC iF uh []=some (i6 nv))(k1:aR aC iC uh []=some (i6 ns))(k2:aR aC ou uh []=some (i6 c))(k3:kj wM [(i6 c),(i6 ns)]=some (some eG,fun p=>.tuple [p,.int .i64 0]))(k4:aR bU (fun a rest=>(eT a rest).map (·.1)) um []=some (xD an xn))(H:iO B uh um eG 3 seen tq nv ns (i+1) mo T tl):iO B uh um us 1 seen tq nv ns i mo T tl:=by exact pT mc H (.st 2<|.rg<|.go 2<|.fk (.en<|.st 5<|.rg<|.go 1<|.il<|.rt 10<|.go 1<|.en<|.st 6<|.rg<|.go 2<|.il<|.st 11<|.rg<|.go 1<|.cg (i6 nv) (tG 270) (tQ 2 270 uh)<|.go 4<|.fk (.no)<|.go 2<|.cg (i6 ns) (tG 270) (tQ 2 270 uh)<|.go 4<|.fk (.no)<|.go 2<|.en<|.st 6<|.rg<|.go 8<|.il<|.st 4<|.rg<|.go 1<|.cg (i6 c) (tG 270) (tQ 2 270 uh)<|.go 4<|.nt (some eG) (fun p=>.tuple [p,.int .i64 0])<|.go 5<|.en<|.st 5<|.rg<|.go 1<|.il<|.rg<|.go 6<|.cg (xD an xn) (tG 271) (tQ 4 271 um)<|.go 5<|.en<|.rt 1<|.en<|.st 1<|.rg<|.go 6<|.cg (i6 c) (tG 270) (tQ 2 270 uh)<|.go 1<|.il<|.rt 7<|.go 4<|.en<|.rt 1<|.go 5<|.en<|.rt 3<|.go 8<|.en<|.st 5<|.rg<|.go 1<|.vl (i6<|i+1)<|.go 1<|.en<|.st 1<|(Lf uh um eG 3 seen tq nv ns (i+1) mo T tl 281))<|.no)<|ax (i<=mo) (fun _=>(tR LL 21 2 270 (aR aC iF) [] uh (i6 nv) k0<|ax (nv≠nv) bh fun _=>(tR LL 22 2 270 (aR aC iC) [] uh (i6 ns) k1<|ax (ns≠ns) bh fun _=>(tR LL 38 2 270 (aR aC ou) [] uh (i6 c) k2<|ai k3<|tR LL 28 4 271 (aR bU fun a rest=>(eT a rest).map (·.1)) [] um (xD an xn) k4<|tR LL 38 2 270 (aR aC ou) [] uh (i6 c) k2<|ai (wI<|i+1)<|Lg oe uh um eG 3 seen tq nv ns (i+1) mo 281 hT)))) bh
theorem ai1{w:Int}(mc:Mt LL B)(hT:(AV.U T 0 tl).bZ=true)(h0:0<=i)(hl:i<=mo)(hm:mo<=5000)(k0:aR aC iF uh []=some (i6 nv))(k1:aR aC iC uh []=some (i6 ns))(k2:fj (dX bU xw) um []=some (i0,dh))(k3:aR bU (fun a rest=>(eT a rest).map (·.1)) dh []=some (xD an xn))(H:iO B uh dh us 3 seen tq nv ns (i+1) mo T tl):iO B uh um us 2 seen tq nv ns i mo T tl:=by exact pT mc H (.st 2<|.rg<|.go 2<|.fk (.en<|.st 5<|.rg<|.go 1<|.il<|.rt 10<|.go 1<|.en<|.st 6<|.rg<|.go 2<|.il<|.st 11<|.rg<|.go 1<|.cg (i6 nv) (tG 270) (tQ 2 270 uh)<|.go 4<|.fk (.no)<|.go 2<|.cg (i6 ns) (tG 270) (tQ 2 270 uh)<|.go 4<|.fk (.no)<|.go 2<|.en<|.st 6<|.rg<|.go 8<|.il<|.st 3<|.rg<|.go 4<|.kt i0 dh<|.en<|.st 1<|.rg<|.go 1<|.il<|.rg<|.go 6<|.cg (xD an xn) (tG 271) (tQ 4 271 dh)<|.go 5<|.en<|.rt 1<|.en<|.rt 3<|.go 5<|.en<|.rt 3<|.go 8<|.en<|.st 5<|.rg<|.go 1<|.vl (i6<|i+1)<|.go 1<|.en<|.st 1<|(wj uh dh us 3 seen tq nv ns (i+1) mo T tl 278))<|.no)<|ax (i<=mo) (fun _=>(tR LL 21 2 270 (aR aC iF) [] uh (i6 nv) k0<|ax (nv≠nv) bh fun _=>(tR LL 22 2 270 (aR aC iC) [] uh (i6 ns) k1<|ax (ns≠ns) bh fun _=>(ai k2<|tR LL 28 4 271 (aR bU fun a rest=>(eT a rest).map (·.1)) [] dh (xD an xn) k3<|ai (wI<|i+1)<|wk oe uh dh us 3 seen tq nv ns (i+1) mo 278 hT)))) bh
noncomputable abbrev xE(an xn:Int):AV:=.agg [(u8<|.ofNat 3),(i6 an),(i6 xn)]
theorem ai2{w:Int}(mc:Mt LL B)(hT:(AV.U T 0 tl).bZ=true)(h0:0<=i)(hl:i<=mo)(hm:mo<=5000)(k0:aR aC iF uh []=some (i6 nv))(k1:aR aC iC uh []=some (i6 ns))(k2:aR aC ou uh []=some (i6 c))(k3:kj wM [(i6 c),(i6 ns)]=some (some eG,fun p=>.tuple [p,.int .i64 0]))(k4:aR bU (fun a rest=>(eT a rest).map (·.1)) um []=some (xE an xn))(H:iO B uh um eG 5 seen tq nv ns (i+1) mo T tl):iO B uh um us 1 seen tq nv ns i mo T tl:=by exact pT mc H (.st 2<|.rg<|.go 2<|.fk (.en<|.st 5<|.rg<|.go 1<|.il<|.rt 10<|.go 1<|.en<|.st 6<|.rg<|.go 2<|.il<|.st 11<|.rg<|.go 1<|.cg (i6 nv) (tG 270) (tQ 2 270 uh)<|.go 4<|.fk (.no)<|.go 2<|.cg (i6 ns) (tG 270) (tQ 2 270 uh)<|.go 4<|.fk (.no)<|.go 2<|.en<|.st 6<|.rg<|.go 8<|.il<|.st 4<|.rg<|.go 1<|.cg (i6 c) (tG 270) (tQ 2 270 uh)<|.go 4<|.nt (some eG) (fun p=>.tuple [p,.int .i64 0])<|.go 5<|.en<|.st 5<|.rg<|.go 1<|.il<|.rg<|.go 6<|.cg (xE an xn) (tG 271) (tQ 4 271 um)<|.go 5<|.en<|.rt 1<|.en<|.st 1<|.rg<|.go 6<|.cg (i6 c) (tG 270) (tQ 2 270 uh)<|.go 1<|.il<|.rt 7<|.go 4<|.en<|.rt 1<|.go 5<|.en<|.rt 3<|.go 8<|.en<|.st 5<|.rg<|.go 1<|.vl (i6<|i+1)<|.go 1<|.en<|.st 1<|(Lf uh um eG 5 seen tq nv ns (i+1) mo T tl 281))<|.no)<|ax (i<=mo) (fun _=>(tR LL 21 2 270 (aR aC iF) [] uh (i6 nv) k0<|ax (nv≠nv) bh fun _=>(tR LL 22 2 270 (aR aC iC) [] uh (i6 ns) k1<|ax (ns≠ns) bh fun _=>(tR LL 38 2 270 (aR aC ou) [] uh (i6 c) k2<|ai k3<|tR LL 28 4 271 (aR bU fun a rest=>(eT a rest).map (·.1)) [] um (xE an xn) k4<|tR LL 38 2 270 (aR aC ou) [] uh (i6 c) k2<|ai (wI<|i+1)<|Lg oe uh um eG 5 seen tq nv ns (i+1) mo 281 hT)))) bh
theorem ai3{w:Int}(mc:Mt LL B)(hT:(AV.U T 0 tl).bZ=true)(h0:0<=i)(hl:i<=mo)(hm:mo<=5000)(k0:aR aC iF uh []=some (i6 nv))(k1:aR aC iC uh []=some (i6 ns))(k2:fj (dX bU xw) um []=some (i0,dh))(k3:aR bU (fun a rest=>(eT a rest).map (·.1)) dh []=some (xE an xn))(H:iO B uh dh us 5 seen tq nv ns (i+1) mo T tl):iO B uh um us 2 seen tq nv ns i mo T tl:=by exact pT mc H (.st 2<|.rg<|.go 2<|.fk (.en<|.st 5<|.rg<|.go 1<|.il<|.rt 10<|.go 1<|.en<|.st 6<|.rg<|.go 2<|.il<|.st 11<|.rg<|.go 1<|.cg (i6 nv) (tG 270) (tQ 2 270 uh)<|.go 4<|.fk (.no)<|.go 2<|.cg (i6 ns) (tG 270) (tQ 2 270 uh)<|.go 4<|.fk (.no)<|.go 2<|.en<|.st 6<|.rg<|.go 8<|.il<|.st 3<|.rg<|.go 4<|.kt i0 dh<|.en<|.st 1<|.rg<|.go 1<|.il<|.rg<|.go 6<|.cg (xE an xn) (tG 271) (tQ 4 271 dh)<|.go 5<|.en<|.rt 1<|.en<|.rt 3<|.go 5<|.en<|.rt 3<|.go 8<|.en<|.st 5<|.rg<|.go 1<|.vl (i6<|i+1)<|.go 1<|.en<|.st 1<|(wj uh dh us 5 seen tq nv ns (i+1) mo T tl 278))<|.no)<|ax (i<=mo) (fun _=>(tR LL 21 2 270 (aR aC iF) [] uh (i6 nv) k0<|ax (nv≠nv) bh fun _=>(tR LL 22 2 270 (aR aC iC) [] uh (i6 ns) k1<|ax (ns≠ns) bh fun _=>(ai k2<|tR LL 28 4 271 (aR bU fun a rest=>(eT a rest).map (·.1)) [] dh (xE an xn) k3<|ai (wI<|i+1)<|wk oe uh dh us 5 seen tq nv ns (i+1) mo 278 hT)))) bh
noncomputable abbrev xF(an xn:Int):AV:=.agg [(u8<|.ofNat 4),(i6 an),(i6 xn)]
theorem ai4{w:Int}(mc:Mt LL B)(hT:(AV.U T 0 tl).bZ=true)(h0:0<=i)(hl:i<=mo)(hm:mo<=5000)(k0:aR aC iF uh []=some (i6 nv))(k1:aR aC iC uh []=some (i6 ns))(k2:aR aC ou uh []=some (i6 c))(k3:kj wM [(i6 c),(i6 ns)]=some (some eG,fun p=>.tuple [p,.int .i64 0]))(k4:aR bU (fun a rest=>(eT a rest).map (·.1)) um []=some (xF an xn))(H:iO B uh um eG 6 seen tq nv ns (i+1) mo T tl):iO B uh um us 1 seen tq nv ns i mo T tl:=by exact pT mc H (.st 2<|.rg<|.go 2<|.fk (.en<|.st 5<|.rg<|.go 1<|.il<|.rt 10<|.go 1<|.en<|.st 6<|.rg<|.go 2<|.il<|.st 11<|.rg<|.go 1<|.cg (i6 nv) (tG 270) (tQ 2 270 uh)<|.go 4<|.fk (.no)<|.go 2<|.cg (i6 ns) (tG 270) (tQ 2 270 uh)<|.go 4<|.fk (.no)<|.go 2<|.en<|.st 6<|.rg<|.go 8<|.il<|.st 4<|.rg<|.go 1<|.cg (i6 c) (tG 270) (tQ 2 270 uh)<|.go 4<|.nt (some eG) (fun p=>.tuple [p,.int .i64 0])<|.go 5<|.en<|.st 5<|.rg<|.go 1<|.il<|.rg<|.go 6<|.cg (xF an xn) (tG 271) (tQ 4 271 um)<|.go 5<|.en<|.rt 1<|.en<|.st 1<|.rg<|.go 6<|.cg (i6 c) (tG 270) (tQ 2 270 uh)<|.go 1<|.il<|.rt 7<|.go 4<|.en<|.rt 1<|.go 5<|.en<|.rt 3<|.go 8<|.en<|.st 5<|.rg<|.go 1<|.vl (i6<|i+1)<|.go 1<|.en<|.st 1<|(Lf uh um eG 6 seen tq nv ns (i+1) mo T tl 281))<|.no)<|ax (i<=mo) (fun _=>(tR LL 21 2 270 (aR aC iF) [] uh (i6 nv) k0<|ax (nv≠nv) bh fun _=>(tR LL 22 2 270 (aR aC iC) [] uh (i6 ns) k1<|ax (ns≠ns) bh fun _=>(tR LL 38 2 270 (aR aC ou) [] uh (i6 c) k2<|ai k3<|tR LL 28 4 271 (aR bU fun a rest=>(eT a rest).map (·.1)) [] um (xF an xn) k4<|tR LL 38 2 270 (aR aC ou) [] uh (i6 c) k2<|ai (wI<|i+1)<|Lg oe uh um eG 6 seen tq nv ns (i+1) mo 281 hT)))) bh
theorem ai5{w:Int}(mc:Mt LL B)(hT:(AV.U T 0 tl).bZ=true)(h0:0<=i)(hl:i<=mo)(hm:mo<=5000)(k0:aR aC iF uh []=some (i6 nv))(k1:aR aC iC uh []=some (i6 ns))(k2:fj (dX bU xw) um []=some (i0,dh))(k3:aR bU (fun a rest=>(eT a rest).map (·.1)) dh []=some (xF an xn))(H:iO B uh dh us 6 seen tq nv ns (i+1) mo T tl):iO B uh um us 2 seen tq nv ns i mo T tl:=by exact pT mc H (.st 2<|.rg<|.go 2<|.fk (.en<|.st 5<|.rg<|.go 1<|.il<|.rt 10<|.go 1<|.en<|.st 6<|.rg<|.go 2<|.il<|.st 11<|.rg<|.go 1<|.cg (i6 nv) (tG 270) (tQ 2 270 uh)<|.go 4<|.fk (.no)<|.go 2<|.cg (i6 ns) (tG 270) (tQ 2 270 uh)<|.go 4<|.fk (.no)<|.go 2<|.en<|.st 6<|.rg<|.go 8<|.il<|.st 3<|.rg<|.go 4<|.kt i0 dh<|.en<|.st 1<|.rg<|.go 1<|.il<|.rg<|.go 6<|.cg (xF an xn) (tG 271) (tQ 4 271 dh)<|.go 5<|.en<|.rt 1<|.en<|.rt 3<|.go 5<|.en<|.rt 3<|.go 8<|.en<|.st 5<|.rg<|.go 1<|.vl (i6<|i+1)<|.go 1<|.en<|.st 1<|(wj uh dh us 6 seen tq nv ns (i+1) mo T tl 278))<|.no)<|ax (i<=mo) (fun _=>(tR LL 21 2 270 (aR aC iF) [] uh (i6 nv) k0<|ax (nv≠nv) bh fun _=>(tR LL 22 2 270 (aR aC iC) [] uh (i6 ns) k1<|ax (ns≠ns) bh fun _=>(ai k2<|tR LL 28 4 271 (aR bU fun a rest=>(eT a rest).map (·.1)) [] dh (xF an xn) k3<|ai (wI<|i+1)<|wk oe uh dh us 6 seen tq nv ns (i+1) mo 278 hT)))) bh
theorem stK{w:Int}{ah ow ve:Int}(mc:Mt LL B)(hT:(AV.U T 0 tl).bZ=true)(h0:0<=i)(hl:i<=mo)(hm:mo<=5000)(k0:aR aC iF uh []=some (i6 nv))(k1:aR aC iC uh []=some (i6 ns))(k2:aR bU (fun a rest=>(eT a rest).map (·.1)) um []=some (.agg [(u8<|kq),(i6 ah),(i6 xq)]))(k3:aR aC p7 uh [(i6 ah)]=some (i6 s))(k4:aR aC qh uh [(i6 s)]=some (i6 ow))(k5:aR aC oY uh [(i6 s)]=some (i6 ve))(k6:fj (dX jt JT) us [(i6 ow),(i6 ve)]=some ((u8<|.ofNat 0),us))(H:iO B uh um us 4 ve tq nv ns (i+1) mo T tl):iO B uh um us 3 seen tq nv ns i mo T tl:=by exact pT mc H (.st 2<|.rg<|.go 2<|.fk (.en<|.st 5<|.rg<|.go 1<|.il<|.rt 10<|.go 1<|.en<|.st 6<|.rg<|.go 2<|.il<|.st 11<|.rg<|.go 1<|.cg (i6 nv) (tG 270) (tQ 2 270 uh)<|.go 4<|.fk (.no)<|.go 2<|.cg (i6 ns) (tG 270) (tQ 2 270 uh)<|.go 4<|.fk (.no)<|.go 2<|.en<|.st 6<|.rg<|.go 8<|.il<|.st 3<|.rg<|.go 5<|.cg (.agg [(u8<|kq),(i6 ah),(i6 xq)]) (tG 271) (tQ 4 271 um)<|.go 1<|.cg (i6 s) (tG 270) (tQ 2 270 uh)<|.go 1<|.en<|.st 2<|.rg<|.go 6<|.cg (i6 ow) (tG 270) (tQ 2 270 uh)<|.go 2<|.cg (i6 ve) (tG 270) (tQ 2 270 uh)<|.kt (u8<|.ofNat 0) us<|.go 1<|.en<|.st 5<|.rg<|.go 4<|.cg (i6 ve) (tG 270) (tQ 2 270 uh)<|.go 6<|.en<|.st 1<|.rg<|.go 7<|.il<|.rt 7<|.go 4<|.en<|.rt 1<|.go 5<|.en<|.rt 3<|.go 8<|.en<|.st 5<|.rg<|.go 1<|.vl (i6<|i+1)<|.go 1<|.en<|.st 1<|(wj uh um us 4 ve tq nv ns (i+1) mo T tl 280))<|.no)<|ax (i<=mo) (fun _=>(tR LL 21 2 270 (aR aC iF) [] uh (i6 nv) k0<|ax (nv≠nv) bh fun _=>(tR LL 22 2 270 (aR aC iC) [] uh (i6 ns) k1<|ax (ns≠ns) bh fun _=>(tR LL 28 4 271 (aR bU fun a rest=>(eT a rest).map (·.1)) [] um (.agg [(u8<|kq),(i6 ah),(i6 xq)]) k2<|tR LL 42 2 270 (aR aC p7) [(i6 ah)] uh (i6 s) k3<|tR LL 44 2 270 (aR aC qh) [(i6 s)] uh (i6 ow) k4<|tR LL 45 2 270 (aR aC oY) [(i6 s)] uh (i6 ve) k5<|ai k6<|tR LL 45 2 270 (aR aC oY) [(i6 s)] uh (i6 ve) k5<|ai (wI<|i+1)<|wk oe uh um us 4 ve tq nv ns (i+1) mo 280 hT)))) bh
theorem ai6{w:Int}{ah:Int}(mc:Mt LL B)(hT:(AV.U T 0 tl).bZ=true)(h0:0<=i)(hl:i<=mo)(hm:mo<=5000)(Cq:top<=T)(ha:0<=ah/\ah<(tl:Int))(sk:cX FU T (0+ah.toNat*1+0) 1=some [.int .i64 x])(k0:aR aC iF uh []=some (i6 nv))(k1:aR aC iC uh []=some (i6 ns))(k2:aR bU (fun a rest=>(eT a rest).map (·.1)) um []=some (.agg [(u8<|kq),(i6 ah),(i6 xq)]))(k3:aR aC p7 uh [(i6 ah)]=some (i6 s))(k4:aR aC qh uh [(i6 s)]=some (i6<|.negSucc 0))(k5:aR aC oY uh [(i6 s)]=some (i6 seen))(k6:aR aC tf uh [(i6 ah)]=some (i6 x))(k7:fj (dX bU vE) um [(i6 x)]=some (i0,dh))(k8:fj (dX jt zF) us [(i6 s)]=some ((i6 ra),eG))(k9:aR bU (fun a rest=>(eT a rest).map (·.1)) dh []=some (xC an xn))(H:iO B uh dh eG 2 seen tq nv ns (i+1) mo T tl):iO B uh um us 4 seen tq nv ns i mo T tl:=by exact pT mc H (.st 2<|.rg<|.go 2<|.fk (.en<|.st 5<|.rg<|.go 1<|.il<|.rt 10<|.go 1<|.en<|.st 6<|.rg<|.go 2<|.il<|.st 11<|.rg<|.go 1<|.cg (i6 nv) (tG 270) (tQ 2 270 uh)<|.go 4<|.fk (.no)<|.go 2<|.cg (i6 ns) (tG 270) (tQ 2 270 uh)<|.go 4<|.fk (.no)<|.go 2<|.en<|.st 6<|.rg<|.go 8<|.il<|.st 3<|.rg<|.go 4<|.cg (.agg [(u8<|kq),(i6 ah),(i6 xq)]) (tG 271) (tQ 4 271 um)<|.go 2<|.en<|.st 1<|.rg<|.go 2<|.cg (i6 s) (tG 270) (tQ 2 270 uh)<|.go 1<|.en<|.st 2<|.rg<|.go 2<|.cg (i6<|.negSucc 0) (tG 270) (tQ 2 270 uh)<|.go 4<|.cg (i6 seen) (tG 270) (tQ 2 270 uh)<|.go 4<|.fk (.no)<|.go 1<|.en<|.st 3<|.rg<|.go 2<|.cg (i6 x) (tG 270) (tQ 2 270 uh)<|.go 1<|.en<|.st 1<|.rg<|.go 5<|.kt i0 dh<|.en<|.st 1<|.rg<|.go 5<|.kt (i6 ra) eG<|.en<|.st 1<|.rg<|.go 1<|.il<|.rg<|.go 6<|.cg (xC an xn) (tG 271) (tQ 4 271 dh)<|.go 5<|.en<|.rt 1<|.en<|.st 1<|.rg<|.go 4<|.il<|.rt 7<|.go 4<|.en<|.rt 1<|.go 5<|.en<|.rt 3<|.go 8<|.en<|.st 1<|.rg<|.go 16<|.fk (.no)<|.go 5<|.fk (.no)<|.go 7<|.fF<|.fG [(i6 x)]<|.fk (.no)<|.go 3<|.en<|.st 3<|.rg<|.go 1<|.vl (i6<|i+1)<|.go 1<|.en<|.st 1<|(wj uh dh eG 2 seen tq nv ns (i+1) mo T tl 280))<|.no)<|ax (i<=mo) (fun _=>(tR LL 21 2 270 (aR aC iF) [] uh (i6 nv) k0<|ax (nv≠nv) bh fun _=>(tR LL 22 2 270 (aR aC iC) [] uh (i6 ns) k1<|ax (ns≠ns) bh fun _=>(tR LL 28 4 271 (aR bU fun a rest=>(eT a rest).map (·.1)) [] um (.agg [(u8<|kq),(i6 ah),(i6 xq)]) k2<|tR LL 42 2 270 (aR aC p7) [(i6 ah)] uh (i6 s) k3<|tR LL 44 2 270 (aR aC qh) [(i6 s)] uh (i6<|.negSucc 0) k4<|tR LL 45 2 270 (aR aC oY) [(i6 s)] uh (i6 seen) k5<|ax (seen≠seen) bh fun _=>(tR LL 47 2 270 (aR aC tf) [(i6 ah)] uh (i6 x) k6<|ai k7<|ai k8<|tR LL 28 4 271 (aR bU fun a rest=>(eT a rest).map (·.1)) [] dh (xC an xn) k9<|ax (ah<0) bh fun _=>(ax (ah>=(tl:Int)) bh fun _=>(dq ah (tl:Int)<|ai Cq<|ai sk<|ax (x≠x) bh fun _=>(ai (wI<|i+1)<|wk oe uh dh eG 2 seen tq nv ns (i+1) mo 280 hT)))))))) bh
theorem ai7{w:Int}{ah:Int}(mc:Mt LL B)(hT:(AV.U T 0 tl).bZ=true)(h0:0<=i)(hl:i<=mo)(hm:mo<=5000)(Cq:top<=T)(ha:0<=ah/\ah<(tl:Int))(sk:cX FU T (0+ah.toNat*1+0) 1=some [.int .i64 x])(k0:aR aC iF uh []=some (i6 nv))(k1:aR aC iC uh []=some (i6 ns))(k2:aR bU (fun a rest=>(eT a rest).map (·.1)) um []=some (.agg [(u8<|kq),(i6 ah),(i6 xq)]))(k3:aR aC p7 uh [(i6 ah)]=some (i6 s))(k4:aR aC qh uh [(i6 s)]=some (i6<|.negSucc 0))(k5:aR aC oY uh [(i6 s)]=some (i6 seen))(k6:aR aC tf uh [(i6 ah)]=some (i6 x))(k7:fj (dX bU vE) um [(i6 x)]=some (i0,dh))(k8:fj (dX jt zF) us [(i6 s)]=some ((i6 ra),eG))(k9:aR bU (fun a rest=>(eT a rest).map (·.1)) dh []=some (xD an xn))(H:iO B uh dh eG 3 seen tq nv ns (i+1) mo T tl):iO B uh um us 4 seen tq nv ns i mo T tl:=by exact pT mc H (.st 2<|.rg<|.go 2<|.fk (.en<|.st 5<|.rg<|.go 1<|.il<|.rt 10<|.go 1<|.en<|.st 6<|.rg<|.go 2<|.il<|.st 11<|.rg<|.go 1<|.cg (i6 nv) (tG 270) (tQ 2 270 uh)<|.go 4<|.fk (.no)<|.go 2<|.cg (i6 ns) (tG 270) (tQ 2 270 uh)<|.go 4<|.fk (.no)<|.go 2<|.en<|.st 6<|.rg<|.go 8<|.il<|.st 3<|.rg<|.go 4<|.cg (.agg [(u8<|kq),(i6 ah),(i6 xq)]) (tG 271) (tQ 4 271 um)<|.go 2<|.en<|.st 1<|.rg<|.go 2<|.cg (i6 s) (tG 270) (tQ 2 270 uh)<|.go 1<|.en<|.st 2<|.rg<|.go 2<|.cg (i6<|.negSucc 0) (tG 270) (tQ 2 270 uh)<|.go 4<|.cg (i6 seen) (tG 270) (tQ 2 270 uh)<|.go 4<|.fk (.no)<|.go 1<|.en<|.st 3<|.rg<|.go 2<|.cg (i6 x) (tG 270) (tQ 2 270 uh)<|.go 1<|.en<|.st 1<|.rg<|.go 5<|.kt i0 dh<|.en<|.st 1<|.rg<|.go 5<|.kt (i6 ra) eG<|.en<|.st 1<|.rg<|.go 1<|.il<|.rg<|.go 6<|.cg (xD an xn) (tG 271) (tQ 4 271 dh)<|.go 5<|.en<|.rt 1<|.en<|.st 1<|.rg<|.go 4<|.il<|.rt 7<|.go 4<|.en<|.rt 1<|.go 5<|.en<|.rt 3<|.go 8<|.en<|.st 1<|.rg<|.go 16<|.fk (.no)<|.go 5<|.fk (.no)<|.go 7<|.fF<|.fG [(i6 x)]<|.fk (.no)<|.go 3<|.en<|.st 3<|.rg<|.go 1<|.vl (i6<|i+1)<|.go 1<|.en<|.st 1<|(wj uh dh eG 3 seen tq nv ns (i+1) mo T tl 280))<|.no)<|ax (i<=mo) (fun _=>(tR LL 21 2 270 (aR aC iF) [] uh (i6 nv) k0<|ax (nv≠nv) bh fun _=>(tR LL 22 2 270 (aR aC iC) [] uh (i6 ns) k1<|ax (ns≠ns) bh fun _=>(tR LL 28 4 271 (aR bU fun a rest=>(eT a rest).map (·.1)) [] um (.agg [(u8<|kq),(i6 ah),(i6 xq)]) k2<|tR LL 42 2 270 (aR aC p7) [(i6 ah)] uh (i6 s) k3<|tR LL 44 2 270 (aR aC qh) [(i6 s)] uh (i6<|.negSucc 0) k4<|tR LL 45 2 270 (aR aC oY) [(i6 s)] uh (i6 seen) k5<|ax (seen≠seen) bh fun _=>(tR LL 47 2 270 (aR aC tf) [(i6 ah)] uh (i6 x) k6<|ai k7<|ai k8<|tR LL 28 4 271 (aR bU fun a rest=>(eT a rest).map (·.1)) [] dh (xD an xn) k9<|ax (ah<0) bh fun _=>(ax (ah>=(tl:Int)) bh fun _=>(dq ah (tl:Int)<|ai Cq<|ai sk<|ax (x≠x) bh fun _=>(ai (wI<|i+1)<|wk oe uh dh eG 3 seen tq nv ns (i+1) mo 280 hT)))))))) bh
theorem ai8{w:Int}{ah:Int}(mc:Mt LL B)(hT:(AV.U T 0 tl).bZ=true)(h0:0<=i)(hl:i<=mo)(hm:mo<=5000)(Cq:top<=T)(ha:0<=ah/\ah<(tl:Int))(sk:cX FU T (0+ah.toNat*1+0) 1=some [.int .i64 x])(k0:aR aC iF uh []=some (i6 nv))(k1:aR aC iC uh []=some (i6 ns))(k2:aR bU (fun a rest=>(eT a rest).map (·.1)) um []=some (.agg [(u8<|kq),(i6 ah),(i6 xq)]))(k3:aR aC p7 uh [(i6 ah)]=some (i6 s))(k4:aR aC qh uh [(i6 s)]=some (i6<|.negSucc 0))(k5:aR aC oY uh [(i6 s)]=some (i6 seen))(k6:aR aC tf uh [(i6 ah)]=some (i6 x))(k7:fj (dX bU vE) um [(i6 x)]=some (i0,dh))(k8:fj (dX jt zF) us [(i6 s)]=some ((i6 ra),eG))(k9:aR bU (fun a rest=>(eT a rest).map (·.1)) dh []=some (xE an xn))(H:iO B uh dh eG 5 seen tq nv ns (i+1) mo T tl):iO B uh um us 4 seen tq nv ns i mo T tl:=by exact pT mc H (.st 2<|.rg<|.go 2<|.fk (.en<|.st 5<|.rg<|.go 1<|.il<|.rt 10<|.go 1<|.en<|.st 6<|.rg<|.go 2<|.il<|.st 11<|.rg<|.go 1<|.cg (i6 nv) (tG 270) (tQ 2 270 uh)<|.go 4<|.fk (.no)<|.go 2<|.cg (i6 ns) (tG 270) (tQ 2 270 uh)<|.go 4<|.fk (.no)<|.go 2<|.en<|.st 6<|.rg<|.go 8<|.il<|.st 3<|.rg<|.go 4<|.cg (.agg [(u8<|kq),(i6 ah),(i6 xq)]) (tG 271) (tQ 4 271 um)<|.go 2<|.en<|.st 1<|.rg<|.go 2<|.cg (i6 s) (tG 270) (tQ 2 270 uh)<|.go 1<|.en<|.st 2<|.rg<|.go 2<|.cg (i6<|.negSucc 0) (tG 270) (tQ 2 270 uh)<|.go 4<|.cg (i6 seen) (tG 270) (tQ 2 270 uh)<|.go 4<|.fk (.no)<|.go 1<|.en<|.st 3<|.rg<|.go 2<|.cg (i6 x) (tG 270) (tQ 2 270 uh)<|.go 1<|.en<|.st 1<|.rg<|.go 5<|.kt i0 dh<|.en<|.st 1<|.rg<|.go 5<|.kt (i6 ra) eG<|.en<|.st 1<|.rg<|.go 1<|.il<|.rg<|.go 6<|.cg (xE an xn) (tG 271) (tQ 4 271 dh)<|.go 5<|.en<|.rt 1<|.en<|.st 1<|.rg<|.go 4<|.il<|.rt 7<|.go 4<|.en<|.rt 1<|.go 5<|.en<|.rt 3<|.go 8<|.en<|.st 1<|.rg<|.go 16<|.fk (.no)<|.go 5<|.fk (.no)<|.go 7<|.fF<|.fG [(i6 x)]<|.fk (.no)<|.go 3<|.en<|.st 3<|.rg<|.go 1<|.vl (i6<|i+1)<|.go 1<|.en<|.st 1<|(wj uh dh eG 5 seen tq nv ns (i+1) mo T tl 280))<|.no)<|ax (i<=mo) (fun _=>(tR LL 21 2 270 (aR aC iF) [] uh (i6 nv) k0<|ax (nv≠nv) bh fun _=>(tR LL 22 2 270 (aR aC iC) [] uh (i6 ns) k1<|ax (ns≠ns) bh fun _=>(tR LL 28 4 271 (aR bU fun a rest=>(eT a rest).map (·.1)) [] um (.agg [(u8<|kq),(i6 ah),(i6 xq)]) k2<|tR LL 42 2 270 (aR aC p7) [(i6 ah)] uh (i6 s) k3<|tR LL 44 2 270 (aR aC qh) [(i6 s)] uh (i6<|.negSucc 0) k4<|tR LL 45 2 270 (aR aC oY) [(i6 s)] uh (i6 seen) k5<|ax (seen≠seen) bh fun _=>(tR LL 47 2 270 (aR aC tf) [(i6 ah)] uh (i6 x) k6<|ai k7<|ai k8<|tR LL 28 4 271 (aR bU fun a rest=>(eT a rest).map (·.1)) [] dh (xE an xn) k9<|ax (ah<0) bh fun _=>(ax (ah>=(tl:Int)) bh fun _=>(dq ah (tl:Int)<|ai Cq<|ai sk<|ax (x≠x) bh fun _=>(ai (wI<|i+1)<|wk oe uh dh eG 5 seen tq nv ns (i+1) mo 280 hT)))))))) bh
theorem ai9{w:Int}{ah:Int}(mc:Mt LL B)(hT:(AV.U T 0 tl).bZ=true)(h0:0<=i)(hl:i<=mo)(hm:mo<=5000)(Cq:top<=T)(ha:0<=ah/\ah<(tl:Int))(sk:cX FU T (0+ah.toNat*1+0) 1=some [.int .i64 x])(k0:aR aC iF uh []=some (i6 nv))(k1:aR aC iC uh []=some (i6 ns))(k2:aR bU (fun a rest=>(eT a rest).map (·.1)) um []=some (.agg [(u8<|kq),(i6 ah),(i6 xq)]))(k3:aR aC p7 uh [(i6 ah)]=some (i6 s))(k4:aR aC qh uh [(i6 s)]=some (i6<|.negSucc 0))(k5:aR aC oY uh [(i6 s)]=some (i6 seen))(k6:aR aC tf uh [(i6 ah)]=some (i6 x))(k7:fj (dX bU vE) um [(i6 x)]=some (i0,dh))(k8:fj (dX jt zF) us [(i6 s)]=some ((i6 ra),eG))(k9:aR bU (fun a rest=>(eT a rest).map (·.1)) dh []=some (xF an xn))(H:iO B uh dh eG 6 seen tq nv ns (i+1) mo T tl):iO B uh um us 4 seen tq nv ns i mo T tl:=by exact pT mc H (.st 2<|.rg<|.go 2<|.fk (.en<|.st 5<|.rg<|.go 1<|.il<|.rt 10<|.go 1<|.en<|.st 6<|.rg<|.go 2<|.il<|.st 11<|.rg<|.go 1<|.cg (i6 nv) (tG 270) (tQ 2 270 uh)<|.go 4<|.fk (.no)<|.go 2<|.cg (i6 ns) (tG 270) (tQ 2 270 uh)<|.go 4<|.fk (.no)<|.go 2<|.en<|.st 6<|.rg<|.go 8<|.il<|.st 3<|.rg<|.go 4<|.cg (.agg [(u8<|kq),(i6 ah),(i6 xq)]) (tG 271) (tQ 4 271 um)<|.go 2<|.en<|.st 1<|.rg<|.go 2<|.cg (i6 s) (tG 270) (tQ 2 270 uh)<|.go 1<|.en<|.st 2<|.rg<|.go 2<|.cg (i6<|.negSucc 0) (tG 270) (tQ 2 270 uh)<|.go 4<|.cg (i6 seen) (tG 270) (tQ 2 270 uh)<|.go 4<|.fk (.no)<|.go 1<|.en<|.st 3<|.rg<|.go 2<|.cg (i6 x) (tG 270) (tQ 2 270 uh)<|.go 1<|.en<|.st 1<|.rg<|.go 5<|.kt i0 dh<|.en<|.st 1<|.rg<|.go 5<|.kt (i6 ra) eG<|.en<|.st 1<|.rg<|.go 1<|.il<|.rg<|.go 6<|.cg (xF an xn) (tG 271) (tQ 4 271 dh)<|.go 5<|.en<|.rt 1<|.en<|.st 1<|.rg<|.go 4<|.il<|.rt 7<|.go 4<|.en<|.rt 1<|.go 5<|.en<|.rt 3<|.go 8<|.en<|.st 1<|.rg<|.go 16<|.fk (.no)<|.go 5<|.fk (.no)<|.go 7<|.fF<|.fG [(i6 x)]<|.fk (.no)<|.go 3<|.en<|.st 3<|.rg<|.go 1<|.vl (i6<|i+1)<|.go 1<|.en<|.st 1<|(wj uh dh eG 6 seen tq nv ns (i+1) mo T tl 280))<|.no)<|ax (i<=mo) (fun _=>(tR LL 21 2 270 (aR aC iF) [] uh (i6 nv) k0<|ax (nv≠nv) bh fun _=>(tR LL 22 2 270 (aR aC iC) [] uh (i6 ns) k1<|ax (ns≠ns) bh fun _=>(tR LL 28 4 271 (aR bU fun a rest=>(eT a rest).map (·.1)) [] um (.agg [(u8<|kq),(i6 ah),(i6 xq)]) k2<|tR LL 42 2 270 (aR aC p7) [(i6 ah)] uh (i6 s) k3<|tR LL 44 2 270 (aR aC qh) [(i6 s)] uh (i6<|.negSucc 0) k4<|tR LL 45 2 270 (aR aC oY) [(i6 s)] uh (i6 seen) k5<|ax (seen≠seen) bh fun _=>(tR LL 47 2 270 (aR aC tf) [(i6 ah)] uh (i6 x) k6<|ai k7<|ai k8<|tR LL 28 4 271 (aR bU fun a rest=>(eT a rest).map (·.1)) [] dh (xF an xn) k9<|ax (ah<0) bh fun _=>(ax (ah>=(tl:Int)) bh fun _=>(dq ah (tl:Int)<|ai Cq<|ai sk<|ax (x≠x) bh fun _=>(ai (wI<|i+1)<|wk oe uh dh eG 6 seen tq nv ns (i+1) mo 280 hT)))))))) bh
theorem s0L{m:Int}(mc:Mt LL B)(hT:(AV.U T 0 tl).bZ=true)(k0:bf (aU<|nd 22) [(.U X 0 xl),i0]=some (.tuple [(i6 m),(.bool true)]))(k1:bf (aU tg) []=some (.bool true)):yr B (sF 3 Tryz.f3 [(.U X 0 xl),(.U T 0 tl),(i6 ns),(.U G 0 gl)])<|aq ar 270:=by exact EE mc (.st 4<|.rg<|.go 2<|.il<|.st 3<|.rg<|.go 1<|.kn (.tuple [(i6 m),(.bool true)])<|.go 5<|.en<|.rt 3<|.go 9<|.en<|.st 2<|.rg<|.kn (.bool true)<|.go 1<|.en<|.rt 1 .no)<|ai k0 Ps
theorem s0B{m:Int}(mc:Mt LL B)(hT:(AV.U T 0 tl).bZ=true)(hb:gl>50\/tl>40)(k0:bf (aU<|nd 22) [(.U X 0 xl),i0]=some (.tuple [(i6 m),(.bool false)]))(k1:bf (aU tg) []=some (.bool true)):yr B (sF 3 Tryz.f3 [(.U X 0 xl),(.U T 0 tl),(i6 ns),(.U G 0 gl)])<|aq ar 270:=by exact EE mc (.st 4<|.rg<|.go 2<|.il<|.st 3<|.rg<|.go 1<|.kn (.tuple [(i6 m),(.bool false)])<|.go 5<|.en<|.st 1<|.rg<|.go 4<|.fk (.go 2<|.en<|.rt 1<|.go 9<|.en<|.st 2<|.rg<|.kn (.bool true)<|.go 1<|.en<|.rt 1 .no)<|.go 2<|.en<|.rt 1<|.go 3<|.fk (.go 5<|.en<|.st 2<|.rg<|.kn (.bool true)<|.go 1<|.en<|.rt 1 .no)<|.no)<|ai k0<|ax ((gl:Int)>50) (fun _=>Ps) fun _=>(ax ((tl:Int)>40) (fun _=>Ps) bh)
theorem s0N{m:Int}(mc:Mt LL B)(hT:(AV.U T 0 tl).bZ=true)(hb:gl<=50/\tl<=40)(hq:tl<1\/tl>32\/ns<1\/ns>(tl:Int))(k0:bf (aU<|nd 22) [(.U X 0 xl),i0]=some (.tuple [(i6 m),(.bool false)]))(k1:bf (aU tg) []=some (.bool true))(k2:kj vj [(.U T 0 tl),(i6 ns),(i6<|.ofNat 9)]=some (none,mz 1)):yr B (sF 3 Tryz.f3 [(.U X 0 xl),(.U T 0 tl),(i6 ns),(.U G 0 gl)])<|aq ar 270:=by exact EE mc (.st 4<|.rg<|.go 2<|.il<|.st 3<|.rg<|.go 1<|.kn (.tuple [(i6 m),(.bool false)])<|.go 5<|.en<|.st 1<|.rg<|.go 4<|.fk (.no)<|.go 2<|.en<|.rt 1<|.go 3<|.fk (.no)<|.go 2<|.kn (.bool true)<|.go 2<|.en<|.st 3<|.rg<|.go 2<|.nt none (mz 1)<|.go 5<|.en<|.st 1<|.rg<|.go 5<|.il<|.st 4<|.rg<|.go 8<|.fk (.go 14<|.en<|.rt 4<|.go 5<|.en<|.rt 7 .no)<|.go 3<|.fk (.go 10<|.en<|.rt 4<|.go 5<|.en<|.rt 7 .no)<|.go 3<|.fk (.go 6<|.en<|.rt 4<|.go 5<|.en<|.rt 7 .no)<|.go 4<|.fk (.go 1<|.en<|.rt 4<|.go 5<|.en<|.rt 7 .no)<|.no)<|ai k0<|ax ((gl:Int)>50) bh fun _=>(ax ((tl:Int)>40) bh fun _=>(ai k1<|ai k2<|ax ((tl:Int)<1) (fun _=>(show((.bool true):AV)= .bool true from rfl)) fun _=>(ax ((tl:Int)>32) (fun _=>(show((.bool true):AV)= .bool true from rfl)) fun _=>(ax (ns<1) (fun _=>(show((.bool true):AV)= .bool true from rfl)) fun _=>(ax (ns>(tl:Int)) (fun _=>(show((.bool true):AV)= .bool true from rfl)) bh)))))
theorem s0M{m:Int}(mc:Mt LL B)(hT:(AV.U T 0 tl).bZ=true)(hb:gl<=50/\tl<=40)(hq:1<=tl/\tl<=32/\1<=ns/\ns<=(tl:Int))(k0:bf (aU<|nd 22) [(.U X 0 xl),i0]=some (.tuple [(i6 m),(.bool false)]))(k1:bf (aU tg) []=some (.bool true))(k2:kj vj [(.U T 0 tl),(i6 ns),(i6<|.ofNat 9)]=some (some uh,mz 0))(k3:kj xA [(.U X 0 xl),(i6<|(tl:Int)),(.U G 0 gl)]=some (none,mz 4)):yr B (sF 3 Tryz.f3 [(.U X 0 xl),(.U T 0 tl),(i6 ns),(.U G 0 gl)])<|aq ar 270:=by exact EE mc (.st 4<|.rg<|.go 2<|.il<|.st 3<|.rg<|.go 1<|.kn (.tuple [(i6 m),(.bool false)])<|.go 5<|.en<|.st 1<|.rg<|.go 4<|.fk (.no)<|.go 2<|.en<|.rt 1<|.go 3<|.fk (.no)<|.go 2<|.kn (.bool true)<|.go 2<|.en<|.st 3<|.rg<|.go 2<|.nt (some uh) (mz 0)<|.go 5<|.en<|.st 1<|.rg<|.go 5<|.il<|.st 4<|.rg<|.go 8<|.fk (.no)<|.go 3<|.fk (.no)<|.go 3<|.fk (.no)<|.go 4<|.fk (.no)<|.go 1<|.en<|.st 3<|.rg<|.go 3<|.nt none (mz 4)<|.go 5<|.en<|.rt 7<|.go 5<|.en<|.rt 7 .no)<|ai k0<|ax ((gl:Int)>50) bh fun _=>(ax ((tl:Int)>40) bh fun _=>(ai k1<|ai k2<|ax ((tl:Int)<1) bh fun _=>(ax ((tl:Int)>32) bh fun _=>(ax (ns<1) bh fun _=>(ax (ns>(tl:Int)) bh fun _=>(ai k3 (show((.bool true):AV)= .bool true from rfl)))))))
theorem s0K{m co:Int}(mc:Mt LL B)(hT:(AV.U T 0 tl).bZ=true)(hb:gl<=50/\tl<=40)(hq:1<=tl/\tl<=32/\1<=ns/\ns<=(tl:Int))(Qo:0<=co/\co<=2000)(k0:bf (aU<|nd 22) [(.U X 0 xl),i0]=some (.tuple [(i6 m),(.bool false)]))(k1:bf (aU tg) []=some (.bool true))(k2:kj vj [(.U T 0 tl),(i6 ns),(i6<|.ofNat 9)]=some (some uh,mz 0))(k3:kj xA [(.U X 0 xl),(i6<|(tl:Int)),(.U G 0 gl)]=some (some um,mz 0))(k4:kj wM [i0,(i6 ns)]=some (some eG,fun p=>.tuple [p,.int .i64 0]))(k5:bf (aU<|ph 60) [(.U X 0 xl)]=some (i6 co))(H:iO B uh um eG 1 0 (gl:Int) (tl:Int) ns 0 ((2*co)+1) T tl):yr B (sF 3 Tryz.f3 [(.U X 0 xl),(.U T 0 tl),(i6 ns),(.U G 0 gl)])<|aq ar 270:=by exact pT mc H (.st 4<|.rg<|.go 2<|.il<|.st 3<|.rg<|.go 1<|.kn (.tuple [(i6 m),(.bool false)])<|.go 5<|.en<|.st 1<|.rg<|.go 4<|.fk (.no)<|.go 2<|.en<|.rt 1<|.go 3<|.fk (.no)<|.go 2<|.kn (.bool true)<|.go 2<|.en<|.st 3<|.rg<|.go 2<|.nt (some uh) (mz 0)<|.go 5<|.en<|.st 1<|.rg<|.go 5<|.il<|.st 4<|.rg<|.go 8<|.fk (.no)<|.go 3<|.fk (.no)<|.go 3<|.fk (.no)<|.go 4<|.fk (.no)<|.go 1<|.en<|.st 3<|.rg<|.go 3<|.nt (some um) (mz 0)<|.go 5<|.en<|.st 6<|.rg<|.go 1<|.nt (some eG) (fun p=>.tuple [p,.int .i64 0])<|.go 5<|.en<|.rt 8<|.go 5<|.en<|.st 6<|.rg<|.go 1<|.kn (i6 co)<|.vl (i6<|2*co)<|.vl (i6<|(2*co)+1)<|.go 1<|.en<|.st 5<|(wj uh um eG 1 0 (gl:Int) (tl:Int) ns 0 ((2*co)+1) T tl 274))<|ai k0<|ax ((gl:Int)>50) bh fun _=>(ax ((tl:Int)>40) bh fun _=>(ai k1<|ai k2<|ax ((tl:Int)<1) bh fun _=>(ax ((tl:Int)>32) bh fun _=>(ax (ns<1) bh fun _=>(ax (ns>(tl:Int)) bh fun _=>(ai k3<|ai k4<|ai k5<|ai (wI<|2*co)<|ai (wI<|(2*co)+1)<|wk oe uh um eG 1 0 (gl:Int) (tl:Int) ns 0 ((2*co)+1) 274 hT))))))
end
end GF
end
section
open Go Go.Rn Go.RowKit Go.Proofs
namespace JX
open cq gw eH gU Bu qF qE tF eX cz dj cO cT fm eR fM fO fU gh fV gi gO gP gZ hU iH iX jI jJ fx gY Bs lD lU kF my lV pC pE rL rM z6 F7 xy GB G2 zK By zI DK DL GF
def isT(r:R AV):Bool:=match r with| .ok (.bool true) _=>true|_=>false
theorem aef:isT (vu pg (fun _=>0) 60 (.fn 5) [] ⟨dV,270,0,[],[]⟩)=true:=by as_aux_lemma=>kernel_rfl
theorem aa9(hP:bE pg){L:bY}(h:aV L):aV<|Vt::L:=by
 refine Z9 hP hJ qd iT iz h Tryz.func5 (body:=a9 pg 5 []) aW aW fun args v e=>?_;obtain⟨rfl,rfl⟩:=gI e;have q:=aef;revert q;cases e:vu pg (fun _=>0) 60 (.fn 5) [] ⟨dV,270,0,[],[]⟩ with
 |bad=>intro q;cases q
 |ok x s1=>
  intro q;refine⟨60,s1,e.trans ?_⟩;cases x with
  |bool b=>cases b with
   |true=>rfl
   |false=>cases q
  |_=>cases q
theorem afM(hP:bE pg):aV LL:=TQ hP 22<|aa9 hP<|acw hP<|acv hP<|ZO hP<|M6 hP 60<|Zf hP<|Z2 hP<|YO hP<|Z3 hP<|Z4 hP<|aa7 hP<|YP hP<|aa6 hP<|acq hP<|ad8 hP<|abV hP<|adg hP cP
end JX
end
section
open Go Go.Rn Go.RowKit Go.Proofs
namespace O6
open cq gw eH gU nh m7 xS zm qE tF eX cz dj Ch cO cT fm eR fM fO fU gh fV gi gO gP gZ hU iH iX jI jJ fx xR gY Bs lV pC pE rL rM xy zI DK DL
variable {x:Int} {tx:List St} {st:List Fr}
def nr(f:List St->Nat)(s:St):Nat:=1+(if fB s=4 then max (f<|bF s) (f<|bB s) else if fB s=5 then 8*f (bF s) else if fB s=7 then f (bF s)+f (bB s) else 0)
def mN(f:List St->Nat):List St->Nat
 |[]=>0
 |s::r=>nr f s+mN f r
def uc:Nat->List St->Nat
 |0,_=>0
 |d+1,l=>mN (uc d) l
theorem TV{f g:List St->Nat}:∀{l:List St},(∀s∈l,f (bF s)=g (bF s)/\f (bB s)=g (bB s))->mN f l=mN g l
 |[],_=>rfl
 |s::r,h=>by show nr f s+mN f r=nr g s+mN g r;rw[TV (l:=r) fun s hs=>h s<|List.mem_cons_of_mem _ hs];unfold nr;rw[(h s<|List.mem_cons_self ..).1,(h s<|List.mem_cons_self ..).2]
theorem Ft:∀(d j k:Nat) (l:List St),ma d l->d<=j->d<=k->uc j l=uc k l
 |0,j,k,l,h,_,_=>by have h:l=[]:=h;subst h;cases j<;>cases k<;>rfl
 |d+1,j+1,k+1,l,h,hj,hk=>TV fun s hs=>⟨Ft d j k _ (h.2 s hs).2.2.1 ab ab,Ft d j k _ (h.2 s hs).2.2.2 ab ab⟩
theorem aeg(h:dY x 2001<=2000):dY x 2001=x:=by
 revert h;unfold dY;split
 ·intro h;omega
 ·intro _;rfl
theorem UT:∀(k:Nat) (l:List St),fK k l<=2000->((uc k l:Nat):Int)<=fK k l
 |0,_,_=>by show(0:Int)<=0;omega
 |k+1,l,h=>by
  have ih:=UT k;have go:∀(l:List St) (m:Int),0<=m->l.foldl (fun m s=>jM (fB s) m (fK k<|bF s)<|fK k<|bB s) m<=2000->m+((mN (uc k) l:Nat):Int)<=l.foldl (fun m s=>jM (fB s) m (fK k<|bF s)<|fK k<|bB s) m:=by
   intro l;induction l with
   |nil=>intro m _ _;show m+(0:Int)<=m;omega
   |cons s r ihr=>
    intro m hm hF;rw[List.foldl_cons] at hF ⊢;have c1:=AR k<|bF s;have c2:=AR k<|bB s;have a1:=ih<|bF s;have a2:=ih<|bB s;have hx:=IU (fK k<|bF s)<|fK k<|bB s;have key:∀x:Int,0<=x->jM (fB s) m (fK k<|bF s) (fK k<|bB s)=dY x 2001->(x<=2000->m+((nr (uc k) s:Nat):Int)<=x)->m+((mN (uc k) (s::r):Nat):Int)<=r.foldl (fun m s=>jM (fB s) m (fK k<|bF s)<|fK k<|bB s) (jM (fB s) m (fK k<|bF s)<|fK k<|bB s):=by intro x rY e hle;rw[e] at hF ⊢;have q:=ihr (dY x 2001) (Ut rY).1 hF;have q2:dY x 2001=x:=aeg ab;rw[q2] at q hF ⊢;have:=hle ab;have:mN (uc k) (s::r)=nr (uc k) s+mN (uc k) r:=rfl;omega
    by_cases k4:fB s=4
    ·refine key (m+1+cK (fK k<|bF s) (fK k<|bB s)) ab (by unfold jM;rw[if_pos k4]) fun hle=>?_;have:=a1 ab;have:=a2 ab;unfold nr;rw[if_pos k4];omega
    by_cases k5:fB s=5
    ·refine key (m+1+8*fK k (bF s)) ab (by unfold jM;rw[if_neg k4,if_pos k5]) fun hle=>?_;have:=a1 ab;unfold nr;rw[if_neg k4,if_pos k5];omega
    by_cases k7:fB s=7
    ·refine key (m+1+(fK k (bF s)+fK k (bB s))) ab (by unfold jM;rw[if_neg k4,if_neg k5,if_pos k7]) fun hle=>?_;have:=a1 ab;have:=a2 ab;unfold nr;rw[if_neg k4,if_neg k5,if_pos k7];omega
    ·refine key (m+1+0) ab (by unfold jM;rw[if_neg k4,if_neg k5,if_neg k7]) fun hle=>?_;unfold nr;rw[if_neg k4,if_neg k5,if_neg k7];omega
  have:=go l 0 ab h;show((mN (uc k) l:Nat):Int)<=l.foldl (fun m s=>jM (fB s) m (fK k<|bF s)<|fK k<|bB s) 0;omega
theorem ff:¬(false=true):=fun c=>by cases c
def dZ:List Fr->Nat
 |[]=>0
 |f::r=>mN (uc 60) (f.block.drop f.ah.toNat)+f.turns.toNat*uc 61 f.block+(if f.ch=true then uc 61 (f.other.getD []) else 0)+dZ r
theorem EM:∀(k:Nat) (st:List Fr) (b:bz) (aZ:List Fr) (b':bz),jP k st b=some (aZ,b')->dZ aZ<=dZ st
 |0,_,_,_,_,h=>by cases h
 |k+1,[],b,aZ,b',h=>by
  unfold jP at h;injection h with h;injection h with h1 _
  rw[←h1];exact Nat.le_refl _
 |k+1,f::r,b,aZ,b',h=>by
  unfold jP at h;by_cases c1:f.ah<(f.block.length:Int)
  ·rw[if_pos c1] at h;injection h with h;injection h with h1 _
   rw[←h1];exact Nat.le_refl _
  ·rw[if_neg c1] at h;by_cases c2:0<f.turns
   ·rw[if_pos c2] at h;have e:dZ ({f with ah:=0,turns:=f.turns - 1}::r)<=dZ (f::r):=by
     show uc 61 f.block+(f.turns - 1).toNat*uc 61 f.block+(if f.ch=true then uc 61 (f.other.getD []) else 0)+dZ r<=mN (uc 60) (f.block.drop f.ah.toNat)+f.turns.toNat*uc 61 f.block+(if f.ch=true then uc 61 (f.other.getD []) else 0)+dZ r;have ht:f.turns.toNat=(f.turns - 1).toNat+1:=by omega
     rw[ht,Nat.add_mul,Nat.one_mul];omega
    by_cases c3:0<(f.block.length:Int)
    ·rw[if_pos c3] at h;injection h with h;injection h with h1 _
     rw[←h1];exact e
    ·rw[if_neg c3] at h;exact Nat.le_trans (EM k _ b _ _ h) e
   ·rw[if_neg c2] at h;have e:dZ r<=dZ (f::r):=Nat.le_add_left _ _;by_cases c4:f.ch=true
    ·rw[if_pos c4] at h;by_cases c5:2<=b.length
     ·rw[if_pos c5] at h;exact Nat.le_trans (EM k _ _ _ _ h) e
     ·rw[if_neg c5] at h;cases h
    ·rw[if_neg c4] at h;exact Nat.le_trans (EM k _ _ _ _ h) e
theorem wR{a a':dO}{b:bz}(h:fin a st b=some a'):dZ a'.fs.reverse<=dZ st:=by
 unfold fin at h;cases e:jP 1000 st b with
 |none=>rw[e] at h;cases h
 |some p=>
  rw[e] at h;injection h with h
  rw[←h];show dZ p.1.reverse.reverse<=_;rw[List.reverse_reverse];exact EM 1000 st b p.1 p.2 e
theorem MF:∀{st:List Fr} {g:Fr} {r':List Fr},below st=some (g,r')->g.ch=true->uc 61 (g.other.getD [])+dZ r'<=dZ st
 |[],_,_,h,_=>by cases h
 |f::r,g,r',h,hg=>by
  unfold lV.below at h;by_cases c:f.ch=true
  ·rw[if_pos c] at h;injection h with h;injection h with h1 h2
   subst h1;subst h2;show _<=_+(if f.ch=true then uc 61 (f.other.getD []) else 0)+dZ r;rw[if_pos c];omega
  ·rw[if_neg c] at h;have:=MF h hg;have:dZ r<=dZ (f::r):=Nat.le_add_left _ _;omega
theorem NT{f:Fr}{r:List Fr}{s:St}(h0:0<=f.ah)(h:f.block[f.ah.toNat]? =some s):dZ (f::r)=nr (uc 60) s+dZ ({f with ah:=f.ah+1}::r):=by
 have hl:f.ah.toNat<f.block.length:=by
  rcases Nat.lt_or_ge f.ah.toNat f.block.length with q|q
  ·exact q
  ·rw[List.getElem?_eq_none q] at h;cases h
 have e:f.block.drop f.ah.toNat=s::f.block.drop (f.ah.toNat+1):=by
  rw[List.drop_eq_getElem_cons hl];rw[List.getElem?_eq_getElem hl] at h;injection h with h
  rw[h]
 show mN (uc 60) (f.block.drop f.ah.toNat)+_+_+_=nr (uc 60) s+(mN (uc 60) (f.block.drop (f.ah+1).toNat)+_+_+_);rw[e,show(f.ah+1).toNat=f.ah.toNat+1 by omega];show nr (uc 60) s+mN (uc 60) (f.block.drop<|f.ah.toNat+1)+f.turns.toNat*uc 61 f.block+(if f.ch=true then uc 61 (f.other.getD []) else 0)+dZ r=nr (uc 60) s+(mN (uc 60) (f.block.drop<|f.ah.toNat+1)+f.turns.toNat*uc 61 f.block+(if f.ch=true then uc 61 (f.other.getD []) else 0)+dZ r);omega
theorem Ij:∀{st:List Fr} {g:Fr} {r':List Fr},below st=some (g,r')->g.ch=true
 |[],_,_,h=>by cases h
 |f::r,g,r',h=>by
  unfold lV.below at h;by_cases c:f.ch=true
  ·rw[if_pos c] at h;injection h with h;injection h with h1 h2
   rw[←h1];exact c
  ·rw[if_neg c] at h;exact Ij h
section
variable {a a':dO}
theorem acy(h:lE a)(hk:fp a=(1,0,0))(hs:zp a=some a'):dZ a'.fs.reverse+1<=dZ a.fs.reverse:=by
 rcases h.top with e|⟨f,r,e,ht⟩
 ·exfalso;unfold fp at hk;rw[e] at hk;injection hk with q _;omega
 have hw:=h.inv.wf;rw[e] at hw;obtain⟨d,⟨kind,to,ea,eb,bd,el⟩,hd,q,k1,_,k3,k4⟩:=za hw ht;have k3:ma d bd:=k3;have k4:ma d el:=k4;have u3:uc 61 bd=uc 60 bd:=Ft d 61 60 bd k3 ab ab;have u4:uc 61 el=uc 60 el:=Ft d 61 60 el k4 ab ab;have tp:=NT (r:=r) hw.2.1.1 q;unfold zp at hs;rw[e] at hs ⊢;simp only[q] at hs;have hC:nr (uc 60) (.mk kind to ea eb bd el)=1+(if kind=4 then max (uc 60 bd) (uc 60 el) else if kind=5 then 8*uc 60 bd else if kind=7 then uc 60 bd+uc 60 el else 0):=rfl;have Kn:∀(g:Fr) (r':List Fr),g.ah=0->dZ (g::r')=uc 61 g.block+g.turns.toNat*uc 61 g.block+(if g.ch=true then uc 61 (g.other.getD []) else 0)+dZ r':=fun g r' hg=>by show mN (uc 60) (g.block.drop g.ah.toNat)+_+_+_=_;rw[hg];rfl
 by_cases c1:kind=1
 ·rw[if_pos c1] at hs;have:=wR hs;omega
 rw[if_neg c1] at hs;by_cases c2:kind=2
 ·rw[if_pos c2] at hs;have:=wR hs;omega
 rw[if_neg c2] at hs;by_cases c3:kind=3
 ·rw[if_pos c3] at hs;have:=wR hs;omega
 rw[if_neg c3] at hs;by_cases c4:kind=4
 ·rw[if_pos c4] at hs;have p:=wR hs;rw[Kn _ _ rfl] at p;rw[if_pos c4] at hC;have p:dZ a'.fs.reverse<=uc 61 (if dv a ea≠0 then bd else el)+(0:Int).toNat*uc 61 (if dv a ea≠0 then bd else el)+(if false=true then _ else 0)+dZ ({f with ah:=f.ah+1}::r):=p;rw[if_neg ff,show(0:Int).toNat=0 from rfl,Nat.zero_mul] at p;by_cases z:dv a ea≠0
  ·rw[if_pos z] at p;omega
  ·rw[if_neg z] at p;omega
 rw[if_neg c4] at hs;by_cases c5:kind=5
 ·rw[if_pos c5] at hs;rw[if_neg c4,if_pos c5] at hC;by_cases z:0<kY (dv a ea)
  ·rw[if_pos z] at hs;have t8:=Nj<|dv a ea;have p:=wR hs;rw[Kn _ _ rfl] at p;have p:dZ a'.fs.reverse<=uc 61 bd+(kY (dv a ea) - 1).toNat*uc 61 bd+(if false=true then _ else 0)+dZ ({f with ah:=f.ah+1}::r):=p;rw[if_neg ff,u3] at p;have m:(kY (dv a ea) - 1).toNat*uc 60 bd<=7*uc 60 bd:=Nat.mul_le_mul_right _ ab;omega
  ·rw[if_neg z] at hs;have:=wR hs;omega
 rw[if_neg c5] at hs;by_cases c6:kind=6
 ·rw[if_pos c6] at hs;cases hb:below (f::r) with
  |none=>rw[hb] at hs;cases hs
  |some p=>
   obtain⟨⟨fb,fa,ft,fo,kept,QH⟩,r'⟩:=p;rw[hb] at hs;have ho:=Ij hb;cases QH with
   |none=>cases hs
   |some ol=>
    have p:=wR hs;rw[Kn _ _ rfl] at p;have p:dZ a'.fs.reverse<=uc 61 ol+(0:Int).toNat*uc 61 ol+(if false=true then _ else 0)+dZ r':=p;rw[if_neg ff,show(0:Int).toNat=0 from rfl,Nat.zero_mul] at p;have gm:below ({f with ah:=f.ah+1}::r)=some (⟨fb,fa,ft,fo,kept,some ol⟩,r')\/∃g':Fr,below ({f with ah:=f.ah+1}::r)=some (g',r')/\g'.other=some ol:=by
     unfold lV.below at hb ⊢;by_cases c:f.ch=true
     ·rw[if_pos c] at hb;injection hb with hb;injection hb with h1 h2
      refine .inr ⟨{f with ah:=f.ah+1},by rw[←h2];exact if_pos c,by show f.other=_;rw[h1]⟩
     ·rw[if_neg c] at hb;exact .inl (by rw[←hb];exact if_neg c)
    have:uc 61 ol+dZ r'<=dZ ({f with ah:=f.ah+1}::r):=by
     rcases gm with gm|⟨g',gm,eo⟩
     ·exact MF gm<|Ij gm
     ·have:=MF gm<|Ij gm;rw[eo] at this;exact this
    omega
 rw[if_neg c6] at hs;by_cases c7:kind=7
 ·rw[if_pos c7] at hs;rw[if_neg c4,if_neg c5,if_pos c7] at hC;have p:=wR hs;rw[Kn _ _ rfl] at p;have p:dZ a'.fs.reverse<=uc 61 bd+(0:Int).toNat*uc 61 bd+(if true=true then uc 61 el else 0)+dZ ({f with ah:=f.ah+1}::r):=p;rw[if_pos rfl,show(0:Int).toNat=0 from rfl,Nat.zero_mul] at p;omega
 ·rw[if_neg c7] at hs;cases hs
theorem aeh(h:lE a){v:Int}(hk:fp a=(2,v,0))(hs:wP a x=some a'):dZ a'.fs.reverse+1<=dZ a.fs.reverse:=by
 rcases h.top with e|⟨f,r,e,ht⟩
 ·exfalso;unfold fp at hk;rw[e] at hk;injection hk with q _;omega
 have hw:=h.inv.wf;rw[e] at hw;obtain⟨d,⟨kind,to,ea,eb,bd,el⟩,hd,q,_⟩:=za hw ht;have tp:=NT (r:=r) hw.2.1.1 q;unfold wP at hs;rw[e] at hs ⊢;simp only[q] at hs;have:=wR hs;have:1<=nr (uc 60) (.mk kind to ea eb bd el):=Nat.le_add_right _ _;omega
end
theorem aei(hw:ma 6 tx)(hc:fK 60 tx<=2000){bb:bz}(h:jP 1000 [xz tx] [[]]=some (st,bb)):((dZ st:Nat):Int)<=fK 60 tx:=by
 have p:=EM 1000 _ _ _ _ h;have e:dZ [xz tx]=uc 61 tx:=by show uc 61 tx+(0:Int).toNat*uc 61 tx+(if false=true then _ else 0)+0=_;rw[if_neg ff,show(0:Int).toNat=0 from rfl,Nat.zero_mul];rfl
 have s:=Ft 6 61 60 tx hw ab ab;have:=UT 60 tx hc;omega
theorem acz{n:Int}(h:xT tx n true):fK 60 tx<=2000:=by obtain⟨_,_,_,_,_,e⟩:=h;obtain⟨h1,_⟩:=and_true.1 e.symm;exact(of_decide_eq_true h1).2.2.2
end O6
end
section
open Go Go.Rn Go.RowKit Go.Proofs
namespace O7
open cq gw eH gU Bu qF qE tF eX cz dj cO cT fm eR fM fO fU gh fV gi gO gP gZ hU iH iX jI jJ fx gY Bs lD lU kF my lV pC pE rL rM z6 F7 xy GB G2 zK By zI DK DL GF JX O6
variable {v s:Int} {rest:List AV}
theorem Ko{S:Type}{enc:S->AV}(inj:∀a b,enc a=enc b->a=b){f:S->List AV->Option (AV×S)}{a a':S}{y:AV}(h:f a rest=some (y,a'))(h1:rest.all AV.hi=true)(h2:y.hi=true):fj (dX enc f) (enc a) rest=some (y,enc a'):=ac3 ((AN inj).trans (by rw[h];rfl)) h1 h2
theorem rH{f:cr->List AV->Option AV}{a:cr}:aR aC f (aC a) rest=f a rest:=TO Mw
def hp(ns:Int)(init:List Int):cr:=⟨List.replicate ns.toNat ⟨-1,0⟩,0,9,init⟩
theorem lX{cs:List AV}{n:Nat}:(AV.U (nm cs) 0 n).bZ=true:=aL.2<|dU _
noncomputable abbrev nI(l:List Int):Nat:=nm (l.map bS).flatten
abbrev W1:(Tr AV->List Nat->Option Code->AS->Prop):=Fin pg (az Tryz.f3) fun y _=>y= .bool true
abbrev X7(B:aJ)(i mo:Int)(init:List Int)(q:jH)(m:dO)(w seen tq nv ns:Int):Prop:=au pg B 270 W1 (oe i mo (nI init) init.length)<|aq (ar++Cp (aC<|hp ns init) (bU m) (jt q) w seen tq nv ns) 274
theorem PK{m:dO}(hm:lE m)(hs:0<=m.steps/\m.steps<=1000000000000):aR bU (fun a rest=>(eT a rest).map (·.1)) (bU m) []=some (BP<|fp m):=by refine(TO CB).trans ?_;unfold eT;rw[if_pos ⟨rfl,hm.ask hs⟩];rfl
theorem O8{m:dO}(hm:lE m)(hs:0<=m.steps/\m.steps<=1000000000000):∃an xn,
 (aR bU (fun a rest=>(eT a rest).map (·.1)) (bU m) []=some (.agg [.int .u8<|.ofNat 1,.int .i64 an,.int .i64 xn])/\fp m=(1,0,0))\/
 (aR bU (fun a rest=>(eT a rest).map (·.1)) (bU m) []=some (.agg [.int .u8<|.ofNat 2,.int .i64 an,.int .i64 xn])/\∃v,fp m=(2,v,0))\/
 aR bU (fun a rest=>(eT a rest).map (·.1)) (bU m) []=some (.agg [.int .u8<|.ofNat 3,.int .i64 an,.int .i64 xn])\/
 aR bU (fun a rest=>(eT a rest).map (·.1)) (bU m) []=some (.agg [.int .u8<|.ofNat 4,.int .i64 an,.int .i64 xn]):=by
 have hx:=PK hm hs;rcases ME hm with e|⟨v,e,_⟩|⟨x,e⟩|e
 ·rw[e] at hx;exact⟨0,0,.inl ⟨hx,e⟩⟩
 ·rw[e] at hx;exact⟨v,0,.inr<|.inl ⟨hx,v,e⟩⟩
 ·rw[e] at hx;exact⟨0,x,.inr<|.inr<|.inl hx⟩
 ·rw[e] at hx;exact⟨0,0,.inr<|.inr<|.inr hx⟩
theorem tm{ns:Int}(h0:0<=v)(hs:1<=ns):0<=Int.tmod v ns/\Int.tmod v ns<ns:=⟨Int.tmod_nonneg _ h0,Int.tmod_lt_of_pos _ ab⟩
section
variable {B:aJ} {init:List Int} {nv ns tq seen:Int} {q:jH} {m:dO}
theorem Jz:(((hp ns init).ba.length:Nat):Int)=(ns.toNat:Int):=by show(((List.replicate ns.toNat (⟨-1,0⟩:Lk)).length:Nat):Int)=_;rw[List.length_replicate]
theorem u7(h:0<=s/\s<ns):ib (hp ns init).ba s=⟨-1,0⟩:=by show(List.replicate ns.toNat (⟨-1,0⟩:Lk)).getD s.toNat _=_;rw[List.getD_eq_getElem?_getD,List.getElem?_replicate,if_pos ab];rfl
theorem aej(h:(init.length:Int)=nv):aR aC iF (aC<|hp ns init) []=some (.int .i64 nv):=by refine rH.trans<|congrArg some ?_;show AV.int .i64 (init.length:Int)=_;rw[h]
theorem aaa(h:1<=ns):aR aC iC (aC<|hp ns init) []=some (.int .i64 ns):=by refine rH.trans<|congrArg some ?_;show AV.int .i64 (((hp ns init).ba.length:Nat):Int)=_;rw[Jz,Int.toNat_of_nonneg ab]
theorem S3(hn:1<=ns)(h:(init.length:Int)=nv)(hv:0<=v/\v<nv):aR aC p7 (aC<|hp ns init) [.int .i64 v]=some (i6<|Int.tmod v ns):=by refine rH.trans<|congrArg some ?_;show AV.int .i64 (if 0<=v/\v<(init.length:Int) then Int.tmod v (((hp ns init).ba.length:Nat):Int) else -1)=_;rw[h,Jz,Int.toNat_of_nonneg ab,if_pos hv]
theorem TW(hs:0<=s/\s<ns):aR aC qh (aC<|hp ns init) [.int .i64 s]=some (i6<|-1):=by refine rH.trans<|congrArg some ?_;show AV.int .i64 (if 0<=s/\s<(((hp ns init).ba.length:Nat):Int) then(ib (hp ns init).ba s).owner else -1)=_;rw[Jz,Int.toNat_of_nonneg ab,if_pos hs,u7 hs]
theorem R7(hs:0<=s/\s<ns):aR aC oY (aC<|hp ns init) [.int .i64 s]=some (.int .i64 0):=by refine rH.trans<|congrArg some ?_;show AV.int .i64 (if 0<=s/\s<(((hp ns init).ba.length:Nat):Int) then(ib (hp ns init).ba s).version else 0)=_;rw[Jz,Int.toNat_of_nonneg ab,if_pos hs,u7 hs]
theorem acA(h:(init.length:Int)=nv)(hv:0<=v/\v<nv):aR aC tf (aC<|hp ns init) [.int .i64 v]=some (i6<|oJ init v):=by refine rH.trans<|congrArg some ?_;show AV.int .i64 (if 0<=v/\v<(init.length:Int) then oJ init v else 0)=_;rw[h,if_pos hv]
structure Hg (nv ns:Int) (init:List Int) (q:jH) (m:dO):Prop where
 dm:1<=ns/\ns<=32
 yu:(init.length:Int)=nv
 so:pe q
 rv:q.rv=0
 mi:lE m
 mv:m.vars=nv
def jS(w:Int)(m:dO):Int:=if w=1 then 1+2*((dZ m.fs.reverse:Nat):Int) else if w=4 then 2*((dZ m.fs.reverse:Nat):Int) - 1 else 2*((dZ m.fs.reverse:Nat):Int)
def Fits(w seen:Int)(m:dO):Prop:=w=1\/(w=2/\fp m=(1,0,0))\/(w=3/\∃v,fp m=(2,v,0))\/(w=4/\(∃v,fp m=(2,v,0))/\seen=0)\/w=5\/w=6
theorem acB(h:lE m){x k:Int}(hk:fp m=(k,v,x))(pH:k=1\/k=2):1<=dZ m.fs.reverse:=by
 rcases h.top with e|⟨f,r,e,ht⟩
 ·exfalso;unfold fp at hk;rw[e] at hk;injection hk with q _;omega
 have hw:=h.inv.wf;rw[e] at hw ⊢;obtain⟨d,s,hd,q,_⟩:=za hw ht;have:=NT (r:=r) hw.2.1.1 q;have:1<=nr (uc 60) s:=Nat.le_add_right _ _;omega
theorem rounds(mc:Mt LL B){mo:Int}(ui:0<=mo/\mo<=5000):∀(d:Nat) (k:Int) {q:jH} {m:dO} {w seen:Int},0<=k->mo - k=(d:Int)->Hg nv ns init q m->(0<=m.steps/\m.steps<=k)->Fits w seen m->jS w m<=mo - k->X7 B k mo init q m w seen tq nv ns:=by
 intro d
 induction d using Nat.strongRecOn with
 |_ d ih=>
 intro k q m w seen h0 hd ok cF hf cn
 have hl:k<=mo:=by omega
 obtain⟨dm,yu,hq,Lh,hm,Li⟩:=ok
 have oV:=ui.2
 have kV:=aej (ns:=ns) yu
 have kS:=aaa (init:=init) dm.1
 have next:∀{q':jH} {m':dO} {w' Wc:Int},Hg nv ns init q' m'->(0<=m'.steps/\m'.steps<=k+1)->Fits w' Wc m'->1<=mo - k->jS w' m'<=mo - k - 1->X7 B (k+1) mo init q' m' w' Wc tq nv ns:=fun a b c e g=>
  ih (d - 1) ab (k+1) ab ab a b c ab
 rcases hf with rfl|⟨rfl,ha⟩|⟨rfl,v,ha⟩|⟨rfl,⟨v,ha⟩,rfl⟩|rfl|rfl
 ·
  have kC:aR aC ou (aC<|hp ns init) []=some (.int .i64 0):=rH
  have kN:kj wM [.int .i64 0,.int .i64 ns]=some (some<|jt<|pw 0 ns,fun p=>.tuple [p,.int .i64 0]):=by
   refine IA ?_ rfl
   show(if(0:Int)<0\/(0:Int)>1099511627776\/ns<1\/ns>32 then _ else _)=_
   rw[if_neg ab]
  have sok:pe<|pw 0 ns:=⟨by unfold ze;show -9223372036854775808<=(0:Int)/\(0:Int)<=9223372036854775807;omega,by show 1<=ns/\ns<=32;omega,rfl⟩
  have e1:jS 1 m=1+2*((dZ m.fs.reverse:Nat):Int):=if_pos rfl
  have K:Hg nv ns init (pw 0 ns) m:=⟨dm,yu,sok,rfl,hm,Li⟩
  obtain⟨an,xn,e⟩:=O8 hm ab
  rcases e with⟨kA,e⟩|⟨kA,e⟩|kA|kA
  ·exact aiY (w:=0) mc lX h0 hl oV kV kS kC kN kA<|next K ab (.inr<|.inl ⟨rfl,e⟩) ab Kg
  ·exact ai0 (w:=0) mc lX h0 hl oV kV kS kC kN kA<|next K ab (.inr<|.inr<|.inl ⟨rfl,e⟩) ab Kg
  ·exact ai2 (w:=0) mc lX h0 hl oV kV kS kC kN kA<|next K ab (.inr<|.inr<|.inr<|.inr<|.inl rfl) ab Kg
  ·exact ai4 (w:=0) mc lX h0 hl oV kV kS kC kN kA<|next K ab (.inr<|.inr<|.inr<|.inr<|.inr rfl) ab Kg
 ·
  obtain⟨zT,m',hs,eB,jb,jw,_⟩:=MS hm ab ha
  have hp:=acy hm ha hs
  have kT:fj (dX bU xw) (bU m) []=some (i6<|.ofNat 0,bU m'):=by
   refine Ko CB (f:=xw) ?_ rfl rfl
   unfold xw;rw[if_pos ⟨rfl,zT⟩,hs];rfl
  have e1:jS 2 m=2*((dZ m.fs.reverse:Nat):Int):=rfl
  have K:Hg nv ns init q m':=⟨dm,yu,hq,Lh,eB,jw.trans Li⟩
  obtain⟨an,xn,e⟩:=O8 eB ab
  rcases e with⟨kA,e⟩|⟨kA,e⟩|kA|kA
  ·exact aiZ (w:=0) mc lX h0 hl oV kV kS kT kA<|next K ab (.inr<|.inl ⟨rfl,e⟩) ab zD
  ·exact ai1 (w:=0) mc lX h0 hl oV kV kS kT kA<|next K ab (.inr<|.inr<|.inl ⟨rfl,e⟩) ab zD
  ·exact ai3 (w:=0) mc lX h0 hl oV kV kS kT kA<|next K ab (.inr<|.inr<|.inr<|.inr<|.inl rfl) ab zD
  ·exact ai5 (w:=0) mc lX h0 hl oV kV kS kT kA<|next K ab (.inr<|.inr<|.inr<|.inr<|.inr rfl) ab zD
 ·
  have hv:0<=v/\v<nv:=by
   rcases ME hm with e|⟨v',e,b1,b2⟩|⟨x,e⟩|e<;>rw[ha] at e
   ·injection e with e _;omega
   ·injection e with _ e;injection e with e _;omega
   ·injection e with e _;omega
   ·injection e with e _;omega
  have kA:aR bU (fun a rest=>(eT a rest).map (·.1)) (bU m) []=some (.agg [.int .u8 2,.int .i64 v,.int .i64 0]):=(PK hm ab).trans (by rw[ha];rfl)
  have hs:=tm (ns:=ns) hv.1 dm.1
  have hp:=acB hm ha<|.inr rfl
  have e1:jS 3 m=2*((dZ m.fs.reverse:Nat):Int):=rfl
  refine stK (w:=0) mc lX h0 hl oV kV kS kA (S3 dm.1 yu hv) (TW hs) (R7 hs) (Ko H9 (f:=JT) (a':=q) ?_ rfl rfl)<|next ⟨dm,yu,hq,Lh,hm,Li⟩ ab (.inr<|.inr<|.inr<|.inl ⟨rfl,⟨v,ha⟩,rfl⟩) ab (by show 2*((dZ m.fs.reverse:Nat):Int) - 1<=_;omega)
  show some (u9 _ _ _,_)=_
  unfold u9
  rw[if_neg ab,if_neg (by rw[Lh];omega)];rfl
 ·
  have hv:0<=v/\v<nv:=by
   rcases ME hm with e|⟨v',e,b1,b2⟩|⟨x,e⟩|e<;>rw[ha] at e
   ·injection e with e _;omega
   ·injection e with _ e;injection e with e _;omega
   ·injection e with e _;omega
   ·injection e with e _;omega
  have kA:aR bU (fun a rest=>(eT a rest).map (·.1)) (bU m) []=some (.agg [.int .u8 2,.int .i64 v,.int .i64 0]):=(PK hm ab).trans (by rw[ha];rfl)
  have hs:=tm (ns:=ns) hv.1 dm.1
  have kT:=S3 (init:=init) dm.1 yu hv
  have kO:=TW (init:=init) hs
  have kE:=R7 (init:=init) hs
  have kX:=acA (ns:=ns) yu hv
  have sk:cX FU (nI init) (0+v.toNat*1+0) 1=some [.int .i64<|oJ init v]:=by
   rw[Nat.zero_add]
   exact C4 eI (OV hv.1 ab) 0 1 ab
  obtain⟨zT,m',El,eB,jb,jw,_⟩:=aec hm ab ha<|oJ init v
  have hp:=aeh hm ha El
  have kM:fj (dX bU vE) (bU m) [.int .i64<|oJ init v]=some (i6<|.ofNat 0,bU m'):=by
   refine Ko CB (f:=vE) ?_ rfl rfl
   have e1:vE m [.int .i64<|oJ init v]=(wP m<|oJ init v).map fun a'=>(AV.int .i64 0,a'):=by unfold vE;exact if_pos zT
   rw[e1,El];rfl
  have aja:(py q<|Int.tmod v ns).rv=q.rv:=by unfold py;split<;>rfl
  have hqo:pe<|py q<|Int.tmod v ns:=by
   unfold py
   split
   ·exact hq
   ·exact Uq hq
  have kQ:fj (dX jt zF) (jt q) [.int .i64<|Int.tmod v ns]=some (i6 (if Int.tmod v ns<0\/Int.tmod v ns>=q.qW then 1 else 0),jt<|py q<|Int.tmod v ns):=Ko H9 (f:=zF) rfl rfl rfl
  have e1:jS 4 m=2*((dZ m.fs.reverse:Nat):Int) - 1:=rfl
  have K:Hg nv ns init (py q<|Int.tmod v ns) m':=⟨dm,yu,hqo,aja.trans Lh,eB,jw.trans Li⟩
  have ht:top<=nI init:=dU _
  have iL:0<=v/\v<(init.length:Int):=by omega
  obtain⟨an,xn,e⟩:=O8 eB ab
  rcases e with⟨kN,e⟩|⟨kN,e⟩|kN|kN
  ·exact ai6 (w:=0) mc lX h0 hl oV ht iL sk kV kS kA kT kO kE kX kM kQ kN<|next K ab (.inr<|.inl ⟨rfl,e⟩) ab zD
  ·exact ai7 (w:=0) mc lX h0 hl oV ht iL sk kV kS kA kT kO kE kX kM kQ kN<|next K ab (.inr<|.inr<|.inl ⟨rfl,e⟩) ab zD
  ·exact ai8 (w:=0) mc lX h0 hl oV ht iL sk kV kS kA kT kO kE kX kM kQ kN<|next K ab (.inr<|.inr<|.inr<|.inr<|.inl rfl) ab zD
  ·exact ai9 (w:=0) mc lX h0 hl oV ht iL sk kV kS kA kT kO kE kX kM kQ kN<|next K ab (.inr<|.inr<|.inr<|.inr<|.inr rfl) ab zD
 ·exact aiW (w:=0) mc lX h0 hl oV
 ·exact aiX (w:=0) mc lX h0 hl oV
end
end O7
end
section
open Go Go.Rn Go.RowKit Go.Proofs
namespace Wd
open cq gw eH gU Bu qF qE tF eX cz dj cO cT fm eR fM fO fU gh fV gi gO gP gZ hU iH iX jI jJ fx gY Bs lD lU kF my lV pC pE rL rM z6 F7 xy GB G2 zK By zI DK DL GF nh m7 tP qp xS zm JX O6 O7
theorem aba{B:aJ}(mc:Mt LL B){tx:List St}{init aK:List Int}{st:Int}(hk:rB 60 tx):
 au pg B 270 W1 (sF 3 Tryz.f3 [.U (nm (tx.map aM).flatten) 0 tx.length,aX bS init,.int .i64 st,aX bS aK]) (aq ar 270):=by
 have QQ:(AV.U (nm (tx.map aM).flatten) 0 tx.length).hi=true:=by rw[←te];exact sY tx
 have kA:bf (aU tg) []=some (.bool true):=fA (eZ tg.bT ⟨rfl,rfl⟩) rfl rfl;have kM:bf (aU<|nd 22) [.U (nm (tx.map aM).flatten) 0 tx.length,.int .i64<|.ofNat 0]=some (.tuple [.int .i64 (cU 22 tx).1,.bool (cU 22 tx).2]):=fA (eZ nd.bT ⟨tx,by rw[te];rfl,by omega,rfl⟩) (by rw[List.all_cons,QQ];rfl) rfl;cases hm:(cU 22 tx).2 with
 |true=>rw[hm] at kM;exact s0L mc lX kM kA
 |false=>
  rw[hm] at kM;by_cases hb:aK.length>50\/init.length>40
  ·exact s0B mc lX hb kM kA
  have gm:aK.length<=50/\init.length<=40:=by omega
  have X8:[aX bS init,AV.int .i64 st,AV.int .i64<|.ofNat 9].all AV.hi=true:=by rw[List.all_cons,(eC.aX eI init).hi];rfl
  by_cases hq:init.length<1\/init.length>32\/st<1\/st>(init.length:Int)
  ·have kH:kj vj [aX bS init,.int .i64 st,.int .i64<|.ofNat 9]=some (none,mz 1):=Uj (TM ⟨init,_,_,st,9,rfl,eC.aX eI init,.inl ⟨by omega,rfl⟩⟩) X8 rfl;exact s0N mc lX gm hq kM kA kH
  have dS:1<=init.length/\init.length<=32/\1<=st/\st<=(init.length:Int):=by omega
  have kH:kj vj [aX bS init,.int .i64 st,.int .i64<|.ofNat 9]=some (some<|aC<|hp st init,mz 0):=IA (TM ⟨init,_,_,st,9,rfl,eC.aX eI init,.inr ⟨by omega,rfl⟩⟩) X8;have X9:[AV.U (nm (tx.map aM).flatten) 0 tx.length,.int .i64 (init.length:Int),aX bS aK].all AV.hi=true:=by rw[List.all_cons,QQ,List.all_cons,List.all_cons,(eC.aX eI aK).hi];rfl
  obtain⟨d1,d2⟩:=CC 22 60 tx ab hm;obtain⟨b,rJ,ahw⟩:=acx (n:=aK.length) hm hk;have hv:1<=(init.length:Int)/\(init.length:Int)<=32:=by omega
  cases b with
  |false=>have kN:kj xA [.U (nm (tx.map aM).flatten) 0 tx.length,.int .i64 (init.length:Int),aX bS aK]=some (none,mz 4):=Uj (TL ⟨tx,_,aK,_,_,rfl,eC.aX eI aK,by omega,.inr ⟨hv,d2,d1,false,rJ,.inl ⟨rfl,rfl⟩⟩⟩) X9 rfl;exact s0M mc lX gm dS kM kA kH kN
  |true=>
   obtain⟨gc,wf⟩:=ahw rfl;obtain⟨fs,bb,hs,hmi⟩:=aed (aK:=aK) wf ab hv;have kN:kj xA [.U (nm (tx.map aM).flatten) 0 tx.length,.int .i64 (init.length:Int),aX bS aK]=some (some<|bU ⟨(init.length:Int),aK,Z8,bb,fs.reverse,0⟩,mz 0):=IA (TL ⟨tx,_,aK,_,_,rfl,eC.aX eI aK,by omega,.inr ⟨hv,d2,d1,true,rJ,.inr ⟨rfl,gc,fs,bb,hs,rfl⟩⟩⟩) X9;have kS:kj wM [.int .i64<|.ofNat 0,.int .i64 st]=some (some<|jt<|pw 0 st,fun p=>.tuple [p,.int .i64 0]):=by refine IA ?_ rfl;show(if(0:Int)<0\/(0:Int)>1099511627776\/st<1\/st>32 then _ else _)=_;rw[if_neg ab];rfl
   have hc:=acz rJ;have iM:=AR 60 tx;have kC:bf (aU<|ph 60) [.U (nm (tx.map aM).flatten) 0 tx.length]=some (i6<|fK 60 tx):=fA (eZ ph.bT ⟨tx,by rw[te],d1,rfl⟩) (by rw[List.all_cons,QQ];rfl) rfl;have amg:=aei wf hc hs;refine s0K mc lX gm dS ⟨iM.1,hc⟩ kM kA kH kN kS kC ?_;refine rounds mc (mo:=2*fK 60 tx+1) ab (2*fK 60 tx+1).toNat 0 (q:=pw 0 st) ab ab ⟨by omega,rfl,⟨by unfold ze;show -9223372036854775808<=(0:Int)/\(0:Int)<=9223372036854775807;omega,by show 1<=st/\st<=32;omega,rfl⟩,rfl,hmi,rfl⟩ ⟨by show(0:Int)<=0;omega,by show(0:Int)<=0;omega⟩ (.inl rfl) ?_;show 1+2*((dZ fs.reverse.reverse:Nat):Int)<=_;rw[List.reverse_reverse];omega
end Wd
end
section
open Go Go.Rn Go.RowKit Go.Proofs
open Go.ChangeShapes
namespace ahz
open cq cz eX dj DL qp nh m7 eH fx gY xS qE gU zI zK By GF JX O7 Wd
variable {v:Value} {b0:Nat} {p:List MemPlace} {t:TypeId}
section
variable {H:Type} {enc:TypeId×Value->H} {w:World} {base:Nat} {sp:Nat->Bool} {held:Bool}
theorem wf_u8{n:Int}(h:(Lit.int .u8 n).wf=true):0<=n/\n<=255:=by obtain⟨h1,h2⟩:=and_true.1 (show(decide (IntKind.u8.min<=n)&&decide (n<=IntKind.u8.max))=true from h);exact⟨of_decide_eq_true h1,of_decide_eq_true h2⟩
theorem Yb:Tryz.prog.cellsOf 2=1:=by kernel_rfl
theorem sz3:Tryz.prog.cellsOf 3=1:=by kernel_rfl
theorem Yc:Tryz.prog.cellsOf 5=1:=by kernel_rfl
theorem ajb:Tryz.prog.cellsOf 22=1:=by kernel_rfl
theorem ajc:Tryz.prog.cellsOf 66=1:=by kernel_rfl
theorem W3:Tryz.prog.cellsOf 68=3:=by kernel_rfl
theorem W4:Tryz.prog.cellsOf 70=10:=by kernel_rfl
theorem JA{x y:Value}(h:[x]=[y]):x=y:=by injection h
theorem aek{fuel:Nat}(hu:Tryz.prog.underlying t=some (.int .i64))(row:List Value)(_:row.length=1)(h2:∃n y,n<fuel/\DataW.trod enc pg w base sp held n t row=some y):∃a ms,JY w bS (fun _=>True) row a ms:=by
 obtain⟨_,y,_,h⟩:=h2;obtain⟨a,rfl,_,_⟩:=DataW.trod_int hu h;refine⟨a,[],trivial,Good.nil,fun j x hx=>?_⟩;rcases j with _|j
 ·injection (show some _=some x from hx) with hx
  subst hx;exact⟨_,rfl,fun σ _=>by simp only[VR]⟩
 ·cases(show none=some x from hx)
theorem We:∀(fuel:Nat) (c0 c1 c2:Value) (y:DataW H×List MemPlace),DataW.trod enc pg w base sp held fuel 68 [c0,c1,c2]=some y->∃(op n:Int) (args:List Ex) (ms:mD),c0= .int .u8 op/\c1= .int .i64 n/\Good w ms/\Is ms (aX aB args) c2:=by
 intro fuel;induction fuel using Nat.strongRecOn with
 |ind fuel ih=>
  intro c0 c1 c2 y h;obtain⟨xs,n,Ya,_,hlen,QR,hf⟩:=DataW.trod_struct Tryz.underlying68 h;have ajd:xs.length=3:=QR
  match xs,ajd,hf with
  |[x0,x1,x2],_,hf=>
   have f0:DataW.trod enc pg w base sp held n 5 (([c0,c1,c2].drop 0).take<|Tryz.prog.cellsOf 5)=some x0:=hf 0 _ rfl;have f1:DataW.trod enc pg w base sp held n 2 (([c0,c1,c2].drop 1).take<|Tryz.prog.cellsOf 2)=some x1:=hf 1 _ rfl;have f2:DataW.trod enc pg w base sp held n 66 (([c0,c1,c2].drop 2).take<|Tryz.prog.cellsOf 66)=some x2:=hf 2 _ rfl;rw[Yc] at f0;rw[Yb] at f1;rw[ajc] at f2;obtain⟨a0,e0,_,_⟩:=DataW.trod_int Tryz.underlying5 f0;obtain⟨a1,e1,_,_⟩:=DataW.trod_int Tryz.underlying2 f1;obtain rfl:=JA e0;obtain rfl:=JA e1;obtain⟨l,ms,_,k2,k3⟩:=Ik (Q:=fun _:Ex=>True) kK (Nat.succ_pos _) Tryz.underlying66 W3 (fun row eO h2=>by
    obtain⟨n2,y2,oK,h2⟩:=h2
    match row,eO,h2 with
    |[d0,d1,d2],_,h2=>
     obtain⟨o',n',l',j8,rfl,rfl,g1,g2⟩:=ih n2 ab d0 d1 d2 y2 h2;refine⟨.mk o' n' l',j8,trivial,g1,fun j x hx=>?_⟩;rw[MY] at hx;rcases j with _|_|_|j
     ·injection (show some _=some x from hx) with hx
      subst hx;exact⟨_,rfl,fun σ _=>by simp only[VR]⟩
     ·injection (show some _=some x from hx) with hx
      subst hx;exact⟨_,rfl,fun σ _=>by simp only[VR]⟩
     ·injection (show some _=some x from hx) with hx
      subst hx;exact⟨_,rfl,g2⟩
     ·cases(show none=some x from hx)) (show DataW.trod enc pg w base sp held n 66 [c2]=some x2 from f2)
   exact⟨a0,a1,l,ms,rfl,rfl,k2,k3⟩
def KQ(s:St):Prop:=(0<=fB s/\fB s<256)/\∀k,rB k (bF s)/\rB k (bB s)
theorem Nn{l:List St}(h:∀s∈l,KQ s):∀k,rB k l
 |0=>trivial
 |k+1=>fun s hs=>⟨(h s hs).1,(h s hs).2 k⟩
theorem afN:∀(fuel:Nat) (row:List Value) (y:DataW H×List MemPlace),row.length=10->DataW.trod enc pg w base sp held fuel 70 row=some y->∃a ms,JY w aM KQ row a ms:=by
 intro fuel;induction fuel using Nat.strongRecOn with
 |ind fuel ih=>
  intro row y eO h;obtain⟨xs,n,Ya,_,hlen,QR,hf⟩:=DataW.trod_struct Tryz.underlying70 h;have aje:xs.length=6:=QR
  match row,eO,xs,aje,hf with
  |[c0,c1,c2,c3,c4,c5,c6,c7,c8,c9],_,[x0,x1,x2,x3,x4,x5],_,hf=>
   have f0:DataW.trod enc pg w base sp held n 5 (([c0,c1,c2,c3,c4,c5,c6,c7,c8,c9].drop 0).take<|Tryz.prog.cellsOf 5)=some x0:=hf 0 _ rfl;have f1:DataW.trod enc pg w base sp held n 3 (([c0,c1,c2,c3,c4,c5,c6,c7,c8,c9].drop 1).take<|Tryz.prog.cellsOf 3)=some x1:=hf 1 _ rfl;have f2:DataW.trod enc pg w base sp held n 68 (([c0,c1,c2,c3,c4,c5,c6,c7,c8,c9].drop 2).take<|Tryz.prog.cellsOf 68)=some x2:=hf 2 _ rfl;have f3:DataW.trod enc pg w base sp held n 68 (([c0,c1,c2,c3,c4,c5,c6,c7,c8,c9].drop 5).take<|Tryz.prog.cellsOf 68)=some x3:=hf 3 _ rfl;have f4:DataW.trod enc pg w base sp held n 22 (([c0,c1,c2,c3,c4,c5,c6,c7,c8,c9].drop 8).take<|Tryz.prog.cellsOf 22)=some x4:=hf 4 _ rfl;have f5:DataW.trod enc pg w base sp held n 22 (([c0,c1,c2,c3,c4,c5,c6,c7,c8,c9].drop 9).take<|Tryz.prog.cellsOf 22)=some x5:=hf 5 _ rfl;rw[Yc] at f0;rw[sz3] at f1;rw[W3] at f2 f3;rw[ajb] at f4 f5;obtain⟨a0,e0,_,w0⟩:=DataW.trod_int Tryz.underlying5 f0;obtain⟨a1,e1,_,_⟩:=DataW.trod_int Tryz.underlying3 f1;obtain rfl:=JA e0;obtain rfl:=JA e1;obtain⟨o2,n2,l2,m2,rfl,rfl,g2,i2⟩:=We n c2 c3 c4 x2 f2;obtain⟨o3,n3,l3,m3,rfl,rfl,g3,i3⟩:=We n c5 c6 c7 x3 f3;have hr:∀{v:Value} {z:DataW H×List MemPlace},DataW.trod enc pg w base sp held n 22 [v]=some z->∃(l:List St) (ms:mD),(∀a∈l,KQ a)/\Good w ms/\Is ms (aX aM l) v:=fun hz=>Ik (Q:=KQ) mB (Nat.succ_pos _) Tryz.underlying22 W4 (fun row eO h2=>by obtain⟨k2,y2,K2,h2⟩:=h2;exact ih k2 ab row y2 eO h2) hz;obtain⟨l4,m4,q4,g4,i4⟩:=hr (v:=c8) f4;obtain⟨l5,m5,q5,g5,i5⟩:=hr (v:=c9) f5;refine⟨.mk a0 a1 (.mk o2 n2 l2) (.mk o3 n3 l3) l4 l5,m2++(m3++(m4++m5)),⟨by have:=wf_u8 w0;show 0<=a0/\a0<256;omega,fun k=>⟨Nn q4 k,Nn q5 k⟩⟩,g2.app<|g3.app<|g4.app g5,fun j x hx=>?_⟩;rw[wz,MY,MY] at hx;rcases j with _|_|_|_|_|_|_|_|_|_|j
   ·injection (show some _=some x from hx) with hx;subst hx;exact⟨_,rfl,fun σ _=>by simp only[VR]⟩
   ·injection (show some _=some x from hx) with hx;subst hx;exact⟨_,rfl,fun σ _=>by simp only[VR]⟩
   ·injection (show some _=some x from hx) with hx;subst hx;exact⟨_,rfl,fun σ _=>by simp only[VR]⟩
   ·injection (show some _=some x from hx) with hx;subst hx;exact⟨_,rfl,fun σ _=>by simp only[VR]⟩
   ·injection (show some _=some x from hx) with hx;subst hx;exact⟨_,rfl,i2.sub fun p hp=>List.mem_append_left _ hp⟩
   ·injection (show some _=some x from hx) with hx;subst hx;exact⟨_,rfl,fun σ _=>by simp only[VR]⟩
   ·injection (show some _=some x from hx) with hx;subst hx;exact⟨_,rfl,fun σ _=>by simp only[VR]⟩
   ·injection (show some _=some x from hx) with hx;subst hx;exact⟨_,rfl,i3.sub fun p hp=>List.mem_append_right _<|List.mem_append_left _ hp⟩
   ·injection (show some _=some x from hx) with hx;subst hx;exact⟨_,rfl,i4.sub fun p hp=>List.mem_append_right _<|List.mem_append_right _<|List.mem_append_left _ hp⟩
   ·injection (show some _=some x from hx) with hx;subst hx;exact⟨_,rfl,i5.sub fun p hp=>List.mem_append_right _<|List.mem_append_right _<|List.mem_append_right _ hp⟩
   ·cases(show none=some x from hx)
theorem TZ{e:TypeId}(hu:Tryz.prog.underlying t=some (.slice e))(dz:Value.okWide pg w .any b0 t v):∃a len cap,v= .slice a len cap:=by unfold Value.okWide at dz;rw[hu] at dz;simp only at dz;unfold Cell.okWide at dz;rw[hu] at dz;cases v<;>first|exact⟨_,_,_,rfl⟩|(exfalso;unfold Cell.ok at dz;rw[hu] at dz;simp at dz)
theorem al6{d:DataW H}(dz:Value.okWide pg w .any b0 22 v)(h:DataW.Trod enc pg w base sp held 22 v d p):∃(l:List St) (ms:mD),(∀a∈l,KQ a)/\Good w ms/\Is ms (aX aM l) v:=by obtain⟨fuel,h⟩:=h;obtain⟨a,len,cap,rfl⟩:=TZ Tryz.underlying22 dz;exact Ik (Q:=KQ) mB (Nat.succ_pos _) Tryz.underlying22 W4 (fun row eO h2=>by obtain⟨n,y,_,h2⟩:=h2;exact afN n row y eO h2) (show DataW.trod enc pg w base sp held fuel 22 [.slice a len cap]=some (d,p) from h)
theorem alR{d:DataW H}(dz:Value.okWide pg w .any b0 23 v)(h:DataW.Trod enc pg w base sp held 23 v d p):∃(l:List Int) (ms:mD),Good w ms/\Is ms (aX bS l) v:=by obtain⟨fuel,h⟩:=h;obtain⟨a,len,cap,rfl⟩:=TZ Tryz.underlying23 dz;obtain⟨l,ms,_,k2,k3⟩:=Ik (Q:=fun _:Int=>True) eI (Nat.succ_pos _) Tryz.underlying23 Yb (aek Tryz.underlying2) (show DataW.trod enc pg w base sp held fuel 23 [.slice a len cap]=some (d,p) from h);exact⟨l,ms,k2,k3⟩
theorem alU{d:DataW H}(dz:Value.okWide pg w .any b0 3 v)(h:DataW.Trod enc pg w base sp held 3 v d p):∃n,v= .int .i64 n:=by
 obtain⟨fuel,h⟩:=h;have hc:∃n,v= .int .i64 n:=by unfold Value.okWide at dz;rw[Tryz.underlying3] at dz;simp only at dz;unfold Cell.okWide at dz;rw[Tryz.underlying3] at dz;cases v<;>simp_all [Cell.ok,Tryz.underlying3]
 exact hc
end
theorem ahA:Tryz.f3.body=some (a9 pg 3 []):=CG Tryz.func3 aW
theorem alV(hP:bE pg)(W:World){ρ:aw}(S:Rn.Start 270 dV ρ W){st:Int}{v1 v2 v4:Value}{tx:List St}{init aK:List Int}{m1 m2 m4:mD}(q:∀s∈tx,KQ s)(g1:Good W m1)(i1:Is m1 (aX aM tx) v1)(g2:Good W m2)(i2:Is m2 (aX bS init) v2)(g4:Good W m4)(i4:Is m4 (aX bS aK) v4):
 Calls pg 3 #[v1,v2,.int .i64 st,v4] W fun e w'=>e= .returned (.bool true)/\Below W.heap.size W w':=by
 let B:aJ:=⟨fun k=>W.heap.size<=k,FU,fun _=>True,nK XT 270,W.heap.size,fun h a b=>h.mono a b⟩;have g:Good W<|m1++(m2++m4):=g1.app<|g2.app g4;have r:Rel B (pj (m1++(m2++m4)) ρ) dV W:=S.ahy B (Nat.le_trans (by decide) qd) g;have hh:Has (pj (m1++(m2++m4)) ρ)<|m1++(m2++m4):=S5;have v1':=VR.mono (IY _) _ _<|i1 _<|hh.sub fun p hp=>List.mem_append_left _ hp;have v2':=VR.mono (IY _) _ _<|i2 _<|hh.sub fun p hp=>List.mem_append_right _<|List.mem_append_left _ hp;have v4':=VR.mono (IY _) _ _<|i4 _<|hh.sub fun p hp=>List.mem_append_right _<|List.mem_append_right _ hp;have mc:Mt LL B:=rE hP (afM hP) rfl rfl;have H:=aba (init:=init) (aK:=aK) (st:=st) mc<|Nn q 60;have hg:gd<|pj (m1++(m2++m4)) ρ:=fun g hg=>by obtain⟨N,e⟩:=S.g g hg;exact⟨N,Il _ _ e⟩
 have hf:∀k,270<=k->k<top->pj (m1++(m2++m4)) ρ k=none:=fun k h1 h2=>by rw[MG h2];exact S.free k h1
 have hv:ay (pj (m1++(m2++m4)) ρ) [aX aM tx,aX bS init,.int .i64 st,aX bS aK] (#[v1,v2,.int .i64 st,v4]:Array Value).toList:=⟨_,_,rfl,v1',_,_,rfl,v2',_,_,rfl,rfl,_,_,rfl,v4',rfl⟩;have r':Rel B (pj (m1++(m2++m4)) ρ) (aq ar 270).h W:=by rw[gX];exact r
 have bC:=au.calls (args:=[aX aM tx,aX bS init,.int .i64 st,aX bS aK]) hP Tryz.func3 ahA (aL.1 aW) H (acP aW) r' hg hf hv;refine bC.mono fun e w'=>?_;rintro ⟨v,x,s3,rfl,rfl,_,_,σ,_,q2,_,q4⟩;simp only[VR] at q2;exact⟨by rw[q2],q4.os,q4.tape,q4.output,q4.size,fun k hk=>q4.block k hk (by show ¬(W.heap.size<=k);omega)⟩
end ahz
end
