import Derived.Test.YthjiifomjmdjbaaGreatDoorAtGI
import Derived.Test.YthjiifomjmdjbaaGreatDoorRnGG
import Derived.Test.YthjiifomjmdjbaaGreatDoorRnGH
set_option maxRecDepth 100000
set_option maxHeartbeats 8000000
set_option linter.unusedSimpArgs false
set_option linter.unusedVariables false
section
open Go Go.Rn Go.RowKit Go.Proofs
namespace gY
open cq cz cO cT dj eH BK fx xR
variable {k N L:Nat} {v:AV} {B:aJ} {i:Int}
noncomputable section
def dY(x y:Int):Int:=match decide (y<x) with|true=>y|false=>x
def jM(kd m cd ce:Int):Int:=if kd=4 then dY (m+1+cK cd ce) 2001 else if kd=5 then dY (m+1+8*cd) 2001 else if kd=7 then dY (m+1+(cd+ce)) 2001 else dY (m+1+0) 2001
def fB:St->Int| .mk k _ _ _ _ _=>k
def fK:Nat->List St->Int
 |0,_=>0
 |k+1,l=>l.foldl (fun m s=>jM (fB s) m (fK k<|bF s)<|fK k<|bB s) 0
def lh:Nat->List St->Bool
 |0,_=>false
 |k+1,l=>decide (l.length<=1000000)&&l.all fun s=>lh k (bF s)&&lh k (bB s)
def ph(k:Nat)(args:List AV)(v:AV):Prop:=∃l:List St,args=[.U (nm<|bw l) 0 l.length]/\lh k l=true/\v= .int .i64 (fK k l)
theorem ph.bT(args:List AV)(v v':AV)(h:ph k args v)(h':ph k args v'):v=v':=by obtain⟨l,rfl,_,rfl⟩:=h;obtain⟨l',h1,_,rfl⟩:=h';simp only[List.cons.injEq,AV.U.injEq,_root_.and_true,true_and] at h1;rw[ss _ _<|sR (lL l) (lL l') h1.1]
def ji(k:Nat):FuncId×KE:=(8,.val<|aU<|ph k)
def uS(N L:Nat)(m i:Int):List<|Nat×AV:=[(3,(i6 m)),(7,(.U N 0 L)),(8,(i6<|(L:Int))),(9,(i6 i))]
def xc(N L:Nat)(m i:Int):AF:=⟨8,aS<|uS N L m i,(max Tryz.f8.ntmps 1),[.code<|a9 pg 8 [1,1,0,1,0,0],.inLoop<|a9 pg 8 [1,1,0,1,0,0],.inBlock 0,.code<|a9 pg 8 [1,1,1]],[],none⟩
theorem FF(N L:Nat)(m i:Int)(hn:top<=N){M:Int}(e:m=M):((uS N L m i).map (fun q=>some q.2)=(uS N L m i).map (fun q=>some q.2))/\(ar.map (fun q=>q.2)=ar.map (fun q=>q.2))/\xM 270 (uS N L m i) ar/\(xc N L m i=xc N L M i/\aq ar 270=aq ar 270):=⟨rfl,rfl,N7 (fun r r2 p hp=>by simp only[uS,List.mem_cons,List.not_mem_nil,or_false] at hp;rcases hp with rfl|rfl|rfl|rfl<;>first|exact bR.int _ _|exact bR.U (r2 _ hn) r2) rfl,by rw[e],rfl⟩
theorem afk{m:Int}{Na La Nb Lb Nd ld Ne le:Nat}{kd to oa na ob nb cd ce:Int}(mc:Mt [ji k] B)(hn:top<=N)(hi:0<=i)(hL:L<=1000000)(hx:cX FU N (0+i.toNat*10+0) 10=some [(u8<|kd),(i6 to),(u8<|oa),(i6 na),(.U Na 0 La),(u8<|ob),(i6 nb),(.U Nb 0 Lb),(.U Nd 0 ld),(.U Ne 0 le)])(hm:0<=m/\m<=2001)(hd0:0<=cd/\cd<=2001)(he0:0<=ce/\ce<=2001)(hmx:0<=cK cd ce/\cK cd ce<=2001)(hd:bf (aU<|ph k) [(.U Nd 0 ld)]=some (.int .i64 cd))(he:bf (aU<|ph k) [(.U Ne 0 le)]=some (.int .i64 ce))(h1:i<(L:Int))(H:au pg B 270 (Fin pg (az Tryz.f8) fun y _=>y=v) (xc N L (jM kd m cd ce)<|i+1)<|aq ar 270):au pg B 270 (Fin pg (az Tryz.f8) fun y _=>y=v) (xc N L m i)<|aq ar 270:=by exact wC mc (C:=(fun fr s1 _=>fr=xc N L (jM kd m cd ce) (i+1)/\s1=aq ar 270)) np (.st 1<|.rg<|.fk (.en<|.st 6<|.rg<|.fF<|.fG [(u8<|kd),(i6 to),(u8<|oa),(i6 na),(.U Na 0 La),(u8<|ob),(i6 nb),(.U Nb 0 Lb),(.U Nd 0 ld),(.U Ne 0 le)]<|.go 2<|.en<|.st 7<|.rg<|.fk (.go 1<|.en<|.st 1<|.rg<|.go 2<|.kn (i6 cd)<|.go 2<|.kn (i6 ce)<|.vl (i6<|(cK cd ce))<|.go 1<|.en<|.st 1<|.rg<|.go 1<|.vl (i6<|m+1)<|.go 1<|.vl (i6<|(m+1)+(cK cd ce))<|.vl (i6<|(dY ((m+1)+(cK cd ce)) (2001:Int)))<|.go 1<|.en<|.st 1<|.rg<|.vl (i6<|i+1)<|.go 1<|.en<|.st 1<|.bk (uS N L (dY ((m+1)+(cK cd ce)) (2001:Int))<|i+1) ar 270 .no)<|.go 1<|.en<|.st 2<|.rg<|.fk (.go 1<|.en<|.st 1<|.rg<|.go 2<|.kn (i6 cd)<|.vl (i6<|8*cd)<|.go 1<|.en<|.st 1<|.rg<|.go 1<|.vl (i6<|m+1)<|.go 1<|.vl (i6<|(m+1)+(8*cd))<|.vl (i6<|(dY ((m+1)+(8*cd)) (2001:Int)))<|.go 1<|.en<|.st 1<|.rg<|.vl (i6<|i+1)<|.go 1<|.en<|.st 1<|.bk (uS N L (dY ((m+1)+(8*cd)) (2001:Int))<|i+1) ar 270 .no)<|.go 1<|.en<|.st 2<|.rg<|.fk (.go 1<|.en<|.st 1<|.rg<|.go 2<|.kn (i6 cd)<|.go 2<|.kn (i6 ce)<|.vl (i6<|cd+ce)<|.go 1<|.en<|.st 1<|.rg<|.go 1<|.vl (i6<|m+1)<|.go 1<|.vl (i6<|(m+1)+(cd+ce))<|.vl (i6<|(dY ((m+1)+(cd+ce)) (2001:Int)))<|.go 1<|.en<|.st 1<|.rg<|.vl (i6<|i+1)<|.go 1<|.en<|.st 1<|.bk (uS N L (dY ((m+1)+(cd+ce)) (2001:Int))<|i+1) ar 270 .no)<|.go 1<|.en<|.st 3<|.rg<|.go 1<|.vl (i6<|m+1)<|.go 1<|.vl (i6<|(m+1)+0)<|.vl (i6<|(dY ((m+1)+0) (2001:Int)))<|.go 1<|.en<|.st 1<|.rg<|.vl (i6<|i+1)<|.go 1<|.en<|.st 1<|.bk (uS N L (dY ((m+1)+0) (2001:Int))<|i+1) ar 270 .no)<|.no)<|ax (i<(L:Int)) (fun _=>(dq i (L:Int)<|ai hn<|ai hx<|ax (kd=4) (fun _=>(ai hd<|ai he<|ai (congrArg (AV.int .i64) (show(match decide (ce>cd) with|true=>ce|false=>cd)=cK cd ce from rfl))<|ai (wI<|m+1)<|ai (wI<|(m+1)+(cK cd ce))<|ai (congrArg (AV.int .i64) (show(match decide ((2001:Int)<((m+1)+(cK cd ce))) with|true=>(2001:Int)|false=>((m+1)+(cK cd ce)))=dY ((m+1)+(cK cd ce)) (2001:Int) from rfl))<|ai (wI<|i+1)<|FF N L (dY ((m+1)+(cK cd ce)) (2001:Int)) (i+1) hn (show(dY ((m+1)+(cK cd ce)) (2001:Int))=jM kd m cd ce from by(unfold jM;repeat' split)<;>first|rfl|(exfalso;omega)))) fun _=>(ax (kd=5) (fun _=>(ai hd<|ai (wI<|8*cd)<|ai (wI<|m+1)<|ai (wI<|(m+1)+(8*cd))<|ai (congrArg (AV.int .i64) (show(match decide ((2001:Int)<((m+1)+(8*cd))) with|true=>(2001:Int)|false=>((m+1)+(8*cd)))=dY ((m+1)+(8*cd)) (2001:Int) from rfl))<|ai (wI<|i+1)<|FF N L (dY ((m+1)+(8*cd)) (2001:Int)) (i+1) hn (show(dY ((m+1)+(8*cd)) (2001:Int))=jM kd m cd ce from by(unfold jM;repeat' split)<;>first|rfl|(exfalso;omega)))) fun _=>(ax (kd=7) (fun _=>(ai hd<|ai he<|ai (wI<|cd+ce)<|ai (wI<|m+1)<|ai (wI<|(m+1)+(cd+ce))<|ai (congrArg (AV.int .i64) (show(match decide ((2001:Int)<((m+1)+(cd+ce))) with|true=>(2001:Int)|false=>((m+1)+(cd+ce)))=dY ((m+1)+(cd+ce)) (2001:Int) from rfl))<|ai (wI<|i+1)<|FF N L (dY ((m+1)+(cd+ce)) (2001:Int)) (i+1) hn (show(dY ((m+1)+(cd+ce)) (2001:Int))=jM kd m cd ce from by(unfold jM;repeat' split)<;>first|rfl|(exfalso;omega)))) fun _=>(ai (wI<|m+1)<|ai (wI<|(m+1)+0)<|ai (congrArg (AV.int .i64) (show(match decide ((2001:Int)<((m+1)+0)) with|true=>(2001:Int)|false=>((m+1)+0))=dY ((m+1)+0) (2001:Int) from rfl))<|ai (wI<|i+1)<|FF N L (dY ((m+1)+0) (2001:Int)) (i+1) hn (show(dY ((m+1)+0) (2001:Int))=jM kd m cd ce from by(unfold jM;repeat' split)<;>first|rfl|(exfalso;omega))))))) bh
theorem afl{m:Int}(mc:Mt [ji k] B)(h1:(L:Int)<=i)(hv: .int .i64 m=v):au pg B 270 (Fin pg (az Tryz.f8) fun y _=>y=v) (xc N L m i)<|aq ar 270:=by exact wS mc (.st 1<|.rg<|.fk (.no)<|.en<|.rt 6 .no)<|ax (i<(L:Int)) bh fun _=>(show((i6 m):AV)=v from hv)
theorem afm(mc:Mt [ji k] B)(hn:top<=N)(H:au pg B 270 (Fin pg (az Tryz.f8) fun y _=>y=v) (xc N L 0 0)<|aq ar 270):au pg B 270 (Fin pg (az Tryz.f8) fun y _=>y=v) (sF 8 Tryz.f8 [(.U N 0 L)])<|aq ar 270:=by exact wC mc (C:=(fun fr s1 _=>fr=xc N L 0 0/\s1=aq ar 270)) np (.st 9<|.bk (uS N L 0 0) ar 270 .no)<|FF N L 0 0 hn rfl
end
end gY
end
section
open Go Go.Rn Go.RowKit Go.Proofs
namespace Bs
open cq cz cO cT eH dj fx xR gY
theorem Ut{x:Int}(h1:0<=x):0<=dY x 2001/\dY x 2001<=2001:=by
 unfold dY;split<;>rename_i q
 ·omega
 ·have:=of_decide_eq_false q;omega
theorem Vi{kd m cd ce:Int}(h1:0<=m/\m<=2001)(h2:0<=cd/\cd<=2001)(h3:0<=ce/\ce<=2001):0<=jM kd m cd ce/\jM kd m cd ce<=2001:=by
 have h4:=Fp h2 h3;unfold jM
 repeat' split
 all_goals exact Ut ab
theorem AR:∀(k:Nat) (l:List St),0<=fK k l/\fK k l<=2001
 |0,_=>⟨Int.le_refl _,by show(0:Int)<=2001;omega⟩
 |k+1,l=>NF (b:=2001) (f:=fun m s=>jM (fB s) m (fK k<|bF s)<|fK k<|bB s) (fun m s h=>Vi h (AR k _)<|AR k _) l 0 ab
theorem aaL(hP:bE pg){k:Nat}(h':aV [ji k]){L:bY}(h:aV L):aV<|ji (k+1)::L:=by
 refine ig hP h h' Tryz.func8 fun args v e=>?_;obtain⟨l,rfl,hd,rfl⟩:=gI e;refine⟨aL.1 aW,fun B mc=>?_⟩;rw[←gX];have hd:(decide (l.length<=1000000)&&l.all fun s=>lh k (bF s)&&lh k (bB s))=true:=hd;rw[Bool.and_eq_true,decide_eq_true_eq,List.all_eq_true] at hd;obtain⟨hlen,hd⟩:=hd;have use:∀b:List St,lh k b=true->bf (aU<|ph k) [.U (nm<|bw b) 0 b.length]=some (i6<|fK k b):=fun b h1=>fA (eZ ph.bT ⟨b,rfl,h1,rfl⟩) Ww rfl;have key:∀(r:List St) (i:Nat) (m:Int),l.drop i=r->0<=m/\m<=2001->
  au pg B 270 (Fin pg (az Tryz.f8) fun y _=>y= .int .i64 (r.foldl (fun m s=>jM (fB s) m (fK k<|bF s)<|fK k<|bB s) m)) (xc (nm<|bw l) l.length m i) (aq ar 270):=by
  intro r;induction r with
  |nil=>intro i m hr h0;have hi:l.length<=i:=List.drop_eq_nil_iff.1 hr;exact afl (k:=k) mc ab rfl
  |cons a r ih=>
   intro i m hr h0;have hl:i<l.length:=by
    by_cases q:i<l.length
    ·exact q
    ·rw[List.drop_of_length_le ab] at hr;cases hr
   have ha:l[i]? =some a:=by have:=congrArg (fun q=>q[0]?) hr;simp only[List.getElem?_drop,List.getElem?_cons_zero,Nat.add_zero] at this;exact this
   have hm:a∈l:=List.mem_of_getElem? ha;have lF:l.drop (i+1)=r:=by have:=congrArg (List.drop 1) hr;rw[List.drop_drop] at this;exact this
   have Ci:=hd a hm;rw[Bool.and_eq_true] at Ci;have hx:=Fh ha (z:=(i:Int)) ab;have b1:=AR k<|bF a;have b2:=AR k<|bB a;have tE:=ih (i+1) _ lF<|Vi (kd:=fB a) h0 b1 b2;have hb:=use _ Ci.1;have he:=use _ Ci.2;obtain⟨kd,to,⟨oa,na,la⟩,⟨ob,nb,lb⟩,bd,el⟩:=a;rw[aM,aB,aB] at hx;rw[List.foldl_cons];exact afk (k:=k) mc (dU _) ab hlen hx h0 b1 b2 (Fp b1 b2) hb he ab tE
 exact afm mc (dU _)<|key l 0 0 (List.drop_zero) ab
theorem M6(hP:bE pg):∀(k:Nat) {L:bY},aV L->aV (ji k::L)
 |0,L,h=>by refine ig hP h cP Tryz.func8 fun args v e=>?_;obtain⟨_,_,hd,_⟩:=gI e;cases hd
 |k+1,L,h=>aaL hP (M6 hP k cP) h
end Bs
end
section
open Go Go.Rn Go.RowKit Go.Proofs
namespace vC
open cq cz cO cT eR dj
variable {N k N1 N0 L1 L0:Nat} {B:aJ} {x1 x0 bN n1 n0:Int}
def rh:Nat->Ex->Int->Bool
 |0,_,_=>true
 |k+1,.mk op n args,z=> !(decide<|op=3/\n>=z)&&args.all fun a=>rh k a z
def xd(k:Nat)(args:List AV)(v:AV):Prop:=∃(e:Ex) (z:Int),args=[.agg<|aB e,.int .i64 z]/\eM k e=true/\v= .bool (rh k e z)
noncomputable def Jd(k:Nat):FuncId×KE:=(94,.val<|aU<|xd k)
theorem abZ{N0 L0 N1 L1:Nat}{op n z bN n0 cx n1 x0 x1:Int}(mc:Mt [Jd k] B):au pg B 270 (Fin pg (az Tryz.f94) fun y _=>y=(.bool<|decide<|¬(op=3/\n>=z))) (sF 94 Tryz.f94 [(.agg [(u8<|op),(i6 n),(.U N 0 0)]),(i6 z)])<|aq ar 270:=by exact wS mc (.st 4<|.rg<|.go 2<|.fk (.go 4<|.fk (.go 1<|.en<|.rt 4 .no)<|.go 1<|.en<|.st 3<|.rg<|.go 3<|.il<|.st 3<|.rg<|.go 2<|.il<|.rt 15<|.go 2<|.en<|.rt 1<|.go 2<|.en<|.rt 1 .no)<|.go 6<|.en<|.st 3<|.rg<|.go 3<|.il<|.st 3<|.rg<|.go 2<|.il<|.rt 15<|.go 2<|.en<|.rt 1<|.go 2<|.en<|.rt 1 .no)<|ax (op=3) (fun _=>(ax (n>=z) (fun _=>(show AV.bool false= .bool (decide<|¬(op=3/\n>=z)) from by rw[decide_eq_false ab])) fun _=>(show AV.bool true= .bool (decide<|¬(op=3/\n>=z)) from by rw[decide_eq_true ab]))) fun _=>(show AV.bool true= .bool (decide<|¬(op=3/\n>=z)) from by rw[decide_eq_true ab])
theorem ab0{op n z cx:Int}(mc:Mt [Jd k] B)(hn:top<=N)(rY:cX FU N (0+(0:Int).toNat*3+0) 3=some [(u8<|bN),(i6 n0),(.U N0 0 L0)])(iM:bf (aU<|xd k) [(.agg [(u8<|bN),(i6 n0),(.U N0 0 L0)]),(i6 z)]=some (.bool<|decide<|x0=1))(jc:cX FU N (0+(1:Int).toNat*3+0) 3=some [(u8<|cx),(i6 n1),(.U N1 0 L1)])(jK:bf (aU<|xd k) [(.agg [(u8<|cx),(i6 n1),(.U N1 0 L1)]),(i6 z)]=some (.bool<|decide<|x1=1)):au pg B 270 (Fin pg (az Tryz.f94) fun y _=>y=(.bool<|decide<|¬(op=3/\n>=z)/\x0=1/\x1=1)) (sF 94 Tryz.f94 [(.agg [(u8<|op),(i6 n),(.U N 0 2)]),(i6 z)])<|aq ar 270:=by exact wS mc (.st 4<|.rg<|.go 2<|.fk (.go 4<|.fk (.go 1<|.en<|.rt 4 .no)<|.go 1<|.en<|.st 3<|.rg<|.go 3<|.il<|.st 3<|.rg<|.go 2<|.il<|.st 17<|.rg<|.go 3<|.fF<|.fG [(u8<|bN),(i6 n0),(.U N0 0 L0)]<|.il<|.st 3<|.rg<|.go 2<|.kp (x0=1) inferInstance (.go 2<|.en<|.rt 1<|.en<|.st 15<|.rg<|.go 3<|.fF<|.fG [(u8<|cx),(i6 n1),(.U N1 0 L1)]<|.il<|.st 3<|.rg<|.go 2<|.kp (x1=1) inferInstance (.go 2<|.en<|.rt 1<|.en<|.rt 13<|.go 2<|.en<|.rt 1<|.go 2<|.en<|.rt 1 .no)<|.go 2<|.en<|.rt 1<|.en<|.rt 4<|.go 2<|.en<|.rt 1<|.go 2<|.en<|.rt 1 .no)<|.go 2<|.en<|.rt 1<|.en<|.rt 4<|.go 2<|.en<|.rt 1<|.go 2<|.en<|.rt 1 .no)<|.go 6<|.en<|.st 3<|.rg<|.go 3<|.il<|.st 3<|.rg<|.go 2<|.il<|.st 17<|.rg<|.go 3<|.fF<|.fG [(u8<|bN),(i6 n0),(.U N0 0 L0)]<|.il<|.st 3<|.rg<|.go 2<|.kp (x0=1) inferInstance (.go 2<|.en<|.rt 1<|.en<|.st 15<|.rg<|.go 3<|.fF<|.fG [(u8<|cx),(i6 n1),(.U N1 0 L1)]<|.il<|.st 3<|.rg<|.go 2<|.kp (x1=1) inferInstance (.go 2<|.en<|.rt 1<|.en<|.rt 13<|.go 2<|.en<|.rt 1<|.go 2<|.en<|.rt 1 .no)<|.go 2<|.en<|.rt 1<|.en<|.rt 4<|.go 2<|.en<|.rt 1<|.go 2<|.en<|.rt 1 .no)<|.go 2<|.en<|.rt 1<|.en<|.rt 4<|.go 2<|.en<|.rt 1<|.go 2<|.en<|.rt 1 .no)<|ax (op=3) (fun _=>(ax (n>=z) (fun _=>(show AV.bool false= .bool (decide<|¬(op=3/\n>=z)/\x0=1/\x1=1) from by rw[decide_eq_false ab])) Wp)) Wp
theorem afn{L:Nat}{op n z x y1:Int}(mc:Mt [PA,Jd 6] B)(hc:bf (aU vB) [(.agg [(u8<|op),(i6 n),(.U N 0 L)])]=some (.bool<|decide<|x=1))(hb:x=1->bf (aU<|xd 6) [(.agg [(u8<|op),(i6 n),(.U N 0 L)]),(i6 z)]=some (.bool<|decide<|y1=1)):au pg B 270 (Fin pg (az Tryz.f81) fun y _=>y=(.bool<|decide<|x=1/\y1=1)) (sF 81 Tryz.f81 [(.agg [(u8<|op),(i6 n),(.U N 0 L)]),(i6 z)])<|aq ar 270:=by exact wS mc (.st 3<|.rg<|.go 1<|.kp (x=1) inferInstance (.go 3<|.kp (y1=1) inferInstance (.go 2<|.en<|.rt 1 .no)<|.go 2<|.en<|.rt 1 .no)<|.go 6<|.en<|.rt 1 .no)<|ai hc<|ax (x=1) (fun _=>(ai (hb ab)<|ax (y1=1) (fun _=>(show AV.bool true= .bool (decide<|x=1/\y1=1) from by rw[decide_eq_true ab])) fun _=>(show AV.bool false= .bool (decide<|x=1/\y1=1) from by rw[decide_eq_false ab]))) fun _=>(show AV.bool false= .bool (decide<|x=1/\y1=1) from by rw[decide_eq_false ab])
end vC
end
section
open Go Go.Rn Go.RowKit Go.Proofs
namespace xo
open cq cz cO cT eR dj vC
variable {k:Nat} {e:Ex}
theorem SO{op n:Int}{l:List Ex}(h:eM (k+1) (.mk op n l)=true):l=[]\/∃a b,l=[a,b]/\eM k a=true/\eM k b=true:=by
 rw[LF] at h;split at h
 ·exact .inl<|List.isEmpty_iff.1 h
 split at h
 ·rw[Bool.and_eq_true,Bool.and_eq_true] at h;exact .inl<|List.isEmpty_iff.1 h.1.1
 split at h
 ·rw[Bool.and_eq_true,Bool.and_eq_true] at h;exact .inl<|List.isEmpty_iff.1 h.1.1
 split at h
 ·cases h
 rw[Bool.and_eq_true,Bool.and_eq_true,decide_eq_true_eq] at h
 match l,h with
 |[a,b],h=>exact .inr ⟨a,b,rfl,h.1.2,h.2⟩
theorem xd.bT(args:List AV)(v v':AV)(h:xd k args v)(h':xd k args v'):v=v':=by obtain⟨e,z,rfl,_,rfl⟩:=h;obtain⟨e',z',h1,_,rfl⟩:=h';simp only[List.cons.injEq,AV.agg.injEq,AV.int.injEq,true_and,_root_.and_true] at h1;rw[nu _ _ h1.1,h1.2]
theorem M7{z:Int}(hw:eM k e=true):bf (aU<|xd k) [.agg<|aB e,.int .i64 z]=some (.bool<|decide<|bit (rh k e z)=1):=by rw[wN];exact fA (eZ xd.bT ⟨e,z,rfl,hw,rfl⟩) rF rfl
theorem D0(b:Bool):bit b=1↔b=true:=by cases b<;>decide
theorem SP(hP:bE pg):∀(k:Nat) {L:bY},aV L->aV (Jd k::L)
 |0,L,h=>by refine ig hP h cP Tryz.func94 fun args v e=>?_;obtain⟨_,_,_,hw,_⟩:=gI e;cases hw
 |k+1,L,h=>by
  refine ig hP h (SP hP k cP) Tryz.func94 fun args v e=>?_;obtain⟨⟨op,n,l⟩,z,rfl,hw,rfl⟩:=gI e;refine⟨aL.1 aW,fun B mc=>?_⟩;rw[←gX];rcases SO hw with rfl|⟨a,b,rfl,w0,w1⟩
  ·have key:=abZ (L0:=0) (N1:=0) (L1:=0) (N0:=0) (bN:=0) (n0:=0) (cx:=0) (n1:=0) (x0:=0) (x1:=0) (N:=nm<|cI []) (op:=op) (n:=n) (z:=z) mc;rw[aB,show rh (k+1) (.mk op n []) z=decide (¬(op=3/\n>=z)) from by show(!(decide<|op=3/\n>=z)&&true)=_;rw[Bool.and_true,decide_not]];exact key
  ·obtain⟨bN,n0,l0⟩:=a;obtain⟨cx,n1,l1⟩:=b;have t0:=yK (l:=[Ex.mk bN n0 l0,.mk cx n1 l1]) (i:=0) (a:=.mk bN n0 l0) rfl (z:=0) rfl;have t1:=yK (l:=[Ex.mk bN n0 l0,.mk cx n1 l1]) (i:=1) (a:=.mk cx n1 l1) rfl (z:=1) rfl;have c0:=M7 (z:=z) w0;have c1:=M7 (z:=z) w1;rw[aB] at t0 t1 c0 c1;have key:=ab0 (op:=op) (n:=n) (z:=z) mc (dU _) t0 c0 t1 c1;rw[aB,show rh (k+1) (.mk op n [.mk bN n0 l0,.mk cx n1 l1]) z=decide (¬(op=3/\n>=z)/\bit (rh k (.mk bN n0 l0) z)=1/\bit (rh k (.mk cx n1 l1) z)=1) from by show(!(decide<|op=3/\n>=z)&&(rh k (.mk bN n0 l0) z&&(rh k (.mk cx n1 l1) z&&true)))=_;rw[Bool.and_true,Bool.eq_iff_iff,decide_eq_true_eq,D0,D0,Bool.and_eq_true,Bool.and_eq_true, ←decide_not,decide_eq_true_eq]];exact key
def Kk(e:Ex)(z:Int):Bool:=eM 6 e&&rh 6 e z
def oD(args:List AV)(v:AV):Prop:=∃(e:Ex) (z:Int),args=[.agg<|aB e,.int .i64 z]/\v= .bool (Kk e z)
theorem oD.bT(args:List AV)(v v':AV)(h:oD args v)(h':oD args v'):v=v':=by obtain⟨e,z,rfl,rfl⟩:=h;obtain⟨e',z',h1,rfl⟩:=h';simp only[List.cons.injEq,AV.agg.injEq,AV.int.injEq,true_and,_root_.and_true] at h1;rw[nu _ _ h1.1,h1.2]
noncomputable def vg:FuncId×KE:=(81,.val<|aU oD)
theorem N6:bf (aU vB) [.agg<|aB e]=some (.bool<|decide<|bit (eM 6 e)=1):=by rw[wN];exact fA (eZ vB.bT ⟨e,rfl,rfl⟩) rF rfl
theorem ab1(hP:bE pg){L:bY}(h:aV L):aV<|vg::L:=by refine ig hP h (Us hP<|SP hP 6 cP) Tryz.func81 fun args v e=>?_;obtain⟨⟨op,n,l⟩,z,rfl,rfl⟩:=gI e;refine⟨aL.1 aW,fun B mc=>?_⟩;rw[←gX];have c0:=N6 (e:=.mk op n l);have c1:bit (eM 6<|.mk op n l)=1->_:=fun hx=>M7 (k:=6) (e:=.mk op n l) (z:=z)<|(D0 _).1 hx;rw[aB] at c0 c1;have key:=afn mc c0 c1;rw[aB,show Kk (.mk op n l) z=decide (bit (eM 6<|.mk op n l)=1/\bit (rh 6 (.mk op n l) z)=1) from by rw[Bool.eq_iff_iff,decide_eq_true_eq,D0,D0];exact Bool.and_eq_true _ _▸Iff.rfl];exact key
end xo
end
section
open Go Go.Rn Go.RowKit Go.Proofs
namespace nh
open cq cz cO cT eH fx dj
variable {K:Cb} {k N L ld Ne Nd Nb Na Lb La:Nat} {L0:bY} {B:aJ} {pf p:fw} {i to ob oa nb na kd:Int} {g:Option ae} {x2 x1 w2 w1 u2 u1:AV} {bL:Option Code}
noncomputable section
abbrev mC:=St->AV->AV->Option fw
def kL(ek:List St->AV->AV->Option fw)(rd:mC):List St->AV->AV->Option fw
 |[],v1,v2=>some ⟨true,v1,v2,none⟩
 |s::r,v1,v2=>match rd s v1 v2 with
  |none=>none
  |some p=>match p.ret with
   |false=>some p
   |true=>match ek (bF s) p.v1 p.v2 with
    |none=>none
    |some q=>match q.ret with
     |false=>some q
     |true=>match ek (bB s) q.v1 q.v2 with
      |none=>none
      |some u=>match u.ret with
       |false=>some u
       |true=>kL ek rd r u.v1 u.v2
def fD(rd:mC):Nat->List St->AV->AV->Option fw
 |0,_,_,_=>none
 |k+1,l,v1,v2=>match decide (l.length<=1000000) with
  |true=>kL (fD rd k) rd l v1 v2
  |false=>none
open Classical in
def FG(x:AV):Option<|List St:=if h:∃l:List St,x= .U (nm<|bw l) 0 l.length then some h.choose else none
open Classical in
def zl(rd:mC)(k:Nat)(x v1 v2:AV):Option fw:=match FG x with
 |none=>none
 |some l=>if okB v1/\okB v2 then fD rd k l v1 v2 else none
def de(K:Cb)(rd:mC)(k:Nat):FuncId×KE:=(78,.raw<|qM K<|zl rd k)
def oE(K:Cb)(v1 v2:AV):List<|Nat×Option ae:=ar++[(270,some<|Cb.loop K none 272 273 271),(271,some .defs),(272,some<|eL v1),(273,some<|eL v2)]
def sE(K:Cb)(v1 v2:AV)(c:List AV):AS:=aq (oE K v1 v2++[(274,some<|.cells 10 (Tr.fill c 0 .nil) [])]) 275
def sA(K:Cb)(bL:Option Code)(v1 v2:AV)(c:List AV)(g:Option ae):AS:=aq (ar++[(270,some<|Cb.loop K bL 272 273 271),(271,some .defs),(272,some<|eL v1),(273,some<|eL v2),(274,some<|.cells 10 (Tr.fill c 0 .nil) []),(275,g)]) 276
def Es(L:bY):Env:=xQ pg 270 eK dV L 274 true
def WD(K:Cb)(p:fw)(s':AS)(y:AV):Prop:=y= .bool p.ret/\s'.h.get 270=some (Cb.loop K p.bL 272 273 271)/\s'.h.get 271=some .defs/\s'.h.get 272=some (eL p.v1)/\s'.h.get 273=some (eL p.v2)
end
theorem Vj:fN<=274:=Nat.le_trans hJ ab
theorem PB{o4:Option ae}{nx:Nat}:WD K p (aq (ar++[(270,some<|Cb.loop K p.bL 272 273 271),(271,some .defs),(272,some<|eL p.v1),(273,some<|eL p.v2),(274,o4),(275,g)]) nx)<|.bool p.ret:=⟨rfl,by kernel_rfl,by kernel_rfl,by kernel_rfl,by kernel_rfl⟩
theorem agp{nx:Nat}:WD K p (aq (ar++[(270,some<|Cb.loop K p.bL 272 273 271),(271,some .defs),(272,some<|eL p.v1),(273,some<|eL p.v2)]) nx)<|.bool p.ret:=⟨rfl,by kernel_rfl,by kernel_rfl,by kernel_rfl,by kernel_rfl⟩
theorem afo{v1 v2:AV}{l:List<|Nat×AV}(h:∀r:Nat->Nat,(∀k,k<274->r k=k)->(∀k,top<=k->r k=k)->∀p∈l,bR r p.2 p.2)(jb:K.s1<top)(jw:K.s2<top)(mM:K.s1≠K.s2)(jc:okB v1)(pO:okB v2):xM 274 l<|oE K v1 v2:=by
 intro r r1 r2;refine⟨h r r1 r2,fun p hp x hx=>?_⟩;rcases List.mem_append.1 hp with hp|hp
 ·exact H6 (nx:=270) (fun k hk=>r1 k ab) cN p hp x hx
 ·simp only[List.mem_cons,List.not_mem_nil,or_false] at hp;rcases hp with rfl|rfl|rfl|rfl<;>cases hx
  ·exact abL jb jw mM (r1 _ ab) (r1 _ ab)<|r1 _ ab
  ·exact abM
  ·exact Um jc r2
  ·exact Um pO r2
noncomputable def Bt(N L:Nat)(i:Int):List<|Nat×AV:=[(1,(.yield 270)),(7,(.U N 0 L)),(8,(i6<|(L:Int))),(9,(i6 i))]
noncomputable def ry(N L:Nat)(i:Int):AF:=⟨78,aS<|Bt N L i,(max Tryz.f78.ntmps 2),[.code<|a9 pg 78 [1,0,1,0,0],.inLoop<|a9 pg 78 [1,0,1,0,0],.inBlock 0,.code<|a9 pg 78 [1,1]],[],none⟩
theorem VQ{v1 v2:AV}(N L:Nat)(i:Int)(hn:top<=N)(jb:K.s1<top)(jw:K.s2<top)(mM:K.s1≠K.s2)(jc:okB v1)(pO:okB v2):((Bt N L i).map (fun q=>some q.2)=(Bt N L i).map (fun q=>some q.2))/\((oE K v1 v2).map (fun q=>q.2)=(oE K v1 v2).map (fun q=>q.2))/\xM 274 (Bt N L i) (oE K v1 v2)/\(ry N L i=ry N L i/\aq (oE K v1 v2) 274=aq (oE K v1 v2) 274):=⟨rfl,rfl,afo (fun r r1 r2 p hp=>by simp only[Bt,List.mem_cons,List.not_mem_nil,or_false] at hp;rcases hp with rfl|rfl|rfl|rfl<;>first|exact bR.int _ _|exact bR.bool _|exact bR.U (r2 _ hn) r2|exact bR.yield<|r1 270 ab) jb jw mM jc pO,rfl,rfl⟩
noncomputable abbrev eW(kd to oa na:Int)(Na La:Nat)(ob nb:Int)(Nb Lb Nd ld Ne le:Nat):List AV:=[(u8<|kd),(i6 to),(u8<|oa),(i6 na),(.U Na 0 La),(u8<|ob),(i6 nb),(.U Nb 0 Lb),(.U Nd 0 ld),(.U Ne 0 le)]
theorem aij{rd:mC}{v1 v2 u1 u2 x1 x2:AV}{pf:fw}{le:Nat}(mc:Mt (de K rd k::L0) B)(hn:top<=N)(hi:0<=i)(hL:L<=1000000)(hx:cX FU N (0+i.toNat*10+0) 10=some (eW kd to oa na Na La ob nb Nb Lb Nd ld Ne le))(hr:bg pg (sp<|de K rd k::L0) FU 6 (.round 270) [.agg<|eW kd to oa na Na La ob nb Nb Lb Nd ld Ne le] (sE K v1 v2<|eW kd to oa na Na La ob nb Nb Lb Nd ld Ne le)= .ok (.bool false) (sA K bL w1 w2 (eW kd to oa na Na La ob nb Nb Lb Nd ld Ne le) g))(h1:i<(L:Int)):au pg B 274 (rK K 270 pg (az Tryz.f78) ⟨false,w1,w2,bL⟩) (ry N L i)<|aq (oE K v1 v2) 274:=by exact mh (E:=Es<|de K rd k::L0) eY rfl bV mc.2.2.1 mc.2.2.2 900 (.st 1<|.rg<|.fk (.en<|.st 6<|.rg<|.fF<|.fG (eW kd to oa na Na La ob nb Nb Lb Nd ld Ne le)<|.go 2<|.en<|.st 1<|.rg<|.go 2<|.cy (.bool false) (sA K bL w1 w2 (eW kd to oa na Na La ob nb Nb Lb Nd ld Ne le) g)<|.go 15<|.en<|.rt 4 .no)<|.no)<|ax (i<(L:Int)) (fun _=>(dq i (L:Int)<|ai hn<|ai hx<|ai hr<|PB (K:=K) (p:=⟨false,w1,w2,bL⟩) (o4:=some<|.cells 10 (Tr.fill (eW kd to oa na Na La ob nb Nb Lb Nd ld Ne le) 0 .nil) []) (g:=g) (nx:=276))) bh
theorem aik{rd:mC}{v1 v2 x1 x2:AV}{pf:fw}{le:Nat}(mc:Mt (de K rd k::L0) B)(hn:top<=N)(hi:0<=i)(hL:L<=1000000)(hx:cX FU N (0+i.toNat*10+0) 10=some (eW kd to oa na Na La ob nb Nb Lb Nd ld Ne le))(hr:bg pg (sp<|de K rd k::L0) FU 6 (.round 270) [.agg<|eW kd to oa na Na La ob nb Nb Lb Nd ld Ne le] (sE K v1 v2<|eW kd to oa na Na La ob nb Nb Lb Nd ld Ne le)= .ok (.bool true) (sA K none w1 w2 (eW kd to oa na Na La ob nb Nb Lb Nd ld Ne le) g))(hb:bg pg (sp<|de K rd k::L0) FU 6 (.fn 78) [.U Nd 0 ld,.yield 270] (sA K none w1 w2 (eW kd to oa na Na La ob nb Nb Lb Nd ld Ne le) g)= .ok (.bool false) (sA K bL u1 u2 (eW kd to oa na Na La ob nb Nb Lb Nd ld Ne le) g))(h1:i<(L:Int)):au pg B 274 (rK K 270 pg (az Tryz.f78) ⟨false,u1,u2,bL⟩) (ry N L i)<|aq (oE K v1 v2) 274:=by exact mh (E:=Es<|de K rd k::L0) eY rfl bV mc.2.2.1 mc.2.2.2 900 (.st 1<|.rg<|.fk (.en<|.st 6<|.rg<|.fF<|.fG (eW kd to oa na Na La ob nb Nb Lb Nd ld Ne le)<|.go 2<|.en<|.st 1<|.rg<|.go 2<|.cy (.bool true) (sA K none w1 w2 (eW kd to oa na Na La ob nb Nb Lb Nd ld Ne le) g)<|.go 5<|.cu (.bool false) (sA K bL u1 u2 (eW kd to oa na Na La ob nb Nb Lb Nd ld Ne le) g)<|.go 9<|.en<|.rt 4 .no)<|.no)<|ax (i<(L:Int)) (fun _=>(dq i (L:Int)<|ai hn<|ai hx<|ai hr<|ai hb<|PB (K:=K) (p:=⟨false,u1,u2,bL⟩) (o4:=some<|.cells 10 (Tr.fill (eW kd to oa na Na La ob nb Nb Lb Nd ld Ne le) 0 .nil) []) (g:=g) (nx:=276))) bh
theorem ail{rd:mC}{v1 v2:AV}{pf:fw}{le:Nat}(mc:Mt (de K rd k::L0) B)(hn:top<=N)(hi:0<=i)(hL:L<=1000000)(hx:cX FU N (0+i.toNat*10+0) 10=some (eW kd to oa na Na La ob nb Nb Lb Nd ld Ne le))(hr:bg pg (sp<|de K rd k::L0) FU 6 (.round 270) [.agg<|eW kd to oa na Na La ob nb Nb Lb Nd ld Ne le] (sE K v1 v2<|eW kd to oa na Na La ob nb Nb Lb Nd ld Ne le)= .ok (.bool true) (sA K none w1 w2 (eW kd to oa na Na La ob nb Nb Lb Nd ld Ne le) g))(hb:bg pg (sp<|de K rd k::L0) FU 6 (.fn 78) [.U Nd 0 ld,.yield 270] (sA K none w1 w2 (eW kd to oa na Na La ob nb Nb Lb Nd ld Ne le) g)= .ok (.bool true) (sA K none u1 u2 (eW kd to oa na Na La ob nb Nb Lb Nd ld Ne le) g))(ho:bg pg (sp<|de K rd k::L0) FU 6 (.fn 78) [.U Ne 0 le,.yield 270] (sA K none u1 u2 (eW kd to oa na Na La ob nb Nb Lb Nd ld Ne le) g)= .ok (.bool false) (sA K bL x1 x2 (eW kd to oa na Na La ob nb Nb Lb Nd ld Ne le) g))(h1:i<(L:Int)):au pg B 274 (rK K 270 pg (az Tryz.f78) ⟨false,x1,x2,bL⟩) (ry N L i)<|aq (oE K v1 v2) 274:=by exact mh (E:=Es<|de K rd k::L0) eY rfl bV mc.2.2.1 mc.2.2.2 900 (.st 1<|.rg<|.fk (.en<|.st 6<|.rg<|.fF<|.fG (eW kd to oa na Na La ob nb Nb Lb Nd ld Ne le)<|.go 2<|.en<|.st 1<|.rg<|.go 2<|.cy (.bool true) (sA K none w1 w2 (eW kd to oa na Na La ob nb Nb Lb Nd ld Ne le) g)<|.go 5<|.cu (.bool true) (sA K none u1 u2 (eW kd to oa na Na La ob nb Nb Lb Nd ld Ne le) g)<|.go 6<|.cu (.bool false) (sA K bL x1 x2 (eW kd to oa na Na La ob nb Nb Lb Nd ld Ne le) g)<|.go 2<|.en<|.rt 4 .no)<|.no)<|ax (i<(L:Int)) (fun _=>(dq i (L:Int)<|ai hn<|ai hx<|ai hr<|ai hb<|ai ho<|PB (K:=K) (p:=⟨false,x1,x2,bL⟩) (o4:=some<|.cells 10 (Tr.fill (eW kd to oa na Na La ob nb Nb Lb Nd ld Ne le) 0 .nil) []) (g:=g) (nx:=276))) bh
theorem aim{rd:mC}{v1 v2:AV}{bL:Option Code}{le:Nat}(mc:Mt (de K rd k::L0) B)(hn:top<=N)(hi:0<=i)(hL:L<=1000000)(hx:cX FU N (0+i.toNat*10+0) 10=some (eW kd to oa na Na La ob nb Nb Lb Nd ld Ne le))(hr:bg pg (sp<|de K rd k::L0) FU 6 (.round 270) [.agg<|eW kd to oa na Na La ob nb Nb Lb Nd ld Ne le] (sE K v1 v2<|eW kd to oa na Na La ob nb Nb Lb Nd ld Ne le)= .ok (.bool true) (sA K none w1 w2 (eW kd to oa na Na La ob nb Nb Lb Nd ld Ne le) g))(hb:bg pg (sp<|de K rd k::L0) FU 6 (.fn 78) [.U Nd 0 ld,.yield 270] (sA K none w1 w2 (eW kd to oa na Na La ob nb Nb Lb Nd ld Ne le) g)= .ok (.bool true) (sA K none u1 u2 (eW kd to oa na Na La ob nb Nb Lb Nd ld Ne le) g))(ho:bg pg (sp<|de K rd k::L0) FU 6 (.fn 78) [.U Ne 0 le,.yield 270] (sA K none u1 u2 (eW kd to oa na Na La ob nb Nb Lb Nd ld Ne le) g)= .ok (.bool true) (sA K none x1 x2 (eW kd to oa na Na La ob nb Nb Lb Nd ld Ne le) g))(h1:i<(L:Int))(jb:K.s1<top)(jw:K.s2<top)(mM:K.s1≠K.s2)(jc:okB x1)(pO:okB x2)(H:au pg B 274 (rK K 270 pg (az Tryz.f78) pf) (ry N L<|i+1)<|aq (oE K x1 x2) 274):au pg B 274 (rK K 270 pg (az Tryz.f78) pf) (ry N L i)<|aq (oE K v1 v2) 274:=by exact wZ (E:=Es<|de K rd k::L0) (C:=(fun fr s1 _=>fr=ry N L (i+1)/\s1=aq (oE K x1 x2) 274)) eY rfl bV mc.2.2.1 mc.2.2.2 Vj rfl mc.1 np 900 (.st 1<|.rg<|.fk (.en<|.st 6<|.rg<|.fF<|.fG (eW kd to oa na Na La ob nb Nb Lb Nd ld Ne le)<|.go 2<|.en<|.st 1<|.rg<|.go 2<|.cy (.bool true) (sA K none w1 w2 (eW kd to oa na Na La ob nb Nb Lb Nd ld Ne le) g)<|.go 5<|.cu (.bool true) (sA K none u1 u2 (eW kd to oa na Na La ob nb Nb Lb Nd ld Ne le) g)<|.go 6<|.cu (.bool true) (sA K none x1 x2 (eW kd to oa na Na La ob nb Nb Lb Nd ld Ne le) g)<|.go 2<|.en<|.st 3<|.rg<|.vl (i6<|i+1)<|.go 1<|.en<|.st 1<|.bk (Bt N L<|i+1) (oE K x1 x2) 274 .no)<|.no)<|ax (i<(L:Int)) (fun _=>(dq i (L:Int)<|ai hn<|ai hx<|ai hr<|ai hb<|ai ho<|ai (wI<|i+1)<|VQ N L (i+1) hn jb jw mM jc pO)) bh
theorem afp{rd:mC}{v1 v2:AV}(mc:Mt (de K rd k::L0) B)(h1:(L:Int)<=i):au pg B 274 (rK K 270 pg (az Tryz.f78) ⟨true,v1,v2,none⟩) (ry N L i)<|aq (oE K v1 v2) 274:=by exact mh (E:=Es<|de K rd k::L0) eY rfl bV mc.2.2.1 mc.2.2.2 900 (.st 1<|.rg<|.fk (.no)<|.en<|.rt 6 .no)<|ax (i<(L:Int)) bh fun _=>(agp (K:=K) (p:=⟨true,v1,v2,none⟩) (nx:=274))
theorem agq{rd:mC}{v1 v2:AV}(mc:Mt (de K rd k::L0) B)(hn:top<=N)(jb:K.s1<top)(jw:K.s2<top)(mM:K.s1≠K.s2)(jc:okB v1)(pO:okB v2)(H:au pg B 274 (rK K 270 pg (az Tryz.f78) pf) (ry N L 0)<|aq (oE K v1 v2) 274):au pg B 274 (rK K 270 pg (az Tryz.f78) pf) (sF 78 Tryz.f78 [.U N 0 L,.yield 270])<|aq (oE K v1 v2) 274:=by exact wZ (E:=Es<|de K rd k::L0) (C:=(fun fr s1 _=>fr=ry N L 0/\s1=aq (oE K v1 v2) 274)) eY rfl bV mc.2.2.1 mc.2.2.2 Vj rfl mc.1 np 900 (.st 7<|.bk (Bt N L 0) (oE K v1 v2) 274 .no)<|VQ N L 0 hn jb jw mM jc pO
end nh
end
section
open Go Go.Rn Go.RowKit Go.Proofs
namespace m7
open cq cz cO cT eH fx xR dj nh
variable {rd:mC} {k:Nat} {K:Cb} {L0:bY}
theorem ZT(l:List St):FG (.U (nm<|bw l) 0 l.length)=some l:=by
 unfold FG;have h:∃l':List St,AV.U (nm<|bw l) 0 l.length= .U (nm<|bw l') 0 l'.length:=⟨l,rfl⟩;rw[dif_pos h];have e:=h.choose_spec;injection e with e1 e2 e3
 exact congrArg some (ss _ _<|sR (lL _) (lL _) e1).symm
theorem ZU{x:AV}{l:List St}(h:FG x=some l):x= .U (nm<|bw l) 0 l.length:=by
 unfold FG at h;split at h
 ·rename_i q;injection h with h
  rw[←h];exact q.choose_spec
 ·cases h
theorem Uu(jb:K.s1<top)(jw:K.s2<top)(mM:K.s1≠K.s2)(c d:Nat):(aS [(K.s1,AV.ptr<|some (c,0)),(K.s2,.ptr<|some (d,0))]).get K.s1=some (.ptr<|some (c,0))/\(aS [(K.s1,AV.ptr<|some (c,0)),(K.s2,.ptr<|some (d,0))]).get K.s2=some (.ptr<|some (d,0)):=by
 constructor
 ·show(((Tr.nil:Tr AV).put K.s2 _).put K.s1 _).get K.s1=_;rw[Tr.lM _ _ _ _ jb,if_pos rfl]
 ·show(((Tr.nil:Tr AV).put K.s2 _).put K.s1 _).get K.s2=_;rw[Tr.lM _ _ _ _ jb,if_neg fun e=>mM e.symm,Tr.lM _ _ _ _ jw,if_pos rfl]
structure yk (K:Cb) (L:bY) (rd:mC):Prop where
 s1:K.s1<top
 s2:K.s2<top
 Et:K.s1≠K.s2
 run:∀s v1 v2 p,rd s v1 v2=some p->okB v1->okB v2->(okB p.v1/\okB p.v2/\(p.ret=true->p.bL=none))/\∃g,bg pg (sp L) FU 6 (.round 270) [.agg<|aM s] (sE K v1 v2<|aM s)= .ok (.bool p.ret) (sA K p.bL p.v1 p.v2 (aM s) g)
def OX(rd:mC):Prop:=∀s v1 v2 p,rd s v1 v2=some p->okB v1->okB v2->okB p.v1/\okB p.v2/\(p.ret=true->p.bL=none)
theorem Vk{ek:List St->AV->AV->Option fw}{rd:mC}(hr:OX rd)(he:∀l v1 v2 p,ek l v1 v2=some p->okB v1->okB v2->okB p.v1/\okB p.v2/\(p.ret=true->p.bL=none)):∀l v1 v2 p,kL ek rd l v1 v2=some p->okB v1->okB v2->okB p.v1/\okB p.v2/\(p.ret=true->p.bL=none)
 |[],v1,v2,p,h,o1,o2=>by
  have h:some (⟨true,v1,v2,none⟩:fw)=some p:=h;injection h with h;subst h
  exact⟨o1,o2,fun _=>rfl⟩
 |s::r,v1,v2,p,h,o1,o2=>by
  unfold kL at h;split at h
  ·cases h
  rename_i q e;obtain⟨a1,a2,a3⟩:=hr _ _ _ _ e o1 o2;split at h
  ·injection h with h;subst h;exact⟨a1,a2,a3⟩
  split at h
  ·cases h
  rename_i q2 e2;obtain⟨b1,b2,b3⟩:=he _ _ _ _ e2 a1 a2;split at h
  ·injection h with h;subst h;exact⟨b1,b2,b3⟩
  split at h
  ·cases h
  rename_i q3 e3;obtain⟨c1,c2,c3⟩:=he _ _ _ _ e3 b1 b2;split at h
  ·injection h with h;subst h;exact⟨c1,c2,c3⟩
  exact Vk hr he r _ _ p h c1 c2
theorem M8(hr:OX rd):∀k l v1 v2 p,fD rd k l v1 v2=some p->okB v1->okB v2->okB p.v1/\okB p.v2/\(p.ret=true->p.bL=none)
 |0,l,v1,v2,p,h,_,_=>by cases h
 |k+1,l,v1,v2,p,h,o1,o2=>by
  unfold fD at h;split at h
  ·exact Vk hr (M8 hr k) l v1 v2 p h o1 o2
  ·cases h
theorem Mx{l:List St}{v1 v2:AV}(o1:okB v1)(o2:okB v2):zl rd k (.U (nm<|bw l) 0 l.length) v1 v2=fD rd k l v1 v2:=by unfold zl;rw[ZT];exact if_pos ⟨o1,o2⟩
theorem sY(l:List St):AV.hi (.U (nm<|bw l) 0 l.length)=true:=aL.2<|dU _
theorem Uv{l:List St}{v1 v2:AV}{p:fw}{c:List AV}{g:Option ae}(jb:K.s1<top)(jw:K.s2<top)(mM:K.s1≠K.s2)(o1:okB v1)(o2:okB v2)(h:fD rd k l v1 v2=some p)(o3:okB p.v1/\okB p.v2):
 bg pg (sp<|de K rd k::L0) FU 6 (.fn 78) [.U (nm<|bw l) 0 l.length,.yield 270] (sA K none v1 v2 c g)= .ok (.bool p.ret) (sA K p.bL p.v1 p.v2 c g):=by
 have ug:sp (de K rd k::L0) 78=some (qM K (zl rd k) 270 eK dV):=by kernel_rfl
 have I:Ki K (sA K none v1 v2 c g) 270 271 272 273 v1 v2:=by
  refine⟨rfl,(aL.1 aW:276<=top),⟨by show 270<276;omega,by show 271<276;omega,by show 272<276;omega,by show 273<276;omega⟩,⟨by omega,by omega,by omega,by omega,by omega,by omega⟩,⟨aS [(K.s1,.ptr<|some (272,0)),(K.s2,.ptr<|some (273,0))],?_,(Uu jb jw mM 272 273).1,(Uu jb jw mM 272 273).2⟩,?_,⟨eL v1,?_,wm _⟩,⟨eL v2,?_,wm _⟩⟩
  ·as_aux_lemma=>kernel_rfl
  ·as_aux_lemma=>kernel_rfl
  ·as_aux_lemma=>kernel_rfl
  ·as_aux_lemma=>kernel_rfl
 have key:=NB (P:=pg) (F:=FU) (n:=5) ug (sY l) cN I ((Mx o1 o2).trans h) o1 o2 o3.1 o3.2;rw[show KT K (sA K none v1 v2 c g) 270 271 272 273 p=sA K p.bL p.v1 p.v2 c g from by as_aux_lemma=>kernel_rfl] at key;exact key
theorem aaM(hP:bE pg)(R:yk K (de K rd k::L0) rd)(h':aV<|de K rd k::L0){L:bY}(h:aV L):aV<|de K rd (k+1)::L:=by
 refine Ve hP hJ (aL.1 aW) R.s1 R.s2 R.Et iT iz lT lB h h' Tryz.func78 (body:=a9 pg 78 []) aW aW fun x v1 v2 p e=>?_;unfold zl at e;split at e
 ·cases e
 rename_i l el;rw[ZU el];split at e;rotate_left
 ·cases e
 rename_i ok;unfold fD at e;split at e;rotate_left
 ·cases e
 rename_i hlen;have hlen:=of_decide_eq_true hlen;have hg:OX rd:=fun s a b p e x y=>(R.run s a b p e x y).1;refine⟨aL.1 aW,fun B mc=>?_⟩;show au pg B 274 (rK K 270 pg (az Tryz.f78) p) (sF 78 Tryz.f78 [.U (nm<|bw l) 0 l.length,.yield 270])<|aq (oE K v1 v2) 274;have key:∀(r:List St) (i:Nat) (v1 v2:AV) (p:fw),l.drop i=r->okB v1->okB v2->kL (fD rd k) rd r v1 v2=some p->au pg B 274 (rK K 270 pg (az Tryz.f78) p) (ry (nm<|bw l) l.length i) (aq (oE K v1 v2) 274):=by
  intro r;induction r with
  |nil=>
   intro i v1 v2 p hr _ _ e;have e:some (⟨true,v1,v2,none⟩:fw)=some p:=e;injection e with e;subst e
   exact afp mc (by have:l.length<=i:=List.drop_eq_nil_iff.1 hr;omega)
  |cons a r ih=>
   intro i v1 v2 p hr o1 o2 e;have hl:i<l.length:=by
    by_cases q:i<l.length
    ·exact q
    ·rw[List.drop_of_length_le ab] at hr;cases hr
   have ha:l[i]? =some a:=by have:=congrArg (fun q=>q[0]?) hr;simp only[List.getElem?_drop,List.getElem?_cons_zero,Nat.add_zero] at this;exact this
   have lF:l.drop (i+1)=r:=by have:=congrArg (List.drop 1) hr;rw[List.drop_drop] at this;exact this
   have hx:=Fh ha (z:=(i:Int)) ab;unfold kL at e;split at e
   ·cases e
   rename_i q eq1;obtain⟨⟨a1,a2,a3⟩,g,run⟩:=R.run _ _ _ _ eq1 o1 o2;obtain⟨kd,to,⟨oa,na,la⟩,⟨ob,nb,lb⟩,bd,el⟩:=a;rw[aM,aB,aB] at hx run;split at e
   ·rename_i qr;injection e with e;subst e
    rw[qr] at run;obtain⟨ret,w1,w2,bL⟩:=q;simp only at qr;subst qr;exact aij (u1:=v1) (u2:=v2) (x1:=v1) (x2:=v2) (pf:=⟨true,v1,v2,none⟩) mc (dU _) ab hlen hx run ab
   rename_i qr;rw[qr,a3 qr] at run;split at e
   ·cases e
   rename_i q2 XB;obtain⟨b1,b2,b3⟩:=M8 hg _ _ _ _ _ XB a1 a2;have hb:=Uv (K:=K) (L0:=L0) (c:=[(u8<|kd),(i6 to),(u8<|oa),(i6 na),(.U (nm<|cI la) 0 la.length),(u8<|ob),(i6 nb),(.U (nm<|cI lb) 0 lb.length),(.U (nm<|bw bd) 0 bd.length),(.U (nm<|bw el) 0 el.length)]) (g:=g) R.s1 R.s2 R.Et a1 a2 XB ⟨b1,b2⟩;split at e
   ·rename_i Eu;injection e with e;subst e
    rw[Eu] at hb;obtain⟨amc,u1,u2,al2⟩:=q2;simp only at Eu;subst Eu;exact aik (x1:=v1) (x2:=v2) (pf:=⟨true,v1,v2,none⟩) mc (dU _) ab hlen hx run hb ab
   rename_i Eu;rw[Eu,b3 Eu] at hb;split at e
   ·cases e
   rename_i q3 XC;obtain⟨c1,c2,c3⟩:=M8 hg _ _ _ _ _ XC b1 b2;have ho:=Uv (K:=K) (L0:=L0) (c:=[(u8<|kd),(i6 to),(u8<|oa),(i6 na),(.U (nm<|cI la) 0 la.length),(u8<|ob),(i6 nb),(.U (nm<|cI lb) 0 lb.length),(.U (nm<|bw bd) 0 bd.length),(.U (nm<|bw el) 0 el.length)]) (g:=g) R.s1 R.s2 R.Et b1 b2 XC ⟨c1,c2⟩;split at e
   ·rename_i Ew;injection e with e;subst e
    rw[Ew] at ho;obtain⟨amd,x1,x2,al3⟩:=q3;simp only at Ew;subst Ew;exact ail (pf:=⟨true,v1,v2,none⟩) mc (dU _) ab hlen hx run hb ho ab
   rename_i Ew;rw[Ew,c3 Ew] at ho;exact aim (bL:=none) mc (dU _) ab hlen hx run hb ho ab R.s1 R.s2 R.Et c1 c2<|ih (i+1) _ _ _ lF c1 c2 e
 exact agq mc (dU _) R.s1 R.s2 R.Et ok.1 ok.2<|key l 0 v1 v2 p List.drop_zero ok.1 ok.2 e
theorem AE(hP:bE pg){K:Cb}{rd:mC}{L0:bY}(R:∀k,yk K (de K rd k::L0) rd)(h0:aV L0):∀(k:Nat) {L:bY},aV L->aV (de K rd k::L)
 |0,L,h=>by
  refine Ve hP hJ (aL.1 aW) (R 0).s1 (R 0).s2 (R 0).Et iT iz lT lB h cP Tryz.func78 (body:=a9 pg 78 []) aW aW fun x v1 v2 p e=>?_;unfold zl at e;split at e
  ·cases e
  split at e
  ·cases e
  ·cases e
 |k+1,L,h=>aaM hP (R k) (AE hP R h0 k h0) h
end m7
end
section
open Go Go.Rn Go.RowKit Go.Proofs
namespace tP
open cq cz cO cT eH fx dj uo nh m7
variable {rd:mC} {k N L kd:Nat} {p:fw} {B:aJ} {v:AV} {n2 n1:Int}
noncomputable section
theorem G3(v:AV)(s:AS):(none:Option Nat)=none/\([]:List Nat)=[]/\(some (v,s):Option<|AV×AS)=some (v,s):=⟨rfl,rfl,rfl⟩
def kv(L:bY):Env:=xQ pg 270 eK dV L 270 false
def Ey:Code:=a9 pg 59 [1,0,1,0,0]
def Cj:Code:=a9 pg 59 [1,0,1,0,1]
def KC:Cb:=⟨59,21,[7],Ey,Cj,2,3⟩
def sBC(v1 v2:AV)(c:List AV):AS:=⟨((sE KC v1 v2 c).h.put 275<|some<|.cells 10 (Tr.fill c 0 .nil) []).put 270<|some<|.loop .busy none 59 (aS [(2,.ptr<|some (272,0)),(3,.ptr<|some (273,0))]) 21 [7] Ey Cj 271,276,0,[],[]⟩
noncomputable abbrev ri(kk to oa na:Int)(Na La:Nat)(ob nb:Int)(Nb Lb Nd ld Ne le:Nat):List AV:=[(u8<|kk),(i6 to),(u8<|oa),(i6 na),(.U Na 0 La),(u8<|ob),(i6 nb),(.U Nb 0 Lb),(.U Nd 0 ld),(.U Ne 0 le)]
theorem agr{Na La Nb Lb Nd ld Ne le:Nat}{kk to oa na ob nb:Int}{ca cb:Int}(h1:0<=n1/\n1<1000000000000)(h2:0<=n2/\n2<1000000000000)(h3:0<=ca/\ca<=1000000)(h4:0<=cb/\cb<=1000000)(hca:bf (aU<|yW kd) [(.agg [(u8<|oa),(i6 na),(.U Na 0 La)])]=some (.int .i64 ca))(hcb:bf (aU<|yW kd) [(.agg [(u8<|ob),(i6 nb),(.U Nb 0 Lb)])]=some (.int .i64 cb)):bg pg (sp<|de KC rd k::[o9 kd]) FU 6 (.round 270) [.agg<|ri kk to oa na Na La ob nb Nb Lb Nd ld Ne le] (sE KC (i6 n1) (i6 n2)<|ri kk to oa na Na La ob nb Nb Lb Nd ld Ne le)= .ok (.bool true) (sA KC none (i6<|n1+1) (i6<|n2+(ca+cb)) (ri kk to oa na Na La ob nb Nb Lb Nd ld Ne le)<|some<|.cells 10 (Tr.fill (ri kk to oa na Na La ob nb Nb Lb Nd ld Ne le) 0 .nil) []):=EK (st:=.ready) (bL:=none) (fn:=59) (nt:=21) (d:=271) (t:=(aS [(2,.ptr<|some (272,0)),(3,.ptr<|some (273,0))])) (ps:=[7]) (a:=Ey) (b:=Cj) (s0:=sE KC (i6 n1) (i6 n2)<|ri kk to oa na Na La ob nb Nb Lb Nd ld Ne le) cN rfl<|Chunk.ev 2 ⟨59,jB [7] [.agg<|ri kk to oa na Na La ob nb Nb Lb Nd ld Ne le]<|aS [(2,.ptr<|some (272,0)),(3,.ptr<|some (273,0))],21,[.code Ey,.beginRound,.code Cj],[],some 270⟩ ⟨59,((jB [7] [.agg<|ri kk to oa na Na La ob nb Nb Lb Nd ld Ne le]<|aS [(2,.ptr<|some (272,0)),(3,.ptr<|some (273,0))]).put 4<|some<|.ptr<|some (275,0)),21,[.code Cj],[],some 270⟩ _ (sBC (i6 n1) (i6 n2)<|ri kk to oa na Na La ob nb Nb Lb Nd ld Ne le) cN<|CM (E:=kv<|de KC rd k::[o9 kd]) (C:=(fun fr s1 _=>fr.round=none/\fr.defers=[]/\AP pg (bg pg (sp<|de KC rd k::[o9 kd]) FU 5) 270 fr s1=some ((.bool true),(sA KC none (i6<|n1+1) (i6<|n2+(ca+cb)) (ri kk to oa na Na La ob nb Nb Lb Nd ld Ne le)<|some<|.cells 10 (Tr.fill (ri kk to oa na Na La ob nb Nb Lb Nd ld Ne le) 0 .nil) [])))) eY rfl (fun fr s p h=>EJ h.1 h.2.1 h.2.2) 900 (.st 2<|.rg<|.go 1<|.vl (i6<|n1+1)<|.go 1<|.en<|.rg<|.go 3<|.kn (i6 ca)<|.go 2<|.kn (i6 cb)<|.vl (i6<|ca+cb)<|.vl (i6<|n2+(ca+cb))<|.go 1<|.en<|.st 1<|.cut .no)<|ai (wI<|n1+1)<|ai hca<|ai hcb<|ai (wI<|ca+cb)<|ai (wI<|n2+(ca+cb))<|G3 (.bool true)<|sA KC none (i6<|n1+1) (i6<|n2+(ca+cb)) (ri kk to oa na Na La ob nb Nb Lb Nd ld Ne le)<|some<|.cells 10 (Tr.fill (ri kk to oa na Na La ob nb Nb Lb Nd ld Ne le) 0 .nil) []
def yl(N L:Nat):List<|Nat×AV:=[(2,(.ptr<|some (270,0))),(3,(.ptr<|some (271,0))),(6,(.func (.func 77) [] [(.ptr<|some (272,0))]))]
def sb(v1 v2:AV)(N L:Nat):List<|Nat×Option ae:=ar++[(270,some<|eL v1),(271,some<|eL v2),(272,(some<|.cells 1 (Tr.fill [(.U N 0 L)] 0 .nil) []))]
def ym(v1 v2:AV)(N L:Nat):AS:=aq (sb v1 v2 N L++[(273,some .defs),(274,some<|.loop .ready none 59 (aS<|yl N L) 21 KC.ps Ey Cj 273)]) 275
def sc(p:fw)(N L:Nat):AS:=aq (sb p.v1 p.v2 N L++[(273,some .defs),(274,some<|Cb.loop KC p.bL 270 271 273)]) 275
def KY(p:fw)(N L:Nat):AS:=aq (sb p.v1 p.v2 N L++[(273,some .defs),(274,some<|.loop .exhausted p.bL KC.fn (aS [(KC.s1,.ptr<|some (270,0)),(KC.s2,.ptr<|some (271,0))]) KC.nt KC.ps KC.a KC.b 273)]) 275
theorem ags{L0:bY}{v1 v2:AV}{l:List St}(hN:N=nm (bw l))(hl:L=l.length)(o1:okB v1)(o2:okB v2)(h:fD rd k l v1 v2=some p)(o3:okB p.v1/\okB p.v2):
 bg pg (sp<|de KC rd k::L0) FU 5 (.fn 78) [.U N 0 L,.yield 274] (ym v1 v2 N L)= .ok (.bool p.ret) (sc p N L):=by
 subst hN;subst hl;have ug:sp (de KC rd k::L0) 78=some (qM KC (zl rd k) 270 eK dV):=by kernel_rfl
 have I:Ki KC (ym v1 v2 (nm<|bw l) l.length) 274 273 270 271 v1 v2:=by
  refine⟨rfl,(aL.1 aW:275<=top),⟨by show 274<275;omega,by show 273<275;omega,by show 270<275;omega,by show 271<275;omega⟩,⟨by omega,by omega,by omega,by omega,by omega,by omega⟩,⟨aS<|yl (nm<|bw l) l.length,?_,?_,?_⟩,?_,⟨eL v1,?_,wm _⟩,⟨eL v2,?_,wm _⟩⟩
  all_goals (as_aux_lemma=>kernel_rfl)
 have key:=NB (P:=pg) (F:=FU) (n:=4) ug (sY l) cN I ((Mx o1 o2).trans h) o1 o2 o3.1 o3.2;rw[show KT KC (ym v1 v2 (nm<|bw l) l.length) 274 273 270 271 p=sc p (nm<|bw l) l.length from by as_aux_lemma=>kernel_rfl] at key;exact key
theorem ain{v1 v2:AV}(hE:bg pg (sp<|de KC rd k::[o9 kd]) FU 5 (.fn 78) [.U N 0 L,.yield 274] (ym v1 v2 N L)= .ok (.bool p.ret) (sc p N L)):pL (kv<|de KC rd k::[o9 kd]) 5 (az Tryz.f77) (fun v s=>v= .tuple []/\s=(sc p N L)) (sF 77 Tryz.f77 [.yield 274,.ptr<|some (272,0)])<|ym v1 v2 N L:=by exact Dv (C:=fun _ _ _=>False) eY rfl (fun _ _ _ h=>h.elim) 900 (.rg<|.go 2<|.cu (.bool p.ret) (sc p N L)<|.en<|.rt 1 .no)<|ai hE (show(AV.tuple []=AV.tuple []/\(sc p N L)=(sc p N L)) from⟨rfl,rfl⟩)
theorem alC{v1 v2:AV}(hE:bg pg (sp<|de KC rd k::[o9 kd]) FU 5 (.fn 78) [.U N 0 L,.yield 274] (ym v1 v2 N L)= .ok (.bool p.ret) (sc p N L)):bg pg (sp<|de KC rd k::[o9 kd]) FU 6 (.fn 77) [.yield 274,.ptr<|some (272,0)] (ym v1 v2 N L)= .ok (.tuple []) (sc p N L):=by obtain⟨v,s2,h1,rfl,rfl⟩:=pL.call (E:=kv<|de KC rd k::[o9 kd]) (n:=5) Tryz.func77 (CG Tryz.func77 cN)<|ain (v1:=v1) (v2:=v2) hE;exact h1
theorem xk:a9 pg 59 [1,0,1,0]= .rangeFunc (.tmp 6) #[7] Ey Cj:=by kernel_rfl
def KZ:List Item:=[.inBlock 0,.code<|a9 pg 59 [1,1]]
def D1(N L:Nat):AF:=⟨59,aS<|yl N L,21,.code (a9 pg 59 [1,0,1,0])::KZ,[],none⟩
theorem agt:lN 274 (sc p N L)= .ok p.bL (KY p N L):=by
 obtain⟨r,v1,v2,bL⟩:=p;cases bL with
 |none=>as_aux_lemma=>kernel_rfl
 |some c=>as_aux_lemma=>kernel_rfl
theorem rgC{v1 v2:AV}(mc:Mt (de KC rd k::[o9 kd]) B)(hE:bg pg (sp<|de KC rd k::[o9 kd]) FU 5 (.fn 78) [.U N 0 L,.yield 274] (ym v1 v2 N L)= .ok (.bool p.ret) (sc p N L))(H:au pg B 270 (Fin pg (az Tryz.f59) fun y _=>y=v) ⟨59,aS<|yl N L,21,andThen p.bL KZ,[273],none⟩<|KY p N L):au pg B 270 (Fin pg (az Tryz.f59) fun y _=>y=v) (D1 N L)<|aq (sb v1 v2 N L) 273:=by unfold D1;rw[xk];exact au.chunk bV mc.2.2.1 mc.2.2.2 (H8 (gv:=.func (.func 77) [] [.ptr<|some (272,0)]) (s1:=aq (sb v1 v2 N L++[(273,some .defs)]) 274) (s2:=ym v1 v2 N L) cN cN cN (alC (rd:=rd) (k:=k) (kd:=kd) hE) (show lN 274 (sc p N L)= .ok p.bL (KY p N L) from agt)) (by show 270<=273;omega) H
theorem aio(N L:Nat):((yl N L).map (fun q=>some q.2)=(yl N L).map (fun q=>some q.2))/\((sb (.int .i64 0) (.int .i64 0) N L).map (fun q=>q.2)=(sb (.int .i64 0) (.int .i64 0) N L).map (fun q=>q.2))/\(D1 N L=D1 N L/\aq (sb (.int .i64 0) (.int .i64 0) N L) 273=aq (sb (.int .i64 0) (.int .i64 0) N L) 273):=⟨rfl,rfl,rfl,rfl⟩
theorem goC(mc:Mt (de KC rd k::[o9 kd]) B)(hn:top<=N)(H:au pg B 270 (Fin pg (az Tryz.f59) fun y _=>y=v) (D1 N L)<|aq (sb (.int .i64 0) (.int .i64 0) N L) 273):au pg B 270 (Fin pg (az Tryz.f59) fun y _=>y=v) (sF 59 Tryz.f59 [(.U N 0 L)])<|aq ar 270:=by exact wC mc (C:=(fun fr s1 _=>fr=D1 N L/\s1=aq (sb (.int .i64 0) (.int .i64 0) N L) 273)) np (.st 4<|.rg<|.go 1<|.il<|.rt 5<|.en<|.st 1<|.ls (yl N L) (sb (.int .i64 0) (.int .i64 0) N L) 273 .no)<|aio N L
theorem enC{r:Bool}(mc:Mt (de KC rd k::[o9 kd]) B):au pg B 270 (Fin pg (az Tryz.f59) fun y _=>y= .tuple [.int .i64 n1,.int .i64 n2]) ⟨59,aS<|yl N L,21,andThen none KZ,[273],none⟩<|KY ⟨r,.int .i64 n1,.int .i64 n2,none⟩ N L:=(My (l:=273) (k:=8) (fr:=⟨59,aS<|yl N L,21,KZ,[],none⟩) bV mc.2.2.1 mc.2.2.2 rfl rfl cN).2.2 (by show 270<=275;omega)
end
end tP
end
section
open Go Go.Rn Go.RowKit Go.Proofs
namespace qp
open cq cz cO cT eH BK fx xR dj uo nh m7 tP
variable {kd:Nat} {e:Ex}
noncomputable section
def iq:St->Ex
 | .mk _ _ a _ _ _=>a
def ir:St->Ex
 | .mk _ _ _ b _ _=>b
def OZ(kd:Nat)(s:St)(n1 n2:Int):Prop:=(0<=n1/\n1<1000000000000)/\(0<=n2/\n2<1000000000000)/\tD kd (iq s)=true/\tD kd (ir s)=true/\lu kd (iq s)<=1000000/\lu kd (ir s)<=1000000
open Classical in
def oQ(kd:Nat):mC:=fun s v1 v2=>match v1,v2 with
 | .int .i64 n1,.int .i64 n2=>if OZ kd s n1 n2 then some ⟨true,.int .i64<|n1+1,.int .i64<|n2+(mj kd (iq s)+mj kd (ir s)),none⟩ else none
 |_,_=>none
theorem v7(n:Int):okB<|.int .i64 n:=⟨rfl,rfl⟩
theorem Tz(h:tD kd e=true)(h2:lu kd e<=1000000):0<=mj kd e/\mj kd e<=1000000:=by have:=EX kd e h;unfold mj;split<;>omega
theorem TA(h:tD kd e=true)(h2:lu kd e<=1000000):bf (aU<|yW kd) [.agg<|aB e]=some (i6<|mj kd e):=fA (eZ yW.bT ⟨e,rfl,h,h2,rfl⟩) rF rfl
theorem Uw{s:St}{v1 v2:AV}{p:fw}(h:oQ kd s v1 v2=some p):∃n1 n2,v1= .int .i64 n1/\v2= .int .i64 n2/\OZ kd s n1 n2/\p=⟨true,.int .i64<|n1+1,.int .i64<|n2+(mj kd (iq s)+mj kd (ir s)),none⟩:=by
 unfold oQ at h;split at h
 ·rename_i n1 n2;split at h
  ·rename_i q;injection h with h
   exact⟨n1,n2,rfl,rfl,q,h.symm⟩
  ·cases h
 ·cases h
theorem aip(kd k:Nat):yk KC (de KC (oQ kd) k::[o9 kd])<|oQ kd:=by refine⟨aL.1 aW,aL.1 aW,(by show(2:Nat)≠3;omega),fun s v1 v2 p h _ _=>?_⟩;obtain⟨n1,n2,rfl,rfl,⟨h1,h2,h3,h4,h5,h6⟩,rfl⟩:=Uw h;refine⟨⟨v7 _,v7 _,fun _=>rfl⟩,some<|.cells 10 (Tr.fill (aM s) 0 .nil) [],?_⟩;have ca:=TA h3 h5;have cb:=TA h4 h6;have na:=Tz h3 h5;have nb:=Tz h4 h6;obtain⟨kk,to,⟨oa,xa,la⟩,⟨ob,xb,lb⟩,bd,el⟩:=s;simp only[iq,ir] at ca cb na nb ⊢;rw[aM,aB,aB];rw[aB] at ca cb;exact agr h1 h2 na nb ca cb
def PC(p:fw):Prop:=p.ret=true/\p.bL=none/\∃n1 n2,p.v1= .int .i64 n1/\p.v2= .int .i64 n2
theorem Ux{kd:Nat}{ek:List St->AV->AV->Option fw}(he:∀l n1 n2 p,ek l (.int .i64 n1) (.int .i64 n2)=some p->PC p):∀l n1 n2 p,kL ek (oQ kd) l (.int .i64 n1) (.int .i64 n2)=some p->PC p
 |[],n1,n2,p,h=>by
  have h:some (⟨true,.int .i64 n1,.int .i64 n2,none⟩:fw)=some p:=h;injection h with h;subst h
  exact⟨rfl,rfl,_,_,rfl,rfl⟩
 |s::r,n1,n2,p,h=>by
  unfold kL at h;split at h
  ·cases h
  rename_i q e;obtain⟨m1,m2,e1,e2,_,rfl⟩:=Uw e;cases e1;cases e2;simp only at h;split at h
  ·cases h
  rename_i q2 e2;obtain⟨b1,b2,x1,x2,y1,y2⟩:=he _ _ _ _ e2;rw[b1] at h;simp only at h;rw[y1,y2] at h;split at h
  ·cases h
  rename_i q3 e3;obtain⟨c1,c2,x3,x4,y3,y4⟩:=he _ _ _ _ e3;rw[c1] at h;simp only at h;rw[y3,y4] at h;exact Ux he r _ _ p h
theorem SR:∀k l n1 n2 p,fD (oQ kd) k l (.int .i64 n1) (.int .i64 n2)=some p->PC p
 |0,_,_,_,_,h=>by cases h
 |k+1,l,n1,n2,p,h=>by
  unfold fD at h;split at h
  ·exact Ux (SR k) l n1 n2 p h
  ·cases h
def BL(kd k:Nat)(args:List AV)(v:AV):Prop:=∃(l:List St) (p:fw),args=[.U (nm<|bw l) 0 l.length]/\fD (oQ kd) k l (.int .i64 0) (.int .i64 0)=some p/\v= .tuple [p.v1,p.v2]
theorem adw{l l':List St}(h:[AV.U (nm<|bw l) 0 l.length]=[.U (nm<|bw l') 0 l'.length]):l=l':=by
 injection h with h _
 injection h with h1 _ _
 exact ss _ _<|sR (lL _) (lL _) h1
theorem BL.bT{k:Nat}(args:List AV)(v v':AV)(h:BL kd k args v)(h':BL kd k args v'):v=v':=by
 obtain⟨l,p,rfl,a,rfl⟩:=h;obtain⟨l',p',h1,a',rfl⟩:=h';rw[adw h1,a'] at a;injection a with a
 rw[a]
def lC(kd k:Nat):FuncId×KE:=(59,.val<|aU<|BL kd k)
theorem adx(hP:bE pg)(kd k:Nat){L:bY}(h:aV L):aV<|lC kd k::L:=by refine ig hP h (AE hP (fun k=>aip kd k) (SM hP kd cP) k<|SM hP kd cP) Tryz.func59 fun args v e=>?_;obtain⟨l,p,rfl,he,rfl⟩:=gI e;refine⟨aL.1 aW,fun B mc=>?_⟩;rw[←gX];obtain⟨r1,r2,n1,n2,v1,v2⟩:=SR k l 0 0 p he;obtain⟨ret,w1,w2,bL⟩:=p;simp only at r1 r2 v1 v2;subst r1;subst r2;subst v1;subst v2;exact goC (rd:=oQ kd) (k:=k) (kd:=kd) mc (dU _)<|rgC mc (ags (rd:=oQ kd) (k:=k) rfl rfl (v7 _) (v7 _) he ⟨v7 _,v7 _⟩)<|enC mc
end
end qp
end
section
open Go Go.Rn Go.RowKit Go.Proofs
namespace xS
open cq cz cO cT eR eH fx dj uo Ch vC xo nh m7
variable {xb xa to ob oa nb na:Int} {ld Ne Nd Nb Na Lb La:Nat} {B:aJ}
theorem agu{le:Nat}{kk z xa xb:Int}(mc:Mt [v5,vg,vd] B)(ho:bf (aU ku) [.int .u8 kk]=some (.agg [.bool false,.bool false,.bool false,.bool false,.bool false,.bool false])):au pg B 270 (Fin pg (az Tryz.f61) fun y _=>y=(.bool<|decide<|False)) (sF 61 Tryz.f61 [(.agg [(u8<|kk),(i6 to),(u8<|oa),(i6 na),(.U Na 0 La),(u8<|ob),(i6 nb),(.U Nb 0 Lb),(.U Nd 0 ld),(.U Ne 0 le)]),(i6 z)])<|aq ar 270:=by exact wS mc (.st 3<|.rg<|.go 2<|.kn (.agg [(.bool false),(.bool false),(.bool false),(.bool false),(.bool false),(.bool false)])<|.go 2<|.en<|.rt 10 .no)<|ai ho (show AV.bool false= .bool (decide<|False) from by rw[decide_eq_false fun h=>h])
theorem ady:bf (aU ku) [.int .u8 1]=some (.agg [(.bool true),(.bool true),(.bool true),(.bool false),(.bool false),(.bool false)]):=fA (eZ ku.bT ⟨1,rfl,by omega,by omega,rfl⟩) (by rfl) rfl
theorem agv{le:Nat}{z:Int}(mc:Mt [v5,vg,vd] B)(ha:bf (aU oD) [(.agg [(u8<|oa),(i6 na),(.U Na 0 La)]),.int .i64 z]=some (.bool<|decide<|xa=1))(hb:bf (aU mZ) [(.agg [(u8<|ob),(i6 nb),(.U Nb 0 Lb)])]=some (.bool<|decide<|xb=1)):au pg B 270 (Fin pg (az Tryz.f61) fun y _=>y=(.bool<|decide<|0<=to/\to<8/\xa=1/\xb=1/\ld=0/\le=0)) (sF 61 Tryz.f61 [(.agg [(u8<|.ofNat 1),(i6 to),(u8<|oa),(i6 na),(.U Na 0 La),(u8<|ob),(i6 nb),(.U Nb 0 Lb),(.U Nd 0 ld),(.U Ne 0 le)]),(i6 z)])<|aq ar 270:=by exact wS mc (.st 3<|.rg<|.go 2<|.kn (.agg [(.bool true),(.bool true),(.bool true),(.bool false),(.bool false),(.bool false)])<|.go 2<|.en<|.st 8<|.rg<|.go 2<|.fk (.go 16<|.en<|.rt 4 .no)<|.go 3<|.fk (.go 12<|.en<|.rt 4 .no)<|.go 12<|.en<|.st 4<|.rg<|.go 5<|.il<|.st 7<|.rg<|.go 2<|.kp (xa=1) inferInstance (.go 1<|.en<|.rt 1<|.go 6<|.il<|.st 8<|.rg<|.go 1<|.kp (xb=1) inferInstance (.go 1<|.en<|.rt 1<|.go 8<|.fk (.go 9<|.fk (.go 3<|.en<|.rt 1 .no)<|.go 3<|.en<|.rt 1 .no)<|.go 13<|.en<|.rt 1 .no)<|.go 1<|.en<|.rt 1<|.go 22<|.en<|.rt 1 .no)<|.go 1<|.en<|.rt 1<|.go 29<|.en<|.rt 1 .no)<|ai (ady) Xq
theorem adz:bf (aU ku) [.int .u8 2]=some (.agg [(.bool true),(.bool true),(.bool true),(.bool false),(.bool false),(.bool false)]):=fA (eZ ku.bT ⟨2,rfl,by omega,by omega,rfl⟩) (by rfl) rfl
theorem agw{le:Nat}{z:Int}(mc:Mt [v5,vg,vd] B)(ha:bf (aU oD) [(.agg [(u8<|oa),(i6 na),(.U Na 0 La)]),.int .i64 z]=some (.bool<|decide<|xa=1))(hb:bf (aU mZ) [(.agg [(u8<|ob),(i6 nb),(.U Nb 0 Lb)])]=some (.bool<|decide<|xb=1)):au pg B 270 (Fin pg (az Tryz.f61) fun y _=>y=(.bool<|decide<|0<=to/\to<8/\xa=1/\xb=1/\ld=0/\le=0)) (sF 61 Tryz.f61 [(.agg [(u8<|.ofNat 2),(i6 to),(u8<|oa),(i6 na),(.U Na 0 La),(u8<|ob),(i6 nb),(.U Nb 0 Lb),(.U Nd 0 ld),(.U Ne 0 le)]),(i6 z)])<|aq ar 270:=by exact wS mc (.st 3<|.rg<|.go 2<|.kn (.agg [(.bool true),(.bool true),(.bool true),(.bool false),(.bool false),(.bool false)])<|.go 2<|.en<|.st 8<|.rg<|.go 2<|.fk (.go 16<|.en<|.rt 4 .no)<|.go 3<|.fk (.go 12<|.en<|.rt 4 .no)<|.go 12<|.en<|.st 4<|.rg<|.go 5<|.il<|.st 7<|.rg<|.go 2<|.kp (xa=1) inferInstance (.go 1<|.en<|.rt 1<|.go 6<|.il<|.st 8<|.rg<|.go 1<|.kp (xb=1) inferInstance (.go 1<|.en<|.rt 1<|.go 8<|.fk (.go 9<|.fk (.go 3<|.en<|.rt 1 .no)<|.go 3<|.en<|.rt 1 .no)<|.go 13<|.en<|.rt 1 .no)<|.go 1<|.en<|.rt 1<|.go 22<|.en<|.rt 1 .no)<|.go 1<|.en<|.rt 1<|.go 29<|.en<|.rt 1 .no)<|ai (adz) Xq
theorem adA:bf (aU ku) [.int .u8 3]=some (.agg [(.bool true),(.bool false),(.bool true),(.bool true),(.bool false),(.bool false)]):=fA (eZ ku.bT ⟨3,rfl,by omega,by omega,rfl⟩) (by rfl) rfl
theorem agx{le:Nat}{z:Int}(mc:Mt [v5,vg,vd] B)(ha:bf (aU oD) [(.agg [(u8<|oa),(i6 na),(.U Na 0 La)]),.int .i64 z]=some (.bool<|decide<|xa=1))(hb:bf (aU oD) [(.agg [(u8<|ob),(i6 nb),(.U Nb 0 Lb)]),.int .i64 z]=some (.bool<|decide<|xb=1)):au pg B 270 (Fin pg (az Tryz.f61) fun y _=>y=(.bool<|decide<|0<=to/\to<8/\to=0/\xa=1/\xb=1/\ld=0/\le=0)) (sF 61 Tryz.f61 [(.agg [(u8<|.ofNat 3),(i6 to),(u8<|oa),(i6 na),(.U Na 0 La),(u8<|ob),(i6 nb),(.U Nb 0 Lb),(.U Nd 0 ld),(.U Ne 0 le)]),(i6 z)])<|aq ar 270:=by exact wS mc (.st 3<|.rg<|.go 2<|.kn (.agg [(.bool true),(.bool false),(.bool true),(.bool true),(.bool false),(.bool false)])<|.go 2<|.en<|.st 8<|.rg<|.go 2<|.fk (.go 16<|.en<|.rt 4 .no)<|.go 3<|.fk (.go 12<|.en<|.rt 4 .no)<|.go 8<|.fk (.go 3<|.en<|.rt 4 .no)<|.go 3<|.en<|.st 4<|.rg<|.go 5<|.il<|.st 7<|.rg<|.go 2<|.kp (xa=1) inferInstance (.go 1<|.en<|.rt 1<|.go 6<|.il<|.st 7<|.rg<|.go 2<|.kp (xb=1) inferInstance (.go 1<|.en<|.rt 1<|.go 8<|.fk (.go 9<|.fk (.go 3<|.en<|.rt 1 .no)<|.go 3<|.en<|.rt 1 .no)<|.go 13<|.en<|.rt 1 .no)<|.go 1<|.en<|.rt 1<|.go 22<|.en<|.rt 1 .no)<|.go 1<|.en<|.rt 1<|.go 29<|.en<|.rt 1 .no)<|ai (adA) Qg
theorem adB:bf (aU ku) [.int .u8 4]=some (.agg [(.bool true),(.bool false),(.bool true),(.bool false),(.bool true),(.bool true)]):=fA (eZ ku.bT ⟨4,rfl,by omega,by omega,rfl⟩) (by rfl) rfl
theorem agy{le:Nat}{z:Int}(mc:Mt [v5,vg,vd] B)(ha:bf (aU oD) [(.agg [(u8<|oa),(i6 na),(.U Na 0 La)]),.int .i64 z]=some (.bool<|decide<|xa=1))(hb:bf (aU mZ) [(.agg [(u8<|ob),(i6 nb),(.U Nb 0 Lb)])]=some (.bool<|decide<|xb=1)):au pg B 270 (Fin pg (az Tryz.f61) fun y _=>y=(.bool<|decide<|0<=to/\to<8/\to=0/\xa=1/\xb=1)) (sF 61 Tryz.f61 [(.agg [(u8<|.ofNat 4),(i6 to),(u8<|oa),(i6 na),(.U Na 0 La),(u8<|ob),(i6 nb),(.U Nb 0 Lb),(.U Nd 0 ld),(.U Ne 0 le)]),(i6 z)])<|aq ar 270:=by exact wS mc (.st 3<|.rg<|.go 2<|.kn (.agg [(.bool true),(.bool false),(.bool true),(.bool false),(.bool true),(.bool true)])<|.go 2<|.en<|.st 8<|.rg<|.go 2<|.fk (.go 16<|.en<|.rt 4 .no)<|.go 3<|.fk (.go 12<|.en<|.rt 4 .no)<|.go 8<|.fk (.go 3<|.en<|.rt 4 .no)<|.go 3<|.en<|.st 4<|.rg<|.go 5<|.il<|.st 7<|.rg<|.go 2<|.kp (xa=1) inferInstance (.go 1<|.en<|.rt 1<|.go 6<|.il<|.st 8<|.rg<|.go 1<|.kp (xb=1) inferInstance (.go 1<|.en<|.rt 1<|.go 22<|.en<|.rt 1 .no)<|.go 1<|.en<|.rt 1<|.go 22<|.en<|.rt 1 .no)<|.go 1<|.en<|.rt 1<|.go 29<|.en<|.rt 1 .no)<|ai (adB) Xr
theorem adC:bf (aU ku) [.int .u8 5]=some (.agg [(.bool true),(.bool false),(.bool true),(.bool false),(.bool true),(.bool false)]):=fA (eZ ku.bT ⟨5,rfl,by omega,by omega,rfl⟩) (by rfl) rfl
theorem agz{le:Nat}{z:Int}(mc:Mt [v5,vg,vd] B)(ha:bf (aU oD) [(.agg [(u8<|oa),(i6 na),(.U Na 0 La)]),.int .i64 z]=some (.bool<|decide<|xa=1))(hb:bf (aU mZ) [(.agg [(u8<|ob),(i6 nb),(.U Nb 0 Lb)])]=some (.bool<|decide<|xb=1)):au pg B 270 (Fin pg (az Tryz.f61) fun y _=>y=(.bool<|decide<|0<=to/\to<8/\to=0/\xa=1/\xb=1/\le=0)) (sF 61 Tryz.f61 [(.agg [(u8<|.ofNat 5),(i6 to),(u8<|oa),(i6 na),(.U Na 0 La),(u8<|ob),(i6 nb),(.U Nb 0 Lb),(.U Nd 0 ld),(.U Ne 0 le)]),(i6 z)])<|aq ar 270:=by exact wS mc (.st 3<|.rg<|.go 2<|.kn (.agg [(.bool true),(.bool false),(.bool true),(.bool false),(.bool true),(.bool false)])<|.go 2<|.en<|.st 8<|.rg<|.go 2<|.fk (.go 16<|.en<|.rt 4 .no)<|.go 3<|.fk (.go 12<|.en<|.rt 4 .no)<|.go 8<|.fk (.go 3<|.en<|.rt 4 .no)<|.go 3<|.en<|.st 4<|.rg<|.go 5<|.il<|.st 7<|.rg<|.go 2<|.kp (xa=1) inferInstance (.go 1<|.en<|.rt 1<|.go 6<|.il<|.st 8<|.rg<|.go 1<|.kp (xb=1) inferInstance (.go 1<|.en<|.rt 1<|.go 18<|.fk (.go 3<|.en<|.rt 1 .no)<|.go 3<|.en<|.rt 1 .no)<|.go 1<|.en<|.rt 1<|.go 22<|.en<|.rt 1 .no)<|.go 1<|.en<|.rt 1<|.go 29<|.en<|.rt 1 .no)<|ai (adC)<|ax (to<0) (fun _=>(show AV.bool false= .bool (decide<|0<=to/\to<8/\to=0/\xa=1/\xb=1/\le=0) from by rw[decide_eq_false ab])) fun _=>(ax (to>=8) (fun _=>(show AV.bool false= .bool (decide<|0<=to/\to<8/\to=0/\xa=1/\xb=1/\le=0) from by rw[decide_eq_false ab])) fun _=>(ax (to≠0) (fun _=>(show AV.bool false= .bool (decide<|0<=to/\to<8/\to=0/\xa=1/\xb=1/\le=0) from by rw[decide_eq_false ab])) fun _=>(ai ha<|ax (xa=1) (fun _=>(ai hb<|ax (xb=1) (fun _=>(ax ((le:Int)=0) (fun _=>(show AV.bool true= .bool (decide<|0<=to/\to<8/\to=0/\xa=1/\xb=1/\le=0) from by rw[decide_eq_true ab])) fun _=>(show AV.bool false= .bool (decide<|0<=to/\to<8/\to=0/\xa=1/\xb=1/\le=0) from by rw[decide_eq_false ab]))) fun _=>(show AV.bool false= .bool (decide<|0<=to/\to<8/\to=0/\xa=1/\xb=1/\le=0) from by rw[decide_eq_false ab]))) fun _=>(show AV.bool false= .bool (decide<|0<=to/\to<8/\to=0/\xa=1/\xb=1/\le=0) from by rw[decide_eq_false ab]))))
theorem adD:bf (aU ku) [.int .u8 6]=some (.agg [(.bool true),(.bool false),(.bool false),(.bool false),(.bool false),(.bool false)]):=fA (eZ ku.bT ⟨6,rfl,by omega,by omega,rfl⟩) (by rfl) rfl
theorem agA{le:Nat}{z:Int}(mc:Mt [v5,vg,vd] B)(ha:bf (aU mZ) [(.agg [(u8<|oa),(i6 na),(.U Na 0 La)])]=some (.bool<|decide<|xa=1))(hb:bf (aU mZ) [(.agg [(u8<|ob),(i6 nb),(.U Nb 0 Lb)])]=some (.bool<|decide<|xb=1)):au pg B 270 (Fin pg (az Tryz.f61) fun y _=>y=(.bool<|decide<|0<=to/\to<8/\to=0/\xa=1/\xb=1/\ld=0/\le=0)) (sF 61 Tryz.f61 [(.agg [(u8<|.ofNat 6),(i6 to),(u8<|oa),(i6 na),(.U Na 0 La),(u8<|ob),(i6 nb),(.U Nb 0 Lb),(.U Nd 0 ld),(.U Ne 0 le)]),(i6 z)])<|aq ar 270:=by exact wS mc (.st 3<|.rg<|.go 2<|.kn (.agg [(.bool true),(.bool false),(.bool false),(.bool false),(.bool false),(.bool false)])<|.go 2<|.en<|.st 8<|.rg<|.go 2<|.fk (.go 16<|.en<|.rt 4 .no)<|.go 3<|.fk (.go 12<|.en<|.rt 4 .no)<|.go 8<|.fk (.go 3<|.en<|.rt 4 .no)<|.go 3<|.en<|.st 4<|.rg<|.go 5<|.il<|.st 8<|.rg<|.go 1<|.kp (xa=1) inferInstance (.go 1<|.en<|.rt 1<|.go 6<|.il<|.st 8<|.rg<|.go 1<|.kp (xb=1) inferInstance (.go 1<|.en<|.rt 1<|.go 8<|.fk (.go 9<|.fk (.go 3<|.en<|.rt 1 .no)<|.go 3<|.en<|.rt 1 .no)<|.go 13<|.en<|.rt 1 .no)<|.go 1<|.en<|.rt 1<|.go 22<|.en<|.rt 1 .no)<|.go 1<|.en<|.rt 1<|.go 29<|.en<|.rt 1 .no)<|ai (adD) Qg
theorem adE:bf (aU ku) [.int .u8 7]=some (.agg [(.bool true),(.bool false),(.bool false),(.bool false),(.bool true),(.bool true)]):=fA (eZ ku.bT ⟨7,rfl,by omega,by omega,rfl⟩) (by rfl) rfl
theorem agB{le:Nat}{z:Int}(mc:Mt [v5,vg,vd] B)(ha:bf (aU mZ) [(.agg [(u8<|oa),(i6 na),(.U Na 0 La)])]=some (.bool<|decide<|xa=1))(hb:bf (aU mZ) [(.agg [(u8<|ob),(i6 nb),(.U Nb 0 Lb)])]=some (.bool<|decide<|xb=1)):au pg B 270 (Fin pg (az Tryz.f61) fun y _=>y=(.bool<|decide<|0<=to/\to<8/\to=0/\xa=1/\xb=1)) (sF 61 Tryz.f61 [(.agg [(u8<|.ofNat 7),(i6 to),(u8<|oa),(i6 na),(.U Na 0 La),(u8<|ob),(i6 nb),(.U Nb 0 Lb),(.U Nd 0 ld),(.U Ne 0 le)]),(i6 z)])<|aq ar 270:=by exact wS mc (.st 3<|.rg<|.go 2<|.kn (.agg [(.bool true),(.bool false),(.bool false),(.bool false),(.bool true),(.bool true)])<|.go 2<|.en<|.st 8<|.rg<|.go 2<|.fk (.go 16<|.en<|.rt 4 .no)<|.go 3<|.fk (.go 12<|.en<|.rt 4 .no)<|.go 8<|.fk (.go 3<|.en<|.rt 4 .no)<|.go 3<|.en<|.st 4<|.rg<|.go 5<|.il<|.st 8<|.rg<|.go 1<|.kp (xa=1) inferInstance (.go 1<|.en<|.rt 1<|.go 6<|.il<|.st 8<|.rg<|.go 1<|.kp (xb=1) inferInstance (.go 1<|.en<|.rt 1<|.go 22<|.en<|.rt 1 .no)<|.go 1<|.en<|.rt 1<|.go 22<|.en<|.rt 1 .no)<|.go 1<|.en<|.rt 1<|.go 29<|.en<|.rt 1 .no)<|ai (adE) Xr
theorem adF:bf (aU ku) [.int .u8 8]=some (.agg [(.bool true),(.bool false),(.bool true),(.bool false),(.bool false),(.bool false)]):=fA (eZ ku.bT ⟨8,rfl,by omega,by omega,rfl⟩) (by rfl) rfl
theorem agC{le:Nat}{z:Int}(mc:Mt [v5,vg,vd] B)(ha:bf (aU oD) [(.agg [(u8<|oa),(i6 na),(.U Na 0 La)]),.int .i64 z]=some (.bool<|decide<|xa=1))(hb:bf (aU mZ) [(.agg [(u8<|ob),(i6 nb),(.U Nb 0 Lb)])]=some (.bool<|decide<|xb=1)):au pg B 270 (Fin pg (az Tryz.f61) fun y _=>y=(.bool<|decide<|0<=to/\to<8/\to=0/\xa=1/\xb=1/\ld=0/\le=0)) (sF 61 Tryz.f61 [(.agg [(u8<|.ofNat 8),(i6 to),(u8<|oa),(i6 na),(.U Na 0 La),(u8<|ob),(i6 nb),(.U Nb 0 Lb),(.U Nd 0 ld),(.U Ne 0 le)]),(i6 z)])<|aq ar 270:=by exact wS mc (.st 3<|.rg<|.go 2<|.kn (.agg [(.bool true),(.bool false),(.bool true),(.bool false),(.bool false),(.bool false)])<|.go 2<|.en<|.st 8<|.rg<|.go 2<|.fk (.go 16<|.en<|.rt 4 .no)<|.go 3<|.fk (.go 12<|.en<|.rt 4 .no)<|.go 8<|.fk (.go 3<|.en<|.rt 4 .no)<|.go 3<|.en<|.st 4<|.rg<|.go 5<|.il<|.st 7<|.rg<|.go 2<|.kp (xa=1) inferInstance (.go 1<|.en<|.rt 1<|.go 6<|.il<|.st 8<|.rg<|.go 1<|.kp (xb=1) inferInstance (.go 1<|.en<|.rt 1<|.go 8<|.fk (.go 9<|.fk (.go 3<|.en<|.rt 1 .no)<|.go 3<|.en<|.rt 1 .no)<|.go 13<|.en<|.rt 1 .no)<|.go 1<|.en<|.rt 1<|.go 22<|.en<|.rt 1 .no)<|.go 1<|.en<|.rt 1<|.go 29<|.en<|.rt 1 .no)<|ai (adF) Qg
end xS
end
section
open Go Go.Rn Go.RowKit Go.Proofs
namespace zm
open cq cz cO cT eR eH fx dj uo Ch vC xo gY nh m7 qp xS
variable {e:Ex}
def tS(asked:Bool)(e:Ex)(z:Int):Bool:=match asked with
 |true=>Kk e z
 |false=>decide<|DD e
def z8(l:List Bool)(to:Int)(a b:Ex)(body el:List St)(z:Int):Bool:=match l with
 |[is,t,fa,fb,bo,ot]=>is&&(decide (0<=to/\to<8)&&((t||decide (to=0))&&(tS fa a z&&(tS fb b z&&((bo||decide (body.length=0))&&(ot||decide (el.length=0)))))))
 |_=>false
def mF:St->Int->Bool
 | .mk kind to a b body el,z=>z8 (pQ kind) to a b body el z
def z9(args:List AV)(v:AV):Prop:=∃(s:St) (z:Int),args=[.agg<|aM s,.int .i64 z]/\(0<=fB s/\fB s<256)/\v= .bool (mF s z)
theorem z9.bT(args:List AV)(v v':AV)(h:z9 args v)(h':z9 args v'):v=v':=by obtain⟨e,z,rfl,_,rfl⟩:=h;obtain⟨e',z',h1,_,rfl⟩:=h';simp only[List.cons.injEq,AV.agg.injEq,AV.int.injEq,true_and,_root_.and_true] at h1;rw[Mp _ _ h1.1,h1.2]
noncomputable def lK:FuncId×KE:=(61,.val<|aU z9)
theorem afq{z:Int}:bf (aU oD) [.agg<|aB e,.int .i64 z]=some (.bool<|decide<|bit (Kk e z)=1):=by rw[wN];exact fA (eZ oD.bT ⟨e,z,rfl,rfl⟩) rF rfl
theorem adG:bf (aU mZ) [.agg<|aB e]=some (.bool<|decide<|bit (decide<|DD e)=1):=by rw[wN];exact fA (eZ mZ.bT ⟨e,rfl,rfl⟩) rF rfl
theorem afr{fa:Bool}{z:Int}:match fa with
 |true=>bf (aU oD) [.agg<|aB e,.int .i64 z]=some (.bool<|decide<|bit (tS fa e z)=1)
 |false=>bf (aU mZ) [.agg<|aB e]=some (.bool<|decide<|bit (tS fa e z)=1):=by
 cases fa
 ·exact adG
 ·exact afq
theorem afs(hP:bE pg){L:bY}(h:aV L):aV<|lK::L:=by
 refine ig hP h (afc hP<|ab1 hP<|abY hP cP) Tryz.func61 fun args v e=>?_;obtain⟨⟨kind,to,⟨oa,na,la⟩,⟨ob,nb,lb⟩,bd,el⟩,z,rfl,hk,rfl⟩:=gI e;have hk:0<=kind/\kind<256:=hk;refine⟨aL.1 aW,fun B mc=>?_⟩;rw[←gX];have fit:∀(fa:Bool) (op n:Int) (l:List Ex),match fa with
  |true=>bf (aU oD) [.agg [.int .u8 op,.int .i64 n,.U (nm<|cI l) 0 l.length],.int .i64 z]=some (.bool<|decide<|bit (tS fa (.mk op n l) z)=1)
  |false=>bf (aU mZ) [.agg [.int .u8 op,.int .i64 n,.U (nm<|cI l) 0 l.length]]=some (.bool<|decide<|bit (tS fa (.mk op n l) z)=1):=fun fa op n l=>by
  have:=afr (fa:=fa) (e:=.mk op n l) (z:=z);rw[aB] at this;exact this
 have bool:∀(t bo ot A B:Bool),(true&&(decide (0<=to/\to<8)&&((t||decide (to=0))&&(A&&(B&&((bo||decide (bd.length=0))&&(ot||decide (el.length=0))))))))=true↔(0<=to/\to<8)/\(t=true\/to=0)/\bit A=1/\bit B=1/\(bo=true\/bd.length=0)/\(ot=true\/el.length=0):=fun t bo ot A B=>by simp only[Bool.true_and,Bool.and_eq_true,Bool.or_eq_true,decide_eq_true_eq,D0]
 rw[aM,aB,aB];by_cases hb:1<=kind/\kind<=8
 ·have hs:∀(t fa fb bo ot:Bool),pQ kind=[true,t,fa,fb,bo,ot]->∀(Q:Prop) [Decidable Q],(Q↔(0<=to/\to<8)/\(t=true\/to=0)/\bit (tS fa (.mk oa na la) z)=1/\bit (tS fb (.mk ob nb lb) z)=1/\(bo=true\/bd.length=0)/\(ot=true\/el.length=0))->
   mF (.mk kind to (.mk oa na la) (.mk ob nb lb) bd el) z=decide Q:=fun t fa fb bo ot e Q _ hq=>by
   show z8 (pQ kind) to _ _ bd el z=_;rw[e,Bool.eq_iff_iff,decide_eq_true_eq,hq];exact bool t bo ot _ _
  have done:∀(t fa fb bo ot:Bool),pQ kind=[true,t,fa,fb,bo,ot]->∀(Q:Prop) [Decidable Q] {l:List AV} {K:List ResultVar} {nt:Nat} {XD:List Item},(Q↔(0<=to/\to<8)/\(t=true\/to=0)/\bit (tS fa (.mk oa na la) z)=1/\bit (tS fb (.mk ob nb lb) z)=1/\(bo=true\/bd.length=0)/\(ot=true\/el.length=0))->
   au pg B 270 (Fin pg K fun y _=>y= .bool (decide Q)) ⟨61,eh l,nt,XD,[],none⟩ (aq ar 270)->au pg B 270 (Fin pg K fun y _=>y= .bool (mF (.mk kind to (.mk oa na la) (.mk ob nb lb) bd el) z)) ⟨61,eh l,nt,XD,[],none⟩ (aq ar 270):=fun t fa fb bo ot e Q _ _ _ _ _ hq key=>by
   rw[hs t fa fb bo ot e Q hq];exact key
  obtain rfl|rfl|rfl|rfl|rfl|rfl|rfl|rfl:kind=1\/kind=2\/kind=3\/kind=4\/kind=5\/kind=6\/kind=7\/kind=8:=by omega
  ·have key:=agv (to:=to) (z:=z) (Nd:=nm<|bw bd) (Ne:=nm<|bw el) (ld:=bd.length) (le:=el.length) mc (fit true oa na la)<|fit false ob nb lb;exact done true true false false false rfl _ zB key
  ·have key:=agw (to:=to) (z:=z) (Nd:=nm<|bw bd) (Ne:=nm<|bw el) (ld:=bd.length) (le:=el.length) mc (fit true oa na la)<|fit false ob nb lb;exact done true true false false false rfl _ zB key
  ·have key:=agx (to:=to) (z:=z) (Nd:=nm<|bw bd) (Ne:=nm<|bw el) (ld:=bd.length) (le:=el.length) mc (fit true oa na la)<|fit true ob nb lb;exact done false true true false false rfl _ zB key
  ·have key:=agy (to:=to) (z:=z) (Nd:=nm<|bw bd) (Ne:=nm<|bw el) (ld:=bd.length) (le:=el.length) mc (fit true oa na la)<|fit false ob nb lb;exact done false true false true true rfl _ zB key
  ·have key:=agz (to:=to) (z:=z) (Nd:=nm<|bw bd) (Ne:=nm<|bw el) (ld:=bd.length) (le:=el.length) mc (fit true oa na la)<|fit false ob nb lb;exact done false true false true false rfl _ zB key
  ·have key:=agA (to:=to) (z:=z) (Nd:=nm<|bw bd) (Ne:=nm<|bw el) (ld:=bd.length) (le:=el.length) mc (fit false oa na la)<|fit false ob nb lb;exact done false false false false false rfl _ zB key
  ·have key:=agB (to:=to) (z:=z) (Nd:=nm<|bw bd) (Ne:=nm<|bw el) (ld:=bd.length) (le:=el.length) mc (fit false oa na la)<|fit false ob nb lb;exact done false false false true true rfl _ zB key
  ·have key:=agC (to:=to) (z:=z) (Nd:=nm<|bw bd) (Ne:=nm<|bw el) (ld:=bd.length) (le:=el.length) mc (fit true oa na la)<|fit false ob nb lb;exact done false true false false false rfl _ zB key
 ·have e0:pQ kind=[false,false,false,false,false,false]:=by
   by_cases h9:9<=kind
   ·unfold pQ;rw[List.getD_eq_getElem?_getD,List.getElem?_eq_none (show KX.length<=kind.toNat by show 9<=kind.toNat;omega)];rfl
   ·obtain rfl:kind=0:=by omega
    rfl
  have ho:bf (aU ku) [.int .u8 kind]=some (.agg [.bool false,.bool false,.bool false,.bool false,.bool false,.bool false]):=by have:=fA (eZ ku.bT ⟨kind,rfl,hk.1,hk.2,rfl⟩:aU ku [.int .u8 kind]=_) rfl (by unfold vZ;rw[e0];rfl);rw[this];unfold vZ;rw[e0];rfl
  have key:=agu (to:=to) (z:=z) (xa:=0) (xb:=0) (Na:=nm<|cI la) (La:=la.length) (oa:=oa) (na:=na) (Nb:=nm<|cI lb) (Lb:=lb.length) (ob:=ob) (nb:=nb) (Nd:=nm<|bw bd) (Ne:=nm<|bw el) (ld:=bd.length) (le:=el.length) mc ho;rw[show mF (.mk kind to (.mk oa na la) (.mk ob nb lb) bd el) z=decide False from by show z8 (pQ kind) to _ _ bd el z=_;rw[e0];rfl];exact key
end zm
end
section
open Go Go.Rn Go.RowKit Go.Proofs
namespace qE
open cq cz cO cT eH fx gY dj uo nh m7 tP qp zm
variable {rd:mC} {k N L ld Ne Nd Nb Na Lb La:Nat} {c2 c1 to ob oa nb na kd:Int} {p:fw} {B:aJ} {P:Prop} {v:AV}
noncomputable section
def Aa:Code:=a9 pg 34 [1,1,1,0,1,0,0]
def v8:Code:=a9 pg 34 [1,1,1,0,1,0,1]
def KM:Cb:=⟨34,42,[31],Aa,v8,3,4⟩
def XE(v1 v2:AV)(c:List AV):AS:=⟨((sE KM v1 v2 c).h.put 275<|some<|.cells 10 (Tr.fill c 0 .nil) []).put 270<|some<|.loop .busy none 34 (aS [(3,.ptr<|some (272,0)),(4,.ptr<|some (273,0))]) 42 [31] Aa v8 271,276,0,[],[]⟩
noncomputable abbrev jE(kd to oa na:Int)(Na La:Nat)(ob nb:Int)(Nb Lb Nd ld Ne le:Nat):List AV:=[(u8<|kd),(i6 to),(u8<|oa),(i6 na),(.U Na 0 La),(u8<|ob),(i6 nb),(.U Nb 0 Lb),(.U Nd 0 ld),(.U Ne 0 le)]
theorem aaN{le:Nat}{n:Int}(hs:bf (aU z9) [.agg<|jE kd to oa na Na La ob nb Nb Lb Nd ld Ne le,.int .i64 n]=some (.bool true)):bg pg (sp<|de KM rd k::[lK,jD 60,ji 60,lC 60 60]) FU 6 (.round 270) [.agg<|jE kd to oa na Na La ob nb Nb Lb Nd ld Ne le] (sE KM (i6 n) (.bool false)<|jE kd to oa na Na La ob nb Nb Lb Nd ld Ne le)= .ok (.bool true) (sA KM none (.int .i64 n) (.bool false) (jE kd to oa na Na La ob nb Nb Lb Nd ld Ne le)<|some<|.cells 10 (Tr.fill (jE kd to oa na Na La ob nb Nb Lb Nd ld Ne le) 0 .nil) []):=EK (st:=.ready) (bL:=none) (fn:=34) (nt:=42) (d:=271) (t:=(aS [(3,.ptr<|some (272,0)),(4,.ptr<|some (273,0))])) (ps:=[31]) (a:=Aa) (b:=v8) (s0:=sE KM (i6 n) (.bool false)<|jE kd to oa na Na La ob nb Nb Lb Nd ld Ne le) cN rfl<|Chunk.ev 2 ⟨34,jB [31] [.agg<|jE kd to oa na Na La ob nb Nb Lb Nd ld Ne le]<|aS [(3,.ptr<|some (272,0)),(4,.ptr<|some (273,0))],42,[.code Aa,.beginRound,.code v8],[],some 270⟩ ⟨34,((jB [31] [.agg<|jE kd to oa na Na La ob nb Nb Lb Nd ld Ne le]<|aS [(3,.ptr<|some (272,0)),(4,.ptr<|some (273,0))]).put 7<|some<|.ptr<|some (275,0)),42,[.code v8],[],some 270⟩ _ (XE (i6 n) (.bool false)<|jE kd to oa na Na La ob nb Nb Lb Nd ld Ne le) cN<|CM (E:=kv<|de KM rd k::[lK,jD 60,ji 60,lC 60 60]) (C:=(fun fr s1 _=>fr.round=none/\fr.defers=[]/\AP pg (bg pg (sp<|de KM rd k::[lK,jD 60,ji 60,lC 60 60]) FU 5) 270 fr s1=some ((.bool true),(sA KM none (.int .i64 n) (.bool false) (jE kd to oa na Na La ob nb Nb Lb Nd ld Ne le)<|some<|.cells 10 (Tr.fill (jE kd to oa na Na La ob nb Nb Lb Nd ld Ne le) 0 .nil) [])))) eY rfl (fun fr s p h=>EJ h.1 h.2.1 h.2.2) 900 (.st 2<|.rg<|.go 2<|.kn (.bool true)<|.go 1<|.en<|.st 3<|.cut .no)<|ai hs<|G3 (.bool true)<|sA KM none (.int .i64 n) (.bool false) (jE kd to oa na Na La ob nb Nb Lb Nd ld Ne le)<|some<|.cells 10 (Tr.fill (jE kd to oa na Na La ob nb Nb Lb Nd ld Ne le) 0 .nil) []
theorem ZW{le:Nat}{n:Int}(hs:bf (aU z9) [.agg<|jE kd to oa na Na La ob nb Nb Lb Nd ld Ne le,.int .i64 n]=some (.bool false)):bg pg (sp<|de KM rd k::[lK,jD 60,ji 60,lC 60 60]) FU 6 (.round 270) [.agg<|jE kd to oa na Na La ob nb Nb Lb Nd ld Ne le] (sE KM (i6 n) (.bool false)<|jE kd to oa na Na La ob nb Nb Lb Nd ld Ne le)= .ok (.bool false) (sA KM (some .ret) (.int .i64 n) (.bool false) (jE kd to oa na Na La ob nb Nb Lb Nd ld Ne le)<|some<|.cells 10 (Tr.fill (jE kd to oa na Na La ob nb Nb Lb Nd ld Ne le) 0 .nil) []):=EK (st:=.ready) (bL:=none) (fn:=34) (nt:=42) (d:=271) (t:=(aS [(3,.ptr<|some (272,0)),(4,.ptr<|some (273,0))])) (ps:=[31]) (a:=Aa) (b:=v8) (s0:=sE KM (i6 n) (.bool false)<|jE kd to oa na Na La ob nb Nb Lb Nd ld Ne le) cN rfl<|Chunk.ev 2 ⟨34,jB [31] [.agg<|jE kd to oa na Na La ob nb Nb Lb Nd ld Ne le]<|aS [(3,.ptr<|some (272,0)),(4,.ptr<|some (273,0))],42,[.code Aa,.beginRound,.code v8],[],some 270⟩ ⟨34,((jB [31] [.agg<|jE kd to oa na Na La ob nb Nb Lb Nd ld Ne le]<|aS [(3,.ptr<|some (272,0)),(4,.ptr<|some (273,0))]).put 7<|some<|.ptr<|some (275,0)),42,[.code v8],[],some 270⟩ _ (XE (i6 n) (.bool false)<|jE kd to oa na Na La ob nb Nb Lb Nd ld Ne le) cN<|CM (E:=kv<|de KM rd k::[lK,jD 60,ji 60,lC 60 60]) (C:=(fun fr s1 _=>fr.round=none/\fr.defers=[]/\AP pg (bg pg (sp<|de KM rd k::[lK,jD 60,ji 60,lC 60 60]) FU 5) 270 fr s1=some ((.bool false),(sA KM (some .ret) (.int .i64 n) (.bool false) (jE kd to oa na Na La ob nb Nb Lb Nd ld Ne le)<|some<|.cells 10 (Tr.fill (jE kd to oa na Na La ob nb Nb Lb Nd ld Ne le) 0 .nil) [])))) eY rfl (fun fr s p h=>EJ h.1 h.2.1 h.2.2) 900 (.st 2<|.rg<|.go 2<|.kn (.bool false)<|.go 1<|.en<|.st 3<|.cut .no)<|ai hs<|G3 (.bool false)<|sA KM (some .ret) (.int .i64 n) (.bool false) (jE kd to oa na Na La ob nb Nb Lb Nd ld Ne le)<|some<|.cells 10 (Tr.fill (jE kd to oa na Na La ob nb Nb Lb Nd ld Ne le) 0 .nil) []
def v9(N L:Nat)(c1 c2:Int):List<|Nat×AV:=[(3,(.ptr<|some (270,0))),(4,(.ptr<|some (271,0))),(5,(i6 c1)),(6,(i6 c2)),(30,(.func (.func 77) [] [(.ptr<|some (272,0))]))]
def sd(v1 v2:AV)(N L:Nat):List<|Nat×Option ae:=ar++[(270,some<|eL v1),(271,some<|eL v2),(272,(some<|.cells 1 (Tr.fill [(.U N 0 L)] 0 .nil) []))]
def yn(v1 v2:AV)(N L:Nat)(c1 c2:Int):AS:=aq (sd v1 v2 N L++[(273,some .defs),(274,some<|.loop .ready none 34 (aS<|v9 N L c1 c2) 42 KM.ps Aa v8 273)]) 275
def se(p:fw)(N L:Nat):AS:=aq (sd p.v1 p.v2 N L++[(273,some .defs),(274,some<|Cb.loop KM p.bL 270 271 273)]) 275
def G4(p:fw)(N L:Nat):AS:=aq (sd p.v1 p.v2 N L++[(273,some .defs),(274,some<|.loop .exhausted p.bL KM.fn (aS [(KM.s1,.ptr<|some (270,0)),(KM.s2,.ptr<|some (271,0))]) KM.nt KM.ps KM.a KM.b 273)]) 275
theorem agD{L0:bY}{v1 v2:AV}{l:List St}(hN:N=nm (bw l))(hl:L=l.length)(o1:okB v1)(o2:okB v2)(h:fD rd k l v1 v2=some p)(o3:okB p.v1/\okB p.v2):
 bg pg (sp<|de KM rd k::L0) FU 5 (.fn 78) [.U N 0 L,.yield 274] (yn v1 v2 N L c1 c2)= .ok (.bool p.ret) (se p N L):=by
 subst hN;subst hl;have ug:sp (de KM rd k::L0) 78=some (qM KM (zl rd k) 270 eK dV):=by kernel_rfl
 have I:Ki KM (yn v1 v2 (nm<|bw l) l.length c1 c2) 274 273 270 271 v1 v2:=by
  refine⟨rfl,(aL.1 aW:275<=top),⟨by show 274<275;omega,by show 273<275;omega,by show 270<275;omega,by show 271<275;omega⟩,⟨by omega,by omega,by omega,by omega,by omega,by omega⟩,⟨aS<|v9 (nm<|bw l) l.length c1 c2,?_,?_,?_⟩,?_,⟨eL v1,?_,wm _⟩,⟨eL v2,?_,wm _⟩⟩
  all_goals (as_aux_lemma=>kernel_rfl)
 have key:=NB (P:=pg) (F:=FU) (n:=4) ug (sY l) cN I ((Mx o1 o2).trans h) o1 o2 o3.1 o3.2;rw[show KT KM (yn v1 v2 (nm<|bw l) l.length c1 c2) 274 273 270 271 p=se p (nm<|bw l) l.length from by as_aux_lemma=>kernel_rfl] at key;exact key
theorem aiq{v1 v2:AV}(hE:bg pg (sp<|de KM rd k::[lK,jD 60,ji 60,lC 60 60]) FU 5 (.fn 78) [.U N 0 L,.yield 274] (yn v1 v2 N L c1 c2)= .ok (.bool p.ret) (se p N L)):pL (kv<|de KM rd k::[lK,jD 60,ji 60,lC 60 60]) 5 (az Tryz.f77) (fun v s=>v= .tuple []/\s=(se p N L)) (sF 77 Tryz.f77 [.yield 274,.ptr<|some (272,0)])<|yn v1 v2 N L c1 c2:=by exact Dv (C:=fun _ _ _=>False) eY rfl (fun _ _ _ h=>h.elim) 900 (.rg<|.go 2<|.cu (.bool p.ret) (se p N L)<|.en<|.rt 1 .no)<|ai hE (show(AV.tuple []=AV.tuple []/\(se p N L)=(se p N L)) from⟨rfl,rfl⟩)
theorem alM{v1 v2:AV}(hE:bg pg (sp<|de KM rd k::[lK,jD 60,ji 60,lC 60 60]) FU 5 (.fn 78) [.U N 0 L,.yield 274] (yn v1 v2 N L c1 c2)= .ok (.bool p.ret) (se p N L)):bg pg (sp<|de KM rd k::[lK,jD 60,ji 60,lC 60 60]) FU 6 (.fn 77) [.yield 274,.ptr<|some (272,0)] (yn v1 v2 N L c1 c2)= .ok (.tuple []) (se p N L):=by obtain⟨v,s2,h1,rfl,rfl⟩:=pL.call (E:=kv<|de KM rd k::[lK,jD 60,ji 60,lC 60 60]) (n:=5) Tryz.func77 (CG Tryz.func77 cN)<|aiq (v1:=v1) (v2:=v2) hE;exact h1
theorem agE:a9 pg 34 [1,1,1,0,1,0]= .rangeFunc (.tmp 30) #[31] Aa v8:=by kernel_rfl
def G5:List Item:=[.inBlock 0,.code<|a9 pg 34 [1,1,1,1]]
def D2(N L:Nat)(c1 c2:Int):AF:=⟨34,aS<|v9 N L c1 c2,42,.code (a9 pg 34 [1,1,1,0,1,0])::G5,[],none⟩
theorem agF:lN 274 (se p N L)= .ok p.bL (G4 p N L):=by
 obtain⟨r,v1,v2,bL⟩:=p;cases bL with
 |none=>as_aux_lemma=>kernel_rfl
 |some c=>as_aux_lemma=>kernel_rfl
theorem rgM{v1 v2:AV}(mc:Mt (de KM rd k::[lK,jD 60,ji 60,lC 60 60]) B)(hE:bg pg (sp<|de KM rd k::[lK,jD 60,ji 60,lC 60 60]) FU 5 (.fn 78) [.U N 0 L,.yield 274] (yn v1 v2 N L c1 c2)= .ok (.bool p.ret) (se p N L))(H:au pg B 270 (Fin pg (az Tryz.f34) fun y _=>y=v) ⟨34,aS<|v9 N L c1 c2,42,andThen p.bL G5,[273],none⟩<|G4 p N L):au pg B 270 (Fin pg (az Tryz.f34) fun y _=>y=v) (D2 N L c1 c2)<|aq (sd v1 v2 N L) 273:=by unfold D2;rw[agE];exact au.chunk bV mc.2.2.1 mc.2.2.2 (H8 (gv:=.func (.func 77) [] [.ptr<|some (272,0)]) (s1:=aq (sd v1 v2 N L++[(273,some .defs)]) 274) (s2:=yn v1 v2 N L c1 c2) cN cN cN (alM (rd:=rd) (k:=k) hE) (show lN 274 (se p N L)= .ok p.bL (G4 p N L) from agF)) (by show 270<=273;omega) H
theorem air{n:Int}(N L:Nat)(c1 c2:Int)(h:P):((v9 N L c1 c2).map (fun q=>some q.2)=(v9 N L c1 c2).map (fun q=>some q.2))/\((sd (.int .i64 n) (.bool false) N L).map (fun q=>q.2)=(sd (.int .i64 n) (.bool false) N L).map (fun q=>q.2))/\((D2 N L c1 c2=D2 N L c1 c2/\aq (sd (.int .i64 n) (.bool false) N L) 273=aq (sd (.int .i64 n) (.bool false) N L) 273)/\P):=⟨rfl,rfl,⟨rfl,rfl⟩,h⟩
theorem goM{n dp cs:Int}(mc:Mt (de KM rd k::[lK,jD 60,ji 60,lC 60 60]) B)(hn:top<=N)(hD:bf (aU<|sX 60) [(.U N 0 L)]=some (.int .i64 dp))(hC:bf (aU<|ph 60) [(.U N 0 L)]=some (.int .i64 cs))(hN:bf (aU<|BL 60 60) [(.U N 0 L)]=some (.tuple [.int .i64 c1,.int .i64 c2]))(hf:¬(0<=n/\n<6/\dp<=6/\cs<=2000)->AV.bool false=v)(H:(0<=n/\n<6/\dp<=6/\cs<=2000)->au pg B 270 (Fin pg (az Tryz.f34) fun y _=>y=v) (D2 N L c1 c2) (aq (sd (.int .i64 n) (.bool false) N L) 273)):au pg B 270 (Fin pg (az Tryz.f34) fun y _=>y=v) (sF 34 Tryz.f34 [(.U N 0 L),(i6 n)])<|aq ar 270:=by exact wC mc (C:=(fun fr s1 _=>(fr=D2 N L c1 c2/\s1=aq (sd (.int .i64 n) (.bool false) N L) 273)/\(0<=n/\n<6/\dp<=6/\cs<=2000))) (fun fr s1 p hC=>by obtain⟨⟨rfl,rfl⟩,hq⟩:=hC;exact H hq) (.st 4<|.rg<|.go 1<|.fk (.go 14<|.en<|.rt 4 .no)<|.go 2<|.fk (.go 11<|.en<|.rt 4 .no)<|.go 3<|.kn (i6 dp)<|.fk (.go 6<|.en<|.rt 4 .no)<|.go 3<|.kn (i6 cs)<|.fk (.go 1<|.en<|.rt 4 .no)<|.go 1<|.en<|.st 3<|.rg<|.go 1<|.kn (.tuple [(i6 c1),(i6 c2)])<|.go 5<|.en<|.st 2<|.rg<|.go 1<|.il<|.rt 5<|.en<|.st 1<|.ls (v9 N L c1 c2) (sd (.int .i64 n) (.bool false) N L) 273 .no)<|ax (n<0) (fun _=>(show AV.bool false=v from hf ab)) fun _=>(ax (n>=6) (fun _=>(show AV.bool false=v from hf ab)) fun _=>(ai hD<|ax (dp>6) (fun _=>(show AV.bool false=v from hf ab)) fun _=>(ai hC<|ax (cs>2000) (fun _=>(show AV.bool false=v from hf ab)) fun _=>(ai hN<|air (n:=n) N L c1 c2 (show(0<=n/\n<6/\dp<=6/\cs<=2000) from by omega)))))
theorem ais{n:Int}(mc:Mt (de KM rd k::[lK,jD 60,ji 60,lC 60 60]) B):au pg B 270 (Fin pg (az Tryz.f34) fun y _=>y= .bool false) ⟨34,aS<|v9 N L c1 c2,42,andThen (some .ret) G5,[273],none⟩<|G4 ⟨false,.int .i64 n,.bool false,some .ret⟩ N L:=(My (l:=273) (k:=8) (fr:=⟨34,aS<|v9 N L c1 c2,42,.code .ret::G5,[],none⟩) bV mc.2.2.1 mc.2.2.2 rfl rfl cN).2.2 (by show 270<=275;omega)
theorem ait [Decidable P](h:P):(none:Option Nat)=none/\([]:List Nat)=[]/\(some (.bool true):Option AV)=some (.bool<|decide P):=⟨rfl,rfl,by rw[decide_eq_true h]⟩
theorem WE [Decidable P](h:¬P):(none:Option Nat)=none/\([]:List Nat)=[]/\(some (.bool false):Option AV)=some (.bool<|decide P):=⟨rfl,rfl,by rw[decide_eq_false h]⟩
theorem aiu{n:Int}(mc:Mt (de KM rd k::[lK,jD 60,ji 60,lC 60 60]) B):au pg B 270 (Fin pg (az Tryz.f34) fun y _=>y= .bool (decide<|c1<=40/\c2<=300)) ⟨34,aS<|v9 N L c1 c2,42,andThen none G5,[273],none⟩<|G4 ⟨true,.int .i64 n,.bool false,none⟩ N L:=by exact adv (E:=kv<|de KM rd k::[lK,jD 60,ji 60,lC 60 60]) (C:=(fun fr s1 _=>fr.round=none/\fr.defers=[]/\OY pg (bg pg (sp<|de KM rd k::[lK,jD 60,ji 60,lC 60 60]) FU 6) (az Tryz.f34) 8 273 fr s1=some (.bool<|decide<|c1<=40/\c2<=300))) eY rfl bV mc.2.2.1 mc.2.2.2 (fun fr s p h=>My bV mc.2.2.1 mc.2.2.2 h.1 h.2.1 h.2.2) (by show 270<=275;omega) 900 (.st 2<|.rg<|.go 1<|.fk (.go 2<|.fk (.go 2<|.en<|.cut .no)<|.go 2<|.en<|.cut .no)<|.go 5<|.en<|.cut .no)<|ax (c1<=40) (fun _=>(ax (c2<=300) (fun _=>(ait (show(c1<=40/\c2<=300) from by omega))) fun _=>(WE (show ¬(c1<=40/\c2<=300) from by omega)))) fun _=>(WE (show ¬(c1<=40/\c2<=300) from by omega))
end
end qE
end
section
open Go Go.Rn Go.RowKit Go.Proofs
namespace tF
open cq cz cO cT eH BK fx xR gY Bs dj uo nh m7 tP qp zm qE
noncomputable section
open Classical in
def gu:mC:=fun s v1 v2=>match v1,v2 with
 | .int .i64 n,.bool false=>if 0<=fB s/\fB s<256 then(match mF s n with
  |true=>some ⟨true,.int .i64 n,.bool false,none⟩
  |false=>some ⟨false,.int .i64 n,.bool false,some .ret⟩) else none
 |_,_=>none
abbrev pY(n:Int):fw:=⟨true,.int .i64 n,.bool false,none⟩
abbrev pN(n:Int):fw:=⟨false,.int .i64 n,.bool false,some .ret⟩
theorem NG{s:St}{v1 v2:AV}{p:fw}(h:gu s v1 v2=some p):∃n,(v1= .int .i64 n/\v2= .bool false/\0<=fB s/\fB s<256)/\p=(if mF s n=true then pY n else pN n):=by
 unfold gu at h;split at h
 ·rename_i n;split at h
  ·rename_i q;refine⟨n,⟨rfl,rfl,q⟩,?_⟩;split at h<;>rename_i e<;>injection h with h<;>rw[e]
   ·rw[if_pos rfl];exact h.symm
   ·rw[if_neg (by intro q;cases q)];exact h.symm
  ·cases h
 ·cases h
theorem okF(b:Bool):okB<|.bool b:=⟨rfl,rfl⟩
theorem agG{s:St}{n:Int}(h:0<=fB s/\fB s<256):bf (aU z9) [.agg<|aM s,.int .i64 n]=some (.bool<|mF s n):=fA (eZ z9.bT ⟨s,n,rfl,h,rfl⟩) (by rw[List.all_cons,show AV.hi (.agg<|aM s)=true from List.all_eq_true.2 fun x hx=>CK<|List.all_eq_true.1 (mB.gb s) x hx];rfl) rfl
theorem aiv(k:Nat):yk KM (de KM gu k::[lK,jD 60,ji 60,lC 60 60]) gu:=by
 refine⟨aL.1 aW,aL.1 aW,(by show(3:Nat)≠4;omega),fun s v1 v2 p h _ _=>?_⟩;obtain⟨n,⟨rfl,rfl,hk⟩,rfl⟩:=NG h;have hs:=agG (n:=n) hk;cases e:mF s n with
 |true=>rw[e] at hs;rw[if_pos rfl];refine⟨⟨v7 _,okF _,fun _=>rfl⟩,some<|.cells 10 (Tr.fill (aM s) 0 .nil) [],?_⟩;obtain⟨kk,to,⟨oa,xa,la⟩,⟨ob,xb,lb⟩,bd,el⟩:=s;rw[aM,aB,aB] at hs ⊢;exact aaN hs
 |false=>rw[e] at hs;rw[if_neg (by intro q;cases q)];refine⟨⟨v7 _,okF _,fun q=>by cases q⟩,some<|.cells 10 (Tr.fill (aM s) 0 .nil) [],?_⟩;obtain⟨kk,to,⟨oa,xa,la⟩,⟨ob,xb,lb⟩,bd,el⟩:=s;rw[aM,aB,aB] at hs ⊢;exact ZW hs
theorem Uy{n:Int}{ek:List St->AV->AV->Option fw}(he:∀l p,ek l (.int .i64 n) (.bool false)=some p->p=pY n\/p=pN n):∀l p,kL ek gu l (.int .i64 n) (.bool false)=some p->p=pY n\/p=pN n
 |[],p,h=>by
  have h:some (pY n)=some p:=h;injection h with h
  exact .inl h.symm
 |s::r,p,h=>by
  unfold kL at h;split at h
  ·cases h
  rename_i q e;obtain⟨n',⟨fu,_⟩,hq⟩:=NG e;injection fu with _ fu
  subst fu;cases hs:mF s n with
  |false=>rw[hs,if_neg (by intro q;cases q)] at hq;subst hq;injection h with h;exact .inr h.symm
  |true=>
   rw[hs,if_pos rfl] at hq;subst hq;have h:(match ek (bF s) (.int .i64 n) (.bool false) with
    |none=>none
    |some q=>match q.ret with
     |false=>some q
     |true=>match ek (bB s) q.v1 q.v2 with
      |none=>none
      |some u=>match u.ret with
       |false=>some u
       |true=>kL ek gu r u.v1 u.v2)=some p:=h
   split at h
   ·cases h
   rename_i q2 e2;rcases he _ _ e2 with rfl|rfl
   ·have h:(match ek (bB s) (.int .i64 n) (.bool false) with
     |none=>none
     |some u=>match u.ret with
      |false=>some u
      |true=>kL ek gu r u.v1 u.v2)=some p:=h
    split at h
    ·cases h
    rename_i q3 e3;rcases he _ _ e3 with rfl|rfl
    ·exact Uy he r p h
    ·injection h with h;exact .inr h.symm
   ·injection h with h;exact .inr h.symm
theorem Aq{n:Int}:∀k l p,fD gu k l (.int .i64 n) (.bool false)=some p->p=pY n\/p=pN n
 |0,_,_,h=>by cases h
 |k+1,l,p,h=>by
  unfold fD at h;split at h
  ·exact Uy (Aq k) l p h
  ·cases h
def xT(l:List St)(n:Int)(b:Bool):Prop:=∃(c1 c2:Int) (p:fw),fD (oQ 60) 60 l (.int .i64 0) (.int .i64 0)=some ⟨true,.int .i64 c1,.int .i64 c2,none⟩/\fD gu 60 l (.int .i64 n) (.bool false)=some p/\b=(decide (0<=n/\n<6/\fc 60 l<=6/\fK 60 l<=2000)&&(p.ret&&decide (c1<=40/\c2<=300)))
def zn(args:List AV)(v:AV):Prop:=∃(l:List St) (n:Int) (b:Bool),args=[.U (nm<|bw l) 0 l.length,.int .i64 n]/\ru 60 l=true/\lh 60 l=true/\xT l n b/\v= .bool b
theorem zn.bT(args:List AV)(v v':AV)(h:zn args v)(h':zn args v'):v=v':=by
 obtain⟨l,n,b,rfl,_,_,⟨c1,c2,p,a1,a2,a3⟩,rfl⟩:=h;obtain⟨l',n',b',h1,_,_,⟨c1',c2',p',b1,b2,b3⟩,rfl⟩:=h';simp only[List.cons.injEq,AV.U.injEq,AV.int.injEq,true_and,_root_.and_true] at h1;have e:l=l':=ss _ _<|sR (lL _) (lL _) h1.1.1;obtain rfl:=e;obtain rfl:=h1.2;rw[a1] at b1;injection b1 with b1;injection b1 with _ q1 q2 _
 injection q1 with _ q1;injection q2 with _ q2
 rw[a2] at b2;injection b2 with b2
 rw[a3,b3,q1,q2,b2]
def D3:FuncId×KE:=(34,.val<|aU zn)
theorem adH(hP:bE pg){L:bY}(h:aV L):aV<|D3::L:=by
 have h0:aV [lK,jD 60,ji 60,lC 60 60]:=afs hP<|SN hP 60<|M6 hP 60<|adx hP 60 60 cP;refine ig hP h (AE hP aiv h0 60 h0) Tryz.func34 fun args v e=>?_;obtain⟨l,n,b,rfl,hd,hc,⟨c1,c2,p,e1,e2,hb⟩,rfl⟩:=gI e;refine⟨aL.1 aW,fun B mc=>?_⟩;rw[←gX];have hi:[AV.U (nm<|bw l) 0 l.length].all AV.hi=true:=by rw[List.all_cons,sY];rfl
 have hD:=fA (eZ sX.bT ⟨l,rfl,hd,by omega,rfl⟩:aU (sX 60) [.U (nm<|bw l) 0 l.length]=_) hi rfl;have hC:=fA (eZ ph.bT ⟨l,rfl,hc,rfl⟩:aU (ph 60) [.U (nm<|bw l) 0 l.length]=_) hi rfl;have hN:=fA (eZ BL.bT ⟨l,_,rfl,e1,rfl⟩:aU (BL 60 60) [.U (nm<|bw l) 0 l.length]=_) hi rfl;refine goM (rd:=gu) (k:=60) mc (dU _) hD hC hN (fun hq=>?_) fun hq=>?_
 ·rw[hb,decide_eq_false hq];rfl
 ·have ok:okB p.v1/\okB p.v2:=by rcases Aq 60 l p e2 with rfl|rfl<;>exact⟨v7 _,okF _⟩
  refine rgM (rd:=gu) (k:=60) (p:=p) mc (agD (c1:=c1) (c2:=c2) rfl rfl (v7 _) (okF _) e2 ok) ?_;rw[hb,decide_eq_true hq];rcases Aq 60 l p e2 with rfl|rfl
  ·exact aiu mc
  ·exact ais mc
end
end tF
end
section
open Go Go.Rn Go.RowKit Go.Proofs
namespace gw
open cq
variable {α:Type} {bQ j K:Nat} {enc:α->List AV} {cap:cL}
theorem K0(enc:α->List AV)(l L:List α){pM n o len:Nat}{X:Prop}(hf:top<=n/\cX FU n o (len*K)=some (L.map enc).flatten/\len=L.length)(h1:∀x,(enc x).length=K/\(enc x).all AV.cj=true)(h2:2*(l.length+L.length)*pM+4096*pM<=room)(h3:(l.length+L.length)*K<=Rn.top)(x:X):
 l.length=l.length/\some (aN enc l)=some (aN enc l)/\top<=n/\cX FU n o (len*K)=some (L.map enc).flatten/\len=L.length/\(∀x,(enc x).length=K/\(enc x).all AV.cj=true)/\2*(l.length+L.length)*pM+4096*pM<=room/\(l.length+L.length)*K<=Rn.top/\X:=
 ⟨rfl,rfl,hf.1,hf.2.1,hf.2.2,h1,h2,h3,x⟩
def BM(bQ k:Nat):Nat:=if k<270\/top<=k then k else max k bQ
theorem Ic{k:Nat}(h:top<=k):BM bQ k=k:=if_pos<|.inr h
theorem N8(he:ng K enc)(l:List α){n:Nat}(hc:(match cap with| .known c=>Nat.ble l.length c| .ak _ _=>true| .lost=>false)=true)(hl:l.length*K<=top)(hj:j<top)(hn:n<top)(hs:bQ<top):jF FU 270 bQ [(j,.slice (some (n,0)) l.length cap)] [(n,some<|aN enc l)] [(j,aX enc l)] [] 270:=by
 refine⟨[(n,nm (l.map enc).flatten,(l.map enc).flatten)],BM bQ,fun k hk=>if_pos<|.inl hk,fun k h1 h2=>?_,fun k hk=>Ic hk,by unfold top;decide,fun p hp=>?_,fun p hp=>nP,fun p hp=>nP,fun p hp=>?_,fun p _ q hq=>(by cases hq)⟩
 ·unfold BM;rw[if_neg ab];omega
 ·rw[List.mem_singleton] at hp;subst hp;exact⟨hj,_,List.mem_singleton.2 rfl,Uh (List.mem_singleton.2 rfl) (fun k hk=>Ic hk) hc⟩
 ·rw[List.mem_singleton] at hp;subst hp;exact Ui he hl n hn<|List.mem_singleton.2 rfl
theorem N9(hj:j<top)(hs:bQ<top):jF FU 270 bQ [(j,.slice none 0<|.known 0)] [] [(j,aX enc [])] [] 270:=by
 refine⟨[],BM bQ,fun k hk=>if_pos<|.inl hk,fun k h1 h2=>?_,fun k hk=>Ic hk,by unfold top;decide,fun p hp=>?_,fun p hp=>nP,fun p hp=>nP,fun p hp=>nP,fun p hp=>nP⟩
 ·unfold BM;rw[if_neg ab];omega
 ·rw[List.mem_singleton] at hp;subst hp;exact⟨hj,_,List.mem_singleton.2 rfl,ac1⟩
theorem TB{n:Nat}(hj:j<top)(hs:bQ<top):jF FU 270 bQ [(j,.slice (some (n,0)) 0 cap)] [] [(j,aX enc [])] [] 270:=by
 refine⟨[],BM bQ,fun k hk=>if_pos<|.inl hk,fun k h1 h2=>?_,fun k hk=>Ic hk,by unfold top;decide,fun p hp=>?_,fun p hp=>nP,fun p hp=>nP,fun p hp=>nP,fun p hp=>nP⟩
 ·unfold BM;rw[if_neg ab];omega
 ·rw[List.mem_singleton] at hp;subst hp;exact⟨hj,_,List.mem_singleton.2 rfl,aaA⟩
end gw
end
section
open Go Go.Rn Go.RowKit Go.Proofs
namespace qF
open cq cz cO cT dj gw
variable {B:aJ} {o N:Nat} {L:bY}
noncomputable section
theorem wa(v:AV):v=v:=rfl
theorem SS(x:Ex):(aB x).all AV.cj=true:=by cases x;rw[aB];rfl
theorem agH:(([(2,(.slice none 0<|.known 0))]:List<|Nat×AV).map (fun q=>some q.2)=([(2,(.slice none 0<|.known 0))]:List<|Nat×AV).map (fun q=>some q.2))/\(([]:List<|Nat×Option ae).map (fun q=>q.2)=([]:List<|Nat×Option ae).map (fun q=>q.2))/\jF FU 270 270 [(2,(.slice none 0<|.known 0))] [] [(2,aX bS ([]:List Int))] [] 270/\((⟨18,aS [(2,aX bS ([]:List Int))],max Tryz.f18.ntmps 1,[.code<|a9 pg 18 [1,0,1,0,1],.code<|a9 pg 18 [1,1]],[],none⟩:AF)=⟨18,aS [(2,aX bS ([]:List Int))],max Tryz.f18.ntmps 1,[.code<|a9 pg 18 [1,0,1,0,1],.code<|a9 pg 18 [1,1]],[],none⟩/\aq [] 270=aq [] 270):=⟨rfl,rfl,(N9 (enc:=bS) (j:=2) (bQ:=270) iy iy),rfl,rfl⟩
theorem agI(mc:Mt [] B):au pg B 270 (Fin pg (az Tryz.f18) fun y _=>y=(aX bS ([]:List Int))) ⟨18,aS [(2,aX bS ([]:List Int))],max Tryz.f18.ntmps 1,[.code<|a9 pg 18 [1,0,1,0,1],.code<|a9 pg 18 [1,1]],[],none⟩<|aq [] 270:=by exact wS mc (.rt 1 .no)<|wa<|aX bS ([]:List Int)
theorem agJ(mc:Mt [] B):au pg B 270 (Fin pg (az Tryz.f18) fun y _=>y=(aX bS ([]:List Int))) (sF 18 Tryz.f18 [(.U top 0 0)])<|aq ar 270:=by exact wC mc (C:=(fun fr s1 _=>fr=⟨18,aS [(2,aX bS ([]:List Int))],max Tryz.f18.ntmps 1,[.code<|a9 pg 18 [1,0,1,0,1],.code<|a9 pg 18 [1,1]],[],none⟩/\s1=aq [] 270)) (fun fr s1 p hC=>by obtain⟨rfl,rfl⟩:=hC;exact agI mc) (.st 8<|.rn [(2,(.slice none 0<|.known 0))] [] [(2,aX bS ([]:List Int))] [] 270 270 .no)<|agH
theorem agK:(([(2,(.slice (some (271,0)) (0)<|.ak 0 1))]:List<|Nat×AV).map (fun q=>some q.2)=([(2,(.slice (some (271,0)) (0)<|.ak 0 1))]:List<|Nat×AV).map (fun q=>some q.2))/\(([]:List<|Nat×Option ae).map (fun q=>q.2)=([]:List<|Nat×Option ae).map (fun q=>q.2))/\jF FU 270 272 [(2,(.slice (some (271,0)) (0)<|.ak 0 1))] [] [(2,aX bS ([]:List Int))] [] 270/\((⟨18,aS [(2,aX bS ([]:List Int))],max Tryz.f18.ntmps 1,(dF 18 [1,1,1]),[],none⟩:AF)=⟨18,aS [(2,aX bS ([]:List Int))],max Tryz.f18.ntmps 1,(dF 18 [1,1,1]),[],none⟩/\aq [] 270=aq [] 270):=⟨rfl,rfl,(TB (enc:=bS) (j:=2) (bQ:=272) iy iy),rfl,rfl⟩
theorem agL(mc:Mt [] B):au pg B 270 (Fin pg (az Tryz.f18) fun y _=>y=(aX bS ([]:List Int))) ⟨18,aS [(2,aX bS ([]:List Int))],max Tryz.f18.ntmps 1,(dF 18 [1,1,1]),[],none⟩<|aq [] 270:=by exact wS mc (.rt 1 .no)<|wa<|aX bS ([]:List Int)
theorem agM(mc:Mt [] B):au pg B 270 (Fin pg (az Tryz.f18) fun y _=>y=(aX bS ([]:List Int))) (sF 18 Tryz.f18 [(.U (top+1) 0 0)])<|aq ar 270:=by exact wC mc (C:=(fun fr s1 _=>fr=⟨18,aS [(2,aX bS ([]:List Int))],max Tryz.f18.ntmps 1,(dF 18 [1,1,1]),[],none⟩/\s1=aq [] 270)) (fun fr s1 p hC=>by obtain⟨rfl,rfl⟩:=hC;exact agL mc) (.st 9<|.rn [(2,(.slice (some (271,0)) (0)<|.ak 0 1))] [] [(2,aX bS ([]:List Int))] [] 272 270 .no)<|agK
noncomputable abbrev Je(l:List Int):List<|Nat×AV:=[(2,(.slice (some (271,0)) (([]++l).length)<|.ak ([]++l).length 1))]
theorem agN(l:List Int)(hlen:l.length<=100000):(((Je l):List<|Nat×AV).map (fun q=>some q.2)=((Je l):List<|Nat×AV).map (fun q=>some q.2))/\(([(271,some<|aN bS<|[]++l)]:List<|Nat×Option ae).map (fun q=>q.2)=([(271,some<|aN bS<|[]++l)]:List<|Nat×Option ae).map (fun q=>q.2))/\jF FU 270 272 (Je l) [(271,some<|aN bS<|[]++l)] [(2,aX bS<|[]++l)] [] 270/\((⟨18,aS [(2,aX bS<|[]++l)],max Tryz.f18.ntmps 1,(dF 18 [1,1,1]),[],none⟩:AF)=⟨18,aS [(2,aX bS<|[]++l)],max Tryz.f18.ntmps 1,(dF 18 [1,1,1]),[],none⟩/\aq [] 270=aq [] 270):=⟨rfl,rfl,(N8 (j:=2) (bQ:=272) eI ([]++l) rfl (by rw[List.nil_append];unfold top;omega) iy iy iy),rfl,rfl⟩
theorem agO(mc:Mt [] B)(l:List Int):au pg B 270 (Fin pg (az Tryz.f18) fun y _=>y=(aX bS<|[]++l)) ⟨18,aS [(2,aX bS<|[]++l)],max Tryz.f18.ntmps 1,(dF 18 [1,1,1]),[],none⟩<|aq [] 270:=by exact wS mc (.rt 1 .no)<|wa<|aX bS<|[]++l
theorem agP(mc:Mt [] B){l:List Int}{m:Nat}(hlen:l.length<=100000)(hf:top<=N/\cX FU N o ((m+1)*1)=some (l.map bS).flatten/\m+1=l.length):au pg B 270 (Fin pg (az Tryz.f18) fun y _=>y=(aX bS<|[]++l)) (sF 18 Tryz.f18 [(.U N o<|m+1)])<|aq ar 270:=by exact wC mc (C:=(fun fr s1 _=>fr=⟨18,aS [(2,aX bS<|[]++l)],max Tryz.f18.ntmps 1,(dF 18 [1,1,1]),[],none⟩/\s1=aq [] 270)) (fun fr s1 p hC=>by obtain⟨rfl,rfl⟩:=hC;exact agO mc l) (.st 8<|.rg<|.go 2<|.al Int bS [] l<|.go 1<|.en<|.rn (Je l) [(271,some<|aN bS<|[]++l)] [(2,aX bS<|[]++l)] [] 272 270 .no)<|K0 bS [] l (K:=1) (pM:=8) hf (fun x=>⟨rfl,rfl⟩) Pt Pu<|agN l hlen
def Bg(args:List AV)(v:AV):Prop:=∃(N o:Nat) (l:List Int),args=[.U N o l.length]/\eC bS 1 (.U N o l.length) l/\l.length<=100000/\v=aX bS l
theorem Bg.bT(args:List AV)(v v':AV)(h:Bg args v)(h':Bg args v'):v=v':=by
 obtain⟨N,o,l,rfl,hl,_,rfl⟩:=h;obtain⟨N',o',l',h1,mR,_,rfl⟩:=h';injection h1 with h1 _
 rw[h1] at hl;rw[hl.inj wD mR]
def CU:FuncId×KE:=(18,.val<|aU Bg)
theorem ZX(hP:bE pg)(h:aV L):aV<|CU::L:=by
 refine ig hP h cP Tryz.func18 fun args v e=>?_;obtain⟨N,o,l,rfl,hl,hlen,rfl⟩:=gI e;refine⟨aL.1 aW,fun B mc=>?_⟩;rw[←gX];cases l with
 |nil=>
  refine au.IC (i:=0) (n:=N) (o:=o) cN hl.len.2.1 (aL.1 aW) ?_ ?_
  ·exact agJ mc
  ·exact agM mc
 |cons a l=>
  have hf:cX FU N o ((l.length+1)*1)=some ((a::l).map bS).flatten:=by
   rcases Iz eI.len hl with q|q
   ·exact q
   ·cases q
  have key:=agP (l:=a::l) (N:=N) (o:=o) (m:=l.length) mc hlen ⟨hl.len.2.1,hf,rfl⟩;exact key
theorem agQ:(([(2,(.slice none 0<|.known 0))]:List<|Nat×AV).map (fun q=>some q.2)=([(2,(.slice none 0<|.known 0))]:List<|Nat×AV).map (fun q=>some q.2))/\(([]:List<|Nat×Option ae).map (fun q=>q.2)=([]:List<|Nat×Option ae).map (fun q=>q.2))/\jF FU 270 270 [(2,(.slice none 0<|.known 0))] [] [(2,aX aB ([]:List Ex))] [] 270/\((⟨84,aS [(2,aX aB ([]:List Ex))],max Tryz.f84.ntmps 1,[.code<|a9 pg 84 [1,0,1,0,1],.code<|a9 pg 84 [1,1]],[],none⟩:AF)=⟨84,aS [(2,aX aB ([]:List Ex))],max Tryz.f84.ntmps 1,[.code<|a9 pg 84 [1,0,1,0,1],.code<|a9 pg 84 [1,1]],[],none⟩/\aq [] 270=aq [] 270):=⟨rfl,rfl,(N9 (enc:=aB) (j:=2) (bQ:=270) iy iy),rfl,rfl⟩
theorem agR(mc:Mt [] B):au pg B 270 (Fin pg (az Tryz.f84) fun y _=>y=(aX aB ([]:List Ex))) ⟨84,aS [(2,aX aB ([]:List Ex))],max Tryz.f84.ntmps 1,[.code<|a9 pg 84 [1,0,1,0,1],.code<|a9 pg 84 [1,1]],[],none⟩<|aq [] 270:=by exact wS mc (.rt 1 .no)<|wa<|aX aB ([]:List Ex)
theorem agS(mc:Mt [] B):au pg B 270 (Fin pg (az Tryz.f84) fun y _=>y=(aX aB ([]:List Ex))) (sF 84 Tryz.f84 [(.U top 0 0)])<|aq ar 270:=by exact wC mc (C:=(fun fr s1 _=>fr=⟨84,aS [(2,aX aB ([]:List Ex))],max Tryz.f84.ntmps 1,[.code<|a9 pg 84 [1,0,1,0,1],.code<|a9 pg 84 [1,1]],[],none⟩/\s1=aq [] 270)) (fun fr s1 p hC=>by obtain⟨rfl,rfl⟩:=hC;exact agR mc) (.st 8<|.rn [(2,(.slice none 0<|.known 0))] [] [(2,aX aB ([]:List Ex))] [] 270 270 .no)<|agQ
theorem agT:(([(2,(.slice (some (271,0)) (0)<|.ak 0 3))]:List<|Nat×AV).map (fun q=>some q.2)=([(2,(.slice (some (271,0)) (0)<|.ak 0 3))]:List<|Nat×AV).map (fun q=>some q.2))/\(([]:List<|Nat×Option ae).map (fun q=>q.2)=([]:List<|Nat×Option ae).map (fun q=>q.2))/\jF FU 270 272 [(2,(.slice (some (271,0)) (0)<|.ak 0 3))] [] [(2,aX aB ([]:List Ex))] [] 270/\((⟨84,aS [(2,aX aB ([]:List Ex))],max Tryz.f84.ntmps 1,(dF 84 [1,1,1]),[],none⟩:AF)=⟨84,aS [(2,aX aB ([]:List Ex))],max Tryz.f84.ntmps 1,(dF 84 [1,1,1]),[],none⟩/\aq [] 270=aq [] 270):=⟨rfl,rfl,(TB (enc:=aB) (j:=2) (bQ:=272) iy iy),rfl,rfl⟩
theorem agU(mc:Mt [] B):au pg B 270 (Fin pg (az Tryz.f84) fun y _=>y=(aX aB ([]:List Ex))) ⟨84,aS [(2,aX aB ([]:List Ex))],max Tryz.f84.ntmps 1,(dF 84 [1,1,1]),[],none⟩<|aq [] 270:=by exact wS mc (.rt 1 .no)<|wa<|aX aB ([]:List Ex)
theorem agV(mc:Mt [] B):au pg B 270 (Fin pg (az Tryz.f84) fun y _=>y=(aX aB ([]:List Ex))) (sF 84 Tryz.f84 [(.U (top+1) 0 0)])<|aq ar 270:=by exact wC mc (C:=(fun fr s1 _=>fr=⟨84,aS [(2,aX aB ([]:List Ex))],max Tryz.f84.ntmps 1,(dF 84 [1,1,1]),[],none⟩/\s1=aq [] 270)) (fun fr s1 p hC=>by obtain⟨rfl,rfl⟩:=hC;exact agU mc) (.st 9<|.rn [(2,(.slice (some (271,0)) (0)<|.ak 0 3))] [] [(2,aX aB ([]:List Ex))] [] 272 270 .no)<|agT
noncomputable abbrev Jf(l:List Ex):List<|Nat×AV:=[(2,(.slice (some (271,0)) (([]++l).length)<|.ak ([]++l).length 3))]
theorem agW(l:List Ex)(hlen:l.length<=100000):(((Jf l):List<|Nat×AV).map (fun q=>some q.2)=((Jf l):List<|Nat×AV).map (fun q=>some q.2))/\(([(271,some<|aN aB<|[]++l)]:List<|Nat×Option ae).map (fun q=>q.2)=([(271,some<|aN aB<|[]++l)]:List<|Nat×Option ae).map (fun q=>q.2))/\jF FU 270 272 (Jf l) [(271,some<|aN aB<|[]++l)] [(2,aX aB<|[]++l)] [] 270/\((⟨84,aS [(2,aX aB<|[]++l)],max Tryz.f84.ntmps 1,(dF 84 [1,1,1]),[],none⟩:AF)=⟨84,aS [(2,aX aB<|[]++l)],max Tryz.f84.ntmps 1,(dF 84 [1,1,1]),[],none⟩/\aq [] 270=aq [] 270):=⟨rfl,rfl,(N8 (j:=2) (bQ:=272) kK ([]++l) rfl (by rw[List.nil_append];unfold top;omega) iy iy iy),rfl,rfl⟩
theorem agX(mc:Mt [] B)(l:List Ex):au pg B 270 (Fin pg (az Tryz.f84) fun y _=>y=(aX aB<|[]++l)) ⟨84,aS [(2,aX aB<|[]++l)],max Tryz.f84.ntmps 1,(dF 84 [1,1,1]),[],none⟩<|aq [] 270:=by exact wS mc (.rt 1 .no)<|wa<|aX aB<|[]++l
theorem agY(mc:Mt [] B){l:List Ex}{m:Nat}(hlen:l.length<=100000)(hf:top<=N/\cX FU N o ((m+1)*3)=some (l.map aB).flatten/\m+1=l.length):au pg B 270 (Fin pg (az Tryz.f84) fun y _=>y=(aX aB<|[]++l)) (sF 84 Tryz.f84 [(.U N o<|m+1)])<|aq ar 270:=by exact wC mc (C:=(fun fr s1 _=>fr=⟨84,aS [(2,aX aB<|[]++l)],max Tryz.f84.ntmps 1,(dF 84 [1,1,1]),[],none⟩/\s1=aq [] 270)) (fun fr s1 p hC=>by obtain⟨rfl,rfl⟩:=hC;exact agX mc l) (.st 8<|.rg<|.go 2<|.al Ex aB [] l<|.go 1<|.en<|.rn (Jf l) [(271,some<|aN aB<|[]++l)] [(2,aX aB<|[]++l)] [] 272 270 .no)<|K0 aB [] l (K:=3) (pM:=40) hf (fun x=>⟨kK.len x,SS x⟩) Pt Pu<|agW l hlen
def Bh(args:List AV)(v:AV):Prop:=∃(N o:Nat) (l:List Ex),args=[.U N o l.length]/\eC aB 3 (.U N o l.length) l/\l.length<=100000/\v=aX aB l
theorem Bh.bT(args:List AV)(v v':AV)(h:Bh args v)(h':Bh args v'):v=v':=by
 obtain⟨N,o,l,rfl,hl,_,rfl⟩:=h;obtain⟨N',o',l',h1,mR,_,rfl⟩:=h';injection h1 with h1 _
 rw[h1] at hl;rw[hl.inj nu mR]
def Uz:FuncId×KE:=(84,.val<|aU Bh)
theorem ZY(hP:bE pg)(h:aV L):aV<|Uz::L:=by
 refine ig hP h cP Tryz.func84 fun args v e=>?_;obtain⟨N,o,l,rfl,hl,hlen,rfl⟩:=gI e;refine⟨aL.1 aW,fun B mc=>?_⟩;rw[←gX];cases l with
 |nil=>
  refine au.IC (i:=0) (n:=N) (o:=o) cN hl.len.2.1 (aL.1 aW) ?_ ?_
  ·exact agS mc
  ·exact agV mc
 |cons a l=>
  have hf:cX FU N o ((l.length+1)*3)=some ((a::l).map aB).flatten:=by
   rcases Iz kK.len hl with q|q
   ·exact q
   ·cases q
  have key:=agY (l:=a::l) (N:=N) (o:=o) (m:=l.length) mc hlen ⟨hl.len.2.1,hf,rfl⟩;exact key
end
end qF
end
section
open Go Go.Rn Go.RowKit Go.Proofs
namespace Gv
open cq cz cO cT dj gw qF vC xo
variable {k N:Nat} {bN n1 n0:Int} {l1:List Ex} {B:aJ}
theorem aft{α:Type}{K:Nat}{enc:α->List AV}(he:ng K enc)(l:List α){b n j bQ:Nat}(pre post:List AV){cap:cL}(hl:l.length*K<=top)(hb:270<=b)(GZ:b+1<=n)(hj:j<top)(hn:n<top)(hs:bQ<top)(e1:∀r:Nat->Nat,(∀k,top<=k->r k=k)->JG r pre pre)(e2:∀r:Nat->Nat,(∀k,top<=k->r k=k)->JG r post post)(h1:(pre++aX enc l::post).all AV.cj=true)(h2:(pre++aX enc l::post).length<=top)(hc:(match cap with| .known c=>Nat.ble l.length c| .ak _ _=>true| .lost=>false)=true):
 jF FU 270 bQ [(j,.ptr<|some (b,0))] [(b,some<|.cells (pre++ .slice (some (n,0)) l.length cap::post).length (Tr.fill (pre++ .slice (some (n,0)) l.length cap::post) 0 .nil) []),(n,some<|aN enc l)] [(j,.ptr<|some (b,0))] [(b,some<|.cells (pre++aX enc l::post).length (Tr.fill (pre++aX enc l::post) 0 .nil) [])] (b+1):=by
 let r:Nat->Nat:=fun k=>if k<b+1\/top<=k then k else max k bQ
 have rt:∀k,top<=k->r k=k:=fun k hk=>if_pos<|.inr hk;have rb:r b=b:=if_pos<|.inl ab;have app:∀(fz:nJ) (p q p' q':List AV),mG fz r p p'->mG fz r q q'->mG fz r (p++q) (p'++q'):=by
  intro fz p;induction p with
  |nil=>intro q p' q' h1 h2;cases p' with
   |nil=>exact h2
   |cons _ _=>cases h1
  |cons a p ih=>intro q p' q' h1 h2;cases p' with
   |nil=>cases h1
   |cons a' p'=>exact⟨h1.1,ih q p' q' h1.2 h2⟩
 have XF:∀(fz:nJ) (p:List AV),JG r p p->mG fz r p p:=by
  intro fz p;induction p with
  |nil=>intro _;trivial
  |cons a p ih=>intro h;exact⟨h.1.z,ih h.2⟩
 refine⟨[(n,nm (l.map enc).flatten,(l.map enc).flatten)],r,fun k hk=>if_pos<|.inl ab,fun k h1 h2=>?_,rt,by omega,fun p hp=>?_,fun p hp=>?_,fun p hp q hq _ _ _=>?_,fun p hp=>?_,fun p hp q hq _=>?_⟩
 ·show bQ<=(if _ then _ else _)/\(if _ then _ else _)<top;rw[if_neg ab];omega
 ·rw[List.mem_singleton] at hp;subst hp;exact⟨hj,_,List.mem_singleton.2 rfl,(bR.ptr rb).z⟩
 ·rw[List.mem_singleton] at hp;subst hp;refine⟨by show b<top;omega,fun y hy=>?_⟩;cases hy;refine⟨by rw[rb];omega,rfl,_,by rw[rb];exact List.mem_cons_self,⟨fun _=>rfl,(fun e=>by cases e),fun e=>by cases e⟩,?_⟩;refine iE.cells (by simp only[List.length_append,List.length_cons] at h2 ⊢;exact h2) (app _ _ _ _ _ (XF _ _<|e1 r rt) ⟨Uh (List.mem_singleton.2 rfl) rt hc,XF _ _<|e2 r rt⟩) h1
 ·rw[List.mem_singleton] at hp hq;subst hp;subst hq;rfl
 ·rw[List.mem_singleton] at hp;subst hp;exact Ui he hl n hn<|List.mem_cons_of_mem _ List.mem_cons_self
 ·rw[List.mem_singleton] at hp hq;subst hp;subst hq;show r b≠n;rw[rb];omega
def oS:Nat->Ex->Bool
 |0,_=>false
 |k+1,.mk op n args=>eM (k+1) (.mk op n args)||args.isEmpty
def rz(k:Nat)(args:List AV)(v:AV):Prop:=∃e:Ex,args=[.agg<|aB e]/\oS k e=true/\v= .agg (aB e)
theorem rz.bT(args:List AV)(v v':AV)(h:rz k args v)(h':rz k args v'):v=v':=by obtain⟨e,rfl,_,rfl⟩:=h;obtain⟨e',h1,_,rfl⟩:=h';injection h1 with h1 _
noncomputable def rA(k:Nat):FuncId×KE:=(63,.val<|aU<|rz k)
theorem agZ{op n:Int}(mc:Mt [Uz,rA k] B)(oO:bf (aU Bh) [.U N 0 0]=some (.U N 0 0)):au pg B 270 (Fin pg (az Tryz.f63) fun y _=>y=(.agg [(u8<|op),(i6 n),(.U N 0 0)])) (sF 63 Tryz.f63 [(.agg [(u8<|op),(i6 n),(.U N 0 0)])])<|aq ar 270:=by exact wS mc (.st 3<|.rg<|.go 2<|.kn (.U N 0 0)<|.go 2<|.en<|.rt 13 .no)<|ai oO<|wa<|.agg [(u8<|op),(i6 n),(.U N 0 0)]
noncomputable abbrev C6(op n bN n0:Int)(l0:List Ex)(cx n1:Int)(l1:List Ex):List<|Nat×Option ae:=[(271,some<|.cells 3 (Tr.fill [.int .u8 op,.int .i64 n,aX aB [Ex.mk bN n0 l0,Ex.mk cx n1 l1]] 0 .nil) [])]
noncomputable abbrev Jg(op n bN n0:Int)(l0:List Ex)(cx n1:Int)(l1:List Ex):List<|Nat×Option ae:=[(271,some<|.cells 3 (Tr.fill [(u8<|op),(i6 n),(.slice (some (273,0)) (2)<|.ak 2 3)] 0 .nil) []),(273,some<|aN aB [Ex.mk bN n0 l0,Ex.mk cx n1 l1])]
theorem ag0{op n cx:Int}{l0:List Ex}:(([(2,(.ptr<|some (271,0)))]:List<|Nat×AV).map (fun q=>some q.2)=([(2,(.ptr<|some (271,0)))]:List<|Nat×AV).map (fun q=>some q.2))/\(((Jg op n bN n0 l0 cx n1 l1):List<|Nat×Option ae).map (fun q=>q.2)=((Jg op n bN n0 l0 cx n1 l1):List<|Nat×Option ae).map (fun q=>q.2))/\jF FU 270 276 [(2,(.ptr<|some (271,0)))] (Jg op n bN n0 l0 cx n1 l1) [(2,(.ptr<|some (271,0)))] (C6 op n bN n0 l0 cx n1 l1) 272/\((⟨63,aS [(2,(.ptr<|some (271,0)))],max Tryz.f63.ntmps 1,(dF 63 [1,1,1,1]),[],none⟩:AF)=⟨63,aS [(2,(.ptr<|some (271,0)))],max Tryz.f63.ntmps 1,(dF 63 [1,1,1,1]),[],none⟩/\aq (C6 op n bN n0 l0 cx n1 l1) 272=aq (C6 op n bN n0 l0 cx n1 l1) 272):=⟨rfl,rfl,aft kK (b:=271) (n:=273) (j:=2) (bQ:=276) [Ex.mk bN n0 l0,Ex.mk cx n1 l1] [.int .u8 op,.int .i64 n] [] (by simp only[List.length_cons,List.length_nil];unfold top;omega) ab ab iy iy iy (fun r _=>⟨bR.int _ _,bR.int _ _,trivial⟩) (fun r _=>trivial) rfl (by show 3<=top;unfold top;omega) rfl,rfl,rfl⟩
theorem ag1(mc:Mt [rA k] B){op n cx:Int}{l0:List Ex}:au pg B 270 (Fin pg (az Tryz.f63) fun y _=>y=(.agg [.int .u8 op,.int .i64 n,aX aB [Ex.mk bN n0 l0,Ex.mk cx n1 l1]])) ⟨63,aS [(2,(.ptr<|some (271,0)))],max Tryz.f63.ntmps 1,(dF 63 [1,1,1,1]),[],none⟩<|aq (C6 op n bN n0 l0 cx n1 l1) 272:=by exact wS mc (.rt 1 .no)<|wa<|.agg [.int .u8 op,.int .i64 n,aX aB [Ex.mk bN n0 l0,Ex.mk cx n1 l1]]
theorem ag2(mc:Mt [rA k] B){op n cx:Int}{l0:List Ex}(hn:top<=N)(hf:cX FU N 0 (2*3)=some ([Ex.mk bN n0 l0,Ex.mk cx n1 l1].map aB).flatten)(iM:bf (aU<|rz k) [(.agg [(u8<|bN),(i6 n0),(.U (nm<|cI l0) 0 l0.length)])]=some (.agg [(u8<|bN),(i6 n0),(.U (nm<|cI l0) 0 l0.length)]))(jK:bf (aU<|rz k) [(.agg [(u8<|cx),(i6 n1),(.U (nm<|cI l1) 0 l1.length)])]=some (.agg [(u8<|cx),(i6 n1),(.U (nm<|cI l1) 0 l1.length)])):au pg B 270 (Fin pg (az Tryz.f63) fun y _=>y=(.agg [.int .u8 op,.int .i64 n,aX aB [Ex.mk bN n0 l0,Ex.mk cx n1 l1]])) (sF 63 Tryz.f63 [(.agg [(u8<|op),(i6 n),(.U N 0 2)])])<|aq ar 270:=by exact wC mc (C:=(fun fr s1 _=>fr=⟨63,aS [(2,(.ptr<|some (271,0)))],max Tryz.f63.ntmps 1,(dF 63 [1,1,1,1]),[],none⟩/\s1=aq (C6 op n bN n0 l0 cx n1 l1) 272)) (fun fr s1 p hC=>by obtain⟨rfl,rfl⟩:=hC;exact ag1 mc) (.st 3<|.rg<|.go 2<|.il<|.st 8<|.rg<|.go 2<|.al Ex aB [] [Ex.mk bN n0 l0,Ex.mk cx n1 l1]<|.go 1<|.en<|.rt 1<|.go 2<|.en<|.st 14<|.rg<|.go 4<|.kn (.agg [(u8<|bN),(i6 n0),(.U (nm<|cI l0) 0 l0.length)])<|.go 2<|.en<|.st 12<|.rg<|.go 4<|.kn (.agg [(u8<|cx),(i6 n1),(.U (nm<|cI l1) 0 l1.length)])<|.go 2<|.en<|.st 10<|.rn [(2,(.ptr<|some (271,0)))] (Jg op n bN n0 l0 cx n1 l1) [(2,(.ptr<|some (271,0)))] (C6 op n bN n0 l0 cx n1 l1) 276 272 .no)<|K0 aB [] [Ex.mk bN n0 l0,Ex.mk cx n1 l1] (K:=3) (pM:=40) ⟨hn,hf,rfl⟩ (fun x=>⟨kK.len x,SS x⟩) (by show 2*(0+2)*40+4096*40<=room;unfold room;omega) (by show(0+2)*3<=top;unfold top;omega)<|ai iM<|ai jK<|ag0 (op:=op) (n:=n) (bN:=bN) (n0:=n0) (cx:=cx) (n1:=n1) (l0:=l0) (l1:=l1)
end Gv
end
section
open Go Go.Rn Go.RowKit Go.Proofs
namespace JV
open cq cz cO cT dj gw qF vC xo Gv
variable {k:Nat} {e:Ex}
theorem Oa(h:eM k e=true):oS k e=true:=by
 cases k with
 |zero=>cases h
 |succ k=>obtain⟨op,n,l⟩:=e;show(eM (k+1) (.mk op n l)||l.isEmpty)=true;rw[h];rfl
theorem adI{op n:Int}{l:List Ex}(h:oS (k+1) (.mk op n l)=true):l=[]\/∃a b,l=[a,b]/\eM k a=true/\eM k b=true:=by
 have h:(eM (k+1) (.mk op n l)||l.isEmpty)=true:=h;rw[Bool.or_eq_true] at h;rcases h with h|h
 ·exact SO h
 ·exact .inl<|List.isEmpty_iff.1 h
theorem CV(hw:oS k e=true):bf (aU<|rz k) [.agg<|aB e]=some (.agg<|aB e):=fA (eZ rz.bT ⟨e,rfl,hw,rfl⟩) rF<|Bq e
theorem NH(l:List Ex):AV.U (nm<|cI l) 0 l.length=aX aB l:=by rw[Cz];rfl
theorem aaO{l:List Ex}(h:l.length<=100000):bf (aU Bh) [.U (nm<|cI l) 0 l.length]=some (aX aB l):=by rw[NH];exact fA (eZ Bh.bT ⟨_,0,l,rfl,eC.aX kK l,h,rfl⟩) (by rw[List.all_cons,show AV.hi (aX aB l)=true from aL.2<|dU _];rfl)<|aL.2<|dU _
theorem Nc(hP:bE pg):∀(k:Nat) {L:bY},aV L->aV (rA k::L)
 |0,L,h=>by refine ig hP h cP Tryz.func63 fun args v e=>?_;obtain⟨_,_,hw,_⟩:=gI e;cases hw
 |k+1,L,h=>by
  refine ab2 hP hJ qd iT iz h Tryz.func63 (body:=a9 pg 63 []) aW aW fun args v e=>?_;obtain⟨⟨op,n,l⟩,rfl,hw,rfl⟩:=gI e;refine⟨aL.1 aW,?_⟩;rcases adI hw with rfl|⟨a,b,rfl,w0,w1⟩
  ·refine⟨_,ZY hP<|Nc hP k cP,fun B mc=>?_⟩;rw[←gX,aB];exact agZ mc (by have:=aaO (l:=[]) (by show(0:Nat)<=100000;omega);rw[←NH] at this;exact this)
  ·refine⟨_,Nc hP k cP,fun B mc=>?_⟩;obtain⟨bN,n0,l0⟩:=a;obtain⟨cx,n1,l1⟩:=b;rw[←gX,aB];have c0:=CV<|Oa w0;have c1:=CV<|Oa w1;rw[aB] at c0 c1;have hf:cX FU (nm<|cI [Ex.mk bN n0 l0,.mk cx n1 l1]) 0 (2*3)=some ([Ex.mk bN n0 l0,.mk cx n1 l1].map aB).flatten:=by
    rcases Iz (K:=3) kK.len (eC.aX kK [Ex.mk bN n0 l0,.mk cx n1 l1]) with q|q
    ·rw[Cz];exact q
    ·cases q
   have key:=ag2 (op:=op) (n:=n) mc (dU _) hf c0 c1;rw[←NH] at key;exact key
end JV
end
