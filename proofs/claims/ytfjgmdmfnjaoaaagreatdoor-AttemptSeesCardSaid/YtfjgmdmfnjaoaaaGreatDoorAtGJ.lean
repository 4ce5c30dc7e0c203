import Derived.Test.YtfjgmdmfnjaoaaaGreatDoorAtGI
import Derived.Test.YtfjgmdmfnjaoaaaGreatDoorRnGG
import Derived.Test.YtfjgmdmfnjaoaaaGreatDoorRnGH
set_option maxRecDepth 100000
set_option maxHeartbeats 8000000
set_option linter.unusedSimpArgs false
set_option linter.unusedVariables false
section
open Go Go.Rn Go.RowKit Go.Proofs
namespace gZ
open cv cG cR cW dt eH BS fy zN
variable {k N L:Nat} {v:AV} {B:aL} {i:Int}
noncomputable section
def eP(x y:Int):Int:=match decide (y<x) with|true=>y|false=>x
def oe(kd m cd ce:Int):Int:=if kd=4 then eP (m+1+cP cd ce) 2001 else if kd=5 then eP (m+1+8*cd) 2001 else if kd=7 then eP (m+1+(cd+ce)) 2001 else eP (m+1+0) 2001
def iQ:St->Int| .mk k _ _ _ _ _=>k
def rG:Nat->List St->Int
 |0,_=>0
 |k+1,l=>l.foldl (fun m s=>oe (iQ s) m (rG k<|cn s)<|rG k<|cj s) 0
def kR:Nat->List St->Bool
 |0,_=>false
 |k+1,l=>decide (l.length<=1000000)&&l.all fun s=>kR k (cn s)&&kR k (cj s)
def tS(k:Nat)(args:List AV)(v:AV):Prop:=∃l:List St,args=[.U (nm<|bA l) 0 l.length]/\kR k l=true/\v= .int .i64 (rG k l)
theorem tS.bW(args:List AV)(v v':AV)(h:tS k args v)(h':tS k args v'):v=v':=by obtain⟨l,rfl,_,rfl⟩:=h;obtain⟨l',h1,_,rfl⟩:=h';simp only[List.cons.injEq,AV.U.injEq,_root_.and_true,true_and] at h1;rw[sN _ _<|ti (lL l) (lL l') h1.1]
def jE(k:Nat):FuncId×KE:=(61,.val<|aW<|tS k)
def vd(N L:Nat)(m i:Int):List<|Nat×AV:=[(3,(i6 m)),(7,(.U N 0 L)),(8,(i6<|(L:Int))),(9,(i6 i))]
def xz(N L:Nat)(m i:Int):AF:=⟨61,aQ<|vd N L m i,(max Tryz.f61.ntmps 1),[.code<|a9 pg 61 [1,1,0,1,0,0],.inLoop<|a9 pg 61 [1,1,0,1,0,0],.inBlock 0,.code<|a9 pg 61 [1,1,1]],[],none⟩
theorem F8(N L:Nat)(m i:Int)(hn:top<=N){M:Int}(e:m=M):((vd N L m i).map (fun q=>some q.2)=(vd N L m i).map (fun q=>some q.2))/\(ar.map (fun q=>q.2)=ar.map (fun q=>q.2))/\xX 270 (vd N L m i) ar/\(xz N L m i=xz N L M i/\ak ar 270=ak ar 270):=⟨rfl,rfl,OC (fun r r2 p hp=>by simp only[vd,List.mem_cons,List.not_mem_nil,or_false] at hp;rcases hp with rfl|rfl|rfl|rfl<;>first|exact bw.int _ _|exact bw.U (r2 _ hn) r2) rfl,by rw[e],rfl⟩
theorem afX{m:Int}{Na La Nb Lb Nd ld Ne le:Nat}{kd to oa na ob nb cd ce:Int}(mc:Mt [jE k] B)(hn:top<=N)(hi:0<=i)(hL:L<=1000000)(hx:cT FU N (0+i.toNat*10+0) 10=some [(u8<|kd),(i6 to),(u8<|oa),(i6 na),(.U Na 0 La),(u8<|ob),(i6 nb),(.U Nb 0 Lb),(.U Nd 0 ld),(.U Ne 0 le)])(hm:0<=m/\m<=2001)(hd0:0<=cd/\cd<=2001)(he0:0<=ce/\ce<=2001)(hmx:0<=cP cd ce/\cP cd ce<=2001)(hd:bg (aW<|tS k) [(.U Nd 0 ld)]=some (.int .i64 cd))(he:bg (aW<|tS k) [(.U Ne 0 le)]=some (.int .i64 ce))(h1:i<(L:Int))(H:au pg B 270 (Fin pg (az Tryz.f61) fun y _=>y=v) (xz N L (oe kd m cd ce)<|i+1)<|ak ar 270):au pg B 270 (Fin pg (az Tryz.f61) fun y _=>y=v) (xz N L m i)<|ak ar 270:=by exact wC mc (C:=(fun fr s1 _=>fr=xz N L (oe kd m cd ce) (i+1)/\s1=ak ar 270)) nr (.st 1<|.rg<|.fk (.en<|.st 6<|.rg<|.fh<|.fj [(u8<|kd),(i6 to),(u8<|oa),(i6 na),(.U Na 0 La),(u8<|ob),(i6 nb),(.U Nb 0 Lb),(.U Nd 0 ld),(.U Ne 0 le)]<|.go 2<|.en<|.st 7<|.rg<|.fk (.go 1<|.en<|.st 1<|.rg<|.go 2<|.kn (i6 cd)<|.go 2<|.kn (i6 ce)<|.vl (i6<|(cP cd ce))<|.go 1<|.en<|.st 1<|.rg<|.go 1<|.vl (i6<|m+1)<|.go 1<|.vl (i6<|(m+1)+(cP cd ce))<|.vl (i6<|(eP ((m+1)+(cP cd ce)) (2001:Int)))<|.go 1<|.en<|.st 1<|.rg<|.vl (i6<|i+1)<|.go 1<|.en<|.st 1<|.bk (vd N L (eP ((m+1)+(cP cd ce)) (2001:Int))<|i+1) ar 270 .no)<|.go 1<|.en<|.st 2<|.rg<|.fk (.go 1<|.en<|.st 1<|.rg<|.go 2<|.kn (i6 cd)<|.vl (i6<|8*cd)<|.go 1<|.en<|.st 1<|.rg<|.go 1<|.vl (i6<|m+1)<|.go 1<|.vl (i6<|(m+1)+(8*cd))<|.vl (i6<|(eP ((m+1)+(8*cd)) (2001:Int)))<|.go 1<|.en<|.st 1<|.rg<|.vl (i6<|i+1)<|.go 1<|.en<|.st 1<|.bk (vd N L (eP ((m+1)+(8*cd)) (2001:Int))<|i+1) ar 270 .no)<|.go 1<|.en<|.st 2<|.rg<|.fk (.go 1<|.en<|.st 1<|.rg<|.go 2<|.kn (i6 cd)<|.go 2<|.kn (i6 ce)<|.vl (i6<|cd+ce)<|.go 1<|.en<|.st 1<|.rg<|.go 1<|.vl (i6<|m+1)<|.go 1<|.vl (i6<|(m+1)+(cd+ce))<|.vl (i6<|(eP ((m+1)+(cd+ce)) (2001:Int)))<|.go 1<|.en<|.st 1<|.rg<|.vl (i6<|i+1)<|.go 1<|.en<|.st 1<|.bk (vd N L (eP ((m+1)+(cd+ce)) (2001:Int))<|i+1) ar 270 .no)<|.go 1<|.en<|.st 3<|.rg<|.go 1<|.vl (i6<|m+1)<|.go 1<|.vl (i6<|(m+1)+0)<|.vl (i6<|(eP ((m+1)+0) (2001:Int)))<|.go 1<|.en<|.st 1<|.rg<|.vl (i6<|i+1)<|.go 1<|.en<|.st 1<|.bk (vd N L (eP ((m+1)+0) (2001:Int))<|i+1) ar 270 .no)<|.no)<|ax (i<(L:Int)) (fun _=>(dc i (L:Int)<|ai hn<|ai hx<|ax (kd=4) (fun _=>(ai hd<|ai he<|ai (congrArg (AV.int .i64) (show(match decide (ce>cd) with|true=>ce|false=>cd)=cP cd ce from rfl))<|ai (wI<|m+1)<|ai (wI<|(m+1)+(cP cd ce))<|ai (congrArg (AV.int .i64) (show(match decide ((2001:Int)<((m+1)+(cP cd ce))) with|true=>(2001:Int)|false=>((m+1)+(cP cd ce)))=eP ((m+1)+(cP cd ce)) (2001:Int) from rfl))<|ai (wI<|i+1)<|F8 N L (eP ((m+1)+(cP cd ce)) (2001:Int)) (i+1) hn (show(eP ((m+1)+(cP cd ce)) (2001:Int))=oe kd m cd ce from by(unfold oe;repeat' split)<;>first|rfl|(exfalso;omega)))) fun _=>(ax (kd=5) (fun _=>(ai hd<|ai (wI<|8*cd)<|ai (wI<|m+1)<|ai (wI<|(m+1)+(8*cd))<|ai (congrArg (AV.int .i64) (show(match decide ((2001:Int)<((m+1)+(8*cd))) with|true=>(2001:Int)|false=>((m+1)+(8*cd)))=eP ((m+1)+(8*cd)) (2001:Int) from rfl))<|ai (wI<|i+1)<|F8 N L (eP ((m+1)+(8*cd)) (2001:Int)) (i+1) hn (show(eP ((m+1)+(8*cd)) (2001:Int))=oe kd m cd ce from by(unfold oe;repeat' split)<;>first|rfl|(exfalso;omega)))) fun _=>(ax (kd=7) (fun _=>(ai hd<|ai he<|ai (wI<|cd+ce)<|ai (wI<|m+1)<|ai (wI<|(m+1)+(cd+ce))<|ai (congrArg (AV.int .i64) (show(match decide ((2001:Int)<((m+1)+(cd+ce))) with|true=>(2001:Int)|false=>((m+1)+(cd+ce)))=eP ((m+1)+(cd+ce)) (2001:Int) from rfl))<|ai (wI<|i+1)<|F8 N L (eP ((m+1)+(cd+ce)) (2001:Int)) (i+1) hn (show(eP ((m+1)+(cd+ce)) (2001:Int))=oe kd m cd ce from by(unfold oe;repeat' split)<;>first|rfl|(exfalso;omega)))) fun _=>(ai (wI<|m+1)<|ai (wI<|(m+1)+0)<|ai (congrArg (AV.int .i64) (show(match decide ((2001:Int)<((m+1)+0)) with|true=>(2001:Int)|false=>((m+1)+0))=eP ((m+1)+0) (2001:Int) from rfl))<|ai (wI<|i+1)<|F8 N L (eP ((m+1)+0) (2001:Int)) (i+1) hn (show(eP ((m+1)+0) (2001:Int))=oe kd m cd ce from by(unfold oe;repeat' split)<;>first|rfl|(exfalso;omega))))))) bF
theorem afY{m:Int}(mc:Mt [jE k] B)(h1:(L:Int)<=i)(hv: .int .i64 m=v):au pg B 270 (Fin pg (az Tryz.f61) fun y _=>y=v) (xz N L m i)<|ak ar 270:=by exact wS mc (.st 1<|.rg<|.fk (.no)<|.en<|.rt 6 .no)<|ax (i<(L:Int)) bF fun _=>(show((i6 m):AV)=v from hv)
theorem afZ(mc:Mt [jE k] B)(hn:top<=N)(H:au pg B 270 (Fin pg (az Tryz.f61) fun y _=>y=v) (xz N L 0 0)<|ak ar 270):au pg B 270 (Fin pg (az Tryz.f61) fun y _=>y=v) (sF 61 Tryz.f61 [(.U N 0 L)])<|ak ar 270:=by exact wC mc (C:=(fun fr s1 _=>fr=xz N L 0 0/\s1=ak ar 270)) nr (.st 9<|.bk (vd N L 0 0) ar 270 .no)<|F8 N L 0 0 hn rfl
end
end gZ
end
section
open Go Go.Rn Go.RowKit Go.Proofs
namespace Wo
open cv cG cR cW eH dt fy zN gZ
theorem ad9{x:Int}(h1:0<=x):0<=eP x 2001/\eP x 2001<=2001:=by
 unfold eP;split<;>rename_i q
 ·omega
 ·have:=of_decide_eq_false q;omega
theorem VM{kd m cd ce:Int}(h1:0<=m/\m<=2001)(h2:0<=cd/\cd<=2001)(h3:0<=ce/\ce<=2001):0<=oe kd m cd ce/\oe kd m cd ce<=2001:=by
 have h4:=FQ h2 h3;unfold oe
 repeat' split
 all_goals exact ad9 ae
theorem I7:∀(k:Nat) (l:List St),0<=rG k l/\rG k l<=2001
 |0,_=>⟨Int.le_refl _,by show(0:Int)<=2001;omega⟩
 |k+1,l=>Ob (b:=2001) (f:=fun m s=>oe (iQ s) m (rG k<|cn s)<|rG k<|cj s) (fun m s h=>VM h (I7 k _)<|I7 k _) l 0 ae
theorem abn(hP:bE pg){k:Nat}(h':aU [jE k]){L:bV}(h:aU L):aU<|jE (k+1)::L:=by
 refine ij hP h h' Tryz.func61 fun args v e=>?_;obtain⟨l,rfl,hd,rfl⟩:=gH e;refine⟨aM.1 aX,fun B mc=>?_⟩;rw[←gY];have hd:(decide (l.length<=1000000)&&l.all fun s=>kR k (cn s)&&kR k (cj s))=true:=hd;rw[Bool.and_eq_true,decide_eq_true_eq,List.all_eq_true] at hd;obtain⟨hlen,hd⟩:=hd;have use:∀b:List St,kR k b=true->bg (aW<|tS k) [.U (nm<|bA b) 0 b.length]=some (i6<|rG k b):=fun b h1=>fH (fB tS.bW ⟨b,rfl,h1,rfl⟩) W5 rfl;have key:∀(r:List St) (i:Nat) (m:Int),l.drop i=r->0<=m/\m<=2001->
  au pg B 270 (Fin pg (az Tryz.f61) fun y _=>y= .int .i64 (r.foldl (fun m s=>oe (iQ s) m (rG k<|cn s)<|rG k<|cj s) m)) (xz (nm<|bA l) l.length m i) (ak ar 270):=by
  intro r;induction r with
  |nil=>intro i m hr h0;have hi:l.length<=i:=List.drop_eq_nil_iff.1 hr;exact afY (k:=k) mc ae rfl
  |cons a r ih=>
   intro i m hr h0;have hl:i<l.length:=by
    by_cases q:i<l.length
    ·exact q
    ·rw[List.drop_of_length_le ae] at hr;cases hr
   have ha:l[i]? =some a:=by have:=congrArg (fun q=>q[0]?) hr;simp only[List.getElem?_drop,List.getElem?_cons_zero,Nat.add_zero] at this;exact this
   have hm:a∈l:=List.mem_of_getElem? ha;have lF:l.drop (i+1)=r:=by have:=congrArg (List.drop 1) hr;rw[List.drop_drop] at this;exact this
   have Cv:=hd a hm;rw[Bool.and_eq_true] at Cv;have hx:=FH ha (z:=(i:Int)) ae;have b1:=I7 k<|cn a;have b2:=I7 k<|cj a;have tP:=ih (i+1) _ lF<|VM (kd:=iQ a) h0 b1 b2;have hb:=use _ Cv.1;have he:=use _ Cv.2;obtain⟨kd,to,⟨oa,na,la⟩,⟨ob,nb,lb⟩,bd,el⟩:=a;rw[aP,aD,aD] at hx;rw[List.foldl_cons];exact afX (k:=k) mc (cr _) ae hlen hx h0 b1 b2 (FQ b1 b2) hb he ae tP
 exact afZ mc (cr _)<|key l 0 0 (List.drop_zero) ae
theorem T6(hP:bE pg):∀(k:Nat) {L:bV},aU L->aU (jE k::L)
 |0,L,h=>by refine ij hP h cJ Tryz.func61 fun args v e=>?_;obtain⟨_,_,hd,_⟩:=gH e;cases hd
 |k+1,L,h=>abn hP (T6 hP k cJ) h
end Wo
end
section
open Go Go.Rn Go.RowKit Go.Proofs
namespace vT
open cv cG cR cW eV dt
variable {N k N1 N0 L1 L0:Nat} {B:aL} {x1 x0 bT n1 n0:Int}
def rA:Nat->Ex->Int->Bool
 |0,_,_=>true
 |k+1,.mk op n args,z=> !(decide<|op=3/\n>=z)&&args.all fun a=>rA k a z
def xA(k:Nat)(args:List AV)(v:AV):Prop:=∃(e:Ex) (z:Int),args=[.agg<|aD e,.int .i64 z]/\eN k e=true/\v= .bool (rA k e z)
noncomputable def JE(k:Nat):FuncId×KE:=(97,.val<|aW<|xA k)
theorem acE{N0 L0 N1 L1:Nat}{op n z bT n0 cF n1 x0 x1:Int}(mc:Mt [JE k] B):au pg B 270 (Fin pg (az Tryz.f97) fun y _=>y=(.bool<|decide<|¬(op=3/\n>=z))) (sF 97 Tryz.f97 [(.agg [(u8<|op),(i6 n),(.U N 0 0)]),(i6 z)])<|ak ar 270:=by exact wS mc (.st 4<|.rg<|.go 2<|.fk (.go 4<|.fk (.go 1<|.en<|.rt 4 .no)<|.go 1<|.en<|.st 3<|.rg<|.go 3<|.il<|.st 3<|.rg<|.go 2<|.il<|.rt 15<|.go 2<|.en<|.rt 1<|.go 2<|.en<|.rt 1 .no)<|.go 6<|.en<|.st 3<|.rg<|.go 3<|.il<|.st 3<|.rg<|.go 2<|.il<|.rt 15<|.go 2<|.en<|.rt 1<|.go 2<|.en<|.rt 1 .no)<|ax (op=3) (fun _=>(ax (n>=z) (fun _=>(show AV.bool false= .bool (decide<|¬(op=3/\n>=z)) from by rw[decide_eq_false ae])) fun _=>(show AV.bool true= .bool (decide<|¬(op=3/\n>=z)) from by rw[decide_eq_true ae]))) fun _=>(show AV.bool true= .bool (decide<|¬(op=3/\n>=z)) from by rw[decide_eq_true ae])
theorem acF{op n z cF:Int}(mc:Mt [JE k] B)(hn:top<=N)(wk:cT FU N (0+(0:Int).toNat*3+0) 3=some [(u8<|bT),(i6 n0),(.U N0 0 L0)])(ju:bg (aW<|xA k) [(.agg [(u8<|bT),(i6 n0),(.U N0 0 L0)]),(i6 z)]=some (.bool<|decide<|x0=1))(jb:cT FU N (0+(1:Int).toNat*3+0) 3=some [(u8<|cF),(i6 n1),(.U N1 0 L1)])(jJ:bg (aW<|xA k) [(.agg [(u8<|cF),(i6 n1),(.U N1 0 L1)]),(i6 z)]=some (.bool<|decide<|x1=1)):au pg B 270 (Fin pg (az Tryz.f97) fun y _=>y=(.bool<|decide<|¬(op=3/\n>=z)/\x0=1/\x1=1)) (sF 97 Tryz.f97 [(.agg [(u8<|op),(i6 n),(.U N 0 2)]),(i6 z)])<|ak ar 270:=by exact wS mc (.st 4<|.rg<|.go 2<|.fk (.go 4<|.fk (.go 1<|.en<|.rt 4 .no)<|.go 1<|.en<|.st 3<|.rg<|.go 3<|.il<|.st 3<|.rg<|.go 2<|.il<|.st 17<|.rg<|.go 3<|.fh<|.fj [(u8<|bT),(i6 n0),(.U N0 0 L0)]<|.il<|.st 3<|.rg<|.go 2<|.kp (x0=1) inferInstance (.go 2<|.en<|.rt 1<|.en<|.st 15<|.rg<|.go 3<|.fh<|.fj [(u8<|cF),(i6 n1),(.U N1 0 L1)]<|.il<|.st 3<|.rg<|.go 2<|.kp (x1=1) inferInstance (.go 2<|.en<|.rt 1<|.en<|.rt 13<|.go 2<|.en<|.rt 1<|.go 2<|.en<|.rt 1 .no)<|.go 2<|.en<|.rt 1<|.en<|.rt 4<|.go 2<|.en<|.rt 1<|.go 2<|.en<|.rt 1 .no)<|.go 2<|.en<|.rt 1<|.en<|.rt 4<|.go 2<|.en<|.rt 1<|.go 2<|.en<|.rt 1 .no)<|.go 6<|.en<|.st 3<|.rg<|.go 3<|.il<|.st 3<|.rg<|.go 2<|.il<|.st 17<|.rg<|.go 3<|.fh<|.fj [(u8<|bT),(i6 n0),(.U N0 0 L0)]<|.il<|.st 3<|.rg<|.go 2<|.kp (x0=1) inferInstance (.go 2<|.en<|.rt 1<|.en<|.st 15<|.rg<|.go 3<|.fh<|.fj [(u8<|cF),(i6 n1),(.U N1 0 L1)]<|.il<|.st 3<|.rg<|.go 2<|.kp (x1=1) inferInstance (.go 2<|.en<|.rt 1<|.en<|.rt 13<|.go 2<|.en<|.rt 1<|.go 2<|.en<|.rt 1 .no)<|.go 2<|.en<|.rt 1<|.en<|.rt 4<|.go 2<|.en<|.rt 1<|.go 2<|.en<|.rt 1 .no)<|.go 2<|.en<|.rt 1<|.en<|.rt 4<|.go 2<|.en<|.rt 1<|.go 2<|.en<|.rt 1 .no)<|ax (op=3) (fun _=>(ax (n>=z) (fun _=>(show AV.bool false= .bool (decide<|¬(op=3/\n>=z)/\x0=1/\x1=1) from by rw[decide_eq_false ae])) WZ)) WZ
theorem af0{L:Nat}{op n z x y1:Int}(mc:Mt [P3,JE 6] B)(hc:bg (aW vS) [(.agg [(u8<|op),(i6 n),(.U N 0 L)])]=some (.bool<|decide<|x=1))(hb:x=1->bg (aW<|xA 6) [(.agg [(u8<|op),(i6 n),(.U N 0 L)]),(i6 z)]=some (.bool<|decide<|y1=1)):au pg B 270 (Fin pg (az Tryz.f84) fun y _=>y=(.bool<|decide<|x=1/\y1=1)) (sF 84 Tryz.f84 [(.agg [(u8<|op),(i6 n),(.U N 0 L)]),(i6 z)])<|ak ar 270:=by exact wS mc (.st 3<|.rg<|.go 1<|.kp (x=1) inferInstance (.go 3<|.kp (y1=1) inferInstance (.go 2<|.en<|.rt 1 .no)<|.go 2<|.en<|.rt 1 .no)<|.go 6<|.en<|.rt 1 .no)<|ai hc<|ax (x=1) (fun _=>(ai (hb ae)<|ax (y1=1) (fun _=>(show AV.bool true= .bool (decide<|x=1/\y1=1) from by rw[decide_eq_true ae])) fun _=>(show AV.bool false= .bool (decide<|x=1/\y1=1) from by rw[decide_eq_false ae]))) fun _=>(show AV.bool false= .bool (decide<|x=1/\y1=1) from by rw[decide_eq_false ae])
end vT
end
section
open Go Go.Rn Go.RowKit Go.Proofs
namespace xK
open cv cG cR cW eV dt vT
variable {k:Nat} {e:Ex}
theorem Tj{op n:Int}{l:List Ex}(h:eN (k+1) (.mk op n l)=true):l=[]\/∃a b,l=[a,b]/\eN k a=true/\eN k b=true:=by
 rw[Md] at h;split at h
 ·exact .inl<|List.isEmpty_iff.1 h
 split at h
 ·rw[Bool.and_eq_true,Bool.and_eq_true] at h;exact .inl<|List.isEmpty_iff.1 h.1.1
 split at h
 ·rw[Bool.and_eq_true,Bool.and_eq_true] at h;exact .inl<|List.isEmpty_iff.1 h.1.1
 split at h
 ·cases h
 rw[Bool.and_eq_true,Bool.and_eq_true,decide_eq_true_eq] at h
 match l,h with
 |[a,b],h=>exact .inr ⟨a,b,rfl,h.1.2,h.2⟩
theorem xA.bW(args:List AV)(v v':AV)(h:xA k args v)(h':xA k args v'):v=v':=by obtain⟨e,z,rfl,_,rfl⟩:=h;obtain⟨e',z',h1,_,rfl⟩:=h';simp only[List.cons.injEq,AV.agg.injEq,AV.int.injEq,true_and,_root_.and_true] at h1;rw[nw _ _ h1.1,h1.2]
theorem Nx{z:Int}(hw:eN k e=true):bg (aW<|xA k) [.agg<|aD e,.int .i64 z]=some (.bool<|decide<|bit (rA k e z)=1):=by rw[xc];exact fH (fB xA.bW ⟨e,z,rfl,hw,rfl⟩) rP rfl
theorem Ej(b:Bool):bit b=1↔b=true:=by cases b<;>decide
theorem Tk(hP:bE pg):∀(k:Nat) {L:bV},aU L->aU (JE k::L)
 |0,L,h=>by refine ij hP h cJ Tryz.func97 fun args v e=>?_;obtain⟨_,_,_,hw,_⟩:=gH e;cases hw
 |k+1,L,h=>by
  refine ij hP h (Tk hP k cJ) Tryz.func97 fun args v e=>?_;obtain⟨⟨op,n,l⟩,z,rfl,hw,rfl⟩:=gH e;refine⟨aM.1 aX,fun B mc=>?_⟩;rw[←gY];rcases Tj hw with rfl|⟨a,b,rfl,w0,w1⟩
  ·have key:=acE (L0:=0) (N1:=0) (L1:=0) (N0:=0) (bT:=0) (n0:=0) (cF:=0) (n1:=0) (x0:=0) (x1:=0) (N:=nm<|cN []) (op:=op) (n:=n) (z:=z) mc;rw[aD,show rA (k+1) (.mk op n []) z=decide (¬(op=3/\n>=z)) from by show(!(decide<|op=3/\n>=z)&&true)=_;rw[Bool.and_true,decide_not]];exact key
  ·obtain⟨bT,n0,l0⟩:=a;obtain⟨cF,n1,l1⟩:=b;have t0:=yS (l:=[Ex.mk bT n0 l0,.mk cF n1 l1]) (i:=0) (a:=.mk bT n0 l0) rfl (z:=0) rfl;have t1:=yS (l:=[Ex.mk bT n0 l0,.mk cF n1 l1]) (i:=1) (a:=.mk cF n1 l1) rfl (z:=1) rfl;have c0:=Nx (z:=z) w0;have c1:=Nx (z:=z) w1;rw[aD] at t0 t1 c0 c1;have key:=acF (op:=op) (n:=n) (z:=z) mc (cr _) t0 c0 t1 c1;rw[aD,show rA (k+1) (.mk op n [.mk bT n0 l0,.mk cF n1 l1]) z=decide (¬(op=3/\n>=z)/\bit (rA k (.mk bT n0 l0) z)=1/\bit (rA k (.mk cF n1 l1) z)=1) from by show(!(decide<|op=3/\n>=z)&&(rA k (.mk bT n0 l0) z&&(rA k (.mk cF n1 l1) z&&true)))=_;rw[Bool.and_true,Bool.eq_iff_iff,decide_eq_true_eq,Ej,Ej,Bool.and_eq_true,Bool.and_eq_true, ←decide_not,decide_eq_true_eq]];exact key
def KT(e:Ex)(z:Int):Bool:=eN 6 e&&rA 6 e z
def oT(args:List AV)(v:AV):Prop:=∃(e:Ex) (z:Int),args=[.agg<|aD e,.int .i64 z]/\v= .bool (KT e z)
theorem oT.bW(args:List AV)(v v':AV)(h:oT args v)(h':oT args v'):v=v':=by obtain⟨e,z,rfl,rfl⟩:=h;obtain⟨e',z',h1,rfl⟩:=h';simp only[List.cons.injEq,AV.agg.injEq,AV.int.injEq,true_and,_root_.and_true] at h1;rw[nw _ _ h1.1,h1.2]
noncomputable def vD:FuncId×KE:=(84,.val<|aW oT)
theorem OB:bg (aW vS) [.agg<|aD e]=some (.bool<|decide<|bit (eN 6 e)=1):=by rw[xc];exact fH (fB vS.bW ⟨e,rfl,rfl⟩) rP rfl
theorem acG(hP:bE pg){L:bV}(h:aU L):aU<|vD::L:=by refine ij hP h (UR hP<|Tk hP 6 cJ) Tryz.func84 fun args v e=>?_;obtain⟨⟨op,n,l⟩,z,rfl,rfl⟩:=gH e;refine⟨aM.1 aX,fun B mc=>?_⟩;rw[←gY];have c0:=OB (e:=.mk op n l);have c1:bit (eN 6<|.mk op n l)=1->_:=fun hx=>Nx (k:=6) (e:=.mk op n l) (z:=z)<|(Ej _).1 hx;rw[aD] at c0 c1;have key:=af0 mc c0 c1;rw[aD,show KT (.mk op n l) z=decide (bit (eN 6<|.mk op n l)=1/\bit (rA 6 (.mk op n l) z)=1) from by rw[Bool.eq_iff_iff,decide_eq_true_eq,Ej,Ej];exact Bool.and_eq_true _ _▸Iff.rfl];exact key
end xK
end
section
open Go Go.Rn Go.RowKit Go.Proofs
namespace nQ
open cv cG cR cW eH fy dt
variable {K:Cb} {k N L ld Ne Nd Nb Na Lb La:Nat} {L0:bV} {B:aL} {pf p:fx} {i to ob oa nb na kd:Int} {g:Option ab} {x2 x1 w2 w1 u2 u1:AV} {bR:Option Code}
noncomputable section
abbrev mF:=St->AV->AV->Option fx
def kG(ek:List St->AV->AV->Option fx)(rd:mF):List St->AV->AV->Option fx
 |[],v1,v2=>some ⟨true,v1,v2,none⟩
 |s::r,v1,v2=>match rd s v1 v2 with
  |none=>none
  |some p=>match p.ret with
   |false=>some p
   |true=>match ek (cn s) p.v1 p.v2 with
    |none=>none
    |some q=>match q.ret with
     |false=>some q
     |true=>match ek (cj s) q.v1 q.v2 with
      |none=>none
      |some u=>match u.ret with
       |false=>some u
       |true=>kG ek rd r u.v1 u.v2
def fD(rd:mF):Nat->List St->AV->AV->Option fx
 |0,_,_,_=>none
 |k+1,l,v1,v2=>match decide (l.length<=1000000) with
  |true=>kG (fD rd k) rd l v1 v2
  |false=>none
open Classical in
def F9(x:AV):Option<|List St:=if h:∃l:List St,x= .U (nm<|bA l) 0 l.length then some h.choose else none
open Classical in
def zw(rd:mF)(k:Nat)(x v1 v2:AV):Option fx:=match F9 x with
 |none=>none
 |some l=>if okB v1/\okB v2 then fD rd k l v1 v2 else none
def dj(K:Cb)(rd:mF)(k:Nat):FuncId×KE:=(81,.raw<|qR K<|zw rd k)
def oE(K:Cb)(v1 v2:AV):List<|Nat×Option ab:=ar++[(270,some<|Cb.loop K none 272 273 271),(271,some .defs),(272,some<|eM v1),(273,some<|eM v2)]
def sE(K:Cb)(v1 v2:AV)(c:List AV):AS:=ak (oE K v1 v2++[(274,some<|.cells 10 (Tr.fill c 0 .nil) [])]) 275
def sA(K:Cb)(bR:Option Code)(v1 v2:AV)(c:List AV)(g:Option ab):AS:=ak (ar++[(270,some<|Cb.loop K bR 272 273 271),(271,some .defs),(272,some<|eM v1),(273,some<|eM v2),(274,some<|.cells 10 (Tr.fill c 0 .nil) []),(275,g)]) 276
def ES(L:bV):Env:=x9 pg 270 eK dX L 274 true
def Xa(K:Cb)(p:fx)(s':AS)(y:AV):Prop:=y= .bool p.ret/\s'.h.get 270=some (Cb.loop K p.bR 272 273 271)/\s'.h.get 271=some .defs/\s'.h.get 272=some (eM p.v1)/\s'.h.get 273=some (eM p.v2)
end
theorem VN:fM<=274:=Nat.le_trans hZ ae
theorem P4{o4:Option ab}{nx:Nat}:Xa K p (ak (ar++[(270,some<|Cb.loop K p.bR 272 273 271),(271,some .defs),(272,some<|eM p.v1),(273,some<|eM p.v2),(274,o4),(275,g)]) nx)<|.bool p.ret:=⟨rfl,by kernel_rfl,by kernel_rfl,by kernel_rfl,by kernel_rfl⟩
theorem ag0{nx:Nat}:Xa K p (ak (ar++[(270,some<|Cb.loop K p.bR 272 273 271),(271,some .defs),(272,some<|eM p.v1),(273,some<|eM p.v2)]) nx)<|.bool p.ret:=⟨rfl,by kernel_rfl,by kernel_rfl,by kernel_rfl,by kernel_rfl⟩
theorem af1{v1 v2:AV}{l:List<|Nat×AV}(h:∀r:Nat->Nat,(∀k,k<274->r k=k)->(∀k,top<=k->r k=k)->∀p∈l,bw r p.2 p.2)(ja:K.s1<top)(iK:K.s2<top)(mP:K.s1≠K.s2)(jb:okB v1)(pX:okB v2):xX 274 l<|oE K v1 v2:=by
 intro r r1 r2;refine⟨h r r1 r2,fun p hp x hx=>?_⟩;rcases List.mem_append.1 hp with hp|hp
 ·exact FG (nx:=270) (fun k hk=>r1 k ae) cH p hp x hx
 ·simp only[List.mem_cons,List.not_mem_nil,or_false] at hp;rcases hp with rfl|rfl|rfl|rfl<;>cases hx
  ·exact acq ja iK mP (r1 _ ae) (r1 _ ae)<|r1 _ ae
  ·exact acr
  ·exact UN jb r2
  ·exact UN pX r2
noncomputable def BA(N L:Nat)(i:Int):List<|Nat×AV:=[(1,(.yield 270)),(7,(.U N 0 L)),(8,(i6<|(L:Int))),(9,(i6 i))]
noncomputable def rJ(N L:Nat)(i:Int):AF:=⟨81,aQ<|BA N L i,(max Tryz.f81.ntmps 2),[.code<|a9 pg 81 [1,0,1,0,0],.inLoop<|a9 pg 81 [1,0,1,0,0],.inBlock 0,.code<|a9 pg 81 [1,1]],[],none⟩
theorem Wp{v1 v2:AV}(N L:Nat)(i:Int)(hn:top<=N)(ja:K.s1<top)(iK:K.s2<top)(mP:K.s1≠K.s2)(jb:okB v1)(pX:okB v2):((BA N L i).map (fun q=>some q.2)=(BA N L i).map (fun q=>some q.2))/\((oE K v1 v2).map (fun q=>q.2)=(oE K v1 v2).map (fun q=>q.2))/\xX 274 (BA N L i) (oE K v1 v2)/\(rJ N L i=rJ N L i/\ak (oE K v1 v2) 274=ak (oE K v1 v2) 274):=⟨rfl,rfl,af1 (fun r r1 r2 p hp=>by simp only[BA,List.mem_cons,List.not_mem_nil,or_false] at hp;rcases hp with rfl|rfl|rfl|rfl<;>first|exact bw.int _ _|exact bw.bool _|exact bw.U (r2 _ hn) r2|exact bw.yield<|r1 270 ae) ja iK mP jb pX,rfl,rfl⟩
noncomputable abbrev ff(kd to oa na:Int)(Na La:Nat)(ob nb:Int)(Nb Lb Nd ld Ne le:Nat):List AV:=[(u8<|kd),(i6 to),(u8<|oa),(i6 na),(.U Na 0 La),(u8<|ob),(i6 nb),(.U Nb 0 Lb),(.U Nd 0 ld),(.U Ne 0 le)]
theorem ai1{rd:mF}{v1 v2 u1 u2 x1 x2:AV}{pf:fx}{le:Nat}(mc:Mt (dj K rd k::L0) B)(hn:top<=N)(hi:0<=i)(hL:L<=1000000)(hx:cT FU N (0+i.toNat*10+0) 10=some (ff kd to oa na Na La ob nb Nb Lb Nd ld Ne le))(hr:bh pg (sp<|dj K rd k::L0) FU 6 (.round 270) [.agg<|ff kd to oa na Na La ob nb Nb Lb Nd ld Ne le] (sE K v1 v2<|ff kd to oa na Na La ob nb Nb Lb Nd ld Ne le)= .ok (.bool false) (sA K bR w1 w2 (ff kd to oa na Na La ob nb Nb Lb Nd ld Ne le) g))(h1:i<(L:Int)):au pg B 274 (rR K 270 pg (az Tryz.f81) ⟨false,w1,w2,bR⟩) (rJ N L i)<|ak (oE K v1 v2) 274:=by exact mh (E:=ES<|dj K rd k::L0) fm rfl bY mc.2.2.1 mc.2.2.2 900 (.st 1<|.rg<|.fk (.en<|.st 6<|.rg<|.fh<|.fj (ff kd to oa na Na La ob nb Nb Lb Nd ld Ne le)<|.go 2<|.en<|.st 1<|.rg<|.go 2<|.cy (.bool false) (sA K bR w1 w2 (ff kd to oa na Na La ob nb Nb Lb Nd ld Ne le) g)<|.go 15<|.en<|.rt 4 .no)<|.no)<|ax (i<(L:Int)) (fun _=>(dc i (L:Int)<|ai hn<|ai hx<|ai hr<|P4 (K:=K) (p:=⟨false,w1,w2,bR⟩) (o4:=some<|.cells 10 (Tr.fill (ff kd to oa na Na La ob nb Nb Lb Nd ld Ne le) 0 .nil) []) (g:=g) (nx:=276))) bF
theorem ai2{rd:mF}{v1 v2 x1 x2:AV}{pf:fx}{le:Nat}(mc:Mt (dj K rd k::L0) B)(hn:top<=N)(hi:0<=i)(hL:L<=1000000)(hx:cT FU N (0+i.toNat*10+0) 10=some (ff kd to oa na Na La ob nb Nb Lb Nd ld Ne le))(hr:bh pg (sp<|dj K rd k::L0) FU 6 (.round 270) [.agg<|ff kd to oa na Na La ob nb Nb Lb Nd ld Ne le] (sE K v1 v2<|ff kd to oa na Na La ob nb Nb Lb Nd ld Ne le)= .ok (.bool true) (sA K none w1 w2 (ff kd to oa na Na La ob nb Nb Lb Nd ld Ne le) g))(hb:bh pg (sp<|dj K rd k::L0) FU 6 (.fn 81) [.U Nd 0 ld,.yield 270] (sA K none w1 w2 (ff kd to oa na Na La ob nb Nb Lb Nd ld Ne le) g)= .ok (.bool false) (sA K bR u1 u2 (ff kd to oa na Na La ob nb Nb Lb Nd ld Ne le) g))(h1:i<(L:Int)):au pg B 274 (rR K 270 pg (az Tryz.f81) ⟨false,u1,u2,bR⟩) (rJ N L i)<|ak (oE K v1 v2) 274:=by exact mh (E:=ES<|dj K rd k::L0) fm rfl bY mc.2.2.1 mc.2.2.2 900 (.st 1<|.rg<|.fk (.en<|.st 6<|.rg<|.fh<|.fj (ff kd to oa na Na La ob nb Nb Lb Nd ld Ne le)<|.go 2<|.en<|.st 1<|.rg<|.go 2<|.cy (.bool true) (sA K none w1 w2 (ff kd to oa na Na La ob nb Nb Lb Nd ld Ne le) g)<|.go 5<|.cu (.bool false) (sA K bR u1 u2 (ff kd to oa na Na La ob nb Nb Lb Nd ld Ne le) g)<|.go 9<|.en<|.rt 4 .no)<|.no)<|ax (i<(L:Int)) (fun _=>(dc i (L:Int)<|ai hn<|ai hx<|ai hr<|ai hb<|P4 (K:=K) (p:=⟨false,u1,u2,bR⟩) (o4:=some<|.cells 10 (Tr.fill (ff kd to oa na Na La ob nb Nb Lb Nd ld Ne le) 0 .nil) []) (g:=g) (nx:=276))) bF
theorem ai3{rd:mF}{v1 v2:AV}{pf:fx}{le:Nat}(mc:Mt (dj K rd k::L0) B)(hn:top<=N)(hi:0<=i)(hL:L<=1000000)(hx:cT FU N (0+i.toNat*10+0) 10=some (ff kd to oa na Na La ob nb Nb Lb Nd ld Ne le))(hr:bh pg (sp<|dj K rd k::L0) FU 6 (.round 270) [.agg<|ff kd to oa na Na La ob nb Nb Lb Nd ld Ne le] (sE K v1 v2<|ff kd to oa na Na La ob nb Nb Lb Nd ld Ne le)= .ok (.bool true) (sA K none w1 w2 (ff kd to oa na Na La ob nb Nb Lb Nd ld Ne le) g))(hb:bh pg (sp<|dj K rd k::L0) FU 6 (.fn 81) [.U Nd 0 ld,.yield 270] (sA K none w1 w2 (ff kd to oa na Na La ob nb Nb Lb Nd ld Ne le) g)= .ok (.bool true) (sA K none u1 u2 (ff kd to oa na Na La ob nb Nb Lb Nd ld Ne le) g))(ho:bh pg (sp<|dj K rd k::L0) FU 6 (.fn 81) [.U Ne 0 le,.yield 270] (sA K none u1 u2 (ff kd to oa na Na La ob nb Nb Lb Nd ld Ne le) g)= .ok (.bool false) (sA K bR x1 x2 (ff kd to oa na Na La ob nb Nb Lb Nd ld Ne le) g))(h1:i<(L:Int)):au pg B 274 (rR K 270 pg (az Tryz.f81) ⟨false,x1,x2,bR⟩) (rJ N L i)<|ak (oE K v1 v2) 274:=by exact mh (E:=ES<|dj K rd k::L0) fm rfl bY mc.2.2.1 mc.2.2.2 900 (.st 1<|.rg<|.fk (.en<|.st 6<|.rg<|.fh<|.fj (ff kd to oa na Na La ob nb Nb Lb Nd ld Ne le)<|.go 2<|.en<|.st 1<|.rg<|.go 2<|.cy (.bool true) (sA K none w1 w2 (ff kd to oa na Na La ob nb Nb Lb Nd ld Ne le) g)<|.go 5<|.cu (.bool true) (sA K none u1 u2 (ff kd to oa na Na La ob nb Nb Lb Nd ld Ne le) g)<|.go 6<|.cu (.bool false) (sA K bR x1 x2 (ff kd to oa na Na La ob nb Nb Lb Nd ld Ne le) g)<|.go 2<|.en<|.rt 4 .no)<|.no)<|ax (i<(L:Int)) (fun _=>(dc i (L:Int)<|ai hn<|ai hx<|ai hr<|ai hb<|ai ho<|P4 (K:=K) (p:=⟨false,x1,x2,bR⟩) (o4:=some<|.cells 10 (Tr.fill (ff kd to oa na Na La ob nb Nb Lb Nd ld Ne le) 0 .nil) []) (g:=g) (nx:=276))) bF
theorem ai4{rd:mF}{v1 v2:AV}{bR:Option Code}{le:Nat}(mc:Mt (dj K rd k::L0) B)(hn:top<=N)(hi:0<=i)(hL:L<=1000000)(hx:cT FU N (0+i.toNat*10+0) 10=some (ff kd to oa na Na La ob nb Nb Lb Nd ld Ne le))(hr:bh pg (sp<|dj K rd k::L0) FU 6 (.round 270) [.agg<|ff kd to oa na Na La ob nb Nb Lb Nd ld Ne le] (sE K v1 v2<|ff kd to oa na Na La ob nb Nb Lb Nd ld Ne le)= .ok (.bool true) (sA K none w1 w2 (ff kd to oa na Na La ob nb Nb Lb Nd ld Ne le) g))(hb:bh pg (sp<|dj K rd k::L0) FU 6 (.fn 81) [.U Nd 0 ld,.yield 270] (sA K none w1 w2 (ff kd to oa na Na La ob nb Nb Lb Nd ld Ne le) g)= .ok (.bool true) (sA K none u1 u2 (ff kd to oa na Na La ob nb Nb Lb Nd ld Ne le) g))(ho:bh pg (sp<|dj K rd k::L0) FU 6 (.fn 81) [.U Ne 0 le,.yield 270] (sA K none u1 u2 (ff kd to oa na Na La ob nb Nb Lb Nd ld Ne le) g)= .ok (.bool true) (sA K none x1 x2 (ff kd to oa na Na La ob nb Nb Lb Nd ld Ne le) g))(h1:i<(L:Int))(ja:K.s1<top)(iK:K.s2<top)(mP:K.s1≠K.s2)(jb:okB x1)(pX:okB x2)(H:au pg B 274 (rR K 270 pg (az Tryz.f81) pf) (rJ N L<|i+1)<|ak (oE K x1 x2) 274):au pg B 274 (rR K 270 pg (az Tryz.f81) pf) (rJ N L i)<|ak (oE K v1 v2) 274:=by exact xo (E:=ES<|dj K rd k::L0) (C:=(fun fr s1 _=>fr=rJ N L (i+1)/\s1=ak (oE K x1 x2) 274)) fm rfl bY mc.2.2.1 mc.2.2.2 VN rfl mc.1 nr 900 (.st 1<|.rg<|.fk (.en<|.st 6<|.rg<|.fh<|.fj (ff kd to oa na Na La ob nb Nb Lb Nd ld Ne le)<|.go 2<|.en<|.st 1<|.rg<|.go 2<|.cy (.bool true) (sA K none w1 w2 (ff kd to oa na Na La ob nb Nb Lb Nd ld Ne le) g)<|.go 5<|.cu (.bool true) (sA K none u1 u2 (ff kd to oa na Na La ob nb Nb Lb Nd ld Ne le) g)<|.go 6<|.cu (.bool true) (sA K none x1 x2 (ff kd to oa na Na La ob nb Nb Lb Nd ld Ne le) g)<|.go 2<|.en<|.st 3<|.rg<|.vl (i6<|i+1)<|.go 1<|.en<|.st 1<|.bk (BA N L<|i+1) (oE K x1 x2) 274 .no)<|.no)<|ax (i<(L:Int)) (fun _=>(dc i (L:Int)<|ai hn<|ai hx<|ai hr<|ai hb<|ai ho<|ai (wI<|i+1)<|Wp N L (i+1) hn ja iK mP jb pX)) bF
theorem af2{rd:mF}{v1 v2:AV}(mc:Mt (dj K rd k::L0) B)(h1:(L:Int)<=i):au pg B 274 (rR K 270 pg (az Tryz.f81) ⟨true,v1,v2,none⟩) (rJ N L i)<|ak (oE K v1 v2) 274:=by exact mh (E:=ES<|dj K rd k::L0) fm rfl bY mc.2.2.1 mc.2.2.2 900 (.st 1<|.rg<|.fk (.no)<|.en<|.rt 6 .no)<|ax (i<(L:Int)) bF fun _=>(ag0 (K:=K) (p:=⟨true,v1,v2,none⟩) (nx:=274))
theorem ag1{rd:mF}{v1 v2:AV}(mc:Mt (dj K rd k::L0) B)(hn:top<=N)(ja:K.s1<top)(iK:K.s2<top)(mP:K.s1≠K.s2)(jb:okB v1)(pX:okB v2)(H:au pg B 274 (rR K 270 pg (az Tryz.f81) pf) (rJ N L 0)<|ak (oE K v1 v2) 274):au pg B 274 (rR K 270 pg (az Tryz.f81) pf) (sF 81 Tryz.f81 [.U N 0 L,.yield 270])<|ak (oE K v1 v2) 274:=by exact xo (E:=ES<|dj K rd k::L0) (C:=(fun fr s1 _=>fr=rJ N L 0/\s1=ak (oE K v1 v2) 274)) fm rfl bY mc.2.2.1 mc.2.2.2 VN rfl mc.1 nr 900 (.st 7<|.bk (BA N L 0) (oE K v1 v2) 274 .no)<|Wp N L 0 hn ja iK mP jb pX
end nQ
end
section
open Go Go.Rn Go.RowKit Go.Proofs
namespace nE
open cv cG cR cW eH fy zN dt nQ
variable {rd:mF} {k:Nat} {K:Cb} {L0:bV}
theorem aat(l:List St):F9 (.U (nm<|bA l) 0 l.length)=some l:=by
 unfold F9;have h:∃l':List St,AV.U (nm<|bA l) 0 l.length= .U (nm<|bA l') 0 l'.length:=⟨l,rfl⟩;rw[dif_pos h];have e:=h.choose_spec;injection e with e1 e2 e3
 exact congrArg some (sN _ _<|ti (lL _) (lL _) e1).symm
theorem aau{x:AV}{l:List St}(h:F9 x=some l):x= .U (nm<|bA l) 0 l.length:=by
 unfold F9 at h;split at h
 ·rename_i q;injection h with h
  rw[←h];exact q.choose_spec
 ·cases h
theorem US(ja:K.s1<top)(iK:K.s2<top)(mP:K.s1≠K.s2)(c d:Nat):(aQ [(K.s1,AV.ptr<|some (c,0)),(K.s2,.ptr<|some (d,0))]).get K.s1=some (.ptr<|some (c,0))/\(aQ [(K.s1,AV.ptr<|some (c,0)),(K.s2,.ptr<|some (d,0))]).get K.s2=some (.ptr<|some (d,0)):=by
 constructor
 ·show(((Tr.nil:Tr AV).put K.s2 _).put K.s1 _).get K.s1=_;rw[Tr.lM _ _ _ _ ja,if_pos rfl]
 ·show(((Tr.nil:Tr AV).put K.s2 _).put K.s1 _).get K.s2=_;rw[Tr.lM _ _ _ _ ja,if_neg fun e=>mP e.symm,Tr.lM _ _ _ _ iK,if_pos rfl]
structure yx (K:Cb) (L:bV) (rd:mF):Prop where
 s1:K.s1<top
 s2:K.s2<top
 ET:K.s1≠K.s2
 run:∀s v1 v2 p,rd s v1 v2=some p->okB v1->okB v2->(okB p.v1/\okB p.v2/\(p.ret=true->p.bR=none))/\∃g,bh pg (sp L) FU 6 (.round 270) [.agg<|aP s] (sE K v1 v2<|aP s)= .ok (.bool p.ret) (sA K p.bR p.v1 p.v2 (aP s) g)
def Pp(rd:mF):Prop:=∀s v1 v2 p,rd s v1 v2=some p->okB v1->okB v2->okB p.v1/\okB p.v2/\(p.ret=true->p.bR=none)
theorem VO{ek:List St->AV->AV->Option fx}{rd:mF}(hr:Pp rd)(he:∀l v1 v2 p,ek l v1 v2=some p->okB v1->okB v2->okB p.v1/\okB p.v2/\(p.ret=true->p.bR=none)):∀l v1 v2 p,kG ek rd l v1 v2=some p->okB v1->okB v2->okB p.v1/\okB p.v2/\(p.ret=true->p.bR=none)
 |[],v1,v2,p,h,o1,o2=>by
  have h:some (⟨true,v1,v2,none⟩:fx)=some p:=h;injection h with h;subst h
  exact⟨o1,o2,fun _=>rfl⟩
 |s::r,v1,v2,p,h,o1,o2=>by
  unfold kG at h;split at h
  ·cases h
  rename_i q e;obtain⟨a1,a2,a3⟩:=hr _ _ _ _ e o1 o2;split at h
  ·injection h with h;subst h;exact⟨a1,a2,a3⟩
  split at h
  ·cases h
  rename_i q2 e2;obtain⟨b1,b2,b3⟩:=he _ _ _ _ e2 a1 a2;split at h
  ·injection h with h;subst h;exact⟨b1,b2,b3⟩
  split at h
  ·cases h
  rename_i q3 e3;obtain⟨c1,c2,c3⟩:=he _ _ _ _ e3 b1 b2;split at h
  ·injection h with h;subst h;exact⟨c1,c2,c3⟩
  exact VO hr he r _ _ p h c1 c2
theorem Ny(hr:Pp rd):∀k l v1 v2 p,fD rd k l v1 v2=some p->okB v1->okB v2->okB p.v1/\okB p.v2/\(p.ret=true->p.bR=none)
 |0,l,v1,v2,p,h,_,_=>by cases h
 |k+1,l,v1,v2,p,h,o1,o2=>by
  unfold fD at h;split at h
  ·exact VO hr (Ny hr k) l v1 v2 p h o1 o2
  ·cases h
theorem MX{l:List St}{v1 v2:AV}(o1:okB v1)(o2:okB v2):zw rd k (.U (nm<|bA l) 0 l.length) v1 v2=fD rd k l v1 v2:=by unfold zw;rw[aat];exact if_pos ⟨o1,o2⟩
theorem tz(l:List St):AV.hi (.U (nm<|bA l) 0 l.length)=true:=aM.2<|cr _
theorem UT{l:List St}{v1 v2:AV}{p:fx}{c:List AV}{g:Option ab}(ja:K.s1<top)(iK:K.s2<top)(mP:K.s1≠K.s2)(o1:okB v1)(o2:okB v2)(h:fD rd k l v1 v2=some p)(o3:okB p.v1/\okB p.v2):
 bh pg (sp<|dj K rd k::L0) FU 6 (.fn 81) [.U (nm<|bA l) 0 l.length,.yield 270] (sA K none v1 v2 c g)= .ok (.bool p.ret) (sA K p.bR p.v1 p.v2 c g):=by
 have ux:sp (dj K rd k::L0) 81=some (qR K (zw rd k) 270 eK dX):=by kernel_rfl
 have I:KP K (sA K none v1 v2 c g) 270 271 272 273 v1 v2:=by
  refine⟨rfl,(aM.1 aX:276<=top),⟨by show 270<276;omega,by show 271<276;omega,by show 272<276;omega,by show 273<276;omega⟩,⟨by omega,by omega,by omega,by omega,by omega,by omega⟩,⟨aQ [(K.s1,.ptr<|some (272,0)),(K.s2,.ptr<|some (273,0))],?_,(US ja iK mP 272 273).1,(US ja iK mP 272 273).2⟩,?_,⟨eM v1,?_,wM _⟩,⟨eM v2,?_,wM _⟩⟩
  ·as_aux_lemma=>kernel_rfl
  ·as_aux_lemma=>kernel_rfl
  ·as_aux_lemma=>kernel_rfl
  ·as_aux_lemma=>kernel_rfl
 have key:=N8 (P:=pg) (F:=FU) (n:=5) ux (tz l) cH I ((MX o1 o2).trans h) o1 o2 o3.1 o3.2;rw[show Lo K (sA K none v1 v2 c g) 270 271 272 273 p=sA K p.bR p.v1 p.v2 c g from by as_aux_lemma=>kernel_rfl] at key;exact key
theorem abo(hP:bE pg)(R:yx K (dj K rd k::L0) rd)(h':aU<|dj K rd k::L0){L:bV}(h:aU L):aU<|dj K rd (k+1)::L:=by
 refine VF hP hZ (aM.1 aX) R.s1 R.s2 R.ET iS ig lV lC h h' Tryz.func81 (body:=a9 pg 81 []) aX aX fun x v1 v2 p e=>?_;unfold zw at e;split at e
 ·cases e
 rename_i l el;rw[aau el];split at e;rotate_left
 ·cases e
 rename_i ok;unfold fD at e;split at e;rotate_left
 ·cases e
 rename_i hlen;have hlen:=of_decide_eq_true hlen;have hg:Pp rd:=fun s a b p e x y=>(R.run s a b p e x y).1;refine⟨aM.1 aX,fun B mc=>?_⟩;show au pg B 274 (rR K 270 pg (az Tryz.f81) p) (sF 81 Tryz.f81 [.U (nm<|bA l) 0 l.length,.yield 270])<|ak (oE K v1 v2) 274;have key:∀(r:List St) (i:Nat) (v1 v2:AV) (p:fx),l.drop i=r->okB v1->okB v2->kG (fD rd k) rd r v1 v2=some p->au pg B 274 (rR K 270 pg (az Tryz.f81) p) (rJ (nm<|bA l) l.length i) (ak (oE K v1 v2) 274):=by
  intro r;induction r with
  |nil=>
   intro i v1 v2 p hr _ _ e;have e:some (⟨true,v1,v2,none⟩:fx)=some p:=e;injection e with e;subst e
   exact af2 mc (by have:l.length<=i:=List.drop_eq_nil_iff.1 hr;omega)
  |cons a r ih=>
   intro i v1 v2 p hr o1 o2 e;have hl:i<l.length:=by
    by_cases q:i<l.length
    ·exact q
    ·rw[List.drop_of_length_le ae] at hr;cases hr
   have ha:l[i]? =some a:=by have:=congrArg (fun q=>q[0]?) hr;simp only[List.getElem?_drop,List.getElem?_cons_zero,Nat.add_zero] at this;exact this
   have lF:l.drop (i+1)=r:=by have:=congrArg (List.drop 1) hr;rw[List.drop_drop] at this;exact this
   have hx:=FH ha (z:=(i:Int)) ae;unfold kG at e;split at e
   ·cases e
   rename_i q eq1;obtain⟨⟨a1,a2,a3⟩,g,run⟩:=R.run _ _ _ _ eq1 o1 o2;obtain⟨kd,to,⟨oa,na,la⟩,⟨ob,nb,lb⟩,bd,el⟩:=a;rw[aP,aD,aD] at hx run;split at e
   ·rename_i qr;injection e with e;subst e
    rw[qr] at run;obtain⟨ret,w1,w2,bR⟩:=q;simp only at qr;subst qr;exact ai1 (u1:=v1) (u2:=v2) (x1:=v1) (x2:=v2) (pf:=⟨true,v1,v2,none⟩) mc (cr _) ae hlen hx run ae
   rename_i qr;rw[qr,a3 qr] at run;split at e
   ·cases e
   rename_i q2 Yb;obtain⟨b1,b2,b3⟩:=Ny hg _ _ _ _ _ Yb a1 a2;have hb:=UT (K:=K) (L0:=L0) (c:=[(u8<|kd),(i6 to),(u8<|oa),(i6 na),(.U (nm<|cN la) 0 la.length),(u8<|ob),(i6 nb),(.U (nm<|cN lb) 0 lb.length),(.U (nm<|bA bd) 0 bd.length),(.U (nm<|bA el) 0 el.length)]) (g:=g) R.s1 R.s2 R.ET a1 a2 Yb ⟨b1,b2⟩;split at e
   ·rename_i EU;injection e with e;subst e
    rw[EU] at hb;obtain⟨amV,u1,u2,amM⟩:=q2;simp only at EU;subst EU;exact ai2 (x1:=v1) (x2:=v2) (pf:=⟨true,v1,v2,none⟩) mc (cr _) ae hlen hx run hb ae
   rename_i EU;rw[EU,b3 EU] at hb;split at e
   ·cases e
   rename_i q3 Yc;obtain⟨c1,c2,c3⟩:=Ny hg _ _ _ _ _ Yc b1 b2;have ho:=UT (K:=K) (L0:=L0) (c:=[(u8<|kd),(i6 to),(u8<|oa),(i6 na),(.U (nm<|cN la) 0 la.length),(u8<|ob),(i6 nb),(.U (nm<|cN lb) 0 lb.length),(.U (nm<|bA bd) 0 bd.length),(.U (nm<|bA el) 0 el.length)]) (g:=g) R.s1 R.s2 R.ET b1 b2 Yc ⟨c1,c2⟩;split at e
   ·rename_i EV;injection e with e;subst e
    rw[EV] at ho;obtain⟨amW,x1,x2,amN⟩:=q3;simp only at EV;subst EV;exact ai3 (pf:=⟨true,v1,v2,none⟩) mc (cr _) ae hlen hx run hb ho ae
   rename_i EV;rw[EV,c3 EV] at ho;exact ai4 (bR:=none) mc (cr _) ae hlen hx run hb ho ae R.s1 R.s2 R.ET c1 c2<|ih (i+1) _ _ _ lF c1 c2 e
 exact ag1 mc (cr _) R.s1 R.s2 R.ET ok.1 ok.2<|key l 0 v1 v2 p List.drop_zero ok.1 ok.2 e
theorem AM(hP:bE pg){K:Cb}{rd:mF}{L0:bV}(R:∀k,yx K (dj K rd k::L0) rd)(h0:aU L0):∀(k:Nat) {L:bV},aU L->aU (dj K rd k::L)
 |0,L,h=>by
  refine VF hP hZ (aM.1 aX) (R 0).s1 (R 0).s2 (R 0).ET iS ig lV lC h cJ Tryz.func81 (body:=a9 pg 81 []) aX aX fun x v1 v2 p e=>?_;unfold zw at e;split at e
  ·cases e
  split at e
  ·cases e
  ·cases e
 |k+1,L,h=>abo hP (R k) (AM hP R h0 k h0) h
end nE
end
section
open Go Go.Rn Go.RowKit Go.Proofs
namespace ue
open cv cG cR cW eH fy dt uA nQ nE
variable {rd:mF} {k N L kd:Nat} {p:fx} {B:aL} {v:AV} {n2 n1:Int}
noncomputable section
theorem Hz(v:AV)(s:AS):(none:Option Nat)=none/\([]:List Nat)=[]/\(some (v,s):Option<|AV×AS)=some (v,s):=⟨rfl,rfl,rfl⟩
def ko(L:bV):Env:=x9 pg 270 eK dX L 270 false
def EW:Code:=a9 pg 62 [1,0,1,0,0]
def Cw:Code:=a9 pg 62 [1,0,1,0,1]
def KC:Cb:=⟨62,21,[7],EW,Cw,2,3⟩
def sBC(v1 v2:AV)(c:List AV):AS:=⟨((sE KC v1 v2 c).h.put 275<|some<|.cells 10 (Tr.fill c 0 .nil) []).put 270<|some<|.loop .busy none 62 (aQ [(2,.ptr<|some (272,0)),(3,.ptr<|some (273,0))]) 21 [7] EW Cw 271,276,0,[],[]⟩
noncomputable abbrev rB(kk to oa na:Int)(Na La:Nat)(ob nb:Int)(Nb Lb Nd ld Ne le:Nat):List AV:=[(u8<|kk),(i6 to),(u8<|oa),(i6 na),(.U Na 0 La),(u8<|ob),(i6 nb),(.U Nb 0 Lb),(.U Nd 0 ld),(.U Ne 0 le)]
theorem ag2{Na La Nb Lb Nd ld Ne le:Nat}{kk to oa na ob nb:Int}{ca cb:Int}(h1:0<=n1/\n1<1000000000000)(h2:0<=n2/\n2<1000000000000)(h3:0<=ca/\ca<=1000000)(h4:0<=cb/\cb<=1000000)(hca:bg (aW<|zd kd) [(.agg [(u8<|oa),(i6 na),(.U Na 0 La)])]=some (.int .i64 ca))(hcb:bg (aW<|zd kd) [(.agg [(u8<|ob),(i6 nb),(.U Nb 0 Lb)])]=some (.int .i64 cb)):bh pg (sp<|dj KC rd k::[pt kd]) FU 6 (.round 270) [.agg<|rB kk to oa na Na La ob nb Nb Lb Nd ld Ne le] (sE KC (i6 n1) (i6 n2)<|rB kk to oa na Na La ob nb Nb Lb Nd ld Ne le)= .ok (.bool true) (sA KC none (i6<|n1+1) (i6<|n2+(ca+cb)) (rB kk to oa na Na La ob nb Nb Lb Nd ld Ne le)<|some<|.cells 10 (Tr.fill (rB kk to oa na Na La ob nb Nb Lb Nd ld Ne le) 0 .nil) []):=Fe (st:=.ready) (bR:=none) (fn:=62) (nt:=21) (d:=271) (t:=(aQ [(2,.ptr<|some (272,0)),(3,.ptr<|some (273,0))])) (ps:=[7]) (a:=EW) (b:=Cw) (s0:=sE KC (i6 n1) (i6 n2)<|rB kk to oa na Na La ob nb Nb Lb Nd ld Ne le) cH rfl<|Chunk.ev 2 ⟨62,jy [7] [.agg<|rB kk to oa na Na La ob nb Nb Lb Nd ld Ne le]<|aQ [(2,.ptr<|some (272,0)),(3,.ptr<|some (273,0))],21,[.code EW,.beginRound,.code Cw],[],some 270⟩ ⟨62,((jy [7] [.agg<|rB kk to oa na Na La ob nb Nb Lb Nd ld Ne le]<|aQ [(2,.ptr<|some (272,0)),(3,.ptr<|some (273,0))]).put 4<|some<|.ptr<|some (275,0)),21,[.code Cw],[],some 270⟩ _ (sBC (i6 n1) (i6 n2)<|rB kk to oa na Na La ob nb Nb Lb Nd ld Ne le) cH<|C1 (E:=ko<|dj KC rd k::[pt kd]) (C:=(fun fr s1 _=>fr.round=none/\fr.defers=[]/\AY pg (bh pg (sp<|dj KC rd k::[pt kd]) FU 5) 270 fr s1=some ((.bool true),(sA KC none (i6<|n1+1) (i6<|n2+(ca+cb)) (rB kk to oa na Na La ob nb Nb Lb Nd ld Ne le)<|some<|.cells 10 (Tr.fill (rB kk to oa na Na La ob nb Nb Lb Nd ld Ne le) 0 .nil) [])))) fm rfl (fun fr s p h=>Fc h.1 h.2.1 h.2.2) 900 (.st 2<|.rg<|.go 1<|.vl (i6<|n1+1)<|.go 1<|.en<|.rg<|.go 3<|.kn (i6 ca)<|.go 2<|.kn (i6 cb)<|.vl (i6<|ca+cb)<|.vl (i6<|n2+(ca+cb))<|.go 1<|.en<|.st 1<|.cut .no)<|ai (wI<|n1+1)<|ai hca<|ai hcb<|ai (wI<|ca+cb)<|ai (wI<|n2+(ca+cb))<|Hz (.bool true)<|sA KC none (i6<|n1+1) (i6<|n2+(ca+cb)) (rB kk to oa na Na La ob nb Nb Lb Nd ld Ne le)<|some<|.cells 10 (Tr.fill (rB kk to oa na Na La ob nb Nb Lb Nd ld Ne le) 0 .nil) []
def yy(N L:Nat):List<|Nat×AV:=[(2,(.ptr<|some (270,0))),(3,(.ptr<|some (271,0))),(6,(.func (.func 80) [] [(.ptr<|some (272,0))]))]
def sq(v1 v2:AV)(N L:Nat):List<|Nat×Option ab:=ar++[(270,some<|eM v1),(271,some<|eM v2),(272,(some<|.cells 1 (Tr.fill [(.U N 0 L)] 0 .nil) []))]
def yz(v1 v2:AV)(N L:Nat):AS:=ak (sq v1 v2 N L++[(273,some .defs),(274,some<|.loop .ready none 62 (aQ<|yy N L) 21 KC.ps EW Cw 273)]) 275
def sr(p:fx)(N L:Nat):AS:=ak (sq p.v1 p.v2 N L++[(273,some .defs),(274,some<|Cb.loop KC p.bR 270 271 273)]) 275
def Lu(p:fx)(N L:Nat):AS:=ak (sq p.v1 p.v2 N L++[(273,some .defs),(274,some<|.loop .exhausted p.bR KC.fn (aQ [(KC.s1,.ptr<|some (270,0)),(KC.s2,.ptr<|some (271,0))]) KC.nt KC.ps KC.a KC.b 273)]) 275
theorem ag3{L0:bV}{v1 v2:AV}{l:List St}(hN:N=nm (bA l))(hl:L=l.length)(o1:okB v1)(o2:okB v2)(h:fD rd k l v1 v2=some p)(o3:okB p.v1/\okB p.v2):
 bh pg (sp<|dj KC rd k::L0) FU 5 (.fn 81) [.U N 0 L,.yield 274] (yz v1 v2 N L)= .ok (.bool p.ret) (sr p N L):=by
 subst hN;subst hl;have ux:sp (dj KC rd k::L0) 81=some (qR KC (zw rd k) 270 eK dX):=by kernel_rfl
 have I:KP KC (yz v1 v2 (nm<|bA l) l.length) 274 273 270 271 v1 v2:=by
  refine⟨rfl,(aM.1 aX:275<=top),⟨by show 274<275;omega,by show 273<275;omega,by show 270<275;omega,by show 271<275;omega⟩,⟨by omega,by omega,by omega,by omega,by omega,by omega⟩,⟨aQ<|yy (nm<|bA l) l.length,?_,?_,?_⟩,?_,⟨eM v1,?_,wM _⟩,⟨eM v2,?_,wM _⟩⟩
  all_goals (as_aux_lemma=>kernel_rfl)
 have key:=N8 (P:=pg) (F:=FU) (n:=4) ux (tz l) cH I ((MX o1 o2).trans h) o1 o2 o3.1 o3.2;rw[show Lo KC (yz v1 v2 (nm<|bA l) l.length) 274 273 270 271 p=sr p (nm<|bA l) l.length from by as_aux_lemma=>kernel_rfl] at key;exact key
theorem ai5{v1 v2:AV}(hE:bh pg (sp<|dj KC rd k::[pt kd]) FU 5 (.fn 81) [.U N 0 L,.yield 274] (yz v1 v2 N L)= .ok (.bool p.ret) (sr p N L)):pV (ko<|dj KC rd k::[pt kd]) 5 (az Tryz.f80) (fun v s=>v= .tuple []/\s=(sr p N L)) (sF 80 Tryz.f80 [.yield 274,.ptr<|some (272,0)])<|yz v1 v2 N L:=by exact DO (C:=fun _ _ _=>False) fm rfl (fun _ _ _ h=>h.elim) 900 (.rg<|.go 2<|.cu (.bool p.ret) (sr p N L)<|.en<|.rt 1 .no)<|ai hE (show(AV.tuple []=AV.tuple []/\(sr p N L)=(sr p N L)) from⟨rfl,rfl⟩)
theorem alC{v1 v2:AV}(hE:bh pg (sp<|dj KC rd k::[pt kd]) FU 5 (.fn 81) [.U N 0 L,.yield 274] (yz v1 v2 N L)= .ok (.bool p.ret) (sr p N L)):bh pg (sp<|dj KC rd k::[pt kd]) FU 6 (.fn 80) [.yield 274,.ptr<|some (272,0)] (yz v1 v2 N L)= .ok (.tuple []) (sr p N L):=by obtain⟨v,s2,h1,rfl,rfl⟩:=pV.call (E:=ko<|dj KC rd k::[pt kd]) (n:=5) Tryz.func80 (CV Tryz.func80 cH)<|ai5 (v1:=v1) (v2:=v2) hE;exact h1
theorem xH:a9 pg 62 [1,0,1,0]= .rangeFunc (.tmp 6) #[7] EW Cw:=by kernel_rfl
def Lv:List Item:=[.inBlock 0,.code<|a9 pg 62 [1,1]]
def Ek(N L:Nat):AF:=⟨62,aQ<|yy N L,21,.code (a9 pg 62 [1,0,1,0])::Lv,[],none⟩
theorem ag4:lN 274 (sr p N L)= .ok p.bR (Lu p N L):=by
 obtain⟨r,v1,v2,bR⟩:=p;cases bR with
 |none=>as_aux_lemma=>kernel_rfl
 |some c=>as_aux_lemma=>kernel_rfl
theorem rgC{v1 v2:AV}(mc:Mt (dj KC rd k::[pt kd]) B)(hE:bh pg (sp<|dj KC rd k::[pt kd]) FU 5 (.fn 81) [.U N 0 L,.yield 274] (yz v1 v2 N L)= .ok (.bool p.ret) (sr p N L))(H:au pg B 270 (Fin pg (az Tryz.f62) fun y _=>y=v) ⟨62,aQ<|yy N L,21,andThen p.bR Lv,[273],none⟩<|Lu p N L):au pg B 270 (Fin pg (az Tryz.f62) fun y _=>y=v) (Ek N L)<|ak (sq v1 v2 N L) 273:=by unfold Ek;rw[xH];exact au.chunk bY mc.2.2.1 mc.2.2.2 (II (gv:=.func (.func 80) [] [.ptr<|some (272,0)]) (s1:=ak (sq v1 v2 N L++[(273,some .defs)]) 274) (s2:=yz v1 v2 N L) cH cH cH (alC (rd:=rd) (k:=k) (kd:=kd) hE) (show lN 274 (sr p N L)= .ok p.bR (Lu p N L) from ag4)) (by show 270<=273;omega) H
theorem ai6(N L:Nat):((yy N L).map (fun q=>some q.2)=(yy N L).map (fun q=>some q.2))/\((sq (.int .i64 0) (.int .i64 0) N L).map (fun q=>q.2)=(sq (.int .i64 0) (.int .i64 0) N L).map (fun q=>q.2))/\(Ek N L=Ek N L/\ak (sq (.int .i64 0) (.int .i64 0) N L) 273=ak (sq (.int .i64 0) (.int .i64 0) N L) 273):=⟨rfl,rfl,rfl,rfl⟩
theorem goC(mc:Mt (dj KC rd k::[pt kd]) B)(hn:top<=N)(H:au pg B 270 (Fin pg (az Tryz.f62) fun y _=>y=v) (Ek N L)<|ak (sq (.int .i64 0) (.int .i64 0) N L) 273):au pg B 270 (Fin pg (az Tryz.f62) fun y _=>y=v) (sF 62 Tryz.f62 [(.U N 0 L)])<|ak ar 270:=by exact wC mc (C:=(fun fr s1 _=>fr=Ek N L/\s1=ak (sq (.int .i64 0) (.int .i64 0) N L) 273)) nr (.st 4<|.rg<|.go 1<|.il<|.rt 5<|.en<|.st 1<|.ls (yy N L) (sq (.int .i64 0) (.int .i64 0) N L) 273 .no)<|ai6 N L
theorem enC{r:Bool}(mc:Mt (dj KC rd k::[pt kd]) B):au pg B 270 (Fin pg (az Tryz.f62) fun y _=>y= .tuple [.int .i64 n1,.int .i64 n2]) ⟨62,aQ<|yy N L,21,andThen none Lv,[273],none⟩<|Lu ⟨r,.int .i64 n1,.int .i64 n2,none⟩ N L:=(MY (l:=273) (k:=8) (fr:=⟨62,aQ<|yy N L,21,Lv,[],none⟩) bY mc.2.2.1 mc.2.2.2 rfl rfl cH).2.2 (by show 270<=275;omega)
end
end ue
end
section
open Go Go.Rn Go.RowKit Go.Proofs
namespace qx
open cv cG cR cW eH BS fy zN dt uA nQ nE ue
variable {kd:Nat} {e:Ex}
noncomputable section
def iq:St->Ex
 | .mk _ _ a _ _ _=>a
def gu:St->Ex
 | .mk _ _ _ b _ _=>b
def Pr(kd:Nat)(s:St)(n1 n2:Int):Prop:=(0<=n1/\n1<1000000000000)/\(0<=n2/\n2<1000000000000)/\tO kd (iq s)=true/\tO kd (gu s)=true/\lq kd (iq s)<=1000000/\lq kd (gu s)<=1000000
open Classical in
def pa(kd:Nat):mF:=fun s v1 v2=>match v1,v2 with
 | .int .i64 n1,.int .i64 n2=>if Pr kd s n1 n2 then some ⟨true,.int .i64<|n1+1,.int .i64<|n2+(mj kd (iq s)+mj kd (gu s)),none⟩ else none
 |_,_=>none
theorem wz(n:Int):okB<|.int .i64 n:=⟨rfl,rfl⟩
theorem T7(h:tO kd e=true)(h2:lq kd e<=1000000):0<=mj kd e/\mj kd e<=1000000:=by have:=Fq kd e h;unfold mj;split<;>omega
theorem T8(h:tO kd e=true)(h2:lq kd e<=1000000):bg (aW<|zd kd) [.agg<|aD e]=some (i6<|mj kd e):=fH (fB zd.bW ⟨e,rfl,h,h2,rfl⟩) rP rfl
theorem UU{s:St}{v1 v2:AV}{p:fx}(h:pa kd s v1 v2=some p):∃n1 n2,v1= .int .i64 n1/\v2= .int .i64 n2/\Pr kd s n1 n2/\p=⟨true,.int .i64<|n1+1,.int .i64<|n2+(mj kd (iq s)+mj kd (gu s)),none⟩:=by
 unfold pa at h;split at h
 ·rename_i n1 n2;split at h
  ·rename_i q;injection h with h
   exact⟨n1,n2,rfl,rfl,q,h.symm⟩
  ·cases h
 ·cases h
theorem ai7(kd k:Nat):yx KC (dj KC (pa kd) k::[pt kd])<|pa kd:=by refine⟨aM.1 aX,aM.1 aX,(by show(2:Nat)≠3;omega),fun s v1 v2 p h _ _=>?_⟩;obtain⟨n1,n2,rfl,rfl,⟨h1,h2,h3,h4,h5,h6⟩,rfl⟩:=UU h;refine⟨⟨wz _,wz _,fun _=>rfl⟩,some<|.cells 10 (Tr.fill (aP s) 0 .nil) [],?_⟩;have ca:=T8 h3 h5;have cb:=T8 h4 h6;have na:=T7 h3 h5;have nb:=T7 h4 h6;obtain⟨kk,to,⟨oa,xa,la⟩,⟨ob,xb,lb⟩,bd,el⟩:=s;simp only[iq,gu] at ca cb na nb ⊢;rw[aP,aD,aD];rw[aD] at ca cb;exact ag2 h1 h2 na nb ca cb
def P5(p:fx):Prop:=p.ret=true/\p.bR=none/\∃n1 n2,p.v1= .int .i64 n1/\p.v2= .int .i64 n2
theorem UW{kd:Nat}{ek:List St->AV->AV->Option fx}(he:∀l n1 n2 p,ek l (.int .i64 n1) (.int .i64 n2)=some p->P5 p):∀l n1 n2 p,kG ek (pa kd) l (.int .i64 n1) (.int .i64 n2)=some p->P5 p
 |[],n1,n2,p,h=>by
  have h:some (⟨true,.int .i64 n1,.int .i64 n2,none⟩:fx)=some p:=h;injection h with h;subst h
  exact⟨rfl,rfl,_,_,rfl,rfl⟩
 |s::r,n1,n2,p,h=>by
  unfold kG at h;split at h
  ·cases h
  rename_i q e;obtain⟨m1,m2,e1,e2,_,rfl⟩:=UU e;cases e1;cases e2;simp only at h;split at h
  ·cases h
  rename_i q2 e2;obtain⟨b1,b2,x1,x2,y1,y2⟩:=he _ _ _ _ e2;rw[b1] at h;simp only at h;rw[y1,y2] at h;split at h
  ·cases h
  rename_i q3 e3;obtain⟨c1,c2,x3,x4,y3,y4⟩:=he _ _ _ _ e3;rw[c1] at h;simp only at h;rw[y3,y4] at h;exact UW he r _ _ p h
theorem Tm:∀k l n1 n2 p,fD (pa kd) k l (.int .i64 n1) (.int .i64 n2)=some p->P5 p
 |0,_,_,_,_,h=>by cases h
 |k+1,l,n1,n2,p,h=>by
  unfold fD at h;split at h
  ·exact UW (Tm k) l n1 n2 p h
  ·cases h
def BT(kd k:Nat)(args:List AV)(v:AV):Prop:=∃(l:List St) (p:fx),args=[.U (nm<|bA l) 0 l.length]/\fD (pa kd) k l (.int .i64 0) (.int .i64 0)=some p/\v= .tuple [p.v1,p.v2]
theorem aeb{l l':List St}(h:[AV.U (nm<|bA l) 0 l.length]=[.U (nm<|bA l') 0 l'.length]):l=l':=by
 injection h with h _
 injection h with h1 _ _
 exact sN _ _<|ti (lL _) (lL _) h1
theorem BT.bW{k:Nat}(args:List AV)(v v':AV)(h:BT kd k args v)(h':BT kd k args v'):v=v':=by
 obtain⟨l,p,rfl,a,rfl⟩:=h;obtain⟨l',p',h1,a',rfl⟩:=h';rw[aeb h1,a'] at a;injection a with a
 rw[a]
def lD(kd k:Nat):FuncId×KE:=(62,.val<|aW<|BT kd k)
theorem aec(hP:bE pg)(kd k:Nat){L:bV}(h:aU L):aU<|lD kd k::L:=by refine ij hP h (AM hP (fun k=>ai7 kd k) (Th hP kd cJ) k<|Th hP kd cJ) Tryz.func62 fun args v e=>?_;obtain⟨l,p,rfl,he,rfl⟩:=gH e;refine⟨aM.1 aX,fun B mc=>?_⟩;rw[←gY];obtain⟨r1,r2,n1,n2,v1,v2⟩:=Tm k l 0 0 p he;obtain⟨ret,w1,w2,bR⟩:=p;simp only at r1 r2 v1 v2;subst r1;subst r2;subst v1;subst v2;exact goC (rd:=pa kd) (k:=k) (kd:=kd) mc (cr _)<|rgC mc (ag3 (rd:=pa kd) (k:=k) rfl rfl (wz _) (wz _) he ⟨wz _,wz _⟩)<|enC mc
end
end qx
end
section
open Go Go.Rn Go.RowKit Go.Proofs
namespace zO
open cv cG cR cW eV eH fy dt uA ER vT xK nQ nE
variable {xb xa to ob oa nb na:Int} {ld Ne Nd Nb Na Lb La:Nat} {B:aL}
theorem ag5{le:Nat}{kk z xa xb:Int}(mc:Mt [wy,vD,vC] B)(ho:bg (aW km) [.int .u8 kk]=some (.agg [.bool false,.bool false,.bool false,.bool false,.bool false,.bool false])):au pg B 270 (Fin pg (az Tryz.f64) fun y _=>y=(.bool<|decide<|False)) (sF 64 Tryz.f64 [(.agg [(u8<|kk),(i6 to),(u8<|oa),(i6 na),(.U Na 0 La),(u8<|ob),(i6 nb),(.U Nb 0 Lb),(.U Nd 0 ld),(.U Ne 0 le)]),(i6 z)])<|ak ar 270:=by exact wS mc (.st 3<|.rg<|.go 2<|.kn (.agg [(.bool false),(.bool false),(.bool false),(.bool false),(.bool false),(.bool false)])<|.go 2<|.en<|.rt 10 .no)<|ai ho (show AV.bool false= .bool (decide<|False) from by rw[decide_eq_false fun h=>h])
theorem aed:bg (aW km) [.int .u8 1]=some (.agg [(.bool true),(.bool true),(.bool true),(.bool false),(.bool false),(.bool false)]):=fH (fB km.bW ⟨1,rfl,by omega,by omega,rfl⟩) (by rfl) rfl
theorem ag6{le:Nat}{z:Int}(mc:Mt [wy,vD,vC] B)(ha:bg (aW oT) [(.agg [(u8<|oa),(i6 na),(.U Na 0 La)]),.int .i64 z]=some (.bool<|decide<|xa=1))(hb:bg (aW m8) [(.agg [(u8<|ob),(i6 nb),(.U Nb 0 Lb)])]=some (.bool<|decide<|xb=1)):au pg B 270 (Fin pg (az Tryz.f64) fun y _=>y=(.bool<|decide<|0<=to/\to<8/\xa=1/\xb=1/\ld=0/\le=0)) (sF 64 Tryz.f64 [(.agg [(u8<|.ofNat 1),(i6 to),(u8<|oa),(i6 na),(.U Na 0 La),(u8<|ob),(i6 nb),(.U Nb 0 Lb),(.U Nd 0 ld),(.U Ne 0 le)]),(i6 z)])<|ak ar 270:=by exact wS mc (.st 3<|.rg<|.go 2<|.kn (.agg [(.bool true),(.bool true),(.bool true),(.bool false),(.bool false),(.bool false)])<|.go 2<|.en<|.st 8<|.rg<|.go 2<|.fk (.go 16<|.en<|.rt 4 .no)<|.go 3<|.fk (.go 12<|.en<|.rt 4 .no)<|.go 12<|.en<|.st 4<|.rg<|.go 5<|.il<|.st 7<|.rg<|.go 2<|.kp (xa=1) inferInstance (.go 1<|.en<|.rt 1<|.go 6<|.il<|.st 8<|.rg<|.go 1<|.kp (xb=1) inferInstance (.go 1<|.en<|.rt 1<|.go 8<|.fk (.go 9<|.fk (.go 3<|.en<|.rt 1 .no)<|.go 3<|.en<|.rt 1 .no)<|.go 13<|.en<|.rt 1 .no)<|.go 1<|.en<|.rt 1<|.go 22<|.en<|.rt 1 .no)<|.go 1<|.en<|.rt 1<|.go 29<|.en<|.rt 1 .no)<|ai (aed) X0
theorem aee:bg (aW km) [.int .u8 2]=some (.agg [(.bool true),(.bool true),(.bool true),(.bool false),(.bool false),(.bool false)]):=fH (fB km.bW ⟨2,rfl,by omega,by omega,rfl⟩) (by rfl) rfl
theorem ag7{le:Nat}{z:Int}(mc:Mt [wy,vD,vC] B)(ha:bg (aW oT) [(.agg [(u8<|oa),(i6 na),(.U Na 0 La)]),.int .i64 z]=some (.bool<|decide<|xa=1))(hb:bg (aW m8) [(.agg [(u8<|ob),(i6 nb),(.U Nb 0 Lb)])]=some (.bool<|decide<|xb=1)):au pg B 270 (Fin pg (az Tryz.f64) fun y _=>y=(.bool<|decide<|0<=to/\to<8/\xa=1/\xb=1/\ld=0/\le=0)) (sF 64 Tryz.f64 [(.agg [(u8<|.ofNat 2),(i6 to),(u8<|oa),(i6 na),(.U Na 0 La),(u8<|ob),(i6 nb),(.U Nb 0 Lb),(.U Nd 0 ld),(.U Ne 0 le)]),(i6 z)])<|ak ar 270:=by exact wS mc (.st 3<|.rg<|.go 2<|.kn (.agg [(.bool true),(.bool true),(.bool true),(.bool false),(.bool false),(.bool false)])<|.go 2<|.en<|.st 8<|.rg<|.go 2<|.fk (.go 16<|.en<|.rt 4 .no)<|.go 3<|.fk (.go 12<|.en<|.rt 4 .no)<|.go 12<|.en<|.st 4<|.rg<|.go 5<|.il<|.st 7<|.rg<|.go 2<|.kp (xa=1) inferInstance (.go 1<|.en<|.rt 1<|.go 6<|.il<|.st 8<|.rg<|.go 1<|.kp (xb=1) inferInstance (.go 1<|.en<|.rt 1<|.go 8<|.fk (.go 9<|.fk (.go 3<|.en<|.rt 1 .no)<|.go 3<|.en<|.rt 1 .no)<|.go 13<|.en<|.rt 1 .no)<|.go 1<|.en<|.rt 1<|.go 22<|.en<|.rt 1 .no)<|.go 1<|.en<|.rt 1<|.go 29<|.en<|.rt 1 .no)<|ai (aee) X0
theorem aef:bg (aW km) [.int .u8 3]=some (.agg [(.bool true),(.bool false),(.bool true),(.bool true),(.bool false),(.bool false)]):=fH (fB km.bW ⟨3,rfl,by omega,by omega,rfl⟩) (by rfl) rfl
theorem ag8{le:Nat}{z:Int}(mc:Mt [wy,vD,vC] B)(ha:bg (aW oT) [(.agg [(u8<|oa),(i6 na),(.U Na 0 La)]),.int .i64 z]=some (.bool<|decide<|xa=1))(hb:bg (aW oT) [(.agg [(u8<|ob),(i6 nb),(.U Nb 0 Lb)]),.int .i64 z]=some (.bool<|decide<|xb=1)):au pg B 270 (Fin pg (az Tryz.f64) fun y _=>y=(.bool<|decide<|0<=to/\to<8/\to=0/\xa=1/\xb=1/\ld=0/\le=0)) (sF 64 Tryz.f64 [(.agg [(u8<|.ofNat 3),(i6 to),(u8<|oa),(i6 na),(.U Na 0 La),(u8<|ob),(i6 nb),(.U Nb 0 Lb),(.U Nd 0 ld),(.U Ne 0 le)]),(i6 z)])<|ak ar 270:=by exact wS mc (.st 3<|.rg<|.go 2<|.kn (.agg [(.bool true),(.bool false),(.bool true),(.bool true),(.bool false),(.bool false)])<|.go 2<|.en<|.st 8<|.rg<|.go 2<|.fk (.go 16<|.en<|.rt 4 .no)<|.go 3<|.fk (.go 12<|.en<|.rt 4 .no)<|.go 8<|.fk (.go 3<|.en<|.rt 4 .no)<|.go 3<|.en<|.st 4<|.rg<|.go 5<|.il<|.st 7<|.rg<|.go 2<|.kp (xa=1) inferInstance (.go 1<|.en<|.rt 1<|.go 6<|.il<|.st 7<|.rg<|.go 2<|.kp (xb=1) inferInstance (.go 1<|.en<|.rt 1<|.go 8<|.fk (.go 9<|.fk (.go 3<|.en<|.rt 1 .no)<|.go 3<|.en<|.rt 1 .no)<|.go 13<|.en<|.rt 1 .no)<|.go 1<|.en<|.rt 1<|.go 22<|.en<|.rt 1 .no)<|.go 1<|.en<|.rt 1<|.go 29<|.en<|.rt 1 .no)<|ai (aef) QK
theorem aeg:bg (aW km) [.int .u8 4]=some (.agg [(.bool true),(.bool false),(.bool true),(.bool false),(.bool true),(.bool true)]):=fH (fB km.bW ⟨4,rfl,by omega,by omega,rfl⟩) (by rfl) rfl
theorem ag9{le:Nat}{z:Int}(mc:Mt [wy,vD,vC] B)(ha:bg (aW oT) [(.agg [(u8<|oa),(i6 na),(.U Na 0 La)]),.int .i64 z]=some (.bool<|decide<|xa=1))(hb:bg (aW m8) [(.agg [(u8<|ob),(i6 nb),(.U Nb 0 Lb)])]=some (.bool<|decide<|xb=1)):au pg B 270 (Fin pg (az Tryz.f64) fun y _=>y=(.bool<|decide<|0<=to/\to<8/\to=0/\xa=1/\xb=1)) (sF 64 Tryz.f64 [(.agg [(u8<|.ofNat 4),(i6 to),(u8<|oa),(i6 na),(.U Na 0 La),(u8<|ob),(i6 nb),(.U Nb 0 Lb),(.U Nd 0 ld),(.U Ne 0 le)]),(i6 z)])<|ak ar 270:=by exact wS mc (.st 3<|.rg<|.go 2<|.kn (.agg [(.bool true),(.bool false),(.bool true),(.bool false),(.bool true),(.bool true)])<|.go 2<|.en<|.st 8<|.rg<|.go 2<|.fk (.go 16<|.en<|.rt 4 .no)<|.go 3<|.fk (.go 12<|.en<|.rt 4 .no)<|.go 8<|.fk (.go 3<|.en<|.rt 4 .no)<|.go 3<|.en<|.st 4<|.rg<|.go 5<|.il<|.st 7<|.rg<|.go 2<|.kp (xa=1) inferInstance (.go 1<|.en<|.rt 1<|.go 6<|.il<|.st 8<|.rg<|.go 1<|.kp (xb=1) inferInstance (.go 1<|.en<|.rt 1<|.go 22<|.en<|.rt 1 .no)<|.go 1<|.en<|.rt 1<|.go 22<|.en<|.rt 1 .no)<|.go 1<|.en<|.rt 1<|.go 29<|.en<|.rt 1 .no)<|ai (aeg) X1
theorem aeh:bg (aW km) [.int .u8 5]=some (.agg [(.bool true),(.bool false),(.bool true),(.bool false),(.bool true),(.bool false)]):=fH (fB km.bW ⟨5,rfl,by omega,by omega,rfl⟩) (by rfl) rfl
theorem aha{le:Nat}{z:Int}(mc:Mt [wy,vD,vC] B)(ha:bg (aW oT) [(.agg [(u8<|oa),(i6 na),(.U Na 0 La)]),.int .i64 z]=some (.bool<|decide<|xa=1))(hb:bg (aW m8) [(.agg [(u8<|ob),(i6 nb),(.U Nb 0 Lb)])]=some (.bool<|decide<|xb=1)):au pg B 270 (Fin pg (az Tryz.f64) fun y _=>y=(.bool<|decide<|0<=to/\to<8/\to=0/\xa=1/\xb=1/\le=0)) (sF 64 Tryz.f64 [(.agg [(u8<|.ofNat 5),(i6 to),(u8<|oa),(i6 na),(.U Na 0 La),(u8<|ob),(i6 nb),(.U Nb 0 Lb),(.U Nd 0 ld),(.U Ne 0 le)]),(i6 z)])<|ak ar 270:=by exact wS mc (.st 3<|.rg<|.go 2<|.kn (.agg [(.bool true),(.bool false),(.bool true),(.bool false),(.bool true),(.bool false)])<|.go 2<|.en<|.st 8<|.rg<|.go 2<|.fk (.go 16<|.en<|.rt 4 .no)<|.go 3<|.fk (.go 12<|.en<|.rt 4 .no)<|.go 8<|.fk (.go 3<|.en<|.rt 4 .no)<|.go 3<|.en<|.st 4<|.rg<|.go 5<|.il<|.st 7<|.rg<|.go 2<|.kp (xa=1) inferInstance (.go 1<|.en<|.rt 1<|.go 6<|.il<|.st 8<|.rg<|.go 1<|.kp (xb=1) inferInstance (.go 1<|.en<|.rt 1<|.go 18<|.fk (.go 3<|.en<|.rt 1 .no)<|.go 3<|.en<|.rt 1 .no)<|.go 1<|.en<|.rt 1<|.go 22<|.en<|.rt 1 .no)<|.go 1<|.en<|.rt 1<|.go 29<|.en<|.rt 1 .no)<|ai (aeh)<|ax (to<0) (fun _=>(show AV.bool false= .bool (decide<|0<=to/\to<8/\to=0/\xa=1/\xb=1/\le=0) from by rw[decide_eq_false ae])) fun _=>(ax (to>=8) (fun _=>(show AV.bool false= .bool (decide<|0<=to/\to<8/\to=0/\xa=1/\xb=1/\le=0) from by rw[decide_eq_false ae])) fun _=>(ax (to≠0) (fun _=>(show AV.bool false= .bool (decide<|0<=to/\to<8/\to=0/\xa=1/\xb=1/\le=0) from by rw[decide_eq_false ae])) fun _=>(ai ha<|ax (xa=1) (fun _=>(ai hb<|ax (xb=1) (fun _=>(ax ((le:Int)=0) (fun _=>(show AV.bool true= .bool (decide<|0<=to/\to<8/\to=0/\xa=1/\xb=1/\le=0) from by rw[decide_eq_true ae])) fun _=>(show AV.bool false= .bool (decide<|0<=to/\to<8/\to=0/\xa=1/\xb=1/\le=0) from by rw[decide_eq_false ae]))) fun _=>(show AV.bool false= .bool (decide<|0<=to/\to<8/\to=0/\xa=1/\xb=1/\le=0) from by rw[decide_eq_false ae]))) fun _=>(show AV.bool false= .bool (decide<|0<=to/\to<8/\to=0/\xa=1/\xb=1/\le=0) from by rw[decide_eq_false ae]))))
theorem aei:bg (aW km) [.int .u8 6]=some (.agg [(.bool true),(.bool false),(.bool false),(.bool false),(.bool false),(.bool false)]):=fH (fB km.bW ⟨6,rfl,by omega,by omega,rfl⟩) (by rfl) rfl
theorem ahb{le:Nat}{z:Int}(mc:Mt [wy,vD,vC] B)(ha:bg (aW m8) [(.agg [(u8<|oa),(i6 na),(.U Na 0 La)])]=some (.bool<|decide<|xa=1))(hb:bg (aW m8) [(.agg [(u8<|ob),(i6 nb),(.U Nb 0 Lb)])]=some (.bool<|decide<|xb=1)):au pg B 270 (Fin pg (az Tryz.f64) fun y _=>y=(.bool<|decide<|0<=to/\to<8/\to=0/\xa=1/\xb=1/\ld=0/\le=0)) (sF 64 Tryz.f64 [(.agg [(u8<|.ofNat 6),(i6 to),(u8<|oa),(i6 na),(.U Na 0 La),(u8<|ob),(i6 nb),(.U Nb 0 Lb),(.U Nd 0 ld),(.U Ne 0 le)]),(i6 z)])<|ak ar 270:=by exact wS mc (.st 3<|.rg<|.go 2<|.kn (.agg [(.bool true),(.bool false),(.bool false),(.bool false),(.bool false),(.bool false)])<|.go 2<|.en<|.st 8<|.rg<|.go 2<|.fk (.go 16<|.en<|.rt 4 .no)<|.go 3<|.fk (.go 12<|.en<|.rt 4 .no)<|.go 8<|.fk (.go 3<|.en<|.rt 4 .no)<|.go 3<|.en<|.st 4<|.rg<|.go 5<|.il<|.st 8<|.rg<|.go 1<|.kp (xa=1) inferInstance (.go 1<|.en<|.rt 1<|.go 6<|.il<|.st 8<|.rg<|.go 1<|.kp (xb=1) inferInstance (.go 1<|.en<|.rt 1<|.go 8<|.fk (.go 9<|.fk (.go 3<|.en<|.rt 1 .no)<|.go 3<|.en<|.rt 1 .no)<|.go 13<|.en<|.rt 1 .no)<|.go 1<|.en<|.rt 1<|.go 22<|.en<|.rt 1 .no)<|.go 1<|.en<|.rt 1<|.go 29<|.en<|.rt 1 .no)<|ai (aei) QK
theorem aej:bg (aW km) [.int .u8 7]=some (.agg [(.bool true),(.bool false),(.bool false),(.bool false),(.bool true),(.bool true)]):=fH (fB km.bW ⟨7,rfl,by omega,by omega,rfl⟩) (by rfl) rfl
theorem ahc{le:Nat}{z:Int}(mc:Mt [wy,vD,vC] B)(ha:bg (aW m8) [(.agg [(u8<|oa),(i6 na),(.U Na 0 La)])]=some (.bool<|decide<|xa=1))(hb:bg (aW m8) [(.agg [(u8<|ob),(i6 nb),(.U Nb 0 Lb)])]=some (.bool<|decide<|xb=1)):au pg B 270 (Fin pg (az Tryz.f64) fun y _=>y=(.bool<|decide<|0<=to/\to<8/\to=0/\xa=1/\xb=1)) (sF 64 Tryz.f64 [(.agg [(u8<|.ofNat 7),(i6 to),(u8<|oa),(i6 na),(.U Na 0 La),(u8<|ob),(i6 nb),(.U Nb 0 Lb),(.U Nd 0 ld),(.U Ne 0 le)]),(i6 z)])<|ak ar 270:=by exact wS mc (.st 3<|.rg<|.go 2<|.kn (.agg [(.bool true),(.bool false),(.bool false),(.bool false),(.bool true),(.bool true)])<|.go 2<|.en<|.st 8<|.rg<|.go 2<|.fk (.go 16<|.en<|.rt 4 .no)<|.go 3<|.fk (.go 12<|.en<|.rt 4 .no)<|.go 8<|.fk (.go 3<|.en<|.rt 4 .no)<|.go 3<|.en<|.st 4<|.rg<|.go 5<|.il<|.st 8<|.rg<|.go 1<|.kp (xa=1) inferInstance (.go 1<|.en<|.rt 1<|.go 6<|.il<|.st 8<|.rg<|.go 1<|.kp (xb=1) inferInstance (.go 1<|.en<|.rt 1<|.go 22<|.en<|.rt 1 .no)<|.go 1<|.en<|.rt 1<|.go 22<|.en<|.rt 1 .no)<|.go 1<|.en<|.rt 1<|.go 29<|.en<|.rt 1 .no)<|ai (aej) X1
theorem aek:bg (aW km) [.int .u8 8]=some (.agg [(.bool true),(.bool false),(.bool true),(.bool false),(.bool false),(.bool false)]):=fH (fB km.bW ⟨8,rfl,by omega,by omega,rfl⟩) (by rfl) rfl
theorem ahd{le:Nat}{z:Int}(mc:Mt [wy,vD,vC] B)(ha:bg (aW oT) [(.agg [(u8<|oa),(i6 na),(.U Na 0 La)]),.int .i64 z]=some (.bool<|decide<|xa=1))(hb:bg (aW m8) [(.agg [(u8<|ob),(i6 nb),(.U Nb 0 Lb)])]=some (.bool<|decide<|xb=1)):au pg B 270 (Fin pg (az Tryz.f64) fun y _=>y=(.bool<|decide<|0<=to/\to<8/\to=0/\xa=1/\xb=1/\ld=0/\le=0)) (sF 64 Tryz.f64 [(.agg [(u8<|.ofNat 8),(i6 to),(u8<|oa),(i6 na),(.U Na 0 La),(u8<|ob),(i6 nb),(.U Nb 0 Lb),(.U Nd 0 ld),(.U Ne 0 le)]),(i6 z)])<|ak ar 270:=by exact wS mc (.st 3<|.rg<|.go 2<|.kn (.agg [(.bool true),(.bool false),(.bool true),(.bool false),(.bool false),(.bool false)])<|.go 2<|.en<|.st 8<|.rg<|.go 2<|.fk (.go 16<|.en<|.rt 4 .no)<|.go 3<|.fk (.go 12<|.en<|.rt 4 .no)<|.go 8<|.fk (.go 3<|.en<|.rt 4 .no)<|.go 3<|.en<|.st 4<|.rg<|.go 5<|.il<|.st 7<|.rg<|.go 2<|.kp (xa=1) inferInstance (.go 1<|.en<|.rt 1<|.go 6<|.il<|.st 8<|.rg<|.go 1<|.kp (xb=1) inferInstance (.go 1<|.en<|.rt 1<|.go 8<|.fk (.go 9<|.fk (.go 3<|.en<|.rt 1 .no)<|.go 3<|.en<|.rt 1 .no)<|.go 13<|.en<|.rt 1 .no)<|.go 1<|.en<|.rt 1<|.go 22<|.en<|.rt 1 .no)<|.go 1<|.en<|.rt 1<|.go 29<|.en<|.rt 1 .no)<|ai (aek) QK
end zO
end
section
open Go Go.Rn Go.RowKit Go.Proofs
namespace BB
open cv cG cR cW eV eH fy dt uA ER vT xK gZ nQ nE qx zO
variable {e:Ex}
def uf(asked:Bool)(e:Ex)(z:Int):Bool:=match asked with
 |true=>KT e z
 |false=>decide<|DV e
def Ag(l:List Bool)(to:Int)(a b:Ex)(body el:List St)(z:Int):Bool:=match l with
 |[is,t,fa,fb,bo,ot]=>is&&(decide (0<=to/\to<8)&&((t||decide (to=0))&&(uf fa a z&&(uf fb b z&&((bo||decide (body.length=0))&&(ot||decide (el.length=0)))))))
 |_=>false
def mG:St->Int->Bool
 | .mk kind to a b body el,z=>Ag (p0 kind) to a b body el z
def Ah(args:List AV)(v:AV):Prop:=∃(s:St) (z:Int),args=[.agg<|aP s,.int .i64 z]/\(0<=iQ s/\iQ s<256)/\v= .bool (mG s z)
theorem Ah.bW(args:List AV)(v v':AV)(h:Ah args v)(h':Ah args v'):v=v':=by obtain⟨e,z,rfl,_,rfl⟩:=h;obtain⟨e',z',h1,_,rfl⟩:=h';simp only[List.cons.injEq,AV.agg.injEq,AV.int.injEq,true_and,_root_.and_true] at h1;rw[MQ _ _ h1.1,h1.2]
noncomputable def lK:FuncId×KE:=(64,.val<|aW Ah)
theorem af3{z:Int}:bg (aW oT) [.agg<|aD e,.int .i64 z]=some (.bool<|decide<|bit (KT e z)=1):=by rw[xc];exact fH (fB oT.bW ⟨e,z,rfl,rfl⟩) rP rfl
theorem ael:bg (aW m8) [.agg<|aD e]=some (.bool<|decide<|bit (decide<|DV e)=1):=by rw[xc];exact fH (fB m8.bW ⟨e,rfl,rfl⟩) rP rfl
theorem af4{fa:Bool}{z:Int}:match fa with
 |true=>bg (aW oT) [.agg<|aD e,.int .i64 z]=some (.bool<|decide<|bit (uf fa e z)=1)
 |false=>bg (aW m8) [.agg<|aD e]=some (.bool<|decide<|bit (uf fa e z)=1):=by
 cases fa
 ·exact ael
 ·exact af3
theorem af5(hP:bE pg){L:bV}(h:aU L):aU<|lK::L:=by
 refine ij hP h (afP hP<|acG hP<|acD hP cJ) Tryz.func64 fun args v e=>?_;obtain⟨⟨kind,to,⟨oa,na,la⟩,⟨ob,nb,lb⟩,bd,el⟩,z,rfl,hk,rfl⟩:=gH e;have hk:0<=kind/\kind<256:=hk;refine⟨aM.1 aX,fun B mc=>?_⟩;rw[←gY];have fit:∀(fa:Bool) (op n:Int) (l:List Ex),match fa with
  |true=>bg (aW oT) [.agg [.int .u8 op,.int .i64 n,.U (nm<|cN l) 0 l.length],.int .i64 z]=some (.bool<|decide<|bit (uf fa (.mk op n l) z)=1)
  |false=>bg (aW m8) [.agg [.int .u8 op,.int .i64 n,.U (nm<|cN l) 0 l.length]]=some (.bool<|decide<|bit (uf fa (.mk op n l) z)=1):=fun fa op n l=>by
  have:=af4 (fa:=fa) (e:=.mk op n l) (z:=z);rw[aD] at this;exact this
 have bool:∀(t bo ot A B:Bool),(true&&(decide (0<=to/\to<8)&&((t||decide (to=0))&&(A&&(B&&((bo||decide (bd.length=0))&&(ot||decide (el.length=0))))))))=true↔(0<=to/\to<8)/\(t=true\/to=0)/\bit A=1/\bit B=1/\(bo=true\/bd.length=0)/\(ot=true\/el.length=0):=fun t bo ot A B=>by simp only[Bool.true_and,Bool.and_eq_true,Bool.or_eq_true,decide_eq_true_eq,Ej]
 rw[aP,aD,aD];by_cases hb:1<=kind/\kind<=8
 ·have hs:∀(t fa fb bo ot:Bool),p0 kind=[true,t,fa,fb,bo,ot]->∀(Q:Prop) [Decidable Q],(Q↔(0<=to/\to<8)/\(t=true\/to=0)/\bit (uf fa (.mk oa na la) z)=1/\bit (uf fb (.mk ob nb lb) z)=1/\(bo=true\/bd.length=0)/\(ot=true\/el.length=0))->
   mG (.mk kind to (.mk oa na la) (.mk ob nb lb) bd el) z=decide Q:=fun t fa fb bo ot e Q _ hq=>by
   show Ag (p0 kind) to _ _ bd el z=_;rw[e,Bool.eq_iff_iff,decide_eq_true_eq,hq];exact bool t bo ot _ _
  have done:∀(t fa fb bo ot:Bool),p0 kind=[true,t,fa,fb,bo,ot]->∀(Q:Prop) [Decidable Q] {l:List AV} {K:List ResultVar} {nt:Nat} {Yd:List Item},(Q↔(0<=to/\to<8)/\(t=true\/to=0)/\bit (uf fa (.mk oa na la) z)=1/\bit (uf fb (.mk ob nb lb) z)=1/\(bo=true\/bd.length=0)/\(ot=true\/el.length=0))->
   au pg B 270 (Fin pg K fun y _=>y= .bool (decide Q)) ⟨64,ep l,nt,Yd,[],none⟩ (ak ar 270)->au pg B 270 (Fin pg K fun y _=>y= .bool (mG (.mk kind to (.mk oa na la) (.mk ob nb lb) bd el) z)) ⟨64,ep l,nt,Yd,[],none⟩ (ak ar 270):=fun t fa fb bo ot e Q _ _ _ _ _ hq key=>by
   rw[hs t fa fb bo ot e Q hq];exact key
  obtain rfl|rfl|rfl|rfl|rfl|rfl|rfl|rfl:kind=1\/kind=2\/kind=3\/kind=4\/kind=5\/kind=6\/kind=7\/kind=8:=by omega
  ·have key:=ag6 (to:=to) (z:=z) (Nd:=nm<|bA bd) (Ne:=nm<|bA el) (ld:=bd.length) (le:=el.length) mc (fit true oa na la)<|fit false ob nb lb;exact done true true false false false rfl _ zK key
  ·have key:=ag7 (to:=to) (z:=z) (Nd:=nm<|bA bd) (Ne:=nm<|bA el) (ld:=bd.length) (le:=el.length) mc (fit true oa na la)<|fit false ob nb lb;exact done true true false false false rfl _ zK key
  ·have key:=ag8 (to:=to) (z:=z) (Nd:=nm<|bA bd) (Ne:=nm<|bA el) (ld:=bd.length) (le:=el.length) mc (fit true oa na la)<|fit true ob nb lb;exact done false true true false false rfl _ zK key
  ·have key:=ag9 (to:=to) (z:=z) (Nd:=nm<|bA bd) (Ne:=nm<|bA el) (ld:=bd.length) (le:=el.length) mc (fit true oa na la)<|fit false ob nb lb;exact done false true false true true rfl _ zK key
  ·have key:=aha (to:=to) (z:=z) (Nd:=nm<|bA bd) (Ne:=nm<|bA el) (ld:=bd.length) (le:=el.length) mc (fit true oa na la)<|fit false ob nb lb;exact done false true false true false rfl _ zK key
  ·have key:=ahb (to:=to) (z:=z) (Nd:=nm<|bA bd) (Ne:=nm<|bA el) (ld:=bd.length) (le:=el.length) mc (fit false oa na la)<|fit false ob nb lb;exact done false false false false false rfl _ zK key
  ·have key:=ahc (to:=to) (z:=z) (Nd:=nm<|bA bd) (Ne:=nm<|bA el) (ld:=bd.length) (le:=el.length) mc (fit false oa na la)<|fit false ob nb lb;exact done false false false true true rfl _ zK key
  ·have key:=ahd (to:=to) (z:=z) (Nd:=nm<|bA bd) (Ne:=nm<|bA el) (ld:=bd.length) (le:=el.length) mc (fit true oa na la)<|fit false ob nb lb;exact done false true false false false rfl _ zK key
 ·have e0:p0 kind=[false,false,false,false,false,false]:=by
   by_cases h9:9<=kind
   ·unfold p0;rw[List.getD_eq_getElem?_getD,List.getElem?_eq_none (show Lt.length<=kind.toNat by show 9<=kind.toNat;omega)];rfl
   ·obtain rfl:kind=0:=by omega
    rfl
  have ho:bg (aW km) [.int .u8 kind]=some (.agg [.bool false,.bool false,.bool false,.bool false,.bool false,.bool false]):=by have:=fH (fB km.bW ⟨kind,rfl,hk.1,hk.2,rfl⟩:aW km [.int .u8 kind]=_) rfl (by unfold wx;rw[e0];rfl);rw[this];unfold wx;rw[e0];rfl
  have key:=ag5 (to:=to) (z:=z) (xa:=0) (xb:=0) (Na:=nm<|cN la) (La:=la.length) (oa:=oa) (na:=na) (Nb:=nm<|cN lb) (Lb:=lb.length) (ob:=ob) (nb:=nb) (Nd:=nm<|bA bd) (Ne:=nm<|bA el) (ld:=bd.length) (le:=el.length) mc ho;rw[show mG (.mk kind to (.mk oa na la) (.mk ob nb lb) bd el) z=decide False from by show Ag (p0 kind) to _ _ bd el z=_;rw[e0];rfl];exact key
end BB
end
section
open Go Go.Rn Go.RowKit Go.Proofs
namespace qJ
open cv cG cR cW eH fy gZ dt uA nQ nE ue qx BB
variable {rd:mF} {k N L ld Ne Nd Nb Na Lb La:Nat} {c2 c1 to ob oa nb na kd:Int} {p:fx} {B:aL} {P:Prop} {v:AV}
noncomputable section
def Ai:Code:=a9 pg 37 [1,1,1,0,1,0,0]
def wA:Code:=a9 pg 37 [1,1,1,0,1,0,1]
def KM:Cb:=⟨37,42,[31],Ai,wA,3,4⟩
def Ye(v1 v2:AV)(c:List AV):AS:=⟨((sE KM v1 v2 c).h.put 275<|some<|.cells 10 (Tr.fill c 0 .nil) []).put 270<|some<|.loop .busy none 37 (aQ [(3,.ptr<|some (272,0)),(4,.ptr<|some (273,0))]) 42 [31] Ai wA 271,276,0,[],[]⟩
noncomputable abbrev jD(kd to oa na:Int)(Na La:Nat)(ob nb:Int)(Nb Lb Nd ld Ne le:Nat):List AV:=[(u8<|kd),(i6 to),(u8<|oa),(i6 na),(.U Na 0 La),(u8<|ob),(i6 nb),(.U Nb 0 Lb),(.U Nd 0 ld),(.U Ne 0 le)]
theorem abp{le:Nat}{n:Int}(hs:bg (aW Ah) [.agg<|jD kd to oa na Na La ob nb Nb Lb Nd ld Ne le,.int .i64 n]=some (.bool true)):bh pg (sp<|dj KM rd k::[lK,jC 60,jE 60,lD 60 60]) FU 6 (.round 270) [.agg<|jD kd to oa na Na La ob nb Nb Lb Nd ld Ne le] (sE KM (i6 n) (.bool false)<|jD kd to oa na Na La ob nb Nb Lb Nd ld Ne le)= .ok (.bool true) (sA KM none (.int .i64 n) (.bool false) (jD kd to oa na Na La ob nb Nb Lb Nd ld Ne le)<|some<|.cells 10 (Tr.fill (jD kd to oa na Na La ob nb Nb Lb Nd ld Ne le) 0 .nil) []):=Fe (st:=.ready) (bR:=none) (fn:=37) (nt:=42) (d:=271) (t:=(aQ [(3,.ptr<|some (272,0)),(4,.ptr<|some (273,0))])) (ps:=[31]) (a:=Ai) (b:=wA) (s0:=sE KM (i6 n) (.bool false)<|jD kd to oa na Na La ob nb Nb Lb Nd ld Ne le) cH rfl<|Chunk.ev 2 ⟨37,jy [31] [.agg<|jD kd to oa na Na La ob nb Nb Lb Nd ld Ne le]<|aQ [(3,.ptr<|some (272,0)),(4,.ptr<|some (273,0))],42,[.code Ai,.beginRound,.code wA],[],some 270⟩ ⟨37,((jy [31] [.agg<|jD kd to oa na Na La ob nb Nb Lb Nd ld Ne le]<|aQ [(3,.ptr<|some (272,0)),(4,.ptr<|some (273,0))]).put 7<|some<|.ptr<|some (275,0)),42,[.code wA],[],some 270⟩ _ (Ye (i6 n) (.bool false)<|jD kd to oa na Na La ob nb Nb Lb Nd ld Ne le) cH<|C1 (E:=ko<|dj KM rd k::[lK,jC 60,jE 60,lD 60 60]) (C:=(fun fr s1 _=>fr.round=none/\fr.defers=[]/\AY pg (bh pg (sp<|dj KM rd k::[lK,jC 60,jE 60,lD 60 60]) FU 5) 270 fr s1=some ((.bool true),(sA KM none (.int .i64 n) (.bool false) (jD kd to oa na Na La ob nb Nb Lb Nd ld Ne le)<|some<|.cells 10 (Tr.fill (jD kd to oa na Na La ob nb Nb Lb Nd ld Ne le) 0 .nil) [])))) fm rfl (fun fr s p h=>Fc h.1 h.2.1 h.2.2) 900 (.st 2<|.rg<|.go 2<|.kn (.bool true)<|.go 1<|.en<|.st 3<|.cut .no)<|ai hs<|Hz (.bool true)<|sA KM none (.int .i64 n) (.bool false) (jD kd to oa na Na La ob nb Nb Lb Nd ld Ne le)<|some<|.cells 10 (Tr.fill (jD kd to oa na Na La ob nb Nb Lb Nd ld Ne le) 0 .nil) []
theorem aaw{le:Nat}{n:Int}(hs:bg (aW Ah) [.agg<|jD kd to oa na Na La ob nb Nb Lb Nd ld Ne le,.int .i64 n]=some (.bool false)):bh pg (sp<|dj KM rd k::[lK,jC 60,jE 60,lD 60 60]) FU 6 (.round 270) [.agg<|jD kd to oa na Na La ob nb Nb Lb Nd ld Ne le] (sE KM (i6 n) (.bool false)<|jD kd to oa na Na La ob nb Nb Lb Nd ld Ne le)= .ok (.bool false) (sA KM (some .ret) (.int .i64 n) (.bool false) (jD kd to oa na Na La ob nb Nb Lb Nd ld Ne le)<|some<|.cells 10 (Tr.fill (jD kd to oa na Na La ob nb Nb Lb Nd ld Ne le) 0 .nil) []):=Fe (st:=.ready) (bR:=none) (fn:=37) (nt:=42) (d:=271) (t:=(aQ [(3,.ptr<|some (272,0)),(4,.ptr<|some (273,0))])) (ps:=[31]) (a:=Ai) (b:=wA) (s0:=sE KM (i6 n) (.bool false)<|jD kd to oa na Na La ob nb Nb Lb Nd ld Ne le) cH rfl<|Chunk.ev 2 ⟨37,jy [31] [.agg<|jD kd to oa na Na La ob nb Nb Lb Nd ld Ne le]<|aQ [(3,.ptr<|some (272,0)),(4,.ptr<|some (273,0))],42,[.code Ai,.beginRound,.code wA],[],some 270⟩ ⟨37,((jy [31] [.agg<|jD kd to oa na Na La ob nb Nb Lb Nd ld Ne le]<|aQ [(3,.ptr<|some (272,0)),(4,.ptr<|some (273,0))]).put 7<|some<|.ptr<|some (275,0)),42,[.code wA],[],some 270⟩ _ (Ye (i6 n) (.bool false)<|jD kd to oa na Na La ob nb Nb Lb Nd ld Ne le) cH<|C1 (E:=ko<|dj KM rd k::[lK,jC 60,jE 60,lD 60 60]) (C:=(fun fr s1 _=>fr.round=none/\fr.defers=[]/\AY pg (bh pg (sp<|dj KM rd k::[lK,jC 60,jE 60,lD 60 60]) FU 5) 270 fr s1=some ((.bool false),(sA KM (some .ret) (.int .i64 n) (.bool false) (jD kd to oa na Na La ob nb Nb Lb Nd ld Ne le)<|some<|.cells 10 (Tr.fill (jD kd to oa na Na La ob nb Nb Lb Nd ld Ne le) 0 .nil) [])))) fm rfl (fun fr s p h=>Fc h.1 h.2.1 h.2.2) 900 (.st 2<|.rg<|.go 2<|.kn (.bool false)<|.go 1<|.en<|.st 3<|.cut .no)<|ai hs<|Hz (.bool false)<|sA KM (some .ret) (.int .i64 n) (.bool false) (jD kd to oa na Na La ob nb Nb Lb Nd ld Ne le)<|some<|.cells 10 (Tr.fill (jD kd to oa na Na La ob nb Nb Lb Nd ld Ne le) 0 .nil) []
def wB(N L:Nat)(c1 c2:Int):List<|Nat×AV:=[(3,(.ptr<|some (270,0))),(4,(.ptr<|some (271,0))),(5,(i6 c1)),(6,(i6 c2)),(30,(.func (.func 80) [] [(.ptr<|some (272,0))]))]
def ss(v1 v2:AV)(N L:Nat):List<|Nat×Option ab:=ar++[(270,some<|eM v1),(271,some<|eM v2),(272,(some<|.cells 1 (Tr.fill [(.U N 0 L)] 0 .nil) []))]
def yA(v1 v2:AV)(N L:Nat)(c1 c2:Int):AS:=ak (ss v1 v2 N L++[(273,some .defs),(274,some<|.loop .ready none 37 (aQ<|wB N L c1 c2) 42 KM.ps Ai wA 273)]) 275
def su(p:fx)(N L:Nat):AS:=ak (ss p.v1 p.v2 N L++[(273,some .defs),(274,some<|Cb.loop KM p.bR 270 271 273)]) 275
def HA(p:fx)(N L:Nat):AS:=ak (ss p.v1 p.v2 N L++[(273,some .defs),(274,some<|.loop .exhausted p.bR KM.fn (aQ [(KM.s1,.ptr<|some (270,0)),(KM.s2,.ptr<|some (271,0))]) KM.nt KM.ps KM.a KM.b 273)]) 275
theorem ahe{L0:bV}{v1 v2:AV}{l:List St}(hN:N=nm (bA l))(hl:L=l.length)(o1:okB v1)(o2:okB v2)(h:fD rd k l v1 v2=some p)(o3:okB p.v1/\okB p.v2):
 bh pg (sp<|dj KM rd k::L0) FU 5 (.fn 81) [.U N 0 L,.yield 274] (yA v1 v2 N L c1 c2)= .ok (.bool p.ret) (su p N L):=by
 subst hN;subst hl;have ux:sp (dj KM rd k::L0) 81=some (qR KM (zw rd k) 270 eK dX):=by kernel_rfl
 have I:KP KM (yA v1 v2 (nm<|bA l) l.length c1 c2) 274 273 270 271 v1 v2:=by
  refine⟨rfl,(aM.1 aX:275<=top),⟨by show 274<275;omega,by show 273<275;omega,by show 270<275;omega,by show 271<275;omega⟩,⟨by omega,by omega,by omega,by omega,by omega,by omega⟩,⟨aQ<|wB (nm<|bA l) l.length c1 c2,?_,?_,?_⟩,?_,⟨eM v1,?_,wM _⟩,⟨eM v2,?_,wM _⟩⟩
  all_goals (as_aux_lemma=>kernel_rfl)
 have key:=N8 (P:=pg) (F:=FU) (n:=4) ux (tz l) cH I ((MX o1 o2).trans h) o1 o2 o3.1 o3.2;rw[show Lo KM (yA v1 v2 (nm<|bA l) l.length c1 c2) 274 273 270 271 p=su p (nm<|bA l) l.length from by as_aux_lemma=>kernel_rfl] at key;exact key
theorem ai8{v1 v2:AV}(hE:bh pg (sp<|dj KM rd k::[lK,jC 60,jE 60,lD 60 60]) FU 5 (.fn 81) [.U N 0 L,.yield 274] (yA v1 v2 N L c1 c2)= .ok (.bool p.ret) (su p N L)):pV (ko<|dj KM rd k::[lK,jC 60,jE 60,lD 60 60]) 5 (az Tryz.f80) (fun v s=>v= .tuple []/\s=(su p N L)) (sF 80 Tryz.f80 [.yield 274,.ptr<|some (272,0)])<|yA v1 v2 N L c1 c2:=by exact DO (C:=fun _ _ _=>False) fm rfl (fun _ _ _ h=>h.elim) 900 (.rg<|.go 2<|.cu (.bool p.ret) (su p N L)<|.en<|.rt 1 .no)<|ai hE (show(AV.tuple []=AV.tuple []/\(su p N L)=(su p N L)) from⟨rfl,rfl⟩)
theorem alM{v1 v2:AV}(hE:bh pg (sp<|dj KM rd k::[lK,jC 60,jE 60,lD 60 60]) FU 5 (.fn 81) [.U N 0 L,.yield 274] (yA v1 v2 N L c1 c2)= .ok (.bool p.ret) (su p N L)):bh pg (sp<|dj KM rd k::[lK,jC 60,jE 60,lD 60 60]) FU 6 (.fn 80) [.yield 274,.ptr<|some (272,0)] (yA v1 v2 N L c1 c2)= .ok (.tuple []) (su p N L):=by obtain⟨v,s2,h1,rfl,rfl⟩:=pV.call (E:=ko<|dj KM rd k::[lK,jC 60,jE 60,lD 60 60]) (n:=5) Tryz.func80 (CV Tryz.func80 cH)<|ai8 (v1:=v1) (v2:=v2) hE;exact h1
theorem ahf:a9 pg 37 [1,1,1,0,1,0]= .rangeFunc (.tmp 30) #[31] Ai wA:=by kernel_rfl
def HB:List Item:=[.inBlock 0,.code<|a9 pg 37 [1,1,1,1]]
def El(N L:Nat)(c1 c2:Int):AF:=⟨37,aQ<|wB N L c1 c2,42,.code (a9 pg 37 [1,1,1,0,1,0])::HB,[],none⟩
theorem ahg:lN 274 (su p N L)= .ok p.bR (HA p N L):=by
 obtain⟨r,v1,v2,bR⟩:=p;cases bR with
 |none=>as_aux_lemma=>kernel_rfl
 |some c=>as_aux_lemma=>kernel_rfl
theorem rgM{v1 v2:AV}(mc:Mt (dj KM rd k::[lK,jC 60,jE 60,lD 60 60]) B)(hE:bh pg (sp<|dj KM rd k::[lK,jC 60,jE 60,lD 60 60]) FU 5 (.fn 81) [.U N 0 L,.yield 274] (yA v1 v2 N L c1 c2)= .ok (.bool p.ret) (su p N L))(H:au pg B 270 (Fin pg (az Tryz.f37) fun y _=>y=v) ⟨37,aQ<|wB N L c1 c2,42,andThen p.bR HB,[273],none⟩<|HA p N L):au pg B 270 (Fin pg (az Tryz.f37) fun y _=>y=v) (El N L c1 c2)<|ak (ss v1 v2 N L) 273:=by unfold El;rw[ahf];exact au.chunk bY mc.2.2.1 mc.2.2.2 (II (gv:=.func (.func 80) [] [.ptr<|some (272,0)]) (s1:=ak (ss v1 v2 N L++[(273,some .defs)]) 274) (s2:=yA v1 v2 N L c1 c2) cH cH cH (alM (rd:=rd) (k:=k) hE) (show lN 274 (su p N L)= .ok p.bR (HA p N L) from ahg)) (by show 270<=273;omega) H
theorem ai9{n:Int}(N L:Nat)(c1 c2:Int)(h:P):((wB N L c1 c2).map (fun q=>some q.2)=(wB N L c1 c2).map (fun q=>some q.2))/\((ss (.int .i64 n) (.bool false) N L).map (fun q=>q.2)=(ss (.int .i64 n) (.bool false) N L).map (fun q=>q.2))/\((El N L c1 c2=El N L c1 c2/\ak (ss (.int .i64 n) (.bool false) N L) 273=ak (ss (.int .i64 n) (.bool false) N L) 273)/\P):=⟨rfl,rfl,⟨rfl,rfl⟩,h⟩
theorem goM{n dp cs:Int}(mc:Mt (dj KM rd k::[lK,jC 60,jE 60,lD 60 60]) B)(hn:top<=N)(hD:bg (aW<|tw 60) [(.U N 0 L)]=some (.int .i64 dp))(hC:bg (aW<|tS 60) [(.U N 0 L)]=some (.int .i64 cs))(hN:bg (aW<|BT 60 60) [(.U N 0 L)]=some (.tuple [.int .i64 c1,.int .i64 c2]))(hf:¬(0<=n/\n<6/\dp<=6/\cs<=2000)->AV.bool false=v)(H:(0<=n/\n<6/\dp<=6/\cs<=2000)->au pg B 270 (Fin pg (az Tryz.f37) fun y _=>y=v) (El N L c1 c2) (ak (ss (.int .i64 n) (.bool false) N L) 273)):au pg B 270 (Fin pg (az Tryz.f37) fun y _=>y=v) (sF 37 Tryz.f37 [(.U N 0 L),(i6 n)])<|ak ar 270:=by exact wC mc (C:=(fun fr s1 _=>(fr=El N L c1 c2/\s1=ak (ss (.int .i64 n) (.bool false) N L) 273)/\(0<=n/\n<6/\dp<=6/\cs<=2000))) (fun fr s1 p hC=>by obtain⟨⟨rfl,rfl⟩,hq⟩:=hC;exact H hq) (.st 4<|.rg<|.go 1<|.fk (.go 14<|.en<|.rt 4 .no)<|.go 2<|.fk (.go 11<|.en<|.rt 4 .no)<|.go 3<|.kn (i6 dp)<|.fk (.go 6<|.en<|.rt 4 .no)<|.go 3<|.kn (i6 cs)<|.fk (.go 1<|.en<|.rt 4 .no)<|.go 1<|.en<|.st 3<|.rg<|.go 1<|.kn (.tuple [(i6 c1),(i6 c2)])<|.go 5<|.en<|.st 2<|.rg<|.go 1<|.il<|.rt 5<|.en<|.st 1<|.ls (wB N L c1 c2) (ss (.int .i64 n) (.bool false) N L) 273 .no)<|ax (n<0) (fun _=>(show AV.bool false=v from hf ae)) fun _=>(ax (n>=6) (fun _=>(show AV.bool false=v from hf ae)) fun _=>(ai hD<|ax (dp>6) (fun _=>(show AV.bool false=v from hf ae)) fun _=>(ai hC<|ax (cs>2000) (fun _=>(show AV.bool false=v from hf ae)) fun _=>(ai hN<|ai9 (n:=n) N L c1 c2 (show(0<=n/\n<6/\dp<=6/\cs<=2000) from by omega)))))
theorem aja{n:Int}(mc:Mt (dj KM rd k::[lK,jC 60,jE 60,lD 60 60]) B):au pg B 270 (Fin pg (az Tryz.f37) fun y _=>y= .bool false) ⟨37,aQ<|wB N L c1 c2,42,andThen (some .ret) HB,[273],none⟩<|HA ⟨false,.int .i64 n,.bool false,some .ret⟩ N L:=(MY (l:=273) (k:=8) (fr:=⟨37,aQ<|wB N L c1 c2,42,.code .ret::HB,[],none⟩) bY mc.2.2.1 mc.2.2.2 rfl rfl cH).2.2 (by show 270<=275;omega)
theorem ajb [Decidable P](h:P):(none:Option Nat)=none/\([]:List Nat)=[]/\(some (.bool true):Option AV)=some (.bool<|decide P):=⟨rfl,rfl,by rw[decide_eq_true h]⟩
theorem Xb [Decidable P](h:¬P):(none:Option Nat)=none/\([]:List Nat)=[]/\(some (.bool false):Option AV)=some (.bool<|decide P):=⟨rfl,rfl,by rw[decide_eq_false h]⟩
theorem ajc{n:Int}(mc:Mt (dj KM rd k::[lK,jC 60,jE 60,lD 60 60]) B):au pg B 270 (Fin pg (az Tryz.f37) fun y _=>y= .bool (decide<|c1<=40/\c2<=300)) ⟨37,aQ<|wB N L c1 c2,42,andThen none HB,[273],none⟩<|HA ⟨true,.int .i64 n,.bool false,none⟩ N L:=by exact aea (E:=ko<|dj KM rd k::[lK,jC 60,jE 60,lD 60 60]) (C:=(fun fr s1 _=>fr.round=none/\fr.defers=[]/\Pq pg (bh pg (sp<|dj KM rd k::[lK,jC 60,jE 60,lD 60 60]) FU 6) (az Tryz.f37) 8 273 fr s1=some (.bool<|decide<|c1<=40/\c2<=300))) fm rfl bY mc.2.2.1 mc.2.2.2 (fun fr s p h=>MY bY mc.2.2.1 mc.2.2.2 h.1 h.2.1 h.2.2) (by show 270<=275;omega) 900 (.st 2<|.rg<|.go 1<|.fk (.go 2<|.fk (.go 2<|.en<|.cut .no)<|.go 2<|.en<|.cut .no)<|.go 5<|.en<|.cut .no)<|ax (c1<=40) (fun _=>(ax (c2<=300) (fun _=>(ajb (show(c1<=40/\c2<=300) from by omega))) fun _=>(Xb (show ¬(c1<=40/\c2<=300) from by omega)))) fun _=>(Xb (show ¬(c1<=40/\c2<=300) from by omega))
end
end qJ
end
section
open Go Go.Rn Go.RowKit Go.Proofs
namespace tT
open cv cG cR cW eH BS fy zN gZ Wo dt uA nQ nE ue qx BB qJ
noncomputable section
open Classical in
def gw:mF:=fun s v1 v2=>match v1,v2 with
 | .int .i64 n,.bool false=>if 0<=iQ s/\iQ s<256 then(match mG s n with
  |true=>some ⟨true,.int .i64 n,.bool false,none⟩
  |false=>some ⟨false,.int .i64 n,.bool false,some .ret⟩) else none
 |_,_=>none
abbrev pY(n:Int):fx:=⟨true,.int .i64 n,.bool false,none⟩
abbrev pN(n:Int):fx:=⟨false,.int .i64 n,.bool false,some .ret⟩
theorem Oc{s:St}{v1 v2:AV}{p:fx}(h:gw s v1 v2=some p):∃n,(v1= .int .i64 n/\v2= .bool false/\0<=iQ s/\iQ s<256)/\p=(if mG s n=true then pY n else pN n):=by
 unfold gw at h;split at h
 ·rename_i n;split at h
  ·rename_i q;refine⟨n,⟨rfl,rfl,q⟩,?_⟩;split at h<;>rename_i e<;>injection h with h<;>rw[e]
   ·rw[if_pos rfl];exact h.symm
   ·rw[if_neg (by intro q;cases q)];exact h.symm
  ·cases h
 ·cases h
theorem okF(b:Bool):okB<|.bool b:=⟨rfl,rfl⟩
theorem ahh{s:St}{n:Int}(h:0<=iQ s/\iQ s<256):bg (aW Ah) [.agg<|aP s,.int .i64 n]=some (.bool<|mG s n):=fH (fB Ah.bW ⟨s,n,rfl,h,rfl⟩) (by rw[List.all_cons,show AV.hi (.agg<|aP s)=true from List.all_eq_true.2 fun x hx=>CZ<|List.all_eq_true.1 (mC.ga s) x hx];rfl) rfl
theorem ajd(k:Nat):yx KM (dj KM gw k::[lK,jC 60,jE 60,lD 60 60]) gw:=by
 refine⟨aM.1 aX,aM.1 aX,(by show(3:Nat)≠4;omega),fun s v1 v2 p h _ _=>?_⟩;obtain⟨n,⟨rfl,rfl,hk⟩,rfl⟩:=Oc h;have hs:=ahh (n:=n) hk;cases e:mG s n with
 |true=>rw[e] at hs;rw[if_pos rfl];refine⟨⟨wz _,okF _,fun _=>rfl⟩,some<|.cells 10 (Tr.fill (aP s) 0 .nil) [],?_⟩;obtain⟨kk,to,⟨oa,xa,la⟩,⟨ob,xb,lb⟩,bd,el⟩:=s;rw[aP,aD,aD] at hs ⊢;exact abp hs
 |false=>rw[e] at hs;rw[if_neg (by intro q;cases q)];refine⟨⟨wz _,okF _,fun q=>by cases q⟩,some<|.cells 10 (Tr.fill (aP s) 0 .nil) [],?_⟩;obtain⟨kk,to,⟨oa,xa,la⟩,⟨ob,xb,lb⟩,bd,el⟩:=s;rw[aP,aD,aD] at hs ⊢;exact aaw hs
theorem UX{n:Int}{ek:List St->AV->AV->Option fx}(he:∀l p,ek l (.int .i64 n) (.bool false)=some p->p=pY n\/p=pN n):∀l p,kG ek gw l (.int .i64 n) (.bool false)=some p->p=pY n\/p=pN n
 |[],p,h=>by
  have h:some (pY n)=some p:=h;injection h with h
  exact .inl h.symm
 |s::r,p,h=>by
  unfold kG at h;split at h
  ·cases h
  rename_i q e;obtain⟨n',⟨eZ,_⟩,hq⟩:=Oc e;injection eZ with _ eZ
  subst eZ;cases hs:mG s n with
  |false=>rw[hs,if_neg (by intro q;cases q)] at hq;subst hq;injection h with h;exact .inr h.symm
  |true=>
   rw[hs,if_pos rfl] at hq;subst hq;have h:(match ek (cn s) (.int .i64 n) (.bool false) with
    |none=>none
    |some q=>match q.ret with
     |false=>some q
     |true=>match ek (cj s) q.v1 q.v2 with
      |none=>none
      |some u=>match u.ret with
       |false=>some u
       |true=>kG ek gw r u.v1 u.v2)=some p:=h
   split at h
   ·cases h
   rename_i q2 e2;rcases he _ _ e2 with rfl|rfl
   ·have h:(match ek (cj s) (.int .i64 n) (.bool false) with
     |none=>none
     |some u=>match u.ret with
      |false=>some u
      |true=>kG ek gw r u.v1 u.v2)=some p:=h
    split at h
    ·cases h
    rename_i q3 e3;rcases he _ _ e3 with rfl|rfl
    ·exact UX he r p h
    ·injection h with h;exact .inr h.symm
   ·injection h with h;exact .inr h.symm
theorem Ay{n:Int}:∀k l p,fD gw k l (.int .i64 n) (.bool false)=some p->p=pY n\/p=pN n
 |0,_,_,h=>by cases h
 |k+1,l,p,h=>by
  unfold fD at h;split at h
  ·exact UX (Ay k) l p h
  ·cases h
def zP(l:List St)(n:Int)(b:Bool):Prop:=∃(c1 c2:Int) (p:fx),fD (pa 60) 60 l (.int .i64 0) (.int .i64 0)=some ⟨true,.int .i64 c1,.int .i64 c2,none⟩/\fD gw 60 l (.int .i64 n) (.bool false)=some p/\b=(decide (0<=n/\n<6/\fp 60 l<=6/\rG 60 l<=2000)&&(p.ret&&decide (c1<=40/\c2<=300)))
def zx(args:List AV)(v:AV):Prop:=∃(l:List St) (n:Int) (b:Bool),args=[.U (nm<|bA l) 0 l.length,.int .i64 n]/\rF 60 l=true/\kR 60 l=true/\zP l n b/\v= .bool b
theorem zx.bW(args:List AV)(v v':AV)(h:zx args v)(h':zx args v'):v=v':=by
 obtain⟨l,n,b,rfl,_,_,⟨c1,c2,p,a1,a2,a3⟩,rfl⟩:=h;obtain⟨l',n',b',h1,_,_,⟨c1',c2',p',b1,b2,b3⟩,rfl⟩:=h';simp only[List.cons.injEq,AV.U.injEq,AV.int.injEq,true_and,_root_.and_true] at h1;have e:l=l':=sN _ _<|ti (lL _) (lL _) h1.1.1;obtain rfl:=e;obtain rfl:=h1.2;rw[a1] at b1;injection b1 with b1;injection b1 with _ q1 q2 _
 injection q1 with _ q1;injection q2 with _ q2
 rw[a2] at b2;injection b2 with b2
 rw[a3,b3,q1,q2,b2]
def Em:FuncId×KE:=(37,.val<|aW zx)
theorem aem(hP:bE pg){L:bV}(h:aU L):aU<|Em::L:=by
 have h0:aU [lK,jC 60,jE 60,lD 60 60]:=af5 hP<|Ti hP 60<|T6 hP 60<|aec hP 60 60 cJ;refine ij hP h (AM hP ajd h0 60 h0) Tryz.func37 fun args v e=>?_;obtain⟨l,n,b,rfl,hd,hc,⟨c1,c2,p,e1,e2,hb⟩,rfl⟩:=gH e;refine⟨aM.1 aX,fun B mc=>?_⟩;rw[←gY];have hi:[AV.U (nm<|bA l) 0 l.length].all AV.hi=true:=by rw[List.all_cons,tz];rfl
 have hD:=fH (fB tw.bW ⟨l,rfl,hd,by omega,rfl⟩:aW (tw 60) [.U (nm<|bA l) 0 l.length]=_) hi rfl;have hC:=fH (fB tS.bW ⟨l,rfl,hc,rfl⟩:aW (tS 60) [.U (nm<|bA l) 0 l.length]=_) hi rfl;have hN:=fH (fB BT.bW ⟨l,_,rfl,e1,rfl⟩:aW (BT 60 60) [.U (nm<|bA l) 0 l.length]=_) hi rfl;refine goM (rd:=gw) (k:=60) mc (cr _) hD hC hN (fun hq=>?_) fun hq=>?_
 ·rw[hb,decide_eq_false hq];rfl
 ·have ok:okB p.v1/\okB p.v2:=by rcases Ay 60 l p e2 with rfl|rfl<;>exact⟨wz _,okF _⟩
  refine rgM (rd:=gw) (k:=60) (p:=p) mc (ahe (c1:=c1) (c2:=c2) rfl rfl (wz _) (okF _) e2 ok) ?_;rw[hb,decide_eq_true hq];rcases Ay 60 l p e2 with rfl|rfl
  ·exact ajc mc
  ·exact aja mc
end
end tT
end
section
open Go Go.Rn Go.RowKit Go.Proofs
namespace fW
open cv
variable {α:Type} {bz j K:Nat} {enc:α->List AV} {cap:cC}
theorem Lw(enc:α->List AV)(l L:List α){pW n o len:Nat}{X:Prop}(hf:top<=n/\cT FU n o (len*K)=some (L.map enc).flatten/\len=L.length)(h1:∀x,(enc x).length=K/\(enc x).all AV.cf=true)(h2:2*(l.length+L.length)*pW+4096*pW<=room)(h3:(l.length+L.length)*K<=Rn.top)(x:X):
 l.length=l.length/\some (aN enc l)=some (aN enc l)/\top<=n/\cT FU n o (len*K)=some (L.map enc).flatten/\len=L.length/\(∀x,(enc x).length=K/\(enc x).all AV.cf=true)/\2*(l.length+L.length)*pW+4096*pW<=room/\(l.length+L.length)*K<=Rn.top/\X:=
 ⟨rfl,rfl,hf.1,hf.2.1,hf.2.2,h1,h2,h3,x⟩
def BU(bz k:Nat):Nat:=if k<270\/top<=k then k else max k bz
theorem IL{k:Nat}(h:top<=k):BU bz k=k:=if_pos<|.inr h
theorem OD(he:mw K enc)(l:List α){n:Nat}(hc:(match cap with| .known c=>Nat.ble l.length c| .aq _ _=>true| .lost=>false)=true)(hl:l.length*K<=top)(hj:j<top)(hn:n<top)(hs:bz<top):iV FU 270 bz [(j,.slice (some (n,0)) l.length cap)] [(n,some<|aN enc l)] [(j,aS enc l)] [] 270:=by
 refine⟨[(n,nm (l.map enc).flatten,(l.map enc).flatten)],BU bz,fun k hk=>if_pos<|.inl hk,fun k h1 h2=>?_,fun k hk=>IL hk,by unfold top;decide,fun p hp=>?_,fun p hp=>nO,fun p hp=>nO,fun p hp=>?_,fun p _ q hq=>(by cases hq)⟩
 ·unfold BU;rw[if_neg ae];omega
 ·rw[List.mem_singleton] at hp;subst hp;exact⟨hj,_,List.mem_singleton.2 rfl,N5 (List.mem_singleton.2 rfl) (fun k hk=>IL hk) hc⟩
 ·rw[List.mem_singleton] at hp;subst hp;exact N6 he hl n hn<|List.mem_singleton.2 rfl
theorem OE(hj:j<top)(hs:bz<top):iV FU 270 bz [(j,.slice none 0<|.known 0)] [] [(j,aS enc [])] [] 270:=by
 refine⟨[],BU bz,fun k hk=>if_pos<|.inl hk,fun k h1 h2=>?_,fun k hk=>IL hk,by unfold top;decide,fun p hp=>?_,fun p hp=>nO,fun p hp=>nO,fun p hp=>nO,fun p hp=>nO⟩
 ·unfold BU;rw[if_neg ae];omega
 ·rw[List.mem_singleton] at hp;subst hp;exact⟨hj,_,List.mem_singleton.2 rfl,adJ⟩
theorem T9{n:Nat}(hj:j<top)(hs:bz<top):iV FU 270 bz [(j,.slice (some (n,0)) 0 cap)] [] [(j,aS enc [])] [] 270:=by
 refine⟨[],BU bz,fun k hk=>if_pos<|.inl hk,fun k h1 h2=>?_,fun k hk=>IL hk,by unfold top;decide,fun p hp=>?_,fun p hp=>nO,fun p hp=>nO,fun p hp=>nO,fun p hp=>nO⟩
 ·unfold BU;rw[if_neg ae];omega
 ·rw[List.mem_singleton] at hp;subst hp;exact⟨hj,_,List.mem_singleton.2 rfl,aba⟩
end fW
end
section
open Go Go.Rn Go.RowKit Go.Proofs
namespace pL
open cv cG cR cW dt fW
variable {B:aL} {o N:Nat} {L:bV}
noncomputable section
theorem wD(v:AV):v=v:=rfl
theorem Tn(x:Ex):(aD x).all AV.cf=true:=by cases x;rw[aD];rfl
theorem ahi:(([(2,(.slice none 0<|.known 0))]:List<|Nat×AV).map (fun q=>some q.2)=([(2,(.slice none 0<|.known 0))]:List<|Nat×AV).map (fun q=>some q.2))/\(([]:List<|Nat×Option ab).map (fun q=>q.2)=([]:List<|Nat×Option ab).map (fun q=>q.2))/\iV FU 270 270 [(2,(.slice none 0<|.known 0))] [] [(2,aS bj ([]:List Int))] [] 270/\((⟨21,aQ [(2,aS bj ([]:List Int))],max Tryz.f21.ntmps 1,[.code<|a9 pg 21 [1,0,1,0,1],.code<|a9 pg 21 [1,1]],[],none⟩:AF)=⟨21,aQ [(2,aS bj ([]:List Int))],max Tryz.f21.ntmps 1,[.code<|a9 pg 21 [1,0,1,0,1],.code<|a9 pg 21 [1,1]],[],none⟩/\ak [] 270=ak [] 270):=⟨rfl,rfl,(OE (enc:=bj) (j:=2) (bz:=270) iy iy),rfl,rfl⟩
theorem ahj(mc:Mt [] B):au pg B 270 (Fin pg (az Tryz.f21) fun y _=>y=(aS bj ([]:List Int))) ⟨21,aQ [(2,aS bj ([]:List Int))],max Tryz.f21.ntmps 1,[.code<|a9 pg 21 [1,0,1,0,1],.code<|a9 pg 21 [1,1]],[],none⟩<|ak [] 270:=by exact wS mc (.rt 1 .no)<|wD<|aS bj ([]:List Int)
theorem ahk(mc:Mt [] B):au pg B 270 (Fin pg (az Tryz.f21) fun y _=>y=(aS bj ([]:List Int))) (sF 21 Tryz.f21 [(.U top 0 0)])<|ak ar 270:=by exact wC mc (C:=(fun fr s1 _=>fr=⟨21,aQ [(2,aS bj ([]:List Int))],max Tryz.f21.ntmps 1,[.code<|a9 pg 21 [1,0,1,0,1],.code<|a9 pg 21 [1,1]],[],none⟩/\s1=ak [] 270)) (fun fr s1 p hC=>by obtain⟨rfl,rfl⟩:=hC;exact ahj mc) (.st 8<|.rn [(2,(.slice none 0<|.known 0))] [] [(2,aS bj ([]:List Int))] [] 270 270 .no)<|ahi
theorem ahl:(([(2,(.slice (some (271,0)) (0)<|.aq 0 1))]:List<|Nat×AV).map (fun q=>some q.2)=([(2,(.slice (some (271,0)) (0)<|.aq 0 1))]:List<|Nat×AV).map (fun q=>some q.2))/\(([]:List<|Nat×Option ab).map (fun q=>q.2)=([]:List<|Nat×Option ab).map (fun q=>q.2))/\iV FU 270 272 [(2,(.slice (some (271,0)) (0)<|.aq 0 1))] [] [(2,aS bj ([]:List Int))] [] 270/\((⟨21,aQ [(2,aS bj ([]:List Int))],max Tryz.f21.ntmps 1,(dv 21 [1,1,1]),[],none⟩:AF)=⟨21,aQ [(2,aS bj ([]:List Int))],max Tryz.f21.ntmps 1,(dv 21 [1,1,1]),[],none⟩/\ak [] 270=ak [] 270):=⟨rfl,rfl,(T9 (enc:=bj) (j:=2) (bz:=272) iy iy),rfl,rfl⟩
theorem ahm(mc:Mt [] B):au pg B 270 (Fin pg (az Tryz.f21) fun y _=>y=(aS bj ([]:List Int))) ⟨21,aQ [(2,aS bj ([]:List Int))],max Tryz.f21.ntmps 1,(dv 21 [1,1,1]),[],none⟩<|ak [] 270:=by exact wS mc (.rt 1 .no)<|wD<|aS bj ([]:List Int)
theorem ahn(mc:Mt [] B):au pg B 270 (Fin pg (az Tryz.f21) fun y _=>y=(aS bj ([]:List Int))) (sF 21 Tryz.f21 [(.U (top+1) 0 0)])<|ak ar 270:=by exact wC mc (C:=(fun fr s1 _=>fr=⟨21,aQ [(2,aS bj ([]:List Int))],max Tryz.f21.ntmps 1,(dv 21 [1,1,1]),[],none⟩/\s1=ak [] 270)) (fun fr s1 p hC=>by obtain⟨rfl,rfl⟩:=hC;exact ahm mc) (.st 9<|.rn [(2,(.slice (some (271,0)) (0)<|.aq 0 1))] [] [(2,aS bj ([]:List Int))] [] 272 270 .no)<|ahl
noncomputable abbrev JF(l:List Int):List<|Nat×AV:=[(2,(.slice (some (271,0)) (([]++l).length)<|.aq ([]++l).length 1))]
theorem aho(l:List Int)(hlen:l.length<=100000):(((JF l):List<|Nat×AV).map (fun q=>some q.2)=((JF l):List<|Nat×AV).map (fun q=>some q.2))/\(([(271,some<|aN bj<|[]++l)]:List<|Nat×Option ab).map (fun q=>q.2)=([(271,some<|aN bj<|[]++l)]:List<|Nat×Option ab).map (fun q=>q.2))/\iV FU 270 272 (JF l) [(271,some<|aN bj<|[]++l)] [(2,aS bj<|[]++l)] [] 270/\((⟨21,aQ [(2,aS bj<|[]++l)],max Tryz.f21.ntmps 1,(dv 21 [1,1,1]),[],none⟩:AF)=⟨21,aQ [(2,aS bj<|[]++l)],max Tryz.f21.ntmps 1,(dv 21 [1,1,1]),[],none⟩/\ak [] 270=ak [] 270):=⟨rfl,rfl,(OD (j:=2) (bz:=272) eI ([]++l) rfl (by rw[List.nil_append];unfold top;omega) iy iy iy),rfl,rfl⟩
theorem ahp(mc:Mt [] B)(l:List Int):au pg B 270 (Fin pg (az Tryz.f21) fun y _=>y=(aS bj<|[]++l)) ⟨21,aQ [(2,aS bj<|[]++l)],max Tryz.f21.ntmps 1,(dv 21 [1,1,1]),[],none⟩<|ak [] 270:=by exact wS mc (.rt 1 .no)<|wD<|aS bj<|[]++l
theorem ahq(mc:Mt [] B){l:List Int}{m:Nat}(hlen:l.length<=100000)(hf:top<=N/\cT FU N o ((m+1)*1)=some (l.map bj).flatten/\m+1=l.length):au pg B 270 (Fin pg (az Tryz.f21) fun y _=>y=(aS bj<|[]++l)) (sF 21 Tryz.f21 [(.U N o<|m+1)])<|ak ar 270:=by exact wC mc (C:=(fun fr s1 _=>fr=⟨21,aQ [(2,aS bj<|[]++l)],max Tryz.f21.ntmps 1,(dv 21 [1,1,1]),[],none⟩/\s1=ak [] 270)) (fun fr s1 p hC=>by obtain⟨rfl,rfl⟩:=hC;exact ahp mc l) (.st 8<|.rg<|.go 2<|.al Int bj [] l<|.go 1<|.en<|.rn (JF l) [(271,some<|aN bj<|[]++l)] [(2,aS bj<|[]++l)] [] 272 270 .no)<|Lw bj [] l (K:=1) (pW:=8) hf (fun x=>⟨rfl,rfl⟩) PW PX<|aho l hlen
def Bn(args:List AV)(v:AV):Prop:=∃(N o:Nat) (l:List Int),args=[.U N o l.length]/\eh bj 1 (.U N o l.length) l/\l.length<=100000/\v=aS bj l
theorem Bn.bW(args:List AV)(v v':AV)(h:Bn args v)(h':Bn args v'):v=v':=by
 obtain⟨N,o,l,rfl,hl,_,rfl⟩:=h;obtain⟨N',o',l',h1,lZ,_,rfl⟩:=h';injection h1 with h1 _
 rw[h1] at hl;rw[hl.inj wX lZ]
def Db:FuncId×KE:=(21,.val<|aW Bn)
theorem aax(hP:bE pg)(h:aU L):aU<|Db::L:=by
 refine ij hP h cJ Tryz.func21 fun args v e=>?_;obtain⟨N,o,l,rfl,hl,hlen,rfl⟩:=gH e;refine⟨aM.1 aX,fun B mc=>?_⟩;rw[←gY];cases l with
 |nil=>
  refine au.I8 (i:=0) (n:=N) (o:=o) cH hl.len.2.1 (aM.1 aX) ?_ ?_
  ·exact ahk mc
  ·exact ahn mc
 |cons a l=>
  have hf:cT FU N o ((l.length+1)*1)=some ((a::l).map bj).flatten:=by
   rcases I4 eI.len hl with q|q
   ·exact q
   ·cases q
  have key:=ahq (l:=a::l) (N:=N) (o:=o) (m:=l.length) mc hlen ⟨hl.len.2.1,hf,rfl⟩;exact key
theorem ahr:(([(2,(.slice none 0<|.known 0))]:List<|Nat×AV).map (fun q=>some q.2)=([(2,(.slice none 0<|.known 0))]:List<|Nat×AV).map (fun q=>some q.2))/\(([]:List<|Nat×Option ab).map (fun q=>q.2)=([]:List<|Nat×Option ab).map (fun q=>q.2))/\iV FU 270 270 [(2,(.slice none 0<|.known 0))] [] [(2,aS aD ([]:List Ex))] [] 270/\((⟨87,aQ [(2,aS aD ([]:List Ex))],max Tryz.f87.ntmps 1,[.code<|a9 pg 87 [1,0,1,0,1],.code<|a9 pg 87 [1,1]],[],none⟩:AF)=⟨87,aQ [(2,aS aD ([]:List Ex))],max Tryz.f87.ntmps 1,[.code<|a9 pg 87 [1,0,1,0,1],.code<|a9 pg 87 [1,1]],[],none⟩/\ak [] 270=ak [] 270):=⟨rfl,rfl,(OE (enc:=aD) (j:=2) (bz:=270) iy iy),rfl,rfl⟩
theorem ahs(mc:Mt [] B):au pg B 270 (Fin pg (az Tryz.f87) fun y _=>y=(aS aD ([]:List Ex))) ⟨87,aQ [(2,aS aD ([]:List Ex))],max Tryz.f87.ntmps 1,[.code<|a9 pg 87 [1,0,1,0,1],.code<|a9 pg 87 [1,1]],[],none⟩<|ak [] 270:=by exact wS mc (.rt 1 .no)<|wD<|aS aD ([]:List Ex)
theorem aht(mc:Mt [] B):au pg B 270 (Fin pg (az Tryz.f87) fun y _=>y=(aS aD ([]:List Ex))) (sF 87 Tryz.f87 [(.U top 0 0)])<|ak ar 270:=by exact wC mc (C:=(fun fr s1 _=>fr=⟨87,aQ [(2,aS aD ([]:List Ex))],max Tryz.f87.ntmps 1,[.code<|a9 pg 87 [1,0,1,0,1],.code<|a9 pg 87 [1,1]],[],none⟩/\s1=ak [] 270)) (fun fr s1 p hC=>by obtain⟨rfl,rfl⟩:=hC;exact ahs mc) (.st 8<|.rn [(2,(.slice none 0<|.known 0))] [] [(2,aS aD ([]:List Ex))] [] 270 270 .no)<|ahr
theorem ahu:(([(2,(.slice (some (271,0)) (0)<|.aq 0 3))]:List<|Nat×AV).map (fun q=>some q.2)=([(2,(.slice (some (271,0)) (0)<|.aq 0 3))]:List<|Nat×AV).map (fun q=>some q.2))/\(([]:List<|Nat×Option ab).map (fun q=>q.2)=([]:List<|Nat×Option ab).map (fun q=>q.2))/\iV FU 270 272 [(2,(.slice (some (271,0)) (0)<|.aq 0 3))] [] [(2,aS aD ([]:List Ex))] [] 270/\((⟨87,aQ [(2,aS aD ([]:List Ex))],max Tryz.f87.ntmps 1,(dv 87 [1,1,1]),[],none⟩:AF)=⟨87,aQ [(2,aS aD ([]:List Ex))],max Tryz.f87.ntmps 1,(dv 87 [1,1,1]),[],none⟩/\ak [] 270=ak [] 270):=⟨rfl,rfl,(T9 (enc:=aD) (j:=2) (bz:=272) iy iy),rfl,rfl⟩
theorem ahv(mc:Mt [] B):au pg B 270 (Fin pg (az Tryz.f87) fun y _=>y=(aS aD ([]:List Ex))) ⟨87,aQ [(2,aS aD ([]:List Ex))],max Tryz.f87.ntmps 1,(dv 87 [1,1,1]),[],none⟩<|ak [] 270:=by exact wS mc (.rt 1 .no)<|wD<|aS aD ([]:List Ex)
theorem ahw(mc:Mt [] B):au pg B 270 (Fin pg (az Tryz.f87) fun y _=>y=(aS aD ([]:List Ex))) (sF 87 Tryz.f87 [(.U (top+1) 0 0)])<|ak ar 270:=by exact wC mc (C:=(fun fr s1 _=>fr=⟨87,aQ [(2,aS aD ([]:List Ex))],max Tryz.f87.ntmps 1,(dv 87 [1,1,1]),[],none⟩/\s1=ak [] 270)) (fun fr s1 p hC=>by obtain⟨rfl,rfl⟩:=hC;exact ahv mc) (.st 9<|.rn [(2,(.slice (some (271,0)) (0)<|.aq 0 3))] [] [(2,aS aD ([]:List Ex))] [] 272 270 .no)<|ahu
noncomputable abbrev JG(l:List Ex):List<|Nat×AV:=[(2,(.slice (some (271,0)) (([]++l).length)<|.aq ([]++l).length 3))]
theorem ahx(l:List Ex)(hlen:l.length<=100000):(((JG l):List<|Nat×AV).map (fun q=>some q.2)=((JG l):List<|Nat×AV).map (fun q=>some q.2))/\(([(271,some<|aN aD<|[]++l)]:List<|Nat×Option ab).map (fun q=>q.2)=([(271,some<|aN aD<|[]++l)]:List<|Nat×Option ab).map (fun q=>q.2))/\iV FU 270 272 (JG l) [(271,some<|aN aD<|[]++l)] [(2,aS aD<|[]++l)] [] 270/\((⟨87,aQ [(2,aS aD<|[]++l)],max Tryz.f87.ntmps 1,(dv 87 [1,1,1]),[],none⟩:AF)=⟨87,aQ [(2,aS aD<|[]++l)],max Tryz.f87.ntmps 1,(dv 87 [1,1,1]),[],none⟩/\ak [] 270=ak [] 270):=⟨rfl,rfl,(OD (j:=2) (bz:=272) kF ([]++l) rfl (by rw[List.nil_append];unfold top;omega) iy iy iy),rfl,rfl⟩
theorem ahy(mc:Mt [] B)(l:List Ex):au pg B 270 (Fin pg (az Tryz.f87) fun y _=>y=(aS aD<|[]++l)) ⟨87,aQ [(2,aS aD<|[]++l)],max Tryz.f87.ntmps 1,(dv 87 [1,1,1]),[],none⟩<|ak [] 270:=by exact wS mc (.rt 1 .no)<|wD<|aS aD<|[]++l
theorem ahz(mc:Mt [] B){l:List Ex}{m:Nat}(hlen:l.length<=100000)(hf:top<=N/\cT FU N o ((m+1)*3)=some (l.map aD).flatten/\m+1=l.length):au pg B 270 (Fin pg (az Tryz.f87) fun y _=>y=(aS aD<|[]++l)) (sF 87 Tryz.f87 [(.U N o<|m+1)])<|ak ar 270:=by exact wC mc (C:=(fun fr s1 _=>fr=⟨87,aQ [(2,aS aD<|[]++l)],max Tryz.f87.ntmps 1,(dv 87 [1,1,1]),[],none⟩/\s1=ak [] 270)) (fun fr s1 p hC=>by obtain⟨rfl,rfl⟩:=hC;exact ahy mc l) (.st 8<|.rg<|.go 2<|.al Ex aD [] l<|.go 1<|.en<|.rn (JG l) [(271,some<|aN aD<|[]++l)] [(2,aS aD<|[]++l)] [] 272 270 .no)<|Lw aD [] l (K:=3) (pW:=40) hf (fun x=>⟨kF.len x,Tn x⟩) PW PX<|ahx l hlen
def Bo(args:List AV)(v:AV):Prop:=∃(N o:Nat) (l:List Ex),args=[.U N o l.length]/\eh aD 3 (.U N o l.length) l/\l.length<=100000/\v=aS aD l
theorem Bo.bW(args:List AV)(v v':AV)(h:Bo args v)(h':Bo args v'):v=v':=by
 obtain⟨N,o,l,rfl,hl,_,rfl⟩:=h;obtain⟨N',o',l',h1,lZ,_,rfl⟩:=h';injection h1 with h1 _
 rw[h1] at hl;rw[hl.inj nw lZ]
def UY:FuncId×KE:=(87,.val<|aW Bo)
theorem aay(hP:bE pg)(h:aU L):aU<|UY::L:=by
 refine ij hP h cJ Tryz.func87 fun args v e=>?_;obtain⟨N,o,l,rfl,hl,hlen,rfl⟩:=gH e;refine⟨aM.1 aX,fun B mc=>?_⟩;rw[←gY];cases l with
 |nil=>
  refine au.I8 (i:=0) (n:=N) (o:=o) cH hl.len.2.1 (aM.1 aX) ?_ ?_
  ·exact aht mc
  ·exact ahw mc
 |cons a l=>
  have hf:cT FU N o ((l.length+1)*3)=some ((a::l).map aD).flatten:=by
   rcases I4 kF.len hl with q|q
   ·exact q
   ·cases q
  have key:=ahz (l:=a::l) (N:=N) (o:=o) (m:=l.length) mc hlen ⟨hl.len.2.1,hf,rfl⟩;exact key
end
end pL
end
section
open Go Go.Rn Go.RowKit Go.Proofs
namespace G1
open cv cG cR cW dt fW pL vT xK
variable {k N:Nat} {bT n1 n0:Int} {l1:List Ex} {B:aL}
theorem af6{α:Type}{K:Nat}{enc:α->List AV}(he:mw K enc)(l:List α){b n j bz:Nat}(pre post:List AV){cap:cC}(hl:l.length*K<=top)(hb:270<=b)(Cp:b+1<=n)(hj:j<top)(hn:n<top)(hs:bz<top)(e1:∀r:Nat->Nat,(∀k,top<=k->r k=k)->oO r pre pre)(e2:∀r:Nat->Nat,(∀k,top<=k->r k=k)->oO r post post)(h1:(pre++aS enc l::post).all AV.cf=true)(h2:(pre++aS enc l::post).length<=top)(hc:(match cap with| .known c=>Nat.ble l.length c| .aq _ _=>true| .lost=>false)=true):
 iV FU 270 bz [(j,.ptr<|some (b,0))] [(b,some<|.cells (pre++ .slice (some (n,0)) l.length cap::post).length (Tr.fill (pre++ .slice (some (n,0)) l.length cap::post) 0 .nil) []),(n,some<|aN enc l)] [(j,.ptr<|some (b,0))] [(b,some<|.cells (pre++aS enc l::post).length (Tr.fill (pre++aS enc l::post) 0 .nil) [])] (b+1):=by
 let r:Nat->Nat:=fun k=>if k<b+1\/top<=k then k else max k bz
 have rt:∀k,top<=k->r k=k:=fun k hk=>if_pos<|.inr hk;have rb:r b=b:=if_pos<|.inl ae;have app:∀(fz:ng) (p q p' q':List AV),mH fz r p p'->mH fz r q q'->mH fz r (p++q) (p'++q'):=by
  intro fz p;induction p with
  |nil=>intro q p' q' h1 h2;cases p' with
   |nil=>exact h2
   |cons _ _=>cases h1
  |cons a p ih=>intro q p' q' h1 h2;cases p' with
   |nil=>cases h1
   |cons a' p'=>exact⟨h1.1,ih q p' q' h1.2 h2⟩
 have Yf:∀(fz:ng) (p:List AV),oO r p p->mH fz r p p:=by
  intro fz p;induction p with
  |nil=>intro _;trivial
  |cons a p ih=>intro h;exact⟨h.1.z,ih h.2⟩
 refine⟨[(n,nm (l.map enc).flatten,(l.map enc).flatten)],r,fun k hk=>if_pos<|.inl ae,fun k h1 h2=>?_,rt,by omega,fun p hp=>?_,fun p hp=>?_,fun p hp q hq _ _ _=>?_,fun p hp=>?_,fun p hp q hq _=>?_⟩
 ·show bz<=(if _ then _ else _)/\(if _ then _ else _)<top;rw[if_neg ae];omega
 ·rw[List.mem_singleton] at hp;subst hp;exact⟨hj,_,List.mem_singleton.2 rfl,(bw.ptr rb).z⟩
 ·rw[List.mem_singleton] at hp;subst hp;refine⟨by show b<top;omega,fun y hy=>?_⟩;cases hy;refine⟨by rw[rb];omega,rfl,_,by rw[rb];exact List.mem_cons_self,⟨fun _=>rfl,(fun e=>by cases e),fun e=>by cases e⟩,?_⟩;refine iu.cells (by simp only[List.length_append,List.length_cons] at h2 ⊢;exact h2) (app _ _ _ _ _ (Yf _ _<|e1 r rt) ⟨N5 (List.mem_singleton.2 rfl) rt hc,Yf _ _<|e2 r rt⟩) h1
 ·rw[List.mem_singleton] at hp hq;subst hp;subst hq;rfl
 ·rw[List.mem_singleton] at hp;subst hp;exact N6 he hl n hn<|List.mem_cons_of_mem _ List.mem_cons_self
 ·rw[List.mem_singleton] at hp hq;subst hp;subst hq;show r b≠n;rw[rb];omega
def pb:Nat->Ex->Bool
 |0,_=>false
 |k+1,.mk op n args=>eN (k+1) (.mk op n args)||args.isEmpty
def rK(k:Nat)(args:List AV)(v:AV):Prop:=∃e:Ex,args=[.agg<|aD e]/\pb k e=true/\v= .agg (aD e)
theorem rK.bW(args:List AV)(v v':AV)(h:rK k args v)(h':rK k args v'):v=v':=by obtain⟨e,rfl,_,rfl⟩:=h;obtain⟨e',h1,_,rfl⟩:=h';injection h1 with h1 _
noncomputable def rL(k:Nat):FuncId×KE:=(66,.val<|aW<|rK k)
theorem ahA{op n:Int}(mc:Mt [UY,rL k] B)(nZ:bg (aW Bo) [.U N 0 0]=some (.U N 0 0)):au pg B 270 (Fin pg (az Tryz.f66) fun y _=>y=(.agg [(u8<|op),(i6 n),(.U N 0 0)])) (sF 66 Tryz.f66 [(.agg [(u8<|op),(i6 n),(.U N 0 0)])])<|ak ar 270:=by exact wS mc (.st 3<|.rg<|.go 2<|.kn (.U N 0 0)<|.go 2<|.en<|.rt 13 .no)<|ai nZ<|wD<|.agg [(u8<|op),(i6 n),(.U N 0 0)]
noncomputable abbrev Dn(op n bT n0:Int)(l0:List Ex)(cF n1:Int)(l1:List Ex):List<|Nat×Option ab:=[(271,some<|.cells 3 (Tr.fill [.int .u8 op,.int .i64 n,aS aD [Ex.mk bT n0 l0,Ex.mk cF n1 l1]] 0 .nil) [])]
noncomputable abbrev JH(op n bT n0:Int)(l0:List Ex)(cF n1:Int)(l1:List Ex):List<|Nat×Option ab:=[(271,some<|.cells 3 (Tr.fill [(u8<|op),(i6 n),(.slice (some (273,0)) (2)<|.aq 2 3)] 0 .nil) []),(273,some<|aN aD [Ex.mk bT n0 l0,Ex.mk cF n1 l1])]
theorem ahB{op n cF:Int}{l0:List Ex}:(([(2,(.ptr<|some (271,0)))]:List<|Nat×AV).map (fun q=>some q.2)=([(2,(.ptr<|some (271,0)))]:List<|Nat×AV).map (fun q=>some q.2))/\(((JH op n bT n0 l0 cF n1 l1):List<|Nat×Option ab).map (fun q=>q.2)=((JH op n bT n0 l0 cF n1 l1):List<|Nat×Option ab).map (fun q=>q.2))/\iV FU 270 276 [(2,(.ptr<|some (271,0)))] (JH op n bT n0 l0 cF n1 l1) [(2,(.ptr<|some (271,0)))] (Dn op n bT n0 l0 cF n1 l1) 272/\((⟨66,aQ [(2,(.ptr<|some (271,0)))],max Tryz.f66.ntmps 1,(dv 66 [1,1,1,1]),[],none⟩:AF)=⟨66,aQ [(2,(.ptr<|some (271,0)))],max Tryz.f66.ntmps 1,(dv 66 [1,1,1,1]),[],none⟩/\ak (Dn op n bT n0 l0 cF n1 l1) 272=ak (Dn op n bT n0 l0 cF n1 l1) 272):=⟨rfl,rfl,af6 kF (b:=271) (n:=273) (j:=2) (bz:=276) [Ex.mk bT n0 l0,Ex.mk cF n1 l1] [.int .u8 op,.int .i64 n] [] (by simp only[List.length_cons,List.length_nil];unfold top;omega) ae ae iy iy iy (fun r _=>⟨bw.int _ _,bw.int _ _,trivial⟩) (fun r _=>trivial) rfl (by show 3<=top;unfold top;omega) rfl,rfl,rfl⟩
theorem ahC(mc:Mt [rL k] B){op n cF:Int}{l0:List Ex}:au pg B 270 (Fin pg (az Tryz.f66) fun y _=>y=(.agg [.int .u8 op,.int .i64 n,aS aD [Ex.mk bT n0 l0,Ex.mk cF n1 l1]])) ⟨66,aQ [(2,(.ptr<|some (271,0)))],max Tryz.f66.ntmps 1,(dv 66 [1,1,1,1]),[],none⟩<|ak (Dn op n bT n0 l0 cF n1 l1) 272:=by exact wS mc (.rt 1 .no)<|wD<|.agg [.int .u8 op,.int .i64 n,aS aD [Ex.mk bT n0 l0,Ex.mk cF n1 l1]]
theorem ahD(mc:Mt [rL k] B){op n cF:Int}{l0:List Ex}(hn:top<=N)(hf:cT FU N 0 (2*3)=some ([Ex.mk bT n0 l0,Ex.mk cF n1 l1].map aD).flatten)(ju:bg (aW<|rK k) [(.agg [(u8<|bT),(i6 n0),(.U (nm<|cN l0) 0 l0.length)])]=some (.agg [(u8<|bT),(i6 n0),(.U (nm<|cN l0) 0 l0.length)]))(jJ:bg (aW<|rK k) [(.agg [(u8<|cF),(i6 n1),(.U (nm<|cN l1) 0 l1.length)])]=some (.agg [(u8<|cF),(i6 n1),(.U (nm<|cN l1) 0 l1.length)])):au pg B 270 (Fin pg (az Tryz.f66) fun y _=>y=(.agg [.int .u8 op,.int .i64 n,aS aD [Ex.mk bT n0 l0,Ex.mk cF n1 l1]])) (sF 66 Tryz.f66 [(.agg [(u8<|op),(i6 n),(.U N 0 2)])])<|ak ar 270:=by exact wC mc (C:=(fun fr s1 _=>fr=⟨66,aQ [(2,(.ptr<|some (271,0)))],max Tryz.f66.ntmps 1,(dv 66 [1,1,1,1]),[],none⟩/\s1=ak (Dn op n bT n0 l0 cF n1 l1) 272)) (fun fr s1 p hC=>by obtain⟨rfl,rfl⟩:=hC;exact ahC mc) (.st 3<|.rg<|.go 2<|.il<|.st 8<|.rg<|.go 2<|.al Ex aD [] [Ex.mk bT n0 l0,Ex.mk cF n1 l1]<|.go 1<|.en<|.rt 1<|.go 2<|.en<|.st 14<|.rg<|.go 4<|.kn (.agg [(u8<|bT),(i6 n0),(.U (nm<|cN l0) 0 l0.length)])<|.go 2<|.en<|.st 12<|.rg<|.go 4<|.kn (.agg [(u8<|cF),(i6 n1),(.U (nm<|cN l1) 0 l1.length)])<|.go 2<|.en<|.st 10<|.rn [(2,(.ptr<|some (271,0)))] (JH op n bT n0 l0 cF n1 l1) [(2,(.ptr<|some (271,0)))] (Dn op n bT n0 l0 cF n1 l1) 276 272 .no)<|Lw aD [] [Ex.mk bT n0 l0,Ex.mk cF n1 l1] (K:=3) (pW:=40) ⟨hn,hf,rfl⟩ (fun x=>⟨kF.len x,Tn x⟩) (by show 2*(0+2)*40+4096*40<=room;unfold room;omega) (by show(0+2)*3<=top;unfold top;omega)<|ai ju<|ai jJ<|ahB (op:=op) (n:=n) (bT:=bT) (n0:=n0) (cF:=cF) (n1:=n1) (l0:=l0) (l1:=l1)
end G1
end
section
open Go Go.Rn Go.RowKit Go.Proofs
namespace Km
open cv cG cR cW dt fW pL vT xK G1
variable {k:Nat} {e:Ex}
theorem OF(h:eN k e=true):pb k e=true:=by
 cases k with
 |zero=>cases h
 |succ k=>obtain⟨op,n,l⟩:=e;show(eN (k+1) (.mk op n l)||l.isEmpty)=true;rw[h];rfl
theorem aen{op n:Int}{l:List Ex}(h:pb (k+1) (.mk op n l)=true):l=[]\/∃a b,l=[a,b]/\eN k a=true/\eN k b=true:=by
 have h:(eN (k+1) (.mk op n l)||l.isEmpty)=true:=h;rw[Bool.or_eq_true] at h;rcases h with h|h
 ·exact Tj h
 ·exact .inl<|List.isEmpty_iff.1 h
theorem Dc(hw:pb k e=true):bg (aW<|rK k) [.agg<|aD e]=some (.agg<|aD e):=fH (fB rK.bW ⟨e,rfl,hw,rfl⟩) rP<|By e
theorem Od(l:List Ex):AV.U (nm<|cN l) 0 l.length=aS aD l:=by rw[CO];rfl
theorem abq{l:List Ex}(h:l.length<=100000):bg (aW Bo) [.U (nm<|cN l) 0 l.length]=some (aS aD l):=by rw[Od];exact fH (fB Bo.bW ⟨_,0,l,rfl,eh.aS kF l,h,rfl⟩) (by rw[List.all_cons,show AV.hi (aS aD l)=true from aM.2<|cr _];rfl)<|aM.2<|cr _
theorem NA(hP:bE pg):∀(k:Nat) {L:bV},aU L->aU (rL k::L)
 |0,L,h=>by refine ij hP h cJ Tryz.func66 fun args v e=>?_;obtain⟨_,_,hw,_⟩:=gH e;cases hw
 |k+1,L,h=>by
  refine acH hP hZ qk iS ig h Tryz.func66 (body:=a9 pg 66 []) aX aX fun args v e=>?_;obtain⟨⟨op,n,l⟩,rfl,hw,rfl⟩:=gH e;refine⟨aM.1 aX,?_⟩;rcases aen hw with rfl|⟨a,b,rfl,w0,w1⟩
  ·refine⟨_,aay hP<|NA hP k cJ,fun B mc=>?_⟩;rw[←gY,aD];exact ahA mc (by have:=abq (l:=[]) (by show(0:Nat)<=100000;omega);rw[←Od] at this;exact this)
  ·refine⟨_,NA hP k cJ,fun B mc=>?_⟩;obtain⟨bT,n0,l0⟩:=a;obtain⟨cF,n1,l1⟩:=b;rw[←gY,aD];have c0:=Dc<|OF w0;have c1:=Dc<|OF w1;rw[aD] at c0 c1;have hf:cT FU (nm<|cN [Ex.mk bT n0 l0,.mk cF n1 l1]) 0 (2*3)=some ([Ex.mk bT n0 l0,.mk cF n1 l1].map aD).flatten:=by
    rcases I4 (K:=3) kF.len (eh.aS kF [Ex.mk bT n0 l0,.mk cF n1 l1]) with q|q
    ·rw[CO];exact q
    ·cases q
   have key:=ahD (op:=op) (n:=n) mc (cr _) hf c0 c1;rw[←Od] at key;exact key
end Km
end
